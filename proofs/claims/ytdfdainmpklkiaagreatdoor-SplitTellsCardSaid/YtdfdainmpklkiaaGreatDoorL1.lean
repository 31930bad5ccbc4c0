/- Contracts of the library's functions, as the evaluator asks them, out of what is proved of them once. -/
import Derived.Test.YtdfdainmpklkiaaGreatDoorG26
import Derived.Shelf.Strconv.Itoa3
import Derived.Shelf.Strconv.AtoiAll
import Derived.Shelf.Strings.Search3
import Derived.Shelf.Strings.SplitShaped
import Derived.Shelf.SlicesE.Clone
import Derived.Shelf.Spec.SlicesGrow
import Derived.Lib.SmallJoins
set_option linter.unusedVariables false
set_option linter.unusedSimpArgs false
namespace Go.Pv
open Go.Proofs Go.Shelf Go.RowKit
/-! ### What they compute -/
def fieldsF (s : ByteArray) : Option (List ByteArray) := bif decide (s.size < 4294967281) && s.data.toList.all (fun b => decide (b.toNat < 128)) then some ((Lib.fields s.data.toList).map fun l => ⟨l.toArray⟩) else none
def digs : Nat → Nat → List UInt8 → List UInt8
  | 0, _, acc => acc
  | f + 1, u, acc => bif decide (u < 10) then UInt8.ofNat (48 + u) :: acc else digs f (u / 10) (UInt8.ofNat (48 + u % 10) :: acc)
def itoaF (n : Int) : Option ByteArray := bif decide (-9223372036854775808 ≤ n) && decide (n ≤ 9223372036854775807) then some ⟨(bif decide (n < 0) then 45 :: digs 20 n.natAbs [] else digs 20 n.toNat []).toArray⟩ else none
def atoiF (s : ByteArray) : Option (Int × Bool × Unit) := bif decide (s.size ≤ 9223372036854775806) then (match Lib.atoiAll s.data.toList with | .ok v => some (v, false, ()) | _ => none) else none
def indexF (s t : ByteArray) : Option Int := match t.data.toList with | [c] => some (Lib.indexByte s.data.toList c) | _ => none
def cloneF (k : Kd) (xs : List k.den) : Option (List k.den) := bif decide (xs.length < lim k) then some xs else none
def cloneHF (k : Kd) (i o : Nat) (h : Hp) : Option (List k.den × Hp) := (hown k h i o).bind fun xs => bif decide (xs.length < lim k) then some (xs, h) else none
def growF (k : Kd) (n : Int) : Option (List k.den) := bif decide (0 ≤ n) && decide (n < (lim k : Int)) then some [] else none
theorem digs_eq : ∀ (f u : Nat) (acc : List UInt8), u < 10 ^ (f + 1) → digs (f + 1) u acc = Lib.decDigits u ++ acc
  | 0, u, acc, h => by
    have h : u < 10 := by simpa using h
    rw [Lib.decDigits, dif_pos h, digs, decide_eq_true h]; rfl
  | f + 1, u, acc, h => by
    rw [Lib.decDigits, digs]
    by_cases hu : u < 10
    · rw [dif_pos hu, decide_eq_true hu]; rfl
    · rw [dif_neg hu, decide_eq_false hu]
      show digs (f + 1) (u / 10) _ = _
      rw [digs_eq f (u / 10) _ (by rw [Nat.pow_succ] at h; omega), List.append_assoc]; rfl
theorem itoaF_eq {n : Int} {s : ByteArray} (h : itoaF n = some s) : -9223372036854775808 ≤ n ∧ n ≤ 9223372036854775807 ∧ s = ⟨(Lib.itoa n).toArray⟩ := by
  unfold itoaF at h
  cases hc : (decide (-9223372036854775808 ≤ n) && decide (n ≤ 9223372036854775807)) with
  | false => rw [hc] at h; cases h
  | true =>
    rw [hc] at h
    simp only [Bool.and_eq_true, decide_eq_true_eq] at hc
    refine ⟨hc.1, hc.2, ?_⟩
    simp only [cond_true, Option.some.injEq] at h
    rw [← h, Lib.itoa, digs_eq 19 _ _ (by omega), digs_eq 19 _ _ (by omega), List.append_nil, List.append_nil]
    by_cases hn : n < 0
    · rw [decide_eq_true hn, if_pos hn]; rfl
    · rw [decide_eq_false hn, if_neg hn]; rfl
section
variable {P : Program} {L : World → Prop} {f : FuncId} {ρ : Ren}
/-- A contract, out of what each call does. -/
theorem callOK_of {ks : List Kd} {R : Type} {F : denL ks → Option R} {enc : R → PV} (hfn : fnOK P f)
    (h : ∀ x r, F x = some r → ∀ (G : Com) (w : World) (vs : Array Value), L w → (∀ g o, G g o → g < w.heap.size) → ArgsR G w (encL ks x) vs.toList →
      Calls P f vs w fun e w' => ∃ v, e = .returned v ∧ Below w.heap.size w w' ∧ Res G w.heap.size w' (enc r) v) : CallOK P L f (Spec.of ks F enc).go := by
  intro ρ args K r hr0
  simp only [Spec.of] at hr0
  obtain ⟨x, hx, hr1⟩ := Option.bind_eq_some_iff.1 hr0
  obtain ⟨y, hy, hr⟩ := Option.bind_eq_some_iff.1 hr1
  clear hr0 hr1
  obtain rfl := decL_eq hx
  refine ⟨hfn, fun G w vs hL hG ha => (h x y hy G w vs hL hG ha).mono fun e w' he => ?_⟩
  obtain ⟨v, rfl, hb, hres⟩ := he
  exact ⟨enc y, G, hr, Com.le.refl _, rfl, fun g o hg => .inl hg, hb, hres⟩
theorem args1 {G : Com} {w : World} {p : PV} {vs : List Value} (h : CRs G w [p] vs) : ∃ v, vs = [v] ∧ CR G w p v := by
  cases vs with
  | nil => simp [CRs] at h
  | cons v us => cases us with
    | nil => rw [CRs] at h; exact ⟨v, rfl, h.1⟩
    | cons u us => simp [CRs] at h
theorem args2 {G : Com} {w : World} {p q : PV} {vs : List Value} (h : CRs G w [p, q] vs) : ∃ v u, vs = [v, u] ∧ CR G w p v ∧ CR G w q u := by
  cases vs with
  | nil => simp [CRs] at h
  | cons v us =>
    rw [CRs] at h
    obtain ⟨u, rfl, hu⟩ := args1 h.2
    exact ⟨v, u, rfl, h.1, hu⟩
theorem arr1 {vs : Array Value} {v : Value} (h : vs.toList = [v]) : vs = #[v] := by rw [← Array.toArray_toList (xs := vs), h]
theorem arr2 {vs : Array Value} {v u : Value} (h : vs.toList = [v, u]) : vs = #[v, u] := by rw [← Array.toArray_toList (xs := vs), h]
theorem below_grow (w : World) (k : Nat) (os : Array Obj) : Below w.heap.size w (Sort.grow (w.drewN k) os) :=
  ⟨rfl, rfl, rfl, by simp [Sort.grow, World.drewN], fun i hi => by simp [Sort.grow, World.drewN, Array.getElem?_append, hi]⟩
/-- A table's condition stays. -/
theorem stays_tab {n : String} {k : IntKind} {zs : List Int} (hg : (P.globalNamed n).isSome = true) : Stays fun w => Lib.TabIs P w n k zs := by
  obtain ⟨g, hg⟩ := Option.isSome_iff_exists.1 hg
  intro w0 h0 w w' h hb
  simp only [Lib.TabIs, World.var?, hg, Option.bind_some] at h0 h ⊢
  have hlt : g < w0.heap.size := Nat.lt_of_not_le fun hle => by rw [Array.getElem?_eq_none hle] at h0; cases h0
  rw [hb.block g hlt]
  exact h
theorem itoa_ok (A : LaysM.n171 P ρ) (hf : ρ.f 171 = f) (hfn : fnOK P f) (htab : ∀ w, L w → Lib.TabIs P w "internal/strconv.uint64pow10" .u64 Lib.pow10Tab) :
    CallOK P L f (Spec.of [(.int .i64)] (fun x => itoaF x.1) (ofDen .str)).go :=
  callOK_of hfn fun x r hr G w vs hL hG ha => by
    obtain ⟨v, hv, h1⟩ := args1 ha
    obtain rfl := arr1 hv
    obtain ⟨h2, h3, rfl⟩ := itoaF_eq hr
    rw [show ofDen (.int .i64) x.1 = .i .i64 x.1 from rfl, CR] at h1
    subst h1
    subst hf
    refine (Any.strconv_Itoa A x.1 h2 h3 w (htab w hL)).mono fun e w' he => ?_
    obtain ⟨rfl, k, os, rfl⟩ := he
    exact ⟨_, rfl, below_grow w k os, by show CR G (Sort.grow (w.drewN k) os) (.s _) _; rw [CR]⟩
theorem atoi_ok (A : LaysC.n172 P ρ) (hf : ρ.f 172 = f) (hfn : fnOK P f) :
    CallOK P L f (Spec.of [.str] (fun x => atoiF x.1) (fun x => .tup (tupL (.pair (.int .i64) (.pair .err .unit)) x))).go :=
  callOK_of hfn fun x r hr G w vs hL hG ha => by
    obtain ⟨v, hv, h1⟩ := args1 ha
    obtain rfl := arr1 hv
    rw [show ofDen .str x.1 = .s x.1 from rfl, CR] at h1
    subst h1
    subst hf
    have hr : atoiF x.1 = some r := hr
    unfold atoiF at hr
    by_cases hs : x.1.size ≤ 9223372036854775806
    · rw [decide_eq_true hs, cond_true] at hr
      split at hr
      · rename_i z hz
        simp only [Option.some.injEq] at hr
        subst hr
        refine (Any.strconv_Atoi_ok A x.1 hs z hz w).mono fun e w' he => ?_
        obtain ⟨rfl, hw⟩ := he
        refine ⟨_, rfl, ?_, ?_⟩
        · rcases hw with rfl | ⟨t, rfl⟩
          · exact Below.refl _ _
          · exact Lib.bytesWorld_below _ _ _
        · refine ⟨#[.int .i64 z, .nilIface], rfl, fun j q hq => ?_⟩
          match j, hq with
          | 0, hq => cases hq; exact ⟨_, rfl, _, rfl, rfl⟩
          | 1, hq => cases hq; exact ⟨_, rfl, _, .inl ⟨rfl, rfl⟩, rfl⟩
      · cases hr
    · rw [decide_eq_false hs] at hr; cases hr
theorem index_ok (A : Lays.n143 P ρ) (hf : ρ.f 143 = f) (hfn : fnOK P f) : CallOK P L f (Spec.of [.str, .str] (fun x => indexF x.1 x.2.1) (ofDen (.int .i64))).go :=
  callOK_of hfn fun x r hr G w vs hL hG ha => by
    obtain ⟨v, u, hv, h1, h2⟩ := args2 ha
    obtain rfl := arr2 hv
    rw [show ofDen .str x.1 = .s x.1 from rfl, CR] at h1
    rw [show ofDen .str x.2.1 = .s x.2.1 from rfl, CR] at h2
    subst h1; subst h2
    subst hf
    have hr : indexF x.1 x.2.1 = some r := hr
    unfold indexF at hr
    split at hr
    · rename_i c hc
      simp only [Option.some.injEq] at hr
      subst hr
      have : x.2.1 = ⟨#[c]⟩ := by
        have h3 : x.2.1.data = #[c] := by rw [← Array.toArray_toList (xs := x.2.1.data), hc]
        cases hx : x.2.1; rw [hx] at h3; exact congrArg _ h3
      rw [this]
      refine (Any.strings_Index_one A x.1 c w).mono fun e w' he => ?_
      obtain ⟨rfl, hw⟩ := he
      rw [hw]
      exact ⟨_, rfl, Below.refl _ _, by show CR G w (.i _ _) _; rw [CR]⟩
    · cases hr
theorem elems_str {G : Com} {w : World} : ∀ (xs : List (List UInt8)), Elems G w .str (xs.map fun l => (⟨l.toArray⟩ : ByteArray)) (xs.map fun l => [Value.string ⟨l.toArray⟩])
  | [] => trivial
  | _ :: xs => ⟨rfl, elems_str xs⟩
theorem flat_one {α β : Type} (g : α → β) : ∀ (xs : List α), (xs.map fun x => [g x]).flatten = xs.map g
  | [] => rfl
  | _ :: xs => by rw [List.map_cons, List.flatten_cons, flat_one g xs]; rfl
theorem cntF_le : ∀ (ws : Bool) (l : List UInt8), Lib.cntF ws l ≤ l.length
  | _, [] => Nat.le_refl _
  | ws, b :: l => by
    have := cntF_le (Lib.isSp b) l
    rw [Lib.cntF, List.length_cons]
    split <;> omega
theorem fields_le (l : List UInt8) : (Lib.fields l).length ≤ l.length := by rw [Lib.fields_length]; exact cntF_le _ _
theorem fields_ok (A : LaysM.n157 P ρ) (hf : ρ.f 157 = f) (hfn : fnOK P f) (htab : ∀ w, L w → Lib.TabIs P w "strings.asciiSpace" .u8 Lib.asciiSpaceTab) : CallOK P L f (Spec.of [.str] (fun x => fieldsF x.1) (fun x => .o true .str x)).go :=
  callOK_of hfn fun x r hr G w vs hL hG ha => by
    obtain ⟨v, hv, h1⟩ := args1 ha
    obtain rfl := arr1 hv
    rw [show ofDen .str x.1 = .s x.1 from rfl, CR] at h1
    subst h1
    subst hf
    have hr : fieldsF x.1 = some r := hr
    unfold fieldsF at hr
    cases hc : (decide (x.1.size < 4294967281) && x.1.data.toList.all (fun b => decide (b.toNat < 128))) with
    | false => rw [hc] at hr; cases hr
    | true =>
      rw [hc] at hr
      simp only [Bool.and_eq_true, decide_eq_true_eq, List.all_eq_true] at hc
      simp only [cond_true, Option.some.injEq] at hr
      subst hr
      refine (Any.strings_Fields_laid A x.1 w hc.1 (fun j b hb => hc.2 b (List.mem_of_getElem? hb)) (htab w hL)).mono fun e w' he => ?_
      obtain ⟨rfl, hw⟩ := he
      rw [hw]
      refine ⟨_, rfl, (Below.refl _ w).alloc (Nat.le_refl _) _, ρ.t 9, _, elems_str _, ?_, fun g hg o => ?_⟩
      · rw [List.length_map, flat_one]
        have := World.ownsRow_lit (e := ρ.t 9) (size := Kd.str.size) (base := w.heap.size) w ((Lib.fields x.1.data.toList).map fun l => Value.string ⟨l.toArray⟩).toArray (Lib.fields x.1.data.toList).length (Nat.le_refl _) (by have := fields_le x.1.data.toList; have h2 : x.1.data.toList.length = x.1.size := rfl; simp only [maxLen]; omega) (by show _ = _ * 1; simp)
        simpa using this
      · simp only [Value.ownBlock, Option.some.injEq] at hg
        subst hg
        exact ⟨fun hh => absurd (hG _ _ hh) (by omega), fun hh => by cases hh.1⟩
theorem bytes_pos {k : Kd} {n : Nat} (h : n < lim k) : n * k.bytes ≤ 140737488355328 := by
  unfold lim at h
  have h1 : n * max 1 k.bytes ≤ 140737488355328 := by
    have := Nat.mul_le_mul_right (max 1 k.bytes) (Nat.le_of_lt h)
    exact Nat.le_trans this (Nat.div_mul_le_self _ _)
  exact Nat.le_trans (Nat.mul_le_mul_left n (Nat.le_max_right 1 k.bytes)) h1
theorem lim_big (k : Kd) : lim k ≤ 140737488355328 := Nat.div_le_self _ _
/-- slices.Clone of a slice that has nothing. -/
theorem clone_zero (A : SlLaysE0.n41 P ρ) {k : Kd} (hk : 0 < k.size) (hfit : Fits P k (ρ.t 23)) (ad : Addr) (c : Nat) (w : World) :
    Calls P (ρ.f 41) #[.slice (some ad) 0 c] w fun e w' => ∃ v', e = .returned v' ∧ w'.ownsRow w.heap.size (ρ.t 23) k.size v' 0 [] ∧ Below w.heap.size w w' := by
  obtain ⟨i, h1, h2, h3, h4⟩ := hfit.info
  have hz : (valOf k (zcells k)).cells.size = k.size := by
    obtain ⟨cs, z1, _, z2⟩ := RepV.cells (G := ⟨fun _ _ => False, fun _ => 0, 0, fun _ => default, 0⟩) (w := w) ⟨_, Rep.dflt k, rfl⟩
    rw [z2, List.size_toArray, z1.len]
  have z23 : ∀ w, (Go.sizeOf (ρ.t 23)).run P w = .ok k.size w := fun w => by rw [← h2]; simp [Go.sizeOf, typeInfo, h1]
  have t22 := A.t22; have a22 := A.a22; have z22 := A.z22; have v22 := A.v22; have mixed := A.mixed; have t4 := A.t4; have a4 := A.a4; have z4 := A.z4; have v4 := A.v4
  have q22 : ∀ (w : World) (a : Option Addr) (n c n' c' : Nat), (binOp .eql (ρ.t 22) (.slice a n c) (.slice none n' c')).run P w = .ok (.bool a.isNone) w := fun w a n c n' c' => Lib.run_eql_slice_nil w _ _ a n c n' c' t22
  have u22 : ∀ w, Sem.run P (underlying (ρ.t 22)) w = .ok (TypeDesc.slice (ρ.t 23)) w := run_underlying t22
  obtain ⟨_, _, FG⟩ := A.f41
  go_enter FG, SlBodyN.n41_ntmps ρ
  go_wp2_with (at_builtin; refine wpList_append_own _ rfl _ _ (ρ.t 22) rfl w.heap.size (ρ.t 23) i _ k.size i.bytes t22 h1 h4 h2 rfl hz hk _ _ _ rfl (World.ownsRow_made w #[] 0 (Nat.le_refl _) (Nat.zero_le _) (by simp)) ad 0 c [] rfl ?c1 ?c2 ?c3 ?c4 ?c5 ?c6 ?_)
  case c1 => simp
  case c2 => intro j u hj; simp at hj
  case c3 => intro u hu; cases hu
  case c4 => simp
  case c5 => simp
  case c6 => simp
  intro v' w1 hown hgrow hnil
  go_wp2
  go_ret
  exact ⟨v', rfl, by simpa using hown, ((Below.refl _ w).alloc (Nat.le_refl _) _).grown hgrow (by simp) (by intro k hk; simp [Value.ownBlock] at hk; omega)⟩
theorem clone_any (A : SlLaysE0.n41 P ρ) {k : Kd} (hk : 0 < k.size) (hfit : Fits P k (ρ.t 23)) {G : Com} {w : World} {xs : List k.den} {css : List (List Value)} {ad : Option Addr} {c : Nat} (hx : Elems G w k xs css) (hn : ad = none → xs = [])
    (hs : xs ≠ [] → ∃ g o, ad = some ⟨g, o, none⟩) (hc : ∀ a, ad = some a → ∀ (j : Nat) (v : Value), css.flatten[j]? = some v → w.cell? (a.add j) = some v) (hl : xs.length < lim k) :
    Calls P (ρ.f 41) #[.slice ad xs.length c] w fun e w' => ∃ v', e = .returned v' ∧ w'.ownsRow w.heap.size (ρ.t 23) k.size v' xs.length css.flatten ∧ Below w.heap.size w w' := by
  have hfl := hx.flat
  match ad, hn, hs, hc with
  | none, hn, _, _ =>
    have hxs := hn rfl
    subst hxs
    have : css = [] := by cases css with | nil => rfl | cons _ _ => exact hx.elim
    subst this
    refine (AnyE.slices_Clone_nil A _ c w).mono fun e w' he => ?_
    obtain ⟨rfl, hw⟩ := he
    rw [hw]
    exact ⟨_, rfl, World.ownsRow_nil _ _ _ _, Below.refl _ _⟩
  | some ad, _, hs, hc =>
    by_cases hne : xs = []
    · subst hne
      have : css = [] := by cases css with | nil => rfl | cons _ _ => exact hx.elim
      subst this
      exact clone_zero A hk hfit ad c w
    · obtain ⟨g, o, had⟩ := hs hne
      injection had with had
      subst had
      obtain ⟨i, h1, h2, h3, h4⟩ := hfit.info
      have hz : (valOf k (zcells k)).cells.size = k.size := by
        obtain ⟨cs, z1, _, z2⟩ := RepV.cells (G := G) (w := w) ⟨_, Rep.dflt k, rfl⟩
        rw [z2, List.size_toArray, z1.len]
      refine (AnyE.slices_Clone A i _ k.size i.bytes h1 h4 h2 rfl hz hk (fun w => by rw [← h2]; simp [Go.sizeOf, typeInfo, h1]) g o xs.length c css.flatten w hfl (by have := lim_big k; simp only [maxLen]; omega)
        (Nat.le_trans (Nat.mul_le_mul_left _ h3) (bytes_pos hl)) (fun j u hj => by have := hc _ rfl j u hj; rwa [Addr.add_lit] at this) hx.one).mono fun e w' he => ?_
      obtain ⟨v', rfl, h5, _, h6⟩ := he
      exact ⟨v', rfl, h5, h6⟩
theorem clone_ok (A : SlLaysE0.n41 P ρ) (hf : ρ.f 41 = f) (hfn : fnOK P f) {k : Kd} (hk : 0 < k.size) (hfit : Fits P k (ρ.t 23)) : CallOK P L f (Spec.of [.list k] (fun x => cloneF k x.1) (fun x => .o true k x)).go :=
  callOK_of hfn fun x r hr G w vs hL hG ha => by
    obtain ⟨v, hv, h1⟩ := args1 ha
    obtain rfl := arr1 hv
    rw [show ofDen (.list k) x.1 = .l k x.1 from rfl, CR] at h1
    subst hf
    have hr : cloneF k x.1 = some r := hr
    unfold cloneF at hr
    by_cases hl : x.1.length < lim k
    · rw [decide_eq_true hl, cond_true, Option.some.injEq] at hr
      subst hr
      obtain ⟨cs, ⟨ad, c, rfl, hcap, hxs⟩, hv⟩ := h1
      have hv : v = .slice ad x.1.length c := hv
      subst hv
      have key : ∃ css, Elems G w k x.1 css ∧ ∀ a, ad = some a → ∀ (j : Nat) (v : Value), css.flatten[j]? = some v → w.cell? (a.add j) = some v := by
        by_cases hne : x.1 = []
        · rw [hne]; exact ⟨[], trivial, fun _ _ j v h => by simp at h⟩
        · obtain ⟨g, o, rfl, hi⟩ := hxs hne
          obtain ⟨css, e1, e2⟩ := elems_of_holds hi
          exact ⟨css, e1, fun a ha j v hj => by injection ha with ha; subst ha; rw [Addr.add_lit]; exact e2 j v hj⟩
      obtain ⟨css, e1, e2⟩ := key
      refine (clone_any A hk hfit e1 (fun hn => Classical.byContradiction fun hne => by obtain ⟨g, o, h2, _⟩ := hxs hne; rw [hn] at h2; cases h2) (fun hne => by obtain ⟨g, o, h2, _⟩ := hxs hne; exact ⟨g, o, h2⟩) e2 hl).mono fun e w' he => ?_
      obtain ⟨v', rfl, h5, h6⟩ := he
      have hlt : ∀ g, v'.ownBlock = some g → w.heap.size ≤ g := fun g hg => (h5.lt g hg).1
      exact ⟨v', rfl, h6, _, css, e1.mono (Com.le.refl _) (keeps_of_blocks fun g o hg => h6.block g (hG g o hg)), h5, fun g hg o => ⟨fun hh => absurd (hG _ _ hh) (by have := hlt g hg; omega), fun hh => by cases hh.1⟩⟩
    · rw [decide_eq_false hl] at hr; cases hr
/-- slices.Clone of a slice that the heap has. -/
theorem cloneH_ok (A : SlLaysE0.n41 P ρ) (hf : ρ.f 41 = f) (hfn : fnOK P f) {k : Kd} (hk : 0 < k.size) (hfit : Fits P k (ρ.t 23)) : CallH P L f (hSpec [.hr k] (An.o true k) (fun x h => cloneHF k x.1.1 x.1.2 h)) := by
  intro σ args h K r hr0
  simp only [hSpec] at hr0
  obtain ⟨x, hx, hr1⟩ := Option.bind_eq_some_iff.1 hr0
  obtain ⟨y, hy, hr⟩ := Option.bind_eq_some_iff.1 hr1
  clear hr0 hr1
  obtain rfl := fdecL_eq hx
  subst hf
  unfold cloneHF at hy
  obtain ⟨xs, hxs, hy⟩ := Option.bind_eq_some_iff.1 hy
  by_cases hl : xs.length < lim k
  · rw [decide_eq_true hl, cond_true, Option.some.injEq] at hy
    subst hy
    refine ⟨hfn, fun M w vs hB ha => ?_⟩
    have hat : (hEnv h).at_ (.b (.h x.1.1) x.1.2) = .o true k xs := by
      unfold hown at hxs
      split at hxs
      · rename_i k' xs' heq
        split at hxs
        · rename_i e
          subst e
          simp only [Option.some.injEq] at hxs
          subst hxs
          exact heq
        · cases hxs
      · cases hxs
    obtain ⟨v, hv, hva⟩ : ∃ v, vs.toList = [v] ∧ ArgH M h w (.r (.b (.h x.1.1) x.1.2)) v := by
      have ha : ArgsH M h w [.r (.b (.h x.1.1) x.1.2)] vs.toList := ha
      generalize vs.toList = l at ha
      cases l with
      | nil => exact ha.elim
      | cons v us => cases us with
        | nil => exact ⟨v, rfl, ha.1⟩
        | cons u us => exact ha.2.elim
    obtain rfl := arr1 hv
    have hvp := hva.2.2 (by rw [hat]; rfl)
    have hs := hB.hs
    have hp := hs.pr (.b (.h x.1.1) x.1.2)
    rw [hat] at hp
    obtain ⟨u, css, h1, h2, h3⟩ := hp
    rw [← hvp] at h2 h3
    obtain ⟨ad, c, hsl, hn, hsome, hcells⟩ : ∃ ad c, v = .slice ad xs.length c ∧ (ad = none → xs = []) ∧ (xs ≠ [] → ∃ g o, ad = some ⟨g, o, none⟩) ∧ ∀ a, ad = some a → ∀ (j : Nat) (v : Value), css.flatten[j]? = some v → w.cell? (a.add j) = some v := by
      have h2' := h2
      rcases h2.2 with ⟨q1, q2⟩ | ⟨g, cap, cur, q1, _⟩
      · have := List.eq_nil_of_length_eq_zero q2
        exact ⟨none, 0, by rw [q1, q2], fun _ => this, fun hne => absurd this hne, fun a hh => by cases hh⟩
      · exact ⟨_, cap, q1, fun hh => (by cases hh), fun _ => ⟨g, 0, rfl⟩, fun a hh j v hj => by injection hh with hh; subst hh; exact h2'.cells (g := g) (by rw [q1]; rfl) j v hj⟩
    subst hsl
    refine (clone_any A hk hfit h1 hn hsome hcells hl).mono fun e w' he => ?_
    obtain ⟨v', rfl, h5, d3⟩ := he
    have hext : Ext w w' := Below.ext d3
    have hkp : Keeps M.G w w' := keeps_of_blocks fun g o hg => hext g (hs.cb g o hg)
    have hko : KO w w' := KO.of_blocks hext
    have hlt : ∀ g, Live M (hEnv h) act0 w g → g < w.heap.size := fun g hl => Nat.lt_of_not_le fun hle => hs.fresh hle hl
    have hst := hs.grow (w' := w') (G' := M.G) d3.size (Com.le.refl _) rfl (fun g o hg => .inl hg) hkp hko (fun g hl => ⟨hext g (hlt g hl), fun o => Iff.rfl⟩) (fun g hl o hg => hg)
    have hfresh : ∀ g, v'.ownBlock = some g → w.heap.size ≤ g := fun g hg => (h5.lt g hg).1
    have hfree : Free { M with G := M.G } (hEnv h) act0 w' v' := fun g hg hl => by
      have := live_grow hs (fun g hl => hext g (hlt g hl)) hl
      exact absurd (hlt g this) (by have := hfresh g hg; omega)
    have hM2 := Mem.Alike.ren { M with G := M.G } v' (.inl (.t 0))
    have hst2 := hst.ren hfree (hst.row_noloop h5) (.inl (.t 0))
    have hnG : ∀ g, v'.ownBlock = some g → ∀ o, ¬ M.G g o := fun g hg o hh => absurd (hs.cb g o hh) (by have := hfresh g hg; omega)
    refine ⟨.o true k xs, h, _, hr, ⟨hM2.1, by rw [hM2.2.1]; exact Com.le.refl _⟩, hst2, Bel.of_below (Nat.le_of_eq hB.base) d3, .t 0, ?_, ?_⟩
    · refine ⟨ρ.t 23, css, by rw [hM2.2.1]; exact h1.mono (Com.le.refl _) hkp, ?_, fun g hg => ⟨⟨?_, (Mem.mine_key hM2.1 g).2 (.inr (by show M.base ≤ g; rw [hB.base]; exact hfresh g hg))⟩, fun o => by rw [hM2.2.1]; exact ⟨fun hh => absurd hh (hnG g hg o), fun hh => by cases hh.1⟩⟩⟩
      · refine ⟨h5.1, h5.2.imp id ?_⟩
        rintro ⟨g, cap, cur, q1, q2, q3⟩
        exact ⟨g, cap, cur, q1, Nat.zero_le _, q3⟩
      · unfold Mem.ren; rw [hg]; simp [Mem.own]
    · intro g hg hl
      refine hfree g hg ?_
      rcases hl with ⟨n, z1, z2⟩ | ⟨d, z1, z2⟩
      · refine .inl ⟨n, z1, ?_⟩
        cases n with
        | t n => exact z2
        | b d o' => rw [show pv { M with G := M.G } act0 w' (.b d o') = pv (({ M with G := M.G } : Mem).ren v' (.inl (.t 0))) act0 w' (.b d o') by show (w'.cell? ⟨M.β d, o', none⟩).getD undef = (w'.cell? ⟨(({ M with G := M.G } : Mem).ren v' (.inl (.t 0))).β d, o', none⟩).getD undef; rw [hM2.2.2.1]]; exact z2
      · exact .inr ⟨d, z1, by rw [← z2, hM2.2.2.1]⟩
  · rw [decide_eq_false hl] at hy; cases hy
/-- slices.Grow of nil: room, and nothing in it. -/
def growSpec (k : Kd) (F : Int → Option (List k.den)) : Spec := ⟨fun a K => match a with
  | [.nil, .i .i64 n] => (F n).bind fun x => K (.o true k x)
  | _ => none⟩
theorem grow_ok (A : Lays8.n4 P ρ) (hf : ρ.f 4 = f) (hfn : fnOK P f) {k : Kd} (hk : 0 < k.size) (hfit : Fits P k (ρ.t 25)) : CallOK P L f (growSpec k (growF k)).go := by
  intro σ args K r hr0
  simp only [growSpec] at hr0
  split at hr0
  · rename_i n
    obtain ⟨x, hx, hr⟩ := Option.bind_eq_some_iff.1 hr0
    clear hr0
    subst hf
    unfold growF at hx
    cases hc : (decide (0 ≤ n) && decide (n < (lim k : Int))) with
    | false => rw [hc] at hx; cases hx
    | true =>
      rw [hc] at hx
      simp only [Bool.and_eq_true, decide_eq_true_eq] at hc
      simp only [cond_true, Option.some.injEq] at hx
      subst hx
      refine ⟨hfn, fun G w vs hL hG ha => ?_⟩
      obtain ⟨v, u, hv, h1, h2⟩ := args2 ha
      obtain rfl := arr2 hv
      have h1 : v = .slice none 0 0 := by simpa [CR] using h1
      have h2 : u = .int .i64 n := by simpa [CR] using h2
      subst h1; subst h2
      obtain ⟨m, rfl⟩ := Int.eq_ofNat_of_zero_le hc.1
      have hm : m < lim k := by have := hc.2; omega
      have hlb := lim_big k
      by_cases h0 : m = 0
      · subst h0
        refine (Any8.slices_Grow_room A none 0 0 0 w (Nat.le_refl _) (by omega) (by omega) (by omega)).mono fun e w' he => ?_
        obtain ⟨rfl, hw⟩ := he
        rw [hw]
        exact ⟨_, G, hr, Com.le.refl _, rfl, fun g o hg => .inl hg, Below.refl _ _, ρ.t 25, [], trivial, World.ownsRow_nil _ _ _ _, fun g hg => by cases hg⟩
      · obtain ⟨i, i1, i2, i3, i4⟩ := hfit.info
        refine (Any8.slices_Grow_grow A i _ i1 i4 (by omega) none 0 0 m [] w (Nat.le_refl _) (by omega) (by rw [Nat.zero_add]; exact Nat.le_trans (Nat.mul_le_mul_left _ i3) (bytes_pos hm)) (by omega) (by simp) (fun _ => rfl) (fun a hh => by cases hh)).mono fun e w' he => ?_
        obtain ⟨rfl, hw⟩ := he
        rw [hw]
        have hz : (valOf k (zcells k)).cells.size = k.size := by
          obtain ⟨cs, z1, _, z2⟩ := RepV.cells (G := G) (w := w) ⟨_, Rep.dflt k, rfl⟩
          rw [z2, List.size_toArray, z1.len]
        have hcap := grownCap_ge w (0 + m) 0 (ρ.t 25)
        have hcm : grownCap w (0 + m) 0 (ρ.t 25) ≤ maxLen := grownCap_le_maxLen w (0 + m) 0 (ρ.t 25) (by simp only [maxLen]; omega)
        refine ⟨_, G, hr, Com.le.refl _, rfl, fun g o hg => .inl hg, (Below.refl _ w).drew.alloc (Nat.le_refl _) _, ρ.t 25, [], trivial, ⟨by simp, .inr ⟨w.heap.size, _, _, rfl, Nat.le_refl _, heap_alloc_new w.drew _, Nat.zero_le _, hcm, ?_, by simp⟩⟩, fun g hg o => ?_⟩
        · simp only [Array.size_append, List.size_toArray, List.length_nil, size_zeroCells, hz]
          rw [Nat.zero_add, ← Nat.add_mul]
          congr 1
          omega
        · simp only [Value.ownBlock, Option.some.injEq] at hg
          subst hg
          exact ⟨fun hh => absurd (hG _ _ hh) (by omega), fun hh => by cases hh.1⟩
  · cases hr0
theorem none_spec {ks : List Kd} {R : Type} {enc : R → PV} : CallOK P L f (Spec.of ks (fun _ => none) enc).go := by
  intro ρ args K r hr
  simp only [Spec.of] at hr
  obtain ⟨x, hx, hr⟩ := Option.bind_eq_some_iff.1 hr
  cases hr
end
end Go.Pv
