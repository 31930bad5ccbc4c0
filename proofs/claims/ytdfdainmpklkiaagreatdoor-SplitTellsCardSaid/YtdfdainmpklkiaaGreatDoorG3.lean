/- What an evaluator's state says of the machine's, and what keeps it so. -/
import Derived.Test.YtdfdainmpklkiaaGreatDoorG2
import Derived.Laws.OwnMore
import Derived.Laws.NewBlocks
import Derived.Below
set_option linter.unusedVariables false
set_option linter.unusedSimpArgs false
namespace Go.Pv
open Go.RowKit

/-! ### Elements in a row -/
def Elems (G : Com) (w : World) (k : Kd) : List k.den → List (List Value) → Prop
  | [], [] => True
  | x :: xs, c :: cs => Rep G w k x c ∧ Elems G w k xs cs
  | _, _ => False
theorem Elems.len {G : Com} {w : World} {k : Kd} : ∀ {xs : List k.den} {cs : List (List Value)}, Elems G w k xs cs → cs.length = xs.length
  | [], [], _ => rfl
  | _ :: xs, _ :: cs, h => by rw [List.length_cons, List.length_cons, Elems.len h.2]
theorem Elems.mono {G G' : Com} {w w' : World} (hG : G.le G') (hw : Keeps G w w') {k : Kd} : ∀ {xs : List k.den} {cs : List (List Value)}, Elems G w k xs cs → Elems G' w' k xs cs
  | [], [], _ => trivial
  | _ :: _, _ :: _, h => ⟨h.1.mono hG hw, Elems.mono hG hw h.2⟩
theorem Elems.append {G : Com} {w : World} {k : Kd} : ∀ {xs ys : List k.den} {cs ds : List (List Value)}, Elems G w k xs cs → Elems G w k ys ds → Elems G w k (xs ++ ys) (cs ++ ds)
  | [], _, [], _, _, h => h
  | _ :: _, _, _ :: _, _, h, h' => ⟨h.1, Elems.append h.2 h'⟩
theorem Elems.flat {G : Com} {w : World} {k : Kd} : ∀ {xs : List k.den} {cs : List (List Value)}, Elems G w k xs cs → cs.flatten.length = xs.length * k.size
  | [], [], _ => by simp
  | x :: xs, c :: cs, h => by
    rw [List.flatten_cons, List.length_append, h.1.len, Elems.flat h.2, List.length_cons, Nat.succ_mul, Nat.add_comm]
/-- The element at an index, and where its cells are. -/
theorem Elems.get {G : Com} {w : World} {k : Kd} : ∀ {xs : List k.den} {cs : List (List Value)}, Elems G w k xs cs → ∀ i (h : i < xs.length),
    ∃ c, Rep G w k xs[i] c ∧ ∀ j (_ : j < c.length), cs.flatten[i * k.size + j]? = c[j]?
  | x :: xs, c :: cs, h, 0, _ => ⟨c, h.1, fun j hj => by simp [List.getElem?_append_left hj]⟩
  | x :: xs, c :: cs, h, i + 1, hi => by
    obtain ⟨d, hd, hj⟩ := Elems.get h.2 i (by simpa using hi)
    refine ⟨d, by simpa using hd, fun j hj' => ?_⟩
    rw [← hj j hj', List.flatten_cons, List.getElem?_append_right (by rw [h.1.len, Nat.succ_mul]; omega)]
    congr 1
    rw [h.1.len, Nat.succ_mul]; omega

/-! ### The machine's state, told by the evaluator's -/
/-- Where the call's own memory begins; what was no more written then, and what is; where boxes are; whose a block is; which blocks were the heap's; the marks of loops over functions. -/
structure Mem where
  base : Nat
  G0 : Com
  G : Com
  β : Bx → Nat
  ow : Nat → Option (Pl ⊕ Bx)
  O0 : Nat → Prop
  dfs : List Nat
/-- What stands from the beginning. -/
def Mem.key (M : Mem) : Nat × Com × (Nat → Prop) := (M.base, M.G0, M.O0)
/-- A block that may be written. -/
def Mem.Mine (M : Mem) (g : Nat) : Prop := M.O0 g ∨ M.base ≤ g
theorem Mem.mine_key {M M' : Mem} (h : M'.key = M.key) (g : Nat) : M'.Mine g ↔ M.Mine g := by
  unfold Mem.Mine
  rw [show M'.base = M.base from congrArg Prod.fst h, show M'.O0 = M.O0 from congrArg (fun x => x.2.2) h]
/-- A slice of the call's own. -/
def OwnD (M : Mem) (w : World) (n : Pl) (m : Bool) (k : Kd) (xs : List k.den) (v : Value) : Prop :=
  ∃ u css, Elems M.G w k xs css ∧ w.ownsRow 0 u k.size v xs.length css.flatten ∧
    ∀ g, v.ownBlock = some g → (M.ow g = some (.inl n) ∧ M.Mine g) ∧ ∀ o, M.G g o ↔ m = false ∧ o < xs.length * k.size
/-- A place of an object that there is. -/
def Pl.okH (n : Nat) : Pl → Prop
  | .b (.h i) _ => i < n
  | _ => True
theorem Pl.okH_mono {n n' : Nat} (h : n ≤ n') : ∀ {m : Pl}, m.okH n → m.okH n'
  | .b (.h _) _, hm => Nat.lt_of_lt_of_le hm h
  | .b (.s _) _, hm => hm
  | .t _, hm => hm
def PR (M : Mem) (w : World) (at_ : Pl → PV) (pv : Pl → Value) (n : Pl) : PV → Value → Prop
  | .i k x, v => v = .int k x
  | .b x, v => v = .bool x
  | .s x, v => v = .string x
  | .l e xs, v => RepV M.G w (.list e) xs v
  | .o m k xs, v => OwnD M w n m k xs v
  | .r m, v => m.okH M.G.n ∧ (isO (at_ m) = true → v = pv m)
  | .st k x, v => RepV M.G w k x v
  | .at_ k x, v => ∃ g o cs, v = .pointer (some ⟨g, o, none⟩) ∧ Holds M.G w g o cs ∧ Rep M.G w k x cs
  | .ra m ix p, v => m.okH M.G.n ∧ ∀ k xs, at_ m = .o true k xs → 0 ≤ ix ∧ ix < xs.length ∧ ∃ (g c : Nat) (q : Kd × Nat), pv m = .slice (some ⟨g, 0, none⟩) xs.length c ∧ pathAt k p = some q ∧ v = .pointer (some ⟨g, ix.toNat * k.size + q.2, none⟩)
  | .bx d off, v => v = .pointer (some ⟨M.β (.s d), off, none⟩)
  | .tup ps, v => ∃ vs, v = .tuple vs ∧ ∀ (j : Nat) (q : (k : Kd) × k.den), ps[j]? = some q → ∃ u, vs[j]? = some u ∧ RepV M.G w q.1 q.2 u
  | .fn f, v => v = .func (.func f) #[] #[]
  | .nil, v => v = .slice none 0 0
  | .un, _ => True
  | .p x, v => RepV M.G w .ptr x v
  | .e x, v => RepV M.G w .err x v
  | .nilf, v => v = .nilFunc
  | .yl, v => CR M.G w .yl v
  | .clo f cs, v => CR M.G w (.clo f cs) v
  | .ac ps off, v => CR M.G w (.ac ps off) v
  | .rh k i o ix p, v => i < M.G.n ∧ ∀ xs, at_ (.b (.h i) o) = .o true k xs → 0 ≤ ix ∧ ix < xs.length ∧ ∃ (g c : Nat) (q : Kd × Nat), pv (.b (.h i) o) = .slice (some ⟨g, 0, none⟩) xs.length c ∧ pathAt k p = some q ∧ v = .pointer (some ⟨g, ix.toNat * k.size + q.2, none⟩)
  | .ag ps, v => ∃ vs : List Value, v = .agg vs.toArray ∧ vs.length = ps.length ∧ ∀ (i : Nat) (p : PV) (u : Value), ps[i]? = some p → vs[i]? = some u → CR M.G w p u ∨ ∃ m, p = .r m ∧ m.okH M.G.n ∧ (isO (at_ m) = true → u = pv m)
/-- What is at a place. -/
def pv (M : Mem) (a : Act) (w : World) : Pl → Value
  | .t n => a.tmps.getD n undef
  | .b d o => (w.cell? ⟨M.β d, o, none⟩).getD undef
/-- A loop's record, as it stands. -/
def lpObj (r : Loop) (c : Nat) : Loop :=
  if c = 0 then { r with state := .ready, pending := none }
  else if c = 1 then { r with state := .busy, pending := none }
  else if c = 2 then { r with state := .done, pending := some .ret }
  else { r with state := .done, pending := some (.exit (c - 3)) }
def mark (D : Nat) : Deferred := { target := .collected D, args := #[] }
structure St (M : Mem) (e : Env) (a : Act) (w : World) : Prop where
  sz : a.tmps.size = e.t.length
  bz : e.b.length = e.t.length
  df : a.defers = M.dfs.map mark ∧ ∀ D ∈ M.dfs, w.heap[D]? = some (.deferred (some []))
  nd : M.dfs.Nodup ∧ ∀ D ∈ M.dfs, M.base ≤ D
  lo : M.base ≤ w.heap.size
  cb : ∀ g o, M.G g o → g < w.heap.size
  fr : ∀ g o, M.G g o → M.G0 g o ∨ M.Mine g
  pr : ∀ n, PR M w e.at_ (pv M a w) n (e.at_ n) (pv M a w n)
  bk : ∀ d, e.box d ≠ [] → M.Mine (M.β d) ∧ (∃ C T, w.heap[M.β d]? = some (.cells C T (0, 0)) ∧ C.size = (e.box d).length) ∧ M.ow (M.β d) = some (.inr d) ∧ ∀ o, ¬ M.G (M.β d) o
  lk : ∀ (i n : Nat), e.h[i]? = some (HO.lp n) → M.Mine (M.β (.h i)) ∧ w.heap[M.β (.h i)]? = some (.loop (lpObj (M.G.lr i) n)) ∧ M.ow (M.β (.h i)) = some (.inr (.h i)) ∧ ∀ o, ¬ M.G (M.β (.h i)) o
  ha : M.G.n = e.h.length ∧ ∀ i, i < M.G.n → M.G.adr i = M.β (.h i)
  hk : ∀ i o, hokB (e.at_ (.b (.h i) o)) = true
/-- A place that a value refers to. -/
def refs : PV → Pl → Prop
  | .r m, n => m = n
  | .ra m _ _, n => m = n
  | .rh _ i o _ _, n => .b (.h i) o = n
  | .ag ps, n => .r n ∈ ps
  | _, _ => False
/-- A place is still what it was to those who refer to it. -/
def Kept (at_ at_' : Pl → PV) (pv pv' : Pl → Value) (m : Pl) : Prop :=
  isO (at_' m) = true → isO (at_ m) = true ∧ pv' m = pv m ∧ ∀ k xs, at_' m = .o true k xs → ∃ ys, at_ m = .o true k ys ∧ ys.length = xs.length
theorem Kept.refl (at_ : Pl → PV) (pv : Pl → Value) (m : Pl) : Kept at_ at_ pv pv m := fun h => ⟨h, rfl, fun _ xs h => ⟨xs, h, rfl⟩⟩
theorem PR.keep {M M' : Mem} {w w' : World} {at_ at_' : Pl → PV} {q q' : Pl → Value} {n n' : Pl} {p : PV} {v : Value} (h : PR M w at_ q n p v) (ho : isO p = false)
    (hG : M.G.le M'.G) (hw : Keeps M.G w w') (hβ : ∀ d off, p = .bx d off → M'.β (.s d) = M.β (.s d)) (hr : ∀ m, refs p m → Kept at_ at_' q q' m) : PR M' w' at_' q' n' p v := by
  cases p with
  | i k x => exact h
  | b x => exact h
  | s x => exact h
  | l e xs => exact RepV.mono hG hw h
  | o m k xs => cases ho
  | r m => exact ⟨Pl.okH_mono hG.n h.1, fun hm => by obtain ⟨h1, h2, _⟩ := hr m rfl hm; rw [h2]; exact h.2 h1⟩
  | st k x => exact RepV.mono hG hw h
  | at_ k x => obtain ⟨g, o, cs, hv, h1, h2⟩ := h; exact ⟨g, o, cs, hv, h1.mono hG hw, h2.mono hG hw⟩
  | ra m ix p =>
    refine ⟨Pl.okH_mono hG.n h.1, ?_⟩
    intro k xs hm
    obtain ⟨h1, h2, h3⟩ := hr m rfl (by rw [hm]; rfl)
    obtain ⟨ys, hy, hl⟩ := h3 k xs hm
    obtain ⟨a1, a2, g, c, qq, h4, h5, h6⟩ := h.2 k ys hy
    exact ⟨a1, by omega, g, c, qq, by rw [h2, h4, hl], h5, h6⟩
  | rh k i o ix p =>
    refine ⟨Nat.lt_of_lt_of_le h.1 hG.n, ?_⟩
    intro xs hm
    obtain ⟨h1, h2, h3⟩ := hr _ rfl (by rw [hm]; rfl)
    obtain ⟨ys, hy, hl⟩ := h3 k xs hm
    obtain ⟨a1, a2, g, c, qq, h4, h5, h6⟩ := h.2 ys hy
    exact ⟨a1, by omega, g, c, qq, by rw [h2, h4, hl], h5, h6⟩
  | ag ps =>
    obtain ⟨vs, hv, hl, h1⟩ := h
    refine ⟨vs, hv, hl, fun i p u hp hu => ?_⟩
    rcases h1 i p u hp hu with h2 | ⟨m, rfl, h0, h2⟩
    · exact .inl (h2.mono hG hw)
    · refine .inr ⟨m, rfl, Pl.okH_mono hG.n h0, fun hm => ?_⟩
      obtain ⟨k1, k2, _⟩ := hr m (List.mem_of_getElem? hp) hm
      rw [k2]; exact h2 k1
  | bx d off => rw [show v = _ from h]; simp [PR, hβ d off rfl]
  | tup ps => obtain ⟨vs, hv, h1⟩ := h; exact ⟨vs, hv, fun j q hq => by obtain ⟨u, hu, h2⟩ := h1 j q hq; exact ⟨u, hu, h2.mono hG hw⟩⟩
  | fn f => exact h
  | nil => exact h
  | un => trivial
  | p x => exact RepV.mono hG hw h
  | e x => exact RepV.mono hG hw h
  | nilf => exact h
  | yl => exact CR.mono hG hw h
  | clo f cs => exact CR.mono hG hw h
  | ac ps off => exact CR.mono hG hw h
theorem OwnD.keep {M M' : Mem} {w w' : World} {n : Pl} {m : Bool} {k : Kd} {xs : List k.den} {v : Value} (h : OwnD M w n m k xs v) (hb : M'.key = M.key)
    (hG : M.G.le M'.G) (hw : Keeps M.G w w') (hg : ∀ g, v.ownBlock = some g → w'.heap[g]? = w.heap[g]? ∧ M'.ow g = M.ow g ∧ ∀ o, M'.G g o ↔ M.G g o) : OwnD M' w' n m k xs v := by
  obtain ⟨u, css, h1, h2, h3⟩ := h
  refine ⟨u, css, h1.mono hG hw, ?_, fun g hgg => ?_⟩
  · refine ⟨h2.1, ?_⟩
    rcases h2.2 with hn | ⟨g, cap, cur, rfl, hbg, hgg, rest⟩
    · exact .inl hn
    · exact .inr ⟨g, cap, cur, rfl, hbg, by rw [(hg g rfl).1]; exact hgg, rest⟩
  · obtain ⟨q1, q2, q3⟩ := hg g hgg
    exact ⟨⟨by rw [q2]; exact (h3 g hgg).1.1, (Mem.mine_key hb g).2 (h3 g hgg).1.2⟩, fun o => by rw [q3]; exact (h3 g hgg).2 o⟩
/-- What a value refers to is there. -/
theorem PR.okH {M : Mem} {w : World} {at_ : Pl → PV} {q : Pl → Value} {n m : Pl} {p : PV} {v : Value} (h : PR M w at_ q n p v) (hr : refs p m) : m.okH M.G.n := by
  cases p with
  | r m' => cases hr; exact h.1
  | ra m' _ _ => cases hr; exact h.1
  | rh k i o ix p => cases hr; exact h.1
  | ag ps =>
    obtain ⟨vs, rfl, hl, h1⟩ := h
    have hr : PV.r m ∈ ps := hr
    obtain ⟨i, hi, hp⟩ := List.mem_iff_getElem.1 hr
    have e1 : ps[i]? = some (.r m) := by rw [List.getElem?_eq_getElem hi, hp]
    have e2 : vs[i]? = some (vs[i]'(by omega)) := List.getElem?_eq_getElem (by omega)
    rcases h1 i _ _ e1 e2 with h2 | ⟨m', h2, h3, _⟩
    · simp [CR] at h2
    · cases h2; exact h3
  | _ => exact hr.elim
/-- What is no cells is as it was. -/
def isC : Obj → Bool
  | .cells _ _ _ => true
  | _ => false
def KO (w w' : World) : Prop := ∀ (g : Nat) (o : Obj), w.heap[g]? = some o → isC o = false → w'.heap[g]? = some o
theorem KO.refl (w : World) : KO w w := fun _ _ h _ => h
theorem KO.of_blocks {w w' : World} (h : ∀ g, g < w.heap.size → w'.heap[g]? = w.heap[g]?) : KO w w' := fun g o hg _ => by rw [h g (Array.getElem?_eq_some_iff.1 hg).1]; exact hg
theorem KO.but {w w' : World} {g : Nat} {C : Array Value} {T : TypeId} {x : Nat × Nat} (hc : w.heap[g]? = some (.cells C T x)) (h : ∀ g', g' ≠ g → w'.heap[g']? = w.heap[g']?) : KO w w' := fun g' o hg ho => by
  by_cases hgg : g' = g
  · subst hgg; rw [hc] at hg; cases hg; cases ho
  · rw [h g' hgg]; exact hg
/-- The law that all others come from: each place is as it was, or is told anew. -/
theorem St.step' {M M' : Mem} {e e' : Env} {a a' : Act} {w w' : World} (h : St M e a w)
    (sz : a'.tmps.size = e'.t.length) (bz : e'.b.length = e'.t.length) (df : a'.defers = M'.dfs.map mark ∧ ∀ D ∈ M'.dfs, w'.heap[D]? = some (.deferred (some []))) (nd : M'.dfs.Nodup ∧ ∀ D ∈ M'.dfs, M'.base ≤ D) (hkey : M'.key = M.key) (hs : w.heap.size ≤ w'.heap.size)
    (cb : ∀ g o, M'.G g o → M.G g o ∨ (M.Mine g ∧ g < w'.heap.size))
    (hG : M.G.le M'.G) (hw : Keeps M.G w w')
    (hp : ∀ n, (e'.at_ n = e.at_ n ∧ pv M' a' w' n = pv M a w n ∧ (∀ d off, e.at_ n = .bx d off → M'.β (.s d) = M.β (.s d)) ∧ (∀ m, refs (e.at_ n) m → Kept e.at_ e'.at_ (pv M a w) (pv M' a' w') m) ∧
        (isO (e.at_ n) = true → ∀ g, (pv M a w n).ownBlock = some g → w'.heap[g]? = w.heap[g]? ∧ M'.ow g = M.ow g ∧ ∀ o, M'.G g o ↔ M.G g o)) ∨
      PR M' w' e'.at_ (pv M' a' w') n (e'.at_ n) (pv M' a' w' n))
    (bk : ∀ d, e'.box d ≠ [] → M'.Mine (M'.β d) ∧ (∃ C T, w'.heap[M'.β d]? = some (.cells C T (0, 0)) ∧ C.size = (e'.box d).length) ∧ M'.ow (M'.β d) = some (.inr d) ∧ ∀ o, ¬ M'.G (M'.β d) o)
    (lk : ∀ (i n : Nat), e'.h[i]? = some (HO.lp n) → M'.Mine (M'.β (.h i)) ∧ w'.heap[M'.β (.h i)]? = some (.loop (lpObj (M'.G.lr i) n)) ∧ M'.ow (M'.β (.h i)) = some (.inr (.h i)) ∧ ∀ o, ¬ M'.G (M'.β (.h i)) o)
    (ha : M'.G.n = e'.h.length ∧ ∀ i, i < M'.G.n → M'.G.adr i = M'.β (.h i)) (hk : ∀ i o, hokB (e'.at_ (.b (.h i) o)) = true) : St M' e' a' w' where
  sz := sz
  bz := bz
  df := df
  nd := nd
  lo := by rw [show M'.base = M.base from congrArg Prod.fst hkey]; exact Nat.le_trans h.lo hs
  cb := fun g o hg => (cb g o hg).elim (fun h1 => Nat.lt_of_lt_of_le (h.cb g o h1) hs) (·.2)
  fr := fun g o hg => by
    rw [Mem.mine_key hkey, show M'.G0 = M.G0 from congrArg (fun x => x.2.1) hkey]
    exact (cb g o hg).elim (h.fr g o) fun hh => .inr hh.1
  bk := bk
  lk := lk
  ha := ha
  hk := hk
  pr := fun n => by
    rcases hp n with ⟨h1, h2, h3, h4, h5⟩ | h1
    · rw [h1, h2]
      have hn := h.pr n
      cases hq : e.at_ n with
      | o m k xs =>
        rw [hq] at hn
        exact OwnD.keep hn hkey hG hw (h5 (by rw [hq]; rfl))
      | _ => rw [hq] at hn h3 h4; exact hn.keep rfl hG hw h3 h4
    · exact h1
/-- .. where the heap's objects are those that were. -/
theorem St.step {M M' : Mem} {e e' : Env} {a a' : Act} {w w' : World} (h : St M e a w)
    (sz : a'.tmps.size = e'.t.length) (bz : e'.b.length = e'.t.length) (df : a'.defers = a.defers ∧ M'.dfs = M.dfs) (hko : KO w w') (hkey : M'.key = M.key) (hs : w.heap.size ≤ w'.heap.size)
    (cb : ∀ g o, M'.G g o → M.G g o ∨ (M.Mine g ∧ g < w'.heap.size))
    (hG : M.G.le M'.G) (hw : Keeps M.G w w')
    (hp : ∀ n, (e'.at_ n = e.at_ n ∧ pv M' a' w' n = pv M a w n ∧ (∀ d off, e.at_ n = .bx d off → M'.β (.s d) = M.β (.s d)) ∧ (∀ m, refs (e.at_ n) m → Kept e.at_ e'.at_ (pv M a w) (pv M' a' w') m) ∧
        (isO (e.at_ n) = true → ∀ g, (pv M a w n).ownBlock = some g → w'.heap[g]? = w.heap[g]? ∧ M'.ow g = M.ow g ∧ ∀ o, M'.G g o ↔ M.G g o)) ∨
      PR M' w' e'.at_ (pv M' a' w') n (e'.at_ n) (pv M' a' w' n))
    (bk : ∀ d, e'.box d ≠ [] → M'.Mine (M'.β d) ∧ (∃ C T, w'.heap[M'.β d]? = some (.cells C T (0, 0)) ∧ C.size = (e'.box d).length) ∧ M'.ow (M'.β d) = some (.inr d) ∧ ∀ o, ¬ M'.G (M'.β d) o)
    (hh : e'.h.length = e.h.length ∧ (∀ (i n : Nat), e'.h[i]? = some (HO.lp n) → e.h[i]? = some (HO.lp n)) ∧ M'.G.n = M.G.n ∧ ∀ i, M'.β (.h i) = M.β (.h i))
    (hl : ∀ (i n : Nat), e.h[i]? = some (HO.lp n) → M'.ow (M.β (.h i)) = M.ow (M.β (.h i)) ∧ ∀ o, M'.G (M.β (.h i)) o → M.G (M.β (.h i)) o) (hk : ∀ i o, hokB (e'.at_ (.b (.h i) o)) = true) : St M' e' a' w' :=
  h.step' sz bz ⟨by rw [df.1, df.2]; exact h.df.1, fun D hD => by rw [df.2] at hD; exact hko D _ (h.df.2 D hD) rfl⟩ ⟨by rw [df.2]; exact h.nd.1, fun D hD => by rw [df.2] at hD; rw [show M'.base = M.base from congrArg Prod.fst hkey]; exact h.nd.2 D hD⟩ hkey hs cb hG hw hp bk
    (fun i n hi => by
      obtain ⟨l1, l2, l3, l4⟩ := h.lk i n (hh.2.1 i n hi)
      obtain ⟨l5, l6⟩ := hl i n (hh.2.1 i n hi)
      have hlt : i < M.G.n := by rw [h.ha.1]; exact (List.getElem?_eq_some_iff.1 (hh.2.1 i n hi)).1
      rw [hh.2.2.2, hG.lr i hlt]
      exact ⟨(Mem.mine_key hkey _).2 l1, hko _ _ l2 rfl, by rw [l5]; exact l3, fun o hg => l4 o (l6 o hg)⟩)
    ⟨by rw [hh.2.2.1, hh.1]; exact h.ha.1, fun i hi => by rw [hh.2.2.1] at hi; rw [hG.adr i hi, hh.2.2.2]; exact h.ha.2 i hi⟩ hk
/-! ### The evaluator's slots -/
theorem Env.slot_setT (e : Env) (t : Nat) (p : PV) (n : Nat) : (e.setT t p).slot n = if t = n ∧ t < e.t.length then p else e.slot n := by
  unfold Env.slot Env.setT
  rw [List.getD_eq_getElem?_getD, List.getD_eq_getElem?_getD, List.getElem?_set]
  by_cases h : t = n
  · subst h
    by_cases h' : t < e.t.length
    · simp [h']
    · simp [h']
  · simp [h]
theorem Env.box_setB (e : Env) (d : Bx) (o : Nat) (p : PV) (d' : Bx) : (e.setB d o p).box d' = if d = d' then (e.box d).set o p else e.box d' := by
  cases d with
  | s d =>
    cases d' with
    | s d' =>
      unfold Env.setB Env.box
      simp only
      rw [List.getD_eq_getElem?_getD, List.getD_eq_getElem?_getD, List.getD_eq_getElem?_getD, List.getElem?_set]
      by_cases h : d = d'
      · subst h
        by_cases h' : d < e.b.length
        · simp [h']
        · simp [h']
      · simp [h]
    | h i => rfl
  | h j =>
    cases d' with
    | s d' => rfl
    | h i =>
      show Hcs (e.h.set j _) i = if Bx.h j = Bx.h i then (Hcs e.h j).set o p else Hcs e.h i
      unfold Hcs
      rw [List.getD_eq_getElem?_getD, List.getD_eq_getElem?_getD, List.getD_eq_getElem?_getD, List.getElem?_set]
      by_cases h : j = i
      · subst h
        by_cases h' : j < e.h.length
        · simp [h', HO.cs]
        · simp [h', HO.cs]
      · simp [h]
theorem Env.box_setT (e : Env) (t : Nat) (p : PV) (d : Bx) : (e.setT t p).box d = e.box d := by cases d <;> rfl
theorem Env.cell_setB (e : Env) (d : Bx) (o : Nat) (p : PV) (d' : Bx) (o' : Nat) : (e.setB d o p).cell d' o' = if d = d' ∧ o = o' ∧ o < (e.box d).length then p else e.cell d' o' := by
  unfold Env.cell
  rw [Env.box_setB]
  by_cases h : d = d'
  · subst h
    simp only [if_true, true_and]
    rw [List.getD_eq_getElem?_getD, List.getD_eq_getElem?_getD, List.getElem?_set]
    by_cases h : o = o'
    · subst h
      by_cases h' : o < (e.box d).length
      · simp [h']
      · simp [h']
    · simp [h]
  · simp [h]
theorem Env.slot_map (e : Env) (f : PV → PV) (hf : f .un = .un) (n : Nat) : (e.map f).slot n = f (e.slot n) := by
  unfold Env.slot Env.map
  simp only [List.getD_eq_getElem?_getD, List.getElem?_map]
  cases e.t[n]? <;> simp [hf]
theorem Env.box_map (e : Env) (f : PV → PV) (d : Nat) : (e.map f).box (.s d) = (e.box (.s d)).map f := by
  unfold Env.box Env.map
  simp only [List.getD_eq_getElem?_getD, List.getElem?_map]
  cases e.b[d]? <;> simp
theorem Env.box_mapH (e : Env) (f : PV → PV) (i : Nat) : (e.map f).box (.h i) = e.box (.h i) := rfl
theorem Env.at_mapH (e : Env) (f : PV → PV) (i o : Nat) : (e.map f).at_ (.b (.h i) o) = e.at_ (.b (.h i) o) := rfl
theorem Env.at_map (e : Env) (f : PV → PV) (hf : f .un = .un) (n : Pl) : (e.map f).at_ n = f (e.at_ n) ∨ (∃ i o, n = .b (.h i) o) ∧ (e.map f).at_ n = e.at_ n := by
  cases n with
  | t n => exact .inl (Env.slot_map e f hf n)
  | b d o =>
    cases d with
    | h i => exact .inr ⟨⟨i, o, rfl⟩, rfl⟩
    | s d =>
      left
      show (e.map f).cell (.s d) o = f (e.cell (.s d) o)
      unfold Env.cell
      rw [Env.box_map]
      simp only [List.getD_eq_getElem?_getD, List.getElem?_map]
      cases (e.box (.s d))[o]? <;> simp [hf]
/-- .. in one word. -/
theorem Env.at_map' (e : Env) (f : PV → PV) (hf : ∀ p, f p = p ∨ (f p = .un ∧ isO p = false)) (n : Pl) : (e.map f).at_ n = e.at_ n ∨ ((e.map f).at_ n = .un ∧ isO (e.at_ n) = false ∧ f (e.at_ n) = .un ∧ ∀ i o, n ≠ .b (.h i) o) := by
  by_cases hn : ∃ i o, n = .b (.h i) o
  · obtain ⟨i, o, rfl⟩ := hn; exact .inl rfl
  · rcases Env.at_map e f ((hf .un).elim id (·.1)) n with h | ⟨h, _⟩
    · rw [h]
      exact (hf (e.at_ n)).imp id fun hh => ⟨hh.1, hh.2, hh.1, fun i o hio => hn ⟨i, o, hio⟩⟩
    · exact absurd h hn
theorem Act.tmps_put (a : Act) (t : Nat) (v : Value) (n : Nat) : (a.put (some t) v).tmps.getD n undef = if t = n ∧ t < a.tmps.size then v else a.tmps.getD n undef := by
  show (a.tmps.setIfInBounds t v).getD n undef = _
  rw [Array.getD_eq_getD_getElem?, Array.getD_eq_getD_getElem?, Array.getElem?_setIfInBounds]
  by_cases h : t = n
  · subst h
    by_cases h' : t < a.tmps.size
    · simp [h']
    · simp [h', Array.getElem?_eq_none (Nat.le_of_not_lt h')]
  · simp [h]

theorem map_box_len (e : Env) (f : PV → PV) (d : Bx) : ((e.map f).box d).length = (e.box d).length := by
  cases d with
  | s d => rw [Env.box_map]; simp
  | h i => rfl
/-- A value that refers to nothing new is forgotten: no harm. -/
theorem St.forget {M : Mem} {e : Env} {a : Act} {w : World} (h : St M e a w) (f : PV → PV) (hf : ∀ p, f p = p ∨ (f p = .un ∧ isO p = false)) : St M (e.map f) a w := by
  have hat := Env.at_map' e f hf
  have hk : ∀ m, Kept e.at_ (e.map f).at_ (pv M a w) (pv M a w) m := fun m hm => by
    rcases hat m with h1 | ⟨h1, h2, _⟩
    · rw [h1] at hm ⊢; exact ⟨hm, rfl, fun k xs hx => ⟨xs, hx, rfl⟩⟩
    · rw [h1] at hm; cases hm
  refine h.step (by simpa [Env.map] using h.sz) (by simpa [Env.map] using h.bz) ⟨rfl, rfl⟩ (KO.refl w) rfl (Nat.le_refl _) (fun g o hg => .inl hg) (Com.le.refl _) (Keeps.refl _ _) (fun n => ?_) (fun d hd => ?_) ⟨rfl, fun _ _ h => h, rfl, fun _ => rfl⟩ (fun _ _ _ => ⟨rfl, fun _ h => h⟩) h.hk
  · rcases hat n with h1 | ⟨h1, h2, _⟩
    · left
      exact ⟨h1, rfl, fun _ _ _ => rfl, fun m _ => hk m, fun _ g _ => ⟨rfl, rfl, fun _ => Iff.rfl⟩⟩
    · right; rw [h1]; trivial
  · have hne : e.box d ≠ [] := fun h0 => hd (List.eq_nil_of_length_eq_zero (by rw [map_box_len, h0]; rfl))
    obtain ⟨b1, b2, b3⟩ := h.bk d hne
    exact ⟨b1, by rw [map_box_len]; exact b2, b3⟩
theorem ite_spec {c : Prop} [Decidable c] (p : PV) (hp : isO p = false) : (if c then PV.un else p) = p ∨ ((if c then PV.un else p) = .un ∧ isO p = false) := by
  by_cases h : c
  · rw [if_pos h]; exact .inr ⟨rfl, hp⟩
  · rw [if_neg h]; exact .inl rfl
theorem unref_spec (n : Pl) (p : PV) : unref n p = p ∨ (unref n p = .un ∧ isO p = false) := by
  cases p with
  | ag ps => exact ite_spec _ rfl
  | r m => exact ite_spec _ rfl
  | ra m _ _ => exact ite_spec _ rfl
  | rh k i o j p => exact ite_spec _ rfl
  | _ => exact .inl rfl
theorem unbox_spec (d : Nat) (p : PV) : unbox d p = p ∨ (unbox d p = .un ∧ isO p = false) := by
  cases p with
  | ag ps => exact ite_spec _ rfl
  | r n =>
    cases n with
    | t n => exact .inl rfl
    | b b o =>
      cases b with
      | h i => exact .inl rfl
      | s d' => exact ite_spec _ rfl
  | ra n _ _ =>
    cases n with
    | t n => exact .inl rfl
    | b b o =>
      cases b with
      | h i => exact .inl rfl
      | s d' => exact ite_spec _ rfl
  | bx d' _ => exact ite_spec _ rfl
  | _ => exact .inl rfl
theorem unheap_spec (p : PV) : unheap p = p ∨ (unheap p = .un ∧ isO p = false) := by
  cases p with
  | ag ps => exact ite_spec _ rfl
  | r n =>
    cases n with
    | t n => exact .inl rfl
    | b b o =>
      cases b with
      | h i => exact .inr ⟨rfl, rfl⟩
      | s d' => exact .inl rfl
  | ra n _ _ =>
    cases n with
    | t n => exact .inl rfl
    | b b o =>
      cases b with
      | h i => exact .inr ⟨rfl, rfl⟩
      | s d' => exact .inl rfl
  | rh _ _ _ _ _ => exact .inr ⟨rfl, rfl⟩
  | _ => exact .inl rfl
theorem St.scrub {M : Mem} {e : Env} {a : Act} {w : World} (h : St M e a w) (n : Pl) : St M (e.scrub n) a w := h.forget _ (unref_spec n)
theorem St.scrubB {M : Mem} {e : Env} {a : Act} {w : World} (h : St M e a w) (d : Nat) : St M (e.scrubB d) a w := h.forget _ (unbox_spec d)
theorem St.scrubH {M : Mem} {e : Env} {a : Act} {w : World} (h : St M e a w) : St M e.scrubH a w := h.forget _ unheap_spec
end Go.Pv
