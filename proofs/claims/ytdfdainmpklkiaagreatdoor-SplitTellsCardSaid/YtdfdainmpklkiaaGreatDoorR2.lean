/- A law's call: its arguments as plain values, its answer, its arguments behind it. -/
import Derived.Test.YtdfdainmpklkiaaGreatDoorR1
import Derived.WideShapes
import Derived.ChangeShapes
import Derived.OpenShut
import Derived.Carry
import Derived.RowKit
import Derived.Lib.LaidTab
import Derived.Stop.LaidErr
set_option linter.unusedVariables false
set_option linter.unusedSimpArgs false
namespace Go.Pv
open Go.ChangeShapes Go.WideShapes Go.RowKit
section
variable {H : Type} {P : Program} {enc : TypeId × Value → H} {w : World} {base : Nat} {spare : Nat → Bool} {held : Bool}
theorem Fits.bool {t : TypeId} (h : Fits P .bool t) : P.underlying t = some .bool := by
  unfold Fits at h
  simp only [fitsB, Bool.and_eq_true] at h
  have h2 := h.2
  split at h2
  · assumption
  · cases h2
theorem okWide_val {k : Kd} {t : TypeId} {v : Value} {r : Reach} (hk : k.plain = true) (hf : Fits P k t) (h : Value.okWide P w r base t v) : v = valOf k v.cells.toList := by
  have agg : k.isAgg = true → v = valOf k v.cells.toList := fun ha => by
    obtain ⟨d, hu, hd⟩ := hf.agg
    rw [ha] at hd
    unfold Value.okWide at h
    rw [hu] at h
    have : ∃ cs, v = .agg cs := by
      cases d with
      | struct fs => obtain ⟨cs, h, _⟩ := h; exact ⟨cs, h⟩
      | array n e => obtain ⟨cs, h, _⟩ := h; exact ⟨cs, h⟩
      | _ => cases hd
    obtain ⟨cs, rfl⟩ := this
    unfold valOf
    rw [ha]; rfl
  cases k with
  | int ik => obtain ⟨n, rfl⟩ := okWide_int hf.int h; rfl
  | bool => obtain ⟨n, rfl⟩ := okWide_bool hf.bool h; rfl
  | str => obtain ⟨n, rfl⟩ := okWide_string hf.str h; rfl
  | list e => obtain ⟨u, hu, _⟩ := hf.elem; obtain ⟨a, l, c, rfl⟩ := okWide_slice hu h; rfl
  | unit => exact agg rfl
  | pair a b => exact agg rfl
  | ptr => cases hk
  | fn => cases hk
  | err => cases hk
theorem CR.ofDen {G : Com} {k : Kd} {x : k.den} {v : Value} (hk : k.plain = true) (h : RepV G w k x v) : CR G w (ofDen k x) v := by
  cases k with
  | int ik => obtain ⟨cs, h1, rfl⟩ := h; rw [show cs = _ from h1]; show CR G w _ _; rw [Pv.ofDen, CR]; rfl
  | bool => obtain ⟨cs, h1, rfl⟩ := h; rw [show cs = _ from h1]; show CR G w _ _; rw [Pv.ofDen, CR]; rfl
  | str => obtain ⟨cs, h1, rfl⟩ := h; rw [show cs = _ from h1]; show CR G w _ _; rw [Pv.ofDen, CR]; rfl
  | list e => exact h
  | unit => exact h
  | pair a b => exact h
  | ptr => cases hk
  | fn => cases hk
  | err => cases hk
def wfL : (ks : List Kd) → denL ks → Prop
  | [], _ => True
  | k :: ks, x => k.wf x.1 ∧ wfL ks x.2
def fitsL (P : Program) : List Kd → List TypeId → Bool
  | [], [] => true
  | k :: ks, t :: ts => k.plain && fitsB P k (.inl t) && P.readableRec t && decide (t < P.types.size) && fitsL P ks ts
  | _, _ => false
/-- What is handed over is plain values. -/
theorem trodAll_args {b0 : Nat} : ∀ {ks : List Kd} {ts : List TypeId} {vs : List Value} {ds : List (DataW H)} {ps : List MemPlace}, fitsL P ks ts = true → DataW.TrodAll enc P w base spare held ts vs ds ps →
    (∀ (j : Nat) t v, ts[j]? = some t → vs[j]? = some v → Value.okWide P w .any b0 t v) → ∃ x : denL ks, CRs (ComW w) w (encL ks x) vs ∧ wfL ks x
  | [], [], vs, ds, ps, _, h, _ => by
    obtain ⟨rfl, rfl, rfl⟩ := trodAll_nil h
    exact ⟨(), by rw [encL, CRs]; trivial, trivial⟩
  | k :: ks, t :: ts, vs, ds, ps, hf, h, hv => by
    simp only [fitsL, Bool.and_eq_true] at hf
    obtain ⟨v, vs', d, ds', p, q, rfl, rfl, rfl, h1, h2⟩ := trodAll_cons h
    obtain ⟨x2, hx2, hw2⟩ := trodAll_args hf.2 h2 fun j t v ht hv' => hv (j + 1) t v ht hv'
    obtain ⟨fuel, hfu⟩ := h1
    obtain ⟨x1, hx1, hw1⟩ := (trod_rep (w := w) k hf.1.1.1.1).1 t fuel _ _ hf.1.1.1.2 hfu
    refine ⟨(x1, x2), ?_, hw1, hw2⟩
    rw [encL, CRs]
    exact ⟨CR.ofDen hf.1.1.1.1 ⟨_, hx1, okWide_val hf.1.1.1.1 hf.1.1.1.2 (hv 0 t v rfl rfl)⟩, hx2⟩
  | [], _ :: _, _, _, _, hf, _, _ => by cases hf
  | _ :: _, [], _, _, _, hf, _, _ => by cases hf
/-- What was handed over reads as it did. -/
theorem trodAll_below (hl : laidOutB P = true) {W W' : World} (hb : Below W.heap.size W W') : ∀ {ks : List Kd} {ts : List TypeId} {vs : List Value} {ds : List (DataW H)} {ps : List MemPlace}, fitsL P ks ts = true → DataW.TrodAll enc P W 0 (fun _ => true) true ts vs ds ps →
    DataW.TrodAll enc P W' 0 (fun b => decide (b < W.heap.size)) true ts vs ds ps
  | [], [], vs, ds, ps, _, h => by
    obtain ⟨rfl, rfl, rfl⟩ := trodAll_nil h
    exact trodAll_mk0
  | k :: ks, t :: ts, vs, ds, ps, hf, h => by
    simp only [fitsL, Bool.and_eq_true, decide_eq_true_eq] at hf
    obtain ⟨v, vs', d, ds', p, q, rfl, rfl, rfl, h1, h2⟩ := trodAll_cons h
    exact trodAll_cons_mk (Below.trod hl hf.1.1.2 hf.1.2 h1 hb (by obtain ⟨m, hm⟩ := h1; exact DataW.trod_lt m _ _ _ hm)) (trodAll_below hl hb hf.2 h2)
  | [], _ :: _, _, _, _, hf, _ => by cases hf
  | _ :: _, [], _, _, _, hf, _ => by cases hf
theorem decL_encL : ∀ (ks : List Kd) (x : denL ks), decL ks (encL ks x) = some x
  | [], _ => rfl
  | k :: ks, x => by
    rw [encL, decL, decL_encL ks x.2]
    have : argD k (ofDen k x.1) = some x.1 := by cases k <;> simp [argD, ofDen]
    rw [this]; rfl
/-- A law that answers true at all that may be handed over. -/
theorem law_calls {b0 : Nat} {L : World → Prop} {f : FuncId} {ks : List Kd} {F : denL ks → Option Bool} (hok : CallOK P L f (Spec.of ks F (ofDen .bool)).go) (hF : ∀ x, wfL ks x → F x = some true)
    {W : World} {args : Array Value} {ds : List (DataW H)} {ps : List MemPlace} {ts : List TypeId} (hfit : fitsL P ks ts = true) (hA : DataW.TrodAll enc P W base spare held ts args.toList ds ps)
    (hv : ∀ (j : Nat) t v, ts[j]? = some t → args[j]? = some v → Value.okWide P W .any b0 t v) (hL : L W) : Calls P f args W fun e W' => e = .returned (.bool true) ∧ Below W.heap.size W W' := by
  obtain ⟨x, hx, hw⟩ := trodAll_args hfit hA fun j t v ht hv' => hv j t v ht (by simpa using hv')
  have h1 : (Spec.of ks F (ofDen .bool)).go (encL ks x) (argD .bool) = some true := by
    simp only [Spec.of, decL_encL, Option.bind_some, hF x hw]
    rfl
  obtain ⟨_, hc⟩ := hok Bool (encL ks x) (argD .bool) true h1
  refine (hc (ComW W) W args hL (fun g o h => h) hx).mono fun e W' he => ?_
  cases e with
  | returned v =>
    obtain ⟨p, G', hp, _, _, _, hb, hr⟩ := he
    have hp := argD_eq hp
    subst hp
    have hr : CR G' W' (.b true) v := hr
    rw [CR] at hr
    rw [hr]
    exact ⟨rfl, hb⟩
  | _ => cases he
theorem trodAll_ds1 {t0 : TypeId} {vs : List Value} {ds : List (DataW H)} {ps : List MemPlace} (h : DataW.TrodAll enc P w base spare held [t0] vs ds ps) : ∃ d0, ds = [d0] := by
  obtain ⟨_, _, d0, _, _, _, rfl, rfl, rfl, _, h⟩ := trodAll_cons h
  obtain ⟨rfl, rfl, rfl⟩ := trodAll_nil h
  exact ⟨d0, rfl⟩
theorem trodAll_ds2 {t0 t1 : TypeId} {vs : List Value} {ds : List (DataW H)} {ps : List MemPlace} (h : DataW.TrodAll enc P w base spare held [t0, t1] vs ds ps) : ∃ d0 d1, ds = [d0, d1] := by
  obtain ⟨_, _, d0, _, _, _, rfl, rfl, rfl, _, h⟩ := trodAll_cons h
  obtain ⟨d1, rfl⟩ := trodAll_ds1 h
  exact ⟨d0, d1, rfl⟩
theorem trodAll_ds3 {t0 t1 t2 : TypeId} {vs : List Value} {ds : List (DataW H)} {ps : List MemPlace} (h : DataW.TrodAll enc P w base spare held [t0, t1, t2] vs ds ps) : ∃ d0 d1 d2, ds = [d0, d1, d2] := by
  obtain ⟨_, _, d0, _, _, _, rfl, rfl, rfl, _, h⟩ := trodAll_cons h
  obtain ⟨d1, d2, rfl⟩ := trodAll_ds2 h
  exact ⟨d0, d1, d2, rfl⟩
theorem trodAll_ds4 {t0 t1 t2 t3 : TypeId} {vs : List Value} {ds : List (DataW H)} {ps : List MemPlace} (h : DataW.TrodAll enc P w base spare held [t0, t1, t2, t3] vs ds ps) : ∃ d0 d1 d2 d3, ds = [d0, d1, d2, d3] := by
  obtain ⟨_, _, d0, _, _, _, rfl, rfl, rfl, _, h⟩ := trodAll_cons h
  obtain ⟨d1, d2, d3, rfl⟩ := trodAll_ds3 h
  exact ⟨d0, d1, d2, d3, rfl⟩
/-- Is a variable a table of numbers? -/
def tabB (P : Program) (name : String) (k : IntKind) : Bool :=
  match P.globalNamed name with
  | some g => match (P.globals[g]?).map (·.type) with
    | some t => match P.underlying t with
      | some (.array n e) => (match P.underlying e with | some (.int k') => k' == k | _ => false) && (P.cellsOf e == 1 && P.cellsOf t == n)
      | _ => false
    | none => false
  | none => false
theorem tab_head {name : String} {k : IntKind} {zs : List Int} {d : DataW Unit} {rest : List (String × DataW Unit)} (hd : d = Lib.tabData k zs) (hb : tabB P name k = true) {W : World} (h : laidMet P ((name, d) :: rest) W) : Lib.TabIs P W name k zs := by
  subst hd
  unfold tabB at hb
  split at hb
  · rename_i g hg
    split at hb
    · rename_i t ht
      split at hb
      · rename_i n e hu
        simp only [Bool.and_eq_true, beq_iff_eq] at hb
        obtain ⟨h1, h2, h3⟩ := hb
        split at h1
        · rename_i k' hk
          simp only [beq_iff_eq] at h1
          subst h1
          exact Lib.tabIs_of_head hg ht hu hk h2 h3 h
        · cases h1
      · cases hb
    · cases hb
  · cases hb
end
end Go.Pv
