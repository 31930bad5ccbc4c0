/- What a law is handed, as plain values. -/
import Derived.Test.YtdfdainmpklkiaaGreatDoorG26
import Derived.ChangeArms
set_option linter.unusedVariables false
set_option linter.unusedSimpArgs false
namespace Go.Pv
section
variable {H : Type} {P : Program} {enc : TypeId × Value → H} {w : World} {base : Nat} {spare : Nat → Bool} {held : Bool}
/-- Kinds of what is plain, and takes room. -/
def Kd.plain : Kd → Bool
  | .int _ => true
  | .bool => true
  | .str => true
  | .unit => true
  | .list e => e.plain && decide (0 < e.size)
  | .pair a b => a.plain && b.plain
  | _ => false
/-- Numbers that their kinds hold; strings and slices that memory holds. -/
def Kd.wf : (k : Kd) → k.den → Prop
  | .int ik, n => (Lit.int ik n).wf = true
  | .str, s => s.size ≤ maxLen
  | .list e, xs => xs.length ≤ maxLen ∧ ∀ x ∈ xs, e.wf x
  | .pair a b, x => a.wf x.1 ∧ b.wf x.2
  | _, _ => True
/-- All that stands. -/
def ComW (w : World) : Com := ⟨fun g _ => g < w.heap.size, fun _ => 0, 0, fun _ => default, 0⟩
theorem cell_lt {w : World} {a : Addr} {v : Value} (h : w.cell? a = some v) : a.block < w.heap.size ∧ a.spot = none := by
  unfold World.cell? at h
  split at h
  · rename_i c t f hc
    refine ⟨(Array.getElem?_eq_some_iff.1 hc).1, ?_⟩
    split at h
    · cases h
    · rename_i hs; cases hq : a.spot with
      | none => rfl
      | some x => rw [hq] at hs; exact absurd rfl hs
  · cases h
theorem cells_get {w : World} {a : Addr} {n : Nat} {cs : List Value} (h : w.cells? base a n = some cs) : cs.length = n ∧ ∀ i, i < n → w.cell? (a.add i) = cs[i]? := by
  unfold World.cells? at h
  split at h
  · exact ⟨by simpa using mapM_some_length h, fun i hi => mapM_some_get h i i (by simp [hi])⟩
  · cases h
theorem Fits.cells {k : Kd} {t : TypeId} (h : Fits P k t) : P.cellsOf t = k.size := by
  obtain ⟨i, h1, h2, _⟩ := h.info
  unfold Program.cellsOf
  rw [h1]; exact h2
theorem trod_rep : ∀ (k : Kd), k.plain = true →
    (∀ (t : TypeId) (fuel : Nat) (cs : List Value) (x : DataW H × List MemPlace), Fits P k t → DataW.trod enc P w base spare held fuel t cs = some x → ∃ y : k.den, Rep (ComW w) w k y cs ∧ k.wf y) ∧
    (∀ (fs : List Field) (o fuel : Nat) (cs : List Value), fitsB P k (.inr (fs, o)) = true → cs.length = o + k.size → (∀ f ∈ fs, ∃ x, DataW.trod enc P w base spare held fuel f.type ((cs.drop f.offset).take (P.cellsOf f.type)) = some x) → ∃ y : k.den, Rep (ComW w) w k y (cs.drop o) ∧ k.wf y)
  | .int ik, _ => ⟨fun t fuel cs x hf h => by
      obtain ⟨n, rfl, _, hw⟩ := DataW.trod_int hf.int h
      exact ⟨n, rfl, hw⟩, fun fs o fuel cs hf => by simp [fitsB] at hf⟩
  | .bool, _ => ⟨fun t fuel cs x hf h => by
      have hu : P.underlying t = some .bool := by
        unfold Fits at hf
        simp only [fitsB, Bool.and_eq_true] at hf
        have h2 := hf.2
        split at h2
        · assumption
        · cases h2
      obtain ⟨b, rfl, _⟩ := DataW.trod_bool hu h
      exact ⟨b, rfl, trivial⟩, fun fs o fuel cs hf => by simp [fitsB] at hf⟩
  | .str, _ => ⟨fun t fuel cs x hf h => by
      obtain ⟨s, rfl, _, hs⟩ := DataW.trod_string hf.str h
      exact ⟨s, rfl, hs⟩, fun fs o fuel cs hf => by simp [fitsB] at hf⟩
  | .unit, _ => ⟨fun t fuel cs x hf h => by
      have hc := hf.cells
      obtain ⟨d, hu, hd⟩ := hf.agg
      have hs : ∃ fs, P.underlying t = some (.struct fs) := by
        unfold Fits at hf
        simp only [fitsB, Bool.and_eq_true] at hf
        have h2 := hf.2
        split at h2
        · exact ⟨_, by assumption⟩
        · cases h2
      obtain ⟨fs, hs⟩ := hs
      obtain ⟨xs, n, _, _, hl, _⟩ := DataW.trod_struct hs h
      rw [hc] at hl
      exact ⟨(), List.length_eq_zero_iff.1 hl, trivial⟩, fun fs o fuel cs hf hl _ => ⟨(), by rw [show cs.drop o = [] from List.drop_eq_nil_of_le (by rw [hl]; exact Nat.le_refl _)]; rfl, trivial⟩⟩
  | .list e, hp => ⟨fun t fuel cs x hf h => by
      rw [Kd.plain, Bool.and_eq_true, decide_eq_true_eq] at hp
      obtain ⟨u, hu, hfu⟩ := hf.elem
      have ih := (trod_rep e hp.1).1 u
      rcases DataW.trod_slice hu h with ⟨rfl, _⟩ | ⟨a, len, cap, elems, rest, n, _, rfl, _, hb, hl, hm, hlen, hel, _⟩
      · exact ⟨[], ⟨none, 0, rfl, Nat.le_refl _, fun hh => absurd rfl hh⟩, ⟨Nat.zero_le _, fun x hx => by cases hx⟩⟩
      have hsz := hfu.cells
      have each : ∀ i, i < len → ∃ (y : e.den) (ds : List Value), w.cells? base (a.add (i * e.size)) e.size = some ds ∧ Rep (ComW w) w e y ds ∧ e.wf y := fun i hi => by
        have h1 := hel i hi
        rw [List.getElem?_eq_getElem (by omega), Option.bind_eq_some_iff, hsz] at h1
        obtain ⟨ds, h2, h3⟩ := h1
        obtain ⟨y, hy, hw⟩ := ih n ds _ hfu h3
        exact ⟨y, ds, h2, hy, hw⟩
      obtain ⟨ys, hys, hyl⟩ : ∃ ys : List e.den, ys.length = len ∧ ∀ i (h : i < ys.length), ∃ ds, w.cells? base (a.add (i * e.size)) e.size = some ds ∧ Rep (ComW w) w e ys[i] ds ∧ e.wf ys[i] := by
        refine ⟨(List.range len).attach.map fun i => Classical.choose (each i.1 (List.mem_range.1 i.2)), by simp, fun i hi => ?_⟩
        have hi' : i < len := by simpa using hi
        have := Classical.choose_spec (each i hi')
        simpa using this
      refine ⟨ys, ⟨some a, cap, by rw [hys], by omega, fun hne => ?_⟩, by rw [hys]; omega, fun y hy => ?_⟩
      · have h0 : 0 < ys.length := List.length_pos_iff.2 hne
        obtain ⟨ds, hd, _, _⟩ := hyl 0 h0
        have hc := cells_get hd
        have h1 := hc.2 0 hp.2
        rw [Nat.zero_mul, show (a.add 0).add 0 = a from rfl, List.getElem?_eq_getElem (by omega)] at h1
        have hs := (cell_lt h1).2
        obtain ⟨g, o, s⟩ := a
        have hs : s = none := hs
        subst hs
        have add0 : ∀ i : Nat, (⟨g, o, none⟩ : Addr).add i = ⟨g, o + i, none⟩ := fun i => by unfold Addr.add; split <;> simp_all
        refine ⟨g, o, rfl, fun i hi => ?_⟩
        obtain ⟨ds, hd, hr, _⟩ := hyl i hi
        refine ⟨ds, fun j hj => ?_, hr⟩
        have hc := cells_get hd
        have h2 := hc.2 j (by omega)
        rw [add0, show (⟨g, o + i * e.size, none⟩ : Addr).add j = ⟨g, o + i * e.size + j, none⟩ by unfold Addr.add; split <;> simp_all, List.getElem?_eq_getElem hj] at h2
        exact ⟨(cell_lt h2).1, h2⟩
      · obtain ⟨i, hi, rfl⟩ := List.getElem_of_mem hy
        obtain ⟨ds, _, _, hw⟩ := hyl i hi
        exact hw, fun fs o fuel cs hf => by simp [fitsB] at hf⟩
  | .pair a b, hp => by
      rw [Kd.plain, Bool.and_eq_true] at hp
      have iha := (trod_rep a hp.1).1
      have ihb := (trod_rep b hp.2).2
      have key : ∀ (fs : List Field) (o fuel : Nat) (cs : List Value), fitsB P (.pair a b) (.inr (fs, o)) = true → cs.length = o + (Kd.pair a b).size → (∀ f ∈ fs, ∃ x, DataW.trod enc P w base spare held fuel f.type ((cs.drop f.offset).take (P.cellsOf f.type)) = some x) → ∃ y : (Kd.pair a b).den, Rep (ComW w) w (.pair a b) y (cs.drop o) ∧ (Kd.pair a b).wf y := by
        intro fs o fuel cs hf hl hx
        cases fs with
        | nil => simp [fitsB] at hf
        | cons f fs =>
          simp only [fitsB, Bool.and_eq_true, beq_iff_eq] at hf
          obtain ⟨⟨h1, h2⟩, h3⟩ := hf
          have hl' : cs.length = o + (a.size + b.size) := hl
          obtain ⟨x, hx1⟩ := hx f (List.mem_cons_self ..)
          rw [h1, Fits.cells (k := a) h2] at hx1
          obtain ⟨y1, hy1, hw1⟩ := iha _ _ _ _ h2 hx1
          obtain ⟨y2, hy2, hw2⟩ := ihb fs (o + a.size) fuel cs h3 (by omega) fun f hf => hx f (List.mem_cons_of_mem _ hf)
          refine ⟨(y1, y2), ⟨(cs.drop o).take a.size, cs.drop (o + a.size), ?_, hy1, hy2⟩, hw1, hw2⟩
          rw [← List.drop_drop, List.take_append_drop]
      refine ⟨fun t fuel cs x hf h => ?_, key⟩
      have hs : ∃ fs, P.underlying t = some (.struct fs) ∧ fitsB P (.pair a b) (.inr (fs.toList, 0)) = true := by
        have hf' := hf
        unfold Fits at hf'
        simp only [fitsB, Bool.and_eq_true] at hf'
        have h2 := hf'.2
        split at h2
        · rename_i fs hu
          refine ⟨fs, hu, ?_⟩
          split at h2
          · rename_i f l hl
            rw [hl]
            simp only [Bool.and_eq_true] at h2
            simp only [fitsB, Bool.and_eq_true, Nat.zero_add]
            exact h2
          · cases h2
        · cases h2
      obtain ⟨fs, hu, hb⟩ := hs
      obtain ⟨xs, n, _, _, hl, hxs, hx⟩ := DataW.trod_struct hu h
      have := key fs.toList 0 n cs hb (by rw [hl, hf.cells]; simp) fun f hf => by
        obtain ⟨i, hi, rfl⟩ := List.getElem_of_mem hf
        have hi' : i < fs.size := by simpa using hi
        have := hx i fs.toList[i] (by simp [hi'])
        rw [List.getElem?_eq_getElem (by omega)] at this
        exact ⟨_, this⟩
      simpa using this
end
end Go.Pv
