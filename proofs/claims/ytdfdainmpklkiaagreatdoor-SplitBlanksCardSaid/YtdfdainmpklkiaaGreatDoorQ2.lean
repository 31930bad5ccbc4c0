/- Plain laws: right schemes, folds; the catalogue's names; the last signatures. -/
import Derived.Test.YtdfdainmpklkiaaGreatDoorQ1
set_option linter.unusedVariables false
set_option linter.unusedSimpArgs false
namespace Go.Pv.X
open Go.Proofs
def lenB {α : Type} (l : List α) : Prop := (l.length : Int) ≤ 9223372036854775807
def rightS (s : K.s4.den) : Bool := inS (pS s) 1 64 && (decide (s.2.2.1.length ≤ 6) && decide (goS s.1 s.2.1 s.2.2.1 = some (1, 1)))
theorem pS_1 {s : K.s4.den} (h : ¬ pS s = 0) : (1 ≤ s.1 ∧ s.1 ≤ 64) ∧ 1 ≤ s.2.1 ∧ s.2.1 ≤ 64 := by
  unfold pS at h
  cases hc : (inS s.1 1 64 && inS s.2.1 1 64) with
  | false => rw [hc] at h; exact absurd rfl h
  | true => rwa [Bool.and_eq_true, inS_t, inS_t] at hc
theorem goS_bd : ∀ {l : List K.s7.den} {c r : Int} {p : Int × Int}, goS c r l = some p → (1 ≤ c ∧ c ≤ 9223372036854775807) → (1 ≤ r ∧ r ≤ 9223372036854775807) → (1 ≤ p.1 ∧ p.1 ≤ 9223372036854775807) ∧ (1 ≤ p.2 ∧ p.2 ≤ 9223372036854775807)
  | [], c, r, p, h, hc, hr => by rw [goS, Option.some.injEq] at h; rw [← h]; exact ⟨hc, hr⟩
  | s :: l, c, r, p, h, hc, hr => by
    rw [goS] at h
    obtain ⟨q, h1, h2⟩ := Option.bind_eq_some_iff.1 h
    obtain ⟨q1, q2⟩ := aftS_bd h1 hc hr
    exact goS_bd h2 q1 q2
theorem out_one (o : Option (Int × Int)) : (bif (outS o).2.2.1 then bif decide ((outS o).1 = (1 : Int)) then some (decide ((outS o).2.1 = (1 : Int))) else some false else some false) = some (decide (o = some (1, 1))) := by
  cases o with
  | none => rfl
  | some p =>
    obtain ⟨a, b⟩ := p
    show (bif decide (a = 1) then some (decide (b = 1)) else some false) = _
    by_cases h1 : a = 1
    · rw [dt h1]
      by_cases h2 : b = 1
      · rw [dt h2, dt (by rw [h1, h2])]; rfl
      · rw [df h2, df (show ¬ some (a, b) = some ((1 : Int), (1 : Int)) from fun hh => h2 (by injection hh with hh; exact congrArg Prod.snd hh))]; rfl
    · rw [df h1, df (show ¬ some (a, b) = some ((1 : Int), (1 : Int)) from fun hh => h1 (by injection hh with hh; exact congrArg Prod.fst hh))]; rfl
theorem sband {a b c : Bool} : some (bif (bif a then b else false) then c else false) = (bif a then bif b then some c else some false else some false) := by cases a <;> cases b <;> rfl
theorem scheme_Right_eq (s : K.s4.den) : scheme_Right s = some (rightS s) := by
  unfold scheme_Right scheme_Right_g rightS
  rw [scheme_Panels_eq]
  simp only [Option.bind_some]
  have hp := pS_le s
  by_cases h0 : pS s = 0
  · rw [dt h0, inS_f.2 (by omega)]; rfl
  · rw [df h0]
    by_cases h1 : 64 < pS s
    · rw [dt h1, inS_f.2 (by omega)]; rfl
    · rw [df h1, inS_t.2 ⟨by omega, by omega⟩]
      by_cases h2 : s.2.2.1.length ≤ 6
      · rw [df (show ¬ (6 : Int) < (s.2.2.1.length : Int) by omega), dt h2]
        obtain ⟨h3, h4⟩ := pS_1 h0
        rw [step_All_eq _ _ _ (by omega) ⟨h3.1, Int.le_trans h3.2 (by decide)⟩ ⟨h4.1, Int.le_trans h4.2 (by decide)⟩]
        exact sband.trans (out_one _)
      · rw [dt (show (6 : Int) < (s.2.2.1.length : Int) by omega), df h2]; rfl
/-! ### A job's folds -/
abbrev jF (j : K.s5.den) : K.s4.den := j.2.2.2.2.2.2.2.2.2.2.2.1
abbrev jB (j : K.s5.den) : Int := j.2.2.2.2.2.2.2.2.2.2.1
abbrev jL (j : K.s5.den) : List ByteArray := j.2.2.2.2.2.2.2.2.2.2.2.2.1
abbrev jP (j : K.s5.den) : Int := j.2.1
def foldsS (j : K.s5.den) : Bool := bif decide (jB j = 3) then (decide ((jF j).2.2.1.length = 0) && inS (pS (jF j)) 1 64) else rightS (jF j)
structure Wf (j : K.s5.den) : Prop where
  steps : lenB (jF j).2.2.1
  cols : (jF j).1 ≤ 9223372036854775807
  rows : (jF j).2.1 ≤ 9223372036854775807
  pages : -9223372036854775808 ≤ jP j ∧ jP j ≤ 9223372036854775807
  last : lenB (jL j)
theorem len0 {α : Type} (l : List α) : decide ((l.length : Int) = 0) = decide (l.length = 0) := by
  by_cases h : l.length = 0
  · rw [dt h, dt (by omega)]
  · rw [df h, df (by omega)]
theorem split_Folds_eq (j : K.s5.den) : split_Folds j = some (foldsS j) := by
  unfold split_Folds split_Folds_g foldsS
  rw [scheme_Right_eq, scheme_Panels_eq]
  simp only [Option.bind_some, num_In_eq, len0]
  cases decide (jB j = 3) <;> cases decide ((jF j).2.2.1.length = 0) <;> rfl
theorem foldsS_p {j : K.s5.den} (h : foldsS j = true) : 1 ≤ pS (jF j) ∧ pS (jF j) ≤ 64 ∧ (jF j).2.2.1.length ≤ 6 := by
  unfold foldsS at h
  cases hb : decide (jB j = 3) with
  | true =>
    rw [hb, cond_true, Bool.and_eq_true, decide_eq_true_eq, inS_t] at h
    exact ⟨h.2.1, h.2.2, by omega⟩
  | false =>
    rw [hb, cond_false, rightS, Bool.and_eq_true, Bool.and_eq_true, decide_eq_true_eq, inS_t] at h
    exact ⟨h.1.1, h.1.2, h.2.1⟩
end Go.Pv.X
