/- Plain laws: the last signatures; how a job is parted. -/
import Derived.Test.YtdfdainmpklkiaaGreatDoorQ2
import Derived.Test.YtdfdainmpklkiaaGreatDoorC0
set_option linter.unusedVariables false
set_option linter.unusedSimpArgs false
namespace Go.Pv.X
open Go.Proofs
def lkIn : List (List UInt8 × K.s4.den) → ByteArray → K.s4.den × Bool × Unit
  | [], _ => ((0, 0, [], ()), false, ())
  | (n, s) :: l, x => bif n == x.toList then (s, true, ()) else lkIn l x
theorem findIn_eq : ∀ (l : List (List UInt8 × K.s4.den)) (x : ByteArray), findIn l x = some (lkIn l x)
  | [], _ => rfl
  | (n, s) :: l, x => by
    rw [findIn, lkIn, findIn_eq l x]
    cases n == x.toList <;> rfl
theorem lkIn_mem : ∀ {l : List (List UInt8 × K.s4.den)} {x : ByteArray}, (lkIn l x).2.1 = true → ∃ p ∈ l, (lkIn l x).1 = p.2
  | [], _, h => by cases h
  | (n, s) :: l, x, h => by
    rw [lkIn] at h ⊢
    cases hn : (n == x.toList) with
    | true => exact ⟨(n, s), by simp, rfl⟩
    | false =>
      rw [hn] at h
      obtain ⟨p, h1, h2⟩ := lkIn_mem (l := l) (x := x) h
      exact ⟨p, by simp [h1], h2⟩
theorem lkIn_none : ∀ {l : List (List UInt8 × K.s4.den)} {x : ByteArray}, (lkIn l x).2.1 = false → (lkIn l x).1 = (0, 0, [], ())
  | [], _, _ => rfl
  | (n, s) :: l, x, h => by
    rw [lkIn] at h ⊢
    cases hn : (n == x.toList) with
    | true => rw [hn] at h; cases h
    | false => rw [hn] at h; exact lkIn_none (l := l) (x := x) h
def lk (x : ByteArray) : K.s4.den × Bool × Unit := lkIn cat x
theorem cat_steps : (cat.all fun p => decide (p.2.2.2.1.length ≤ 6)) = true := by kernel_rfl
theorem cat_20 : ((cat.drop 20).all fun p => decide (64 ≤ pS p.2)) = true := by kernel_rfl
theorem lk_steps (x : ByteArray) : (lk x).1.2.2.1.length ≤ 6 := by
  cases h : (lk x).2.1 with
  | true =>
    obtain ⟨p, h1, h2⟩ := lkIn_mem h
    rw [show (lk x).1 = p.2 from h2]
    exact of_decide_eq_true (List.all_eq_true.1 cat_steps p h1)
  | false => rw [show (lk x).1 = (0, 0, [], ()) from lkIn_none h]; exact Nat.zero_le _
def nestB (s : K.s4.den) : Bool := (spine_Nests s).getD false
/-- What is shown by reckoning alone. -/
structure Seen : Prop where
  f1 : ∀ x, scheme_Find x = findIn cat x
  f2 : ∀ x, ref11_Find x = findIn cat x
  ne : ((cat.take 20).all fun p => (spine_Nests p.2).isSome) = true
  al : law17_alive = some true
section
variable (S : Seen)
include S
theorem Find1 (x : ByteArray) : scheme_Find x = some (lk x) := (S.f1 x).trans (findIn_eq cat x)
theorem Find2 (x : ByteArray) : ref11_Find x = some (lk x) := (S.f2 x).trans (findIn_eq cat x)
theorem nests {x : ByteArray} (h : (lk x).2.1 = true) (hp : pS (lk x).1 < 64) : spine_Nests (lk x).1 = some (nestB (lk x).1) := by
  obtain ⟨p, h1, h2⟩ := lkIn_mem h
  have h2 : (lk x).1 = p.2 := h2
  rw [h2] at hp ⊢
  rw [← List.take_append_drop 20 cat, List.mem_append] at h1
  rcases h1 with h1 | h1
  · have h3 := List.all_eq_true.1 S.ne p h1
    unfold nestB
    cases ha : spine_Nests p.2 with
    | none => rw [ha] at h3; cases h3
    | some a => rfl
  · have h3 := of_decide_eq_true (List.all_eq_true.1 cat_20 p h1)
    omega
end
/-! ### The last ones -/
def lastGo (pf b : Int) : List ByteArray → Bool
  | [] => true
  | x :: l => bif !(lk x).2.1 then false else bif decide (pf ≤ pS (lk x).1) then false else bif decide (b = 1) then (bif !nestB (lk x).1 then false else lastGo pf b l) else lastGo pf b l
def lastS (j : K.s5.den) : Bool :=
  bif decide (4 < ((jL j).length : Int)) then false
  else bif decide (0 < ((jL j).length : Int)) && (decide (jB j = 3) || decide (jB j = 4)) then false
  else lastGo (pS (jF j)) (jB j) (jL j)
theorem last_loop (S : Seen) (j : K.s5.den) (hp : pS (jF j) ≤ 64) (hx : lenB (jL j)) (N : Nat) : ∀ (l : List ByteArray) (n m : Nat), (jL j).drop n = l → l.length < m →
    split_Last_g_l0 N @scheme_Panels @scheme_Find @spine_Nests j m (n : Int) = some (lastGo (pS (jF j)) (jB j) l)
  | [], n, m + 1, hl, hm => by
    show split_Last_g_b0 @scheme_Panels @scheme_Find @spine_Nests j (split_Last_g_l0 N @scheme_Panels @scheme_Find @spine_Nests j m) (n : Int) = _
    unfold split_Last_g_b0
    rw [lt_f (drop_nil hl)]; rfl
  | x :: l, n, m + 1, hl, hm => by
    obtain ⟨h1, h2, h3⟩ := drop_cons hl
    have ih := last_loop S j hp hx N l (n + 1) m h3 (by simpa using hm)
    show split_Last_g_b0 @scheme_Panels @scheme_Find @spine_Nests j (split_Last_g_l0 N @scheme_Panels @scheme_Find @spine_Nests j m) (n : Int) = _
    unfold split_Last_g_b0
    rw [lt_t h1, ge_t, nth_at h2, Find1 S]
    unfold lenB at hx
    simp only [cond_true, Bool.and_self, Option.bind_some, scheme_Panels_eq]
    rw [wr_n (by omega), ih, lastGo]
    cases hf : (lk x).2.1 with
    | false => rfl
    | true =>
      simp only [Bool.not_true, cond_false]
      by_cases h4 : pS (jF j) ≤ pS (lk x).1
      · rw [dt h4]; rfl
      · rw [df h4, nests S hf (by omega)]
        simp only [cond_false, Option.bind_some]
        cases decide (jB j = 1) <;> cases nestB (lk x).1 <;> rfl
  | _, _, 0, _, hm => absurd hm (by omega)
theorem fuel_lt {α : Type} {l : List α} (h : lenB l) : l.length < FUEL := by unfold FUEL; unfold lenB at h; omega
theorem split_Last_eq (S : Seen) (j : K.s5.den) (hp : pS (jF j) ≤ 64) (hx : lenB (jL j)) : split_Last j = some (lastS j) := by
  unfold split_Last split_Last_g split_Last_g_at split_Last_g_t lastS
  have h := last_loop S j hp hx FUEL (jL j) 0 FUEL rfl (fuel_lt hx)
  have h : split_Last_g_l0 FUEL @scheme_Panels @scheme_Find @spine_Nests j FUEL 0 = _ := h
  rw [h]
  cases decide (4 < ((jL j).length : Int)) <;> cases decide (0 < ((jL j).length : Int)) <;> cases decide (jB j = 3) <;> cases decide (jB j = 4) <;> rfl
end Go.Pv.X
