/- Plain laws: the document's steps. -/
import Derived.Test.YtdfdainmpklkiaaGreatDoorQ1
import Derived.Test.YtdfdainmpklkiaaGreatDoorQ2
import Derived.Test.YtdfdainmpklkiaaGreatDoorQ3
import Derived.Test.YtdfdainmpklkiaaGreatDoorQ5
import Derived.Test.YtdfdainmpklkiaaGreatDoorQ6
import Derived.Test.YtdfdainmpklkiaaGreatDoorC0
import Derived.Test.YtdfdainmpklkiaaGreatDoorQ7
set_option linter.unusedVariables false
set_option linter.unusedSimpArgs false
namespace Go.Pv.X
open Go.Proofs
theorem ref11_Right_eq (s : K.s7.den) : ref11_Right s = some (stepS s) := by
  unfold ref11_Right ref11_Right_g stepS
  rw [ref01_In_eq, ref01_In_eq]
  cases inS s.1 1 4 <;> rfl
theorem ref_after_I (c r a n : Int) (k : Int → Int → Option K.s7.den) (hc : 1 ≤ c ∧ c ≤ 9223372036854775807) (hr : 1 ≤ r ∧ r ≤ 9223372036854775807) :
    (bif !(inS a 1 4 && inS n 1 64) then some ((0 : Int), (0 : Int), false, ())
    else bif decide (a ≤ 2) then bif decide (IntKind.i64.wrap (c - n) < n) then some ((0 : Int), (0 : Int), false, ())
      else k (IntKind.i64.wrap (c - n)) r
    else bif decide (IntKind.i64.wrap (r - n) < n) then some ((0 : Int), (0 : Int), false, ())
    else k c (IntKind.i64.wrap (r - n))) = match aftI c r a n with | some p => k p.1 p.2 | none => some (outS none) := by
  unfold aftI
  cases hs : (inS a 1 4 && inS n 1 64) with
  | false => rfl
  | true =>
    rw [Bool.and_eq_true, inS_t, inS_t] at hs
    simp only [Bool.not_true, cond_false, cond_true]
    rw [wr (z := c - n) (by omega) (by omega), wr (z := r - n) (by omega) (by omega)]
    cases decide (a ≤ 2) with
    | true =>
      simp only [cond_true]
      by_cases h2 : n ≤ c - n
      · rw [dt h2, df (by omega)]; rfl
      · rw [df h2, dt (by omega)]; rfl
    | false =>
      simp only [cond_false]
      by_cases h2 : n ≤ r - n
      · rw [dt h2, df (by omega)]; rfl
      · rw [df h2, dt (by omega)]; rfl
theorem after_loop (x0 x1 : Int) (xs : List K.s7.den) (hx : (xs.length : Int) ≤ 9223372036854775807) : ∀ (l : List K.s7.den) (n m : Nat) (c r : Int), xs.drop n = l → l.length < m → (1 ≤ c ∧ c ≤ 9223372036854775807) → (1 ≤ r ∧ r ≤ 9223372036854775807) → ∀ N,
    ref11_After_g_l0 N @ref11_Right x0 x1 xs m c r (n : Int) = some (outS (goS c r l))
  | [], n, m + 1, c, r, hl, hm, hc, hr, N => by
    show ref11_After_g_b0 @ref11_Right x0 x1 xs (ref11_After_g_l0 N @ref11_Right x0 x1 xs m) c r (n : Int) = _
    unfold ref11_After_g_b0
    rw [lt_f (drop_nil hl)]; rfl
  | s :: l, n, m + 1, c, r, hl, hm, hc, hr, N => by
    obtain ⟨h1, h2, h3⟩ := drop_cons hl
    show ref11_After_g_b0 @ref11_Right x0 x1 xs (ref11_After_g_l0 N @ref11_Right x0 x1 xs m) c r (n : Int) = _
    unfold ref11_After_g_b0
    rw [lt_t h1, ge_t, nth_at h2, ref11_Right_eq]
    simp only [cond_true, Bool.and_self, Option.bind_some]
    rw [wr_n (by omega), goS]
    refine (ref_after_I c r s.1 s.2.1 (fun c r => ref11_After_g_l0 N @ref11_Right x0 x1 xs m c r ((n + 1 : Nat) : Int)) hc hr).trans ?_
    show (match aftS c r s with | some p => _ | none => _) = _
    cases h : aftS c r s with
    | none => rfl
    | some p =>
      obtain ⟨q1, q2⟩ := aftS_bd h hc hr
      exact after_loop x0 x1 xs hx l (n + 1) m p.1 p.2 h3 (by simpa using hm) q1 q2 N
  | _, _, 0, _, _, _, hm, _, _, _ => absurd hm (by omega)
theorem ref11_After_eq (c r : Int) (l : List K.s7.den) (hl : lenB l) (hc : c ≤ 9223372036854775807) (hr : r ≤ 9223372036854775807) :
    ref11_After c r l = some (bif decide (1 ≤ c) && decide (1 ≤ r) then outS (goS c r l) else (0, 0, false, ())) := by
  unfold ref11_After ref11_After_g ref11_After_g_at ref11_After_g_t
  by_cases h1 : 1 ≤ c
  · by_cases h2 : 1 ≤ r
    · rw [df (show ¬ c < 1 by omega), df (show ¬ r < 1 by omega), dt h1, dt h2]
      exact after_loop c r l hl l 0 FUEL c r rfl (by unfold FUEL; unfold lenB at hl; omega) ⟨h1, hc⟩ ⟨h2, hr⟩ FUEL
    · rw [df (show ¬ c < 1 by omega), dt (show r < 1 by omega), df h2, Bool.and_false]; rfl
  · rw [dt (show c < 1 by omega), df h1]; rfl
theorem ref11_Fine_eq (s : K.s4.den) (hl : lenB s.2.2.1) (hc : s.1 ≤ 9223372036854775807) (hr : s.2.1 ≤ 9223372036854775807) : ref11_Fine s = some (rightS s) := by
  unfold ref11_Fine ref11_Fine_g rightS
  rw [ref11_After_eq _ _ _ hl hc hr, ref11_Panels_eq]
  simp only [Option.bind_some, ref01_In_eq]
  cases h1 : (decide (1 ≤ s.1) && decide (1 ≤ s.2.1)) with
  | false =>
    have : pS s = 0 := Classical.byContradiction fun h => by
      obtain ⟨h3, h4⟩ := pS_1 h
      rw [dt h3.1, dt h4.1] at h1; cases h1
    rw [this]; rfl
  | true =>
    simp only [cond_true]
    cases h2 : goS s.1 s.2.1 s.2.2.1 with
    | none => cases inS (pS s) 1 64 <;> cases decide (s.2.2.1.length ≤ 6) <;> rfl
    | some p =>
      obtain ⟨a, b⟩ := p
      show (bif (bif decide (a = 1) then decide (b = 1) else false) then some (bif inS (pS s) 1 64 then decide ((s.2.2.1.length : Int) ≤ 6) else false) else some false) = _
      have h3 : decide ((s.2.2.1.length : Int) ≤ 6) = decide (s.2.2.1.length ≤ 6) := by
        by_cases h : s.2.2.1.length ≤ 6
        · rw [dt h, dt (by omega)]
        · rw [df h, df (by omega)]
      rw [h3]
      by_cases h4 : a = 1
      · by_cases h5 : b = 1
        · rw [dt h4, dt h5, dt (show some (a, b) = some ((1 : Int), (1 : Int)) by rw [h4, h5])]
          cases inS (pS s) 1 64 <;> cases decide (s.2.2.1.length ≤ 6) <;> rfl
        · rw [dt h4, df h5, df (show ¬ some (a, b) = some ((1 : Int), (1 : Int)) by simp [h5])]
          cases inS (pS s) 1 64 <;> cases decide (s.2.2.1.length ≤ 6) <;> rfl
      · rw [df h4, df (show ¬ some (a, b) = some ((1 : Int), (1 : Int)) by simp [h4])]
        cases inS (pS s) 1 64 <;> cases decide (s.2.2.1.length ≤ 6) <;> rfl
theorem ref17_Folds_eq (j : K.s5.den) (hw : Wf j) : ref17_Folds j = some (foldsS j) := by
  unfold ref17_Folds ref17_Folds_g foldsS
  rw [ref11_Fine_eq _ hw.steps hw.cols hw.rows, ref11_Panels_eq]
  simp only [Option.bind_some, ref01_In_eq, len0]
  cases decide (jB j = 3) <;> cases decide ((jF j).2.2.1.length = 0) <;> rfl
/-- What is shown by reckoning alone, of the document's folding. -/
structure Both : Prop where
  ne : ((cat.take 20).all fun p => bothB (spine_Nests p.2) (ref13_Nests p.2)) = true
theorem refNests (S : Seen) (B : Both) {x : ByteArray} (h : (lk x).2.1 = true) (hp : pS (lk x).1 < 64) : ref13_Nests (lk x).1 = some (nestB (lk x).1) := by
  obtain ⟨p, h1, h2⟩ := lkIn_mem h
  have h2 : (lk x).1 = p.2 := h2
  rw [h2] at hp ⊢
  rw [← List.take_append_drop 20 cat, List.mem_append] at h1
  rcases h1 with h1 | h1
  · have h3 := List.all_eq_true.1 B.ne p h1
    unfold nestB
    cases ha : spine_Nests p.2 with
    | none => rw [ha] at h3; cases h3
    | some a =>
      cases hb : ref13_Nests p.2 with
      | none => rw [ha, hb] at h3; cases h3
      | some b =>
        rw [ha, hb] at h3
        have : a = b := by simpa [bothB] using h3
        rw [this]; rfl
  · have h3 := of_decide_eq_true (List.all_eq_true.1 cat_20 p h1)
    omega
theorem ref_last_loop (S : Seen) (B : Both) (j : K.s5.den) (hp : pS (jF j) ≤ 64) (hx : lenB (jL j)) (N : Nat) : ∀ (l : List ByteArray) (n m : Nat), (jL j).drop n = l → l.length < m →
    ref17_Last_g_l0 N @ref11_Panels @ref11_Find @ref13_Nests j m (n : Int) = some (lastGo (pS (jF j)) (jB j) l)
  | [], n, m + 1, hl, hm => by
    show ref17_Last_g_b0 @ref11_Panels @ref11_Find @ref13_Nests j (ref17_Last_g_l0 N @ref11_Panels @ref11_Find @ref13_Nests j m) (n : Int) = _
    unfold ref17_Last_g_b0
    rw [lt_f (drop_nil hl)]; rfl
  | x :: l, n, m + 1, hl, hm => by
    obtain ⟨h1, h2, h3⟩ := drop_cons hl
    have ih := ref_last_loop S B j hp hx N l (n + 1) m h3 (by simpa using hm)
    show ref17_Last_g_b0 @ref11_Panels @ref11_Find @ref13_Nests j (ref17_Last_g_l0 N @ref11_Panels @ref11_Find @ref13_Nests j m) (n : Int) = _
    unfold ref17_Last_g_b0
    rw [lt_t h1, ge_t, nth_at h2, Find2 S]
    unfold lenB at hx
    simp only [cond_true, Bool.and_self, Option.bind_some, ref11_Panels_eq]
    rw [wr_n (by omega), ih, lastGo]
    cases hf : (lk x).2.1 with
    | false => rfl
    | true =>
      simp only [Bool.not_true, cond_false]
      by_cases h4 : pS (jF j) ≤ pS (lk x).1
      · rw [dt h4]; rfl
      · rw [df h4, refNests S B hf (by omega)]
        simp only [cond_false, Option.bind_some]
        cases decide (jB j = 1) <;> cases nestB (lk x).1 <;> rfl
  | _, _, 0, _, hm => absurd hm (by omega)
theorem ref17_Last_eq (S : Seen) (B : Both) (j : K.s5.den) (hp : pS (jF j) ≤ 64) (hx : lenB (jL j)) : ref17_Last j = some (lastS j) := by
  unfold ref17_Last ref17_Last_g ref17_Last_g_at ref17_Last_g_t lastS
  have h := ref_last_loop S B j hp hx FUEL (jL j) 0 FUEL rfl (fuel_lt hx)
  have h : ref17_Last_g_l0 FUEL @ref11_Panels @ref11_Find @ref13_Nests j FUEL 0 = _ := h
  rw [h]
  have h34 : (decide (jB j = 3) || decide (jB j = 4)) = (decide ((3 : Int) ≤ jB j) && decide (jB j ≤ 4)) := by
    by_cases h3 : jB j = 3
    · rw [dt h3, h3]; rfl
    · by_cases h4 : jB j = 4
      · rw [df h3, dt h4, h4]; rfl
      · rw [df h3, df h4]
        by_cases h5 : (3 : Int) ≤ jB j
        · rw [dt h5, df (show ¬ jB j ≤ 4 by omega)]; rfl
        · rw [df h5]; rfl
  rw [h34]
  cases decide (4 < ((jL j).length : Int)) <;> cases decide (0 < ((jL j).length : Int)) <;> cases decide ((3 : Int) ≤ jB j) <;> cases decide (jB j ≤ 4) <;> rfl
theorem ref_best_loop (S : Seen) (j : K.s5.den) (hx : lenB (jL j)) (N : Nat) (out : List K.s4.den) (ho : out.length ≤ 100000) (rest : Int) : ∀ (l : List ByteArray) (n m : Nat) (b : K.s4.den), (jL j).drop n = l → l.length < m →
    ref17_Of_g_l1 N @ref11_Panels @ref17_Folds @ref17_Last @ref11_Find @ref01_In j m out rest (n : Int) b.1 b.2.1 b.2.2.1 = some (out ++ [bestGo rest b l])
  | [], n, m + 1, b, hl, hm => by
    show ref17_Of_g_b1 @ref11_Panels @ref17_Folds @ref17_Last @ref11_Find @ref01_In j (ref17_Of_g_l1 N @ref11_Panels @ref17_Folds @ref17_Last @ref11_Find @ref01_In j m) out rest (n : Int) b.1 b.2.1 b.2.2.1 = _
    unfold ref17_Of_g_b1
    have hlim : lim K.s4 = 3518437208883 := rfl
    rw [lt_f (drop_nil hl), dt (show out.length + [((b.1, b.2.1, b.2.2.1, ()) : K.s4.den)].length < lim K.s4 by rw [hlim, List.length_cons, List.length_nil]; omega)]; rfl
  | x :: l, n, m + 1, b, hl, hm => by
    obtain ⟨h1, h2, h3⟩ := drop_cons hl
    have ih := fun b => ref_best_loop S j hx N out ho rest l (n + 1) m b h3 (by simpa using hm)
    show ref17_Of_g_b1 @ref11_Panels @ref17_Folds @ref17_Last @ref11_Find @ref01_In j (ref17_Of_g_l1 N @ref11_Panels @ref17_Folds @ref17_Last @ref11_Find @ref01_In j m) out rest (n : Int) b.1 b.2.1 b.2.2.1 = _
    unfold ref17_Of_g_b1
    rw [lt_t h1, ge_t, nth_at h2, Find2 S]
    unfold lenB at hx
    have hp := pS_le (lk x).1
    simp only [cond_true, Bool.and_self, Option.bind_some, ref11_Panels_eq]
    rw [wr_n (by omega), wr (z := 2 * pS (lk x).1) (by omega) (by omega), bestGo]
    have ih1 := ih (lk x).1
    have ih2 := ih b
    show (bif decide (rest ≤ 2 * pS (lk x).1) then bif decide (pS (lk x).1 < pS b) then _ else _ else _) = _
    rw [ih1, ih2]
    cases decide (rest ≤ 2 * pS (lk x).1) <;> cases decide (pS (lk x).1 < pS b) <;> rfl
  | _, _, 0, _, _, hm => absurd hm (by omega)
theorem ref_of_loop (S : Seen) (j : K.s5.den) (hx : lenB (jL j)) (hp : 1 ≤ pS (jF j) ∧ pS (jF j) ≤ 64) (N : Nat) (hN : (jL j).length < N) : ∀ (k m : Nat) (out : List K.s4.den) (rest : Int), (k : Int) * eachS j < rest → rest ≤ ((k : Int) + 1) * eachS j → rest ≤ 100000 → out.length + k ≤ 100000 → k < m →
    ref17_Of_g_l0 N @ref11_Panels @ref17_Folds @ref17_Last @ref11_Find @ref01_In j m out rest = some (out ++ (List.replicate k (jF j) ++ [bestGo (rest - (k : Int) * eachS j) (jF j) (jL j)]))
  | 0, m + 1, out, rest, h1, h2, h3, h4, hm => by
    show ref17_Of_g_b0 @ref11_Panels @ref17_Folds @ref17_Last @ref11_Find @ref01_In j (ref17_Of_g_l0 N @ref11_Panels @ref17_Folds @ref17_Last @ref11_Find @ref01_In j m) (ref17_Of_g_l1 N @ref11_Panels @ref17_Folds @ref17_Last @ref11_Find @ref01_In j N) out rest = _
    unfold ref17_Of_g_b0
    rw [ref11_Panels_eq]
    simp only [Option.bind_some]
    have he : eachS j = 2 * pS (jF j) := rfl
    rw [wr (z := 2 * pS (jF j)) (by omega) (by omega), ← he, df (show ¬ eachS j < rest by omega)]
    have := ref_best_loop S j hx N out (by omega) rest (jL j) 0 N (jF j) rfl hN
    have e0 : rest - ((0 : Nat) : Int) * eachS j = rest := by omega
    rw [e0]
    exact this
  | k + 1, m + 1, out, rest, h1, h2, h3, h4, hm => by
    show ref17_Of_g_b0 @ref11_Panels @ref17_Folds @ref17_Last @ref11_Find @ref01_In j (ref17_Of_g_l0 N @ref11_Panels @ref17_Folds @ref17_Last @ref11_Find @ref01_In j m) (ref17_Of_g_l1 N @ref11_Panels @ref17_Folds @ref17_Last @ref11_Find @ref01_In j N) out rest = _
    unfold ref17_Of_g_b0
    have he : eachS j = 2 * pS (jF j) := rfl
    have hlim : lim K.s4 = 3518437208883 := rfl
    have h5 : (((k + 1 : Nat) : Int)) * eachS j = (k : Int) * eachS j + eachS j := by rw [Int.natCast_add, Int.add_mul]; omega
    have h6 : (((k + 1 : Nat) : Int) + 1) * eachS j = ((k : Int) + 1) * eachS j + eachS j := by rw [Int.add_mul, Int.add_mul, h5]; omega
    have h7 : 0 ≤ (k : Int) * eachS j := Int.mul_nonneg (by omega) (by omega)
    rw [ref11_Panels_eq]
    simp only [Option.bind_some]
    rw [wr (z := 2 * pS (jF j)) (by omega) (by omega), ← he, dt (show eachS j < rest by omega), dt (show out.length + [jF j].length < lim K.s4 by rw [hlim, List.length_cons, List.length_nil]; omega), wr (z := rest - eachS j) (by omega) (by omega)]
    refine (ref_of_loop S j hx hp N hN k m (out ++ [jF j]) (rest - eachS j) (by omega) (by omega) (by omega) (by rw [List.length_append, List.length_cons, List.length_nil]; omega) (by omega)).trans ?_
    rw [List.append_assoc, show rest - eachS j - (k : Int) * eachS j = rest - ((k + 1 : Nat) : Int) * eachS j by omega]; rfl
  | _, 0, _, _, _, _, _, _, hm => absurd hm (by omega)
theorem ref17_Of_eq (S : Seen) (B : Both) (j : K.s5.den) (hw : Wf j) : ref17_Of j = some (allS j) := by
  unfold ref17_Of ref17_Of_g ref17_Of_g_at ref17_Of_g_t allS okS
  rw [ref17_Folds_eq j hw]
  cases hf : foldsS j with
  | false => rfl
  | true =>
    obtain ⟨h1, h2, h3⟩ := foldsS_p hf
    rw [ref17_Last_eq S B j h2 hw.last]
    cases hl : lastS j with
    | false => rfl
    | true =>
      simp only [Option.bind_some, ref01_In_eq, Bool.not_true, cond_false, Bool.true_and]
      cases hi : inS (jP j) 1 100000 with
      | false => rfl
      | true =>
        have hok : okS j = true := by unfold okS; rw [hf, hl, hi]; rfl
        obtain ⟨c1, c2, c3, c4⟩ := cntS_bd hok
        rw [inS_t] at hi
        have hc : (((cntS j - 1).toNat : Nat) : Int) = cntS j - 1 := by omega
        have := ref_of_loop S j hw.last ⟨h1, h2⟩ FUEL (fuel_lt hw.last) (cntS j - 1).toNat FUEL [] (jP j) (by rw [hc]; exact c3) (by rw [hc, show cntS j - 1 + 1 = cntS j by omega]; exact c4) hi.2 (by show 0 + _ ≤ _; omega) (by unfold FUEL; omega)
        rw [hc] at this
        exact this
def sumP : List K.s4.den → Int
  | [] => 0
  | s :: l => pS s + sumP l
theorem leaves_loop (xs : List K.s4.den) (hx : xs.length ≤ 200000) (N : Nat) : ∀ (l : List K.s4.den) (n m : Nat) (a : Int), xs.drop n = l → l.length < m → (0 ≤ a ∧ a ≤ 4096 * n) →
    ref17_Leaves_g_l0 N @ref11_Panels xs m a (n : Int) = some (a + sumP l)
  | [], n, m + 1, a, hl, hm, ha => by
    show ref17_Leaves_g_b0 @ref11_Panels xs (ref17_Leaves_g_l0 N @ref11_Panels xs m) a (n : Int) = _
    unfold ref17_Leaves_g_b0
    rw [lt_f (drop_nil hl), sumP, Int.add_zero]; rfl
  | s :: l, n, m + 1, a, hl, hm, ha => by
    obtain ⟨h1, h2, h3⟩ := drop_cons hl
    show ref17_Leaves_g_b0 @ref11_Panels xs (ref17_Leaves_g_l0 N @ref11_Panels xs m) a (n : Int) = _
    unfold ref17_Leaves_g_b0
    have hp := pS_le s
    rw [lt_t h1, ge_t, nth_at h2, ref11_Panels_eq]
    simp only [cond_true, Bool.and_self, Option.bind_some]
    rw [wr_n (by omega), wr (by omega) (by omega), leaves_loop xs hx N l (n + 1) m (a + pS s) h3 (by simpa using hm) (by omega), sumP, Int.add_assoc]
  | _, _, 0, _, _, hm, _ => absurd hm (by omega)
theorem ref17_Leaves_eq (xs : List K.s4.den) (hx : xs.length ≤ 200000) : ref17_Leaves xs = some (sumP xs) := by
  unfold ref17_Leaves ref17_Leaves_g ref17_Leaves_g_at ref17_Leaves_g_t
  have := leaves_loop xs hx FUEL xs 0 FUEL 0 rfl (by unfold FUEL; omega) (by omega)
  rw [Int.zero_add] at this
  exact this
theorem sumP_rep (s b : K.s4.den) : ∀ k : Nat, sumP (List.replicate k s ++ [b]) = (k : Int) * pS s + pS b
  | 0 => by show pS b + 0 = _; omega
  | k + 1 => by
    show pS s + sumP (List.replicate k s ++ [b]) = _
    rw [sumP_rep s b k, Int.natCast_add, Int.add_mul]; omega
theorem sumP_all (j : K.s5.den) : sumP (allS j) = bif okS j then leavesS j else 0 := by
  unfold allS
  cases h : okS j with
  | false => rfl
  | true =>
    have hb := cntS_bd h
    show sumP (List.replicate _ _ ++ _) = leavesS j
    rw [sumP_rep, show (((cntS j - 1).toNat : Nat) : Int) = cntS j - 1 by omega]; rfl
/-! ### A scheme is itself -/
theorem same_loop (s : K.s4.den) (hx : lenB s.2.2.1) (N : Nat) : ∀ (l : List K.s7.den) (n m : Nat), s.2.2.1.drop n = l → l.length < m → ref11_Same_g_l0 N s s m (n : Int) = some true
  | [], n, m + 1, hl, hm => by
    show ref11_Same_g_b0 s s (ref11_Same_g_l0 N s s m) (n : Int) = _
    unfold ref11_Same_g_b0
    rw [lt_f (drop_nil hl)]; rfl
  | x :: l, n, m + 1, hl, hm => by
    obtain ⟨h1, h2, h3⟩ := drop_cons hl
    show ref11_Same_g_b0 s s (ref11_Same_g_l0 N s s m) (n : Int) = _
    unfold ref11_Same_g_b0
    unfold lenB at hx
    rw [lt_t h1, ge_t, nth_at h2, wr_n (by omega), same_loop s hx N l (n + 1) m h3 (by simpa using hm), dt (rfl : x.1 = x.1), dt (rfl : x.2.1 = x.2.1), beq_self_eq_true]
    rfl
  | _, _, 0, _, hm => absurd hm (by omega)
theorem ref11_Same_self (s : K.s4.den) (hx : lenB s.2.2.1) : ref11_Same s s = some true := by
  unfold ref11_Same ref11_Same_g ref11_Same_g_at ref11_Same_g_t
  rw [dt (rfl : s.1 = s.1), dt (rfl : s.2.1 = s.2.1), dt (rfl : (s.2.2.1.length : Int) = (s.2.2.1.length : Int))]
  exact same_loop s hx FUEL s.2.2.1 0 FUEL rfl (fuel_lt hx)
theorem lenB_6 {s : K.s4.den} (h : s.2.2.1.length ≤ 6) : lenB s.2.2.1 := by unfold lenB; omega
theorem allS_at {j : K.s5.den} (h : okS j = true) {n : Nat} (hn : (n : Int) < cntS j) : (allS j)[n]? = some (bif decide ((n : Int) = cntS j - 1) then bestS j else jF j) := by
  have hb := cntS_bd h
  unfold allS
  rw [h]
  simp only [cond_true]
  by_cases h1 : (n : Int) = cntS j - 1
  · rw [dt h1, List.getElem?_append_right (by rw [List.length_replicate]; omega), List.length_replicate, show n - (cntS j - 1).toNat = 0 by omega]; rfl
  · rw [df h1, List.getElem?_append_left (by rw [List.length_replicate]; omega), List.getElem?_replicate, if_pos (by omega)]; rfl
theorem tells_loop (S : Seen) (B : Both) (j : K.s5.den) (hw : Wf j) (i : Int) (N : Nat) : ∀ (d n m : Nat), n + d = (allS j).length → d < m →
    law17_SplitTells_g_l0 N @law17_alive @split_Count @split_Leaves @ref15_Light @split_Folds @ref17_Folds @split_Last @ref17_Last @split_Of @ref17_Of @ref17_Leaves @split_At @ref11_Same j i m (allS j) (allS j) (n : Int) = some true
  | 0, n, m + 1, hd, hm => by
    show law17_SplitTells_g_b0 @law17_alive @split_Count @split_Leaves @ref15_Light @split_Folds @ref17_Folds @split_Last @ref17_Last @split_Of @ref17_Of @ref17_Leaves @split_At @ref11_Same j i (law17_SplitTells_g_l0 N @law17_alive @split_Count @split_Leaves @ref15_Light @split_Folds @ref17_Folds @split_Last @ref17_Last @split_Of @ref17_Of @ref17_Leaves @split_At @ref11_Same j i m) (allS j) (allS j) (n : Int) = _
    unfold law17_SplitTells_g_b0
    have hlen := allS_len j
    have hz : ref11_Same ((0 : Int), (0 : Int), ([] : List K.s7.den), ()) ((0 : Int), (0 : Int), ([] : List K.s7.den), ()) = some true := ref11_Same_self noS (by unfold lenB; decide)
    rw [lt_f (by omega), split_At_eq S j hw i, hlen]
    simp only [cond_false, Option.bind_some]
    cases h : okS j with
    | false =>
      simp only [Bool.false_and, cond_false]
      by_cases h0 : 0 ≤ i
      · rw [dt h0, df (show ¬ i < 0 by omega)]; exact congrArg (Option.bind · _) hz
      · rw [df h0]; exact congrArg (Option.bind · _) hz
    | true =>
      simp only [Bool.true_and, cond_true]
      by_cases h0 : 0 ≤ i
      · by_cases h1 : i < cntS j
        · rw [dt h0, dt h1]; rfl
        · rw [dt h0, df h1]; exact congrArg (Option.bind · _) hz
      · rw [df h0]; exact congrArg (Option.bind · _) hz
  | d + 1, n, m + 1, hd, hm => by
    show law17_SplitTells_g_b0 @law17_alive @split_Count @split_Leaves @ref15_Light @split_Folds @ref17_Folds @split_Last @ref17_Last @split_Of @ref17_Of @ref17_Leaves @split_At @ref11_Same j i (law17_SplitTells_g_l0 N @law17_alive @split_Count @split_Leaves @ref15_Light @split_Folds @ref17_Folds @split_Last @ref17_Last @split_Of @ref17_Of @ref17_Leaves @split_At @ref11_Same j i m) (allS j) (allS j) (n : Int) = _
    unfold law17_SplitTells_g_b0
    have hlen := allS_len j
    cases h : okS j with
    | false => rw [h] at hlen; simp only [cond_false] at hlen; omega
    | true =>
      rw [h] at hlen
      simp only [cond_true] at hlen
      have hb := cntS_bd h
      have hn : (n : Int) < cntS j := by omega
      have hat := allS_at h hn
      have hs : ref11_Same (bif decide ((n : Int) = cntS j - 1) then bestS j else jF j) (bif decide ((n : Int) = cntS j - 1) then bestS j else jF j) = some true := by
        cases decide ((n : Int) = cntS j - 1) with
        | true => exact ref11_Same_self _ (lenB_6 (bestS_le h))
        | false => exact ref11_Same_self _ (lenB_6 (okS_spec h).2.1)
      rw [lt_t (show n < (allS j).length by omega), split_At_eq S j hw (n : Int), h, ge_t, dt hn, nth_at hat, wr_n (by omega), tells_loop S B j hw i N d (n + 1) m (by omega) (by omega)]
      simp only [Bool.and_self, cond_true, Option.bind_some, Bool.not_true, cond_false, hs]
  | _, _, 0, _, hm => absurd hm (by omega)
theorem tells_law (S : Seen) (B : Both) (j : K.s5.den) (i : Int) (hw : Wf j) : law17_SplitTells j i = some true := by
  unfold law17_SplitTells law17_SplitTells_g law17_SplitTells_g_at law17_SplitTells_g_t
  obtain ⟨lb, hlb⟩ := ref15_Light_some j hw.last
  have hlen := allS_len j
  have hl2 : (allS j).length ≤ 200000 := by
    cases h : okS j with
    | false => rw [h] at hlen; simp only [cond_false] at hlen; omega
    | true => have := cntS_bd h; rw [h] at hlen; simp only [cond_true] at hlen; omega
  have hloop := tells_loop S B j hw i FUEL (allS j).length 0 FUEL (by omega) (by unfold FUEL; omega)
  have hloop : law17_SplitTells_g_l0 FUEL @law17_alive @split_Count @split_Leaves @ref15_Light @split_Folds @ref17_Folds @split_Last @ref17_Last @split_Of @ref17_Of @ref17_Leaves @split_At @ref11_Same j i FUEL (allS j) (allS j) 0 = some true := hloop
  refine (congrArg (Option.bind · _) S.al).trans ?_
  refine (congrArg (Option.bind · _) hlb).trans ?_
  cases lb with
  | false => rfl
  | true =>
    have hcnt : split_Count j = some ((allS j).length : Int) := by rw [split_Count_eq S j hw, hlen]
    have hlv : split_Leaves j = some (sumP (allS j)) := by rw [split_Leaves_eq S j hw, sumP_all]
    have hrest : (Option.bind (split_Of j) fun r8 => Option.bind (ref17_Of j) fun r9 => bif !(decide ((r8.length : Int) = (r9.length : Int))) then some false else Option.bind (split_Count j) fun r10 => bif !(decide (r10 = (r9.length : Int))) then some false else
        Option.bind (split_Leaves j) fun r11 => Option.bind (ref17_Leaves r9) fun r12 => bif !(decide (r11 = r12)) then some false else law17_SplitTells_g_l0 FUEL @law17_alive @split_Count @split_Leaves @ref15_Light @split_Folds @ref17_Folds @split_Last @ref17_Last @split_Of @ref17_Of @ref17_Leaves @split_At @ref11_Same j i FUEL r8 r9 0) = some true := by
      refine (congrArg (Option.bind · _) (split_Of_eq S j hw)).trans ?_
      refine (congrArg (Option.bind · _) (ref17_Of_eq S B j hw)).trans ?_
      show (bif !(decide (((allS j).length : Int) = ((allS j).length : Int))) then _ else Option.bind (split_Count j) _) = _
      rw [dt (rfl : ((allS j).length : Int) = ((allS j).length : Int))]
      refine (congrArg (Option.bind · _) hcnt).trans ?_
      show (bif !(decide (((allS j).length : Int) = ((allS j).length : Int))) then _ else Option.bind (split_Leaves j) _) = _
      rw [dt (rfl : ((allS j).length : Int) = ((allS j).length : Int))]
      refine (congrArg (Option.bind · _) hlv).trans ?_
      refine (congrArg (Option.bind · _) (ref17_Leaves_eq _ hl2)).trans ?_
      show (bif !(decide (sumP (allS j) = sumP (allS j))) then _ else _) = _
      rw [dt (rfl : sumP (allS j) = sumP (allS j))]
      exact hloop
    refine (congrArg (Option.bind · _) (split_Folds_eq j)).trans ?_
    refine (congrArg (Option.bind · _) (ref17_Folds_eq j hw)).trans ?_
    show (bif !(foldsS j == foldsS j) then _ else Option.bind (ref17_Folds j) _) = _
    rw [beq_self_eq_true]
    refine (congrArg (Option.bind · _) (ref17_Folds_eq j hw)).trans ?_
    cases hf : foldsS j with
    | false => exact hrest
    | true =>
      obtain ⟨h1, h2, h3⟩ := foldsS_p hf
      refine (congrArg (Option.bind · _) (split_Last_eq S j h2 hw.last)).trans ?_
      refine (congrArg (Option.bind · _) (ref17_Last_eq S B j h2 hw.last)).trans ?_
      show (bif !(lastS j == lastS j) then _ else _) = _
      rw [beq_self_eq_true]
      exact hrest
set_option maxRecDepth 1000000 in
theorem nests_all : ((cat.take 20).all fun p => bothB (spine_Nests p.2) (ref13_Nests p.2)) = true := by kernel_rfl
theorem splitTells_true (x : denL [K.s5, .int .i64]) (h : wfL [K.s5, .int .i64] x) : law17_SplitTells x.1 x.2.1 = some true := tells_law seen ⟨nests_all⟩ x.1 x.2.1 (wf_job h.1)
end Go.Pv.X
