/- Plain laws: SplitBlanks and SplitLast answer true. -/
import Derived.Test.YtdfdainmpklkiaaGreatDoorQ5
set_option linter.unusedVariables false
set_option linter.unusedSimpArgs false
namespace Go.Pv.X
open Go.Proofs
theorem plan_facts {j : K.s5.den} (h : okS j = true) : eachS j = 2 * pS (jF j) ∧ (1 ≤ restS j ∧ restS j ≤ eachS j) ∧ restS j ≤ 2 * pS (bestS j) ∧ pS (bestS j) ≤ pS (jF j) ∧ (1 ≤ pS (jF j) ∧ pS (jF j) ≤ 64) ∧ (1 ≤ jP j ∧ jP j ≤ 100000) ∧ (1 ≤ cntS j ∧ cntS j ≤ 100000) ∧
    (cntS j - 1) * eachS j = jP j - restS j ∧ cntS j * eachS j = jP j - restS j + eachS j ∧ (cntS j - 1) * pS (jF j) * 2 = jP j - restS j ∧ leavesS j * 2 = jP j - restS j + 2 * pS (bestS j) := by
  obtain ⟨h1, h2, h3, h4, h5⟩ := okS_spec h
  obtain ⟨b1, b2, b3, b4⟩ := bestGo_spec (restS j) (jL j) (jF j) h2
  obtain ⟨c1, c2, c3, c4⟩ := cntS_bd h
  obtain ⟨r1, r2⟩ := restS_bd h
  have he : eachS j = 2 * pS (jF j) := rfl
  have hm : (cntS j - 1) * eachS j = jP j - restS j := by unfold restS; omega
  have hm2 : cntS j * eachS j = jP j - restS j + eachS j := by rw [Int.sub_mul] at hm; omega
  have hm3 : (cntS j - 1) * pS (jF j) * 2 = jP j - restS j := by rw [← hm, he, Int.mul_assoc, Int.mul_comm (pS (jF j)) 2]
  refine ⟨he, ⟨r1, r2⟩, b3 (by omega), b2, h1, h3, ⟨c1, c2⟩, hm, hm2, hm3, ?_⟩
  unfold leavesS
  omega
theorem blanks_law (S : Seen) (j : K.s5.den) (hw : Wf j) : law17_SplitBlanks j = some true := by
  unfold law17_SplitBlanks law17_SplitBlanks_g split_Blanks split_Blanks_g
  rw [S.al, split_Leaves_eq S j hw, split_Count_eq S j hw, ref11_Panels_eq]
  simp only [Option.bind_some, Bool.not_true, cond_false]
  cases h : okS j with
  | false => rfl
  | true =>
    obtain ⟨he, hr, hr2, hb, hp, hP, hc, hm, hm2, hm3, hl⟩ := plan_facts h
    simp only [cond_true]
    show (Option.bind (bif decide (leavesS j = 0) then some (0 : Int) else some (IntKind.i64.wrap (IntKind.i64.wrap (2 * leavesS j) - jP j))) fun r2 =>
      bif decide (cntS j = 0) then some (decide (r2 = 0)) else bif decide (0 ≤ r2) then bif decide (r2 < IntKind.i64.wrap (2 * pS (jF j))) then
        bif decide (IntKind.i64.wrap (2 * leavesS j) = IntKind.i64.wrap (jP j + r2)) then bif decide (IntKind.i64.wrap (IntKind.i64.wrap (cntS j - 1) * IntKind.i64.wrap (2 * pS (jF j))) < jP j) then some (decide (jP j ≤ IntKind.i64.wrap (cntS j * IntKind.i64.wrap (2 * pS (jF j))))) else some false else some false else some false else some false) = _
    rw [df (show ¬ leavesS j = 0 by omega), wr (z := 2 * leavesS j) (by omega) (by omega), wr (z := 2 * leavesS j - jP j) (by omega) (by omega)]
    simp only [cond_false, Option.bind_some]
    rw [df (show ¬ cntS j = 0 by omega), dt (show 0 ≤ 2 * leavesS j - jP j by omega), wr (z := 2 * pS (jF j)) (by omega) (by omega), dt (show 2 * leavesS j - jP j < 2 * pS (jF j) by omega), wr (z := jP j + (2 * leavesS j - jP j)) (by omega) (by omega),
      dt (show 2 * leavesS j = jP j + (2 * leavesS j - jP j) by omega), wr (z := cntS j - 1) (by omega) (by omega), ← he, hm, hm2, wr (z := jP j - restS j) (by omega) (by omega), wr (z := jP j - restS j + eachS j) (by omega) (by omega),
      dt (show jP j - restS j < jP j by omega), dt (show jP j ≤ jP j - restS j + eachS j by omega)]
    rfl
theorem last_law_loop (S : Seen) (j : K.s5.den) (hx : lenB (jL j)) (s : K.s4.den) (rest : Int) (hs : ∀ x ∈ jL j, pS (lk x).1 < pS s → rest ≤ 2 * pS (lk x).1 → False) (N : Nat) : ∀ (l : List ByteArray) (n m : Nat), (jL j).drop n = l → l.length < m →
    law17_SplitLast_g_l0 N @law17_alive @ref11_Panels @split_Count @ref15_Light @split_At @ref11_Find j m rest (n : Int) s.1 s.2.1 s.2.2.1 = some true
  | [], n, m + 1, hl, hm => by
    show law17_SplitLast_g_b0 @law17_alive @ref11_Panels @split_Count @ref15_Light @split_At @ref11_Find j (law17_SplitLast_g_l0 N @law17_alive @ref11_Panels @split_Count @ref15_Light @split_At @ref11_Find j m) rest (n : Int) s.1 s.2.1 s.2.2.1 = _
    unfold law17_SplitLast_g_b0
    rw [lt_f (drop_nil hl)]; rfl
  | x :: l, n, m + 1, hl, hm => by
    obtain ⟨h1, h2, h3⟩ := drop_cons hl
    have ih := last_law_loop S j hx s rest hs N l (n + 1) m h3 (by simpa using hm)
    show law17_SplitLast_g_b0 @law17_alive @ref11_Panels @split_Count @ref15_Light @split_At @ref11_Find j (law17_SplitLast_g_l0 N @law17_alive @ref11_Panels @split_Count @ref15_Light @split_At @ref11_Find j m) rest (n : Int) s.1 s.2.1 s.2.2.1 = _
    unfold law17_SplitLast_g_b0
    rw [lt_t h1, ge_t, nth_at h2, Find2 S]
    unfold lenB at hx
    have hp := pS_le (lk x).1
    simp only [cond_true, Bool.and_self, Option.bind_some, ref11_Panels_eq]
    rw [wr_n (by omega), ih, wr (z := 2 * pS (lk x).1) (by omega) (by omega)]
    show (bif decide (pS (lk x).1 < pS s) then bif decide (rest ≤ 2 * pS (lk x).1) then some false else some true else some true) = some true
    by_cases h4 : pS (lk x).1 < pS s
    · rw [dt h4, df (show ¬ rest ≤ 2 * pS (lk x).1 from fun h5 => hs x (List.mem_of_getElem? h2) h4 h5)]; rfl
    · rw [df h4]; rfl
  | _, _, 0, _, hm => absurd hm (by omega)
theorem last_law (S : Seen) (j : K.s5.den) (hw : Wf j) : law17_SplitLast j = some true := by
  unfold law17_SplitLast law17_SplitLast_g law17_SplitLast_g_at law17_SplitLast_g_t
  refine (congrArg (Option.bind · _) S.al).trans ?_
  obtain ⟨lb, hlb⟩ := ref15_Light_some j hw.last
  have hcnt := split_Count_eq S j hw
  cases h : okS j with
  | false =>
    rw [h] at hcnt
    rw [hcnt]; rfl
  | true =>
    rw [h] at hcnt
    have hcnt : split_Count j = some (cntS j) := hcnt
    obtain ⟨he, hr, hr2, hb, hp, hP, hc, hm, hm2, hm3, hl⟩ := plan_facts h
    rw [hcnt, hlb]
    show (bif decide (cntS j = 0) then some true else bif !lb then some true else Option.bind (split_At j (IntKind.i64.wrap (cntS j - 1))) fun r4 => _) = _
    rw [df (show ¬ cntS j = 0 by omega)]
    cases lb with
    | false => rfl
    | true =>
      have hz : IntKind.i64.wrap (cntS j - 1) = cntS j - 1 := wr (by omega) (by omega)
      have hat : split_At j (IntKind.i64.wrap (cntS j - 1)) = some (bestS j, true, ()) := by
        rw [hz, split_At_eq S j hw, h, dt (show 0 ≤ cntS j - 1 by omega), dt (show cntS j - 1 < cntS j by omega), dt (rfl : cntS j - 1 = cntS j - 1)]; rfl
      have hb0 := pS_le (bestS j)
      have e1 : (cntS j - 1) * 2 * pS (jF j) = jP j - restS j := by rw [Int.mul_assoc]; exact hm
      have e2 : IntKind.i64.wrap (jP j - IntKind.i64.wrap (IntKind.i64.wrap (IntKind.i64.wrap (cntS j - 1) * 2) * pS (jF j))) = restS j := by
        rw [hz, wr (z := (cntS j - 1) * 2) (by omega) (by omega), e1, wr (z := jP j - restS j) (by omega) (by omega), show jP j - (jP j - restS j) = restS j by omega, wr (z := restS j) (by omega) (by omega)]
      refine (congrArg (Option.bind · _) hat).trans ?_
      refine (congrArg (Option.bind · _) (ref11_Panels_eq (jF j))).trans ?_
      refine (congrArg (Option.bind · _) (ref11_Panels_eq (bestS j))).trans ?_
      show (bif decide (IntKind.i64.wrap (2 * pS (bestS j)) < IntKind.i64.wrap (jP j - IntKind.i64.wrap (IntKind.i64.wrap (IntKind.i64.wrap (cntS j - 1) * 2) * pS (jF j)))) then some false else law17_SplitLast_g_l0 FUEL @law17_alive @ref11_Panels @split_Count @ref15_Light @split_At @ref11_Find j FUEL (IntKind.i64.wrap (jP j - IntKind.i64.wrap (IntKind.i64.wrap (IntKind.i64.wrap (cntS j - 1) * 2) * pS (jF j)))) 0 (bestS j).1 (bestS j).2.1 (bestS j).2.2.1) = _
      rw [e2, wr (z := 2 * pS (bestS j)) (by omega) (by omega), df (show ¬ 2 * pS (bestS j) < restS j by omega)]
      exact last_law_loop S j hw.last (bestS j) (restS j) (bestGo_spec (restS j) (jL j) (jF j) (okS_spec h).2.1).2.2.2 FUEL (jL j) 0 FUEL rfl (fuel_lt hw.last)
end Go.Pv.X
