/- Plain laws: a job's signatures. -/
import Derived.Test.YtdfdainmpklkiaaGreatDoorQ3
set_option linter.unusedVariables false
set_option linter.unusedSimpArgs false
namespace Go.Pv.X
open Go.Proofs
def bestGo (rest : Int) : K.s4.den → List ByteArray → K.s4.den
  | b, [] => b
  | b, x :: l => bestGo rest (bif decide (rest ≤ 2 * pS (lk x).1) && decide (pS (lk x).1 < pS b) then (lk x).1 else b) l
def eachS (j : K.s5.den) : Int := 2 * pS (jF j)
def cntS (j : K.s5.den) : Int := (jP j + eachS j - 1) / eachS j
def restS (j : K.s5.den) : Int := jP j - (cntS j - 1) * eachS j
def bestS (j : K.s5.den) : K.s4.den := bestGo (restS j) (jF j) (jL j)
def okS (j : K.s5.den) : Bool := foldsS j && (lastS j && inS (jP j) 1 100000)
def noS : K.s4.den := (0, 0, [], ())
def planS (j : K.s5.den) : K.s6.den := bif okS j then (cntS j, bestS j, ()) else (0, noS, ())
theorem okS_spec {j : K.s5.den} (h : okS j = true) : (1 ≤ pS (jF j) ∧ pS (jF j) ≤ 64) ∧ (jF j).2.2.1.length ≤ 6 ∧ (1 ≤ jP j ∧ jP j ≤ 100000) ∧ foldsS j = true ∧ lastS j = true := by
  unfold okS at h
  rw [Bool.and_eq_true, Bool.and_eq_true, inS_t] at h
  obtain ⟨h1, h2, h3⟩ := foldsS_p h.1
  exact ⟨⟨h1, h2⟩, h3, h.2.2, h.1, h.2.1⟩
/-- How many there are, times what each takes. -/
theorem cnt_bd {P e : Int} (he : 2 ≤ e ∧ e ≤ 128) (hP : 1 ≤ P ∧ P ≤ 100000) : 1 ≤ (P + e - 1) / e ∧ (P + e - 1) / e ≤ 100000 ∧ ((P + e - 1) / e - 1) * e < P ∧ P ≤ (P + e - 1) / e * e := by
  have h1 := Int.mul_ediv_self_le (x := P + e - 1) (k := e) (by omega)
  have h2 := Int.lt_mul_ediv_self_add (x := P + e - 1) (k := e) (by omega)
  have h3 : 1 ≤ (P + e - 1) / e := by
    rw [Int.le_ediv_iff_mul_le (by omega)]; omega
  have h4 : (P + e - 1) / e ≤ 100000 := by
    have h5 := Int.mul_le_mul_of_nonneg_right he.1 (show 0 ≤ (P + e - 1) / e by omega)
    omega
  have h5 : e * ((P + e - 1) / e) = (P + e - 1) / e * e := Int.mul_comm _ _
  refine ⟨h3, h4, ?_, by omega⟩
  rw [Int.sub_mul]; omega
theorem cntS_bd {j : K.s5.den} (h : okS j = true) : 1 ≤ cntS j ∧ cntS j ≤ 100000 ∧ (cntS j - 1) * eachS j < jP j ∧ jP j ≤ cntS j * eachS j := by
  obtain ⟨h1, h2, h3, _⟩ := okS_spec h
  exact cnt_bd (by unfold eachS; omega) h3
theorem restS_bd {j : K.s5.den} (h : okS j = true) : 1 ≤ restS j ∧ restS j ≤ eachS j := by
  obtain ⟨h1, h2, h3, h4⟩ := cntS_bd h
  unfold restS
  rw [Int.sub_mul] at h3 ⊢
  omega
theorem bestGo_spec (rest : Int) : ∀ (l : List ByteArray) (b : K.s4.den), b.2.2.1.length ≤ 6 → (bestGo rest b l).2.2.1.length ≤ 6 ∧ pS (bestGo rest b l) ≤ pS b ∧ (rest ≤ 2 * pS b → rest ≤ 2 * pS (bestGo rest b l)) ∧
    ∀ x ∈ l, pS (lk x).1 < pS (bestGo rest b l) → rest ≤ 2 * pS (lk x).1 → False
  | [], b, h => ⟨h, Int.le_refl _, id, fun x hx => by cases hx⟩
  | y :: l, b, h => by
    rw [bestGo]
    cases hc : (decide (rest ≤ 2 * pS (lk y).1) && decide (pS (lk y).1 < pS b)) with
    | true =>
      rw [Bool.and_eq_true, decide_eq_true_eq, decide_eq_true_eq] at hc
      obtain ⟨h1, h2, h3, h4⟩ := bestGo_spec rest l (lk y).1 (lk_steps y)
      refine ⟨h1, by simp only [cond_true]; omega, fun _ => h3 hc.1, fun x hx h5 h6 => ?_⟩
      rcases List.mem_cons.1 hx with rfl | hx
      · simp only [cond_true] at h5; omega
      · exact h4 x hx h5 h6
    | false =>
      obtain ⟨h1, h2, h3, h4⟩ := bestGo_spec rest l b h
      refine ⟨h1, h2, h3, fun x hx h5 h6 => ?_⟩
      rcases List.mem_cons.1 hx with rfl | hx
      · simp only [cond_false] at h5
        rw [dt h6, dt (show pS (lk x).1 < pS b by omega)] at hc; cases hc
      · exact h4 x hx h5 h6
theorem of_loop (S : Seen) (j : K.s5.den) (hx : lenB (jL j)) (N : Nat) (rest cnt : Int) : ∀ (l : List ByteArray) (n m : Nat) (b : K.s4.den), (jL j).drop n = l → l.length < m →
    split_of_g_l0 N @split_Folds @split_Last @scheme_Panels @num_In @scheme_Find j m rest (n : Int) cnt b.1 b.2.1 b.2.2.1 = some (cnt, bestGo rest b l, ())
  | [], n, m + 1, b, hl, hm => by
    show split_of_g_b0 @split_Folds @split_Last @scheme_Panels @num_In @scheme_Find j (split_of_g_l0 N @split_Folds @split_Last @scheme_Panels @num_In @scheme_Find j m) rest (n : Int) cnt b.1 b.2.1 b.2.2.1 = _
    unfold split_of_g_b0
    rw [lt_f (drop_nil hl)]; rfl
  | x :: l, n, m + 1, b, hl, hm => by
    obtain ⟨h1, h2, h3⟩ := drop_cons hl
    have ih := fun b => of_loop S j hx N rest cnt l (n + 1) m b h3 (by simpa using hm)
    show split_of_g_b0 @split_Folds @split_Last @scheme_Panels @num_In @scheme_Find j (split_of_g_l0 N @split_Folds @split_Last @scheme_Panels @num_In @scheme_Find j m) rest (n : Int) cnt b.1 b.2.1 b.2.2.1 = _
    unfold split_of_g_b0
    rw [lt_t h1, ge_t, nth_at h2, Find1 S]
    unfold lenB at hx
    have hp := pS_le (lk x).1
    simp only [cond_true, Bool.and_self, Option.bind_some, scheme_Panels_eq]
    rw [wr_n (by omega), wr (z := 2 * pS (lk x).1) (by omega) (by omega), bestGo]
    have ih1 := ih (lk x).1
    have ih2 := ih b
    show (bif decide (rest ≤ 2 * pS (lk x).1) then bif decide (pS (lk x).1 < pS b) then _ else _ else _) = _
    rw [ih1, ih2]
    cases decide (rest ≤ 2 * pS (lk x).1) <;> cases decide (pS (lk x).1 < pS b) <;> rfl
  | _, _, 0, _, _, hm => absurd hm (by omega)
theorem split_of_eq (S : Seen) (j : K.s5.den) (hw : Wf j) : split_of j = some (planS j) := by
  unfold split_of split_of_g split_of_g_at split_of_g_t planS okS
  rw [split_Folds_eq]
  cases hf : foldsS j with
  | false => rfl
  | true =>
    obtain ⟨h1, h2, h3⟩ := foldsS_p hf
    rw [split_Last_eq S j h2 hw.last]
    cases hl : lastS j with
    | false => rfl
    | true =>
      simp only [Option.bind_some, num_In_eq, Bool.not_true, cond_false, Bool.true_and, scheme_Panels_eq]
      cases hi : inS (jP j) 1 100000 with
      | false => rfl
      | true =>
        have hok : okS j = true := by unfold okS; rw [hf, hl, hi]; rfl
        obtain ⟨c1, c2, c3, c4⟩ := cntS_bd hok
        obtain ⟨r1, r2⟩ := restS_bd hok
        rw [inS_t] at hi
        have he : IntKind.i64.wrap (2 * pS (jF j)) = eachS j := by rw [wr (by omega) (by omega)]; rfl
        have he2 : eachS j = 2 * pS (jF j) := rfl
        show (bif decide (IntKind.i64.wrap (2 * pS (jF j)) = 0) then none else split_of_g_l0 FUEL @split_Folds @split_Last @scheme_Panels @num_In @scheme_Find j FUEL
          (IntKind.i64.wrap (jP j - IntKind.i64.wrap (IntKind.i64.wrap (IntKind.i64.wrap ((IntKind.i64.wrap (IntKind.i64.wrap (jP j + IntKind.i64.wrap (2 * pS (jF j))) - 1)).tdiv (IntKind.i64.wrap (2 * pS (jF j)))) - 1) * IntKind.i64.wrap (2 * pS (jF j))))) 0
          (IntKind.i64.wrap ((IntKind.i64.wrap (IntKind.i64.wrap (jP j + IntKind.i64.wrap (2 * pS (jF j))) - 1)).tdiv (IntKind.i64.wrap (2 * pS (jF j))))) (jF j).1 (jF j).2.1 (jF j).2.2.1) = _
        rw [he, wr (z := jP j + eachS j) (by omega) (by omega), wr (z := jP j + eachS j - 1) (by omega) (by omega), Int.tdiv_eq_ediv_of_nonneg (by omega)]
        show (bif decide (eachS j = 0) then none else split_of_g_l0 FUEL @split_Folds @split_Last @scheme_Panels @num_In @scheme_Find j FUEL (IntKind.i64.wrap (jP j - IntKind.i64.wrap (IntKind.i64.wrap (IntKind.i64.wrap (cntS j) - 1) * eachS j))) 0 (IntKind.i64.wrap (cntS j)) (jF j).1 (jF j).2.1 (jF j).2.2.1) = _
        have hm : (cntS j - 1) * eachS j = jP j - restS j := by unfold restS; omega
        rw [wr (z := cntS j) (by omega) (by omega), wr (z := cntS j - 1) (by omega) (by omega), hm, wr (z := jP j - restS j) (by omega) (by omega), show jP j - (jP j - restS j) = restS j by omega, wr (z := restS j) (by omega) (by omega), df (show ¬ eachS j = 0 by omega)]
        exact of_loop S j hw.last FUEL (restS j) (cntS j) (jL j) 0 FUEL (jF j) rfl (fuel_lt hw.last)
theorem own_eq (s : K.s4.den) (h : s.2.2.1.length ≤ 6) : split_own s = some s := by
  unfold split_own split_own_g Clone_ cloneF
  rw [dt (show s.2.2.1.length < lim K.s7 by have : lim K.s7 = 5864062014805 := rfl; omega)]; rfl
theorem bestS_le {j : K.s5.den} (h : okS j = true) : (bestS j).2.2.1.length ≤ 6 := (bestGo_spec _ _ _ (okS_spec h).2.1).1
/-- All signatures. -/
def allS (j : K.s5.den) : List K.s4.den := bif okS j then List.replicate (cntS j - 1).toNat (jF j) ++ [bestS j] else []
theorem allS_len (j : K.s5.den) : ((allS j).length : Int) = bif okS j then cntS j else 0 := by
  unfold allS
  cases h : okS j with
  | false => rfl
  | true =>
    have := cntS_bd h
    simp only [cond_true, List.length_append, List.length_replicate, List.length_cons, List.length_nil]
    omega
theorem Of_loop (j : K.s5.den) (h : okS j = true) (N : Nat) : ∀ (d i m : Nat) (out : List K.s4.den), ((i + d : Nat) : Int) = cntS j → out.length = i → d < m →
    split_Of_g_l0 N @split_of @split_own j m out (cntS j) (i : Int) (cntS j) (bestS j).1 (bestS j).2.1 (bestS j).2.2.1 = some (out ++ match d with | 0 => [] | d + 1 => List.replicate d (jF j) ++ [bestS j])
  | 0, i, m + 1, out, hd, ho, hm => by
    show split_Of_g_b0 @split_of @split_own j (split_Of_g_l0 N @split_of @split_own j m) out (cntS j) (i : Int) (cntS j) (bestS j).1 (bestS j).2.1 (bestS j).2.2.1 = _
    unfold split_Of_g_b0
    rw [df (show ¬ (i : Int) < cntS j by omega), List.append_nil]; rfl
  | d + 1, i, m + 1, out, hd, ho, hm => by
    have hb := cntS_bd h
    have hlim : lim K.s4 = 3518437208883 := rfl
    show split_Of_g_b0 @split_of @split_own j (split_Of_g_l0 N @split_of @split_own j m) out (cntS j) (i : Int) (cntS j) (bestS j).1 (bestS j).2.1 (bestS j).2.2.1 = _
    unfold split_Of_g_b0
    have o1 := own_eq (jF j) (okS_spec h).2.1
    have o2 : split_own ((bestS j).1, (bestS j).2.1, (bestS j).2.2.1, ()) = some (bestS j) := own_eq (bestS j) (bestS_le h)
    rw [dt (show (i : Int) < cntS j by omega), o1, o2, wr (z := cntS j - 1) (by omega) (by omega), wr_n (by omega)]
    simp only [cond_true, Option.bind_some]
    have hl : ∀ x : K.s4.den, decide (out.length + [x].length < lim K.s4) = true := fun x => dt (by rw [hlim, List.length_cons, List.length_nil]; omega)
    rw [hl, hl]
    simp only [cond_true]
    by_cases hlast : (i : Int) < cntS j - 1
    · rw [dt hlast]
      match d, hd with
      | 0, hd => omega
      | d + 1, hd =>
        refine (Of_loop j h N (d + 1) (i + 1) m (out ++ [jF j]) (by omega) (by rw [List.length_append, ho]; rfl) (by omega)).trans ?_
        rw [List.append_assoc]; rfl
    · rw [df hlast]
      match d, hd with
      | d + 1, hd => omega
      | 0, hd =>
        refine (Of_loop j h N 0 (i + 1) m (out ++ [bestS j]) (by omega) (by rw [List.length_append, ho]; rfl) (by omega)).trans ?_
        rw [List.append_nil]; rfl
  | _, _, 0, _, _, _, hm => absurd hm (by omega)
theorem split_Of_eq (S : Seen) (j : K.s5.den) (hw : Wf j) : split_Of j = some (allS j) := by
  unfold split_Of split_Of_g split_Of_g_at split_Of_g_t
  rw [split_of_eq S j hw]
  unfold planS allS
  cases h : okS j with
  | false => rfl
  | true =>
    have hb := cntS_bd h
    have := Of_loop j h FUEL ((cntS j - 1).toNat + 1) 0 FUEL [] (by omega) rfl (by unfold FUEL; omega)
    exact this
theorem split_At_eq (S : Seen) (j : K.s5.den) (hw : Wf j) (i : Int) : split_At j i = some (bif okS j && (decide (0 ≤ i) && decide (i < cntS j)) then (bif decide (i = cntS j - 1) then bestS j else jF j, true, ()) else (noS, false, ())) := by
  unfold split_At split_At_g
  rw [split_of_eq S j hw]
  unfold planS
  cases h : okS j with
  | false =>
    simp only [Option.bind_some, num_In_eq, cond_false, Bool.false_and]
    rw [wr (z := (0 : Int) - 1) (by omega) (by omega), inS_f.2 (by omega)]; rfl
  | true =>
    have hb := cntS_bd h
    have o1 := own_eq (jF j) (okS_spec h).2.1
    have o2 := own_eq (bestS j) (bestS_le h)
    simp only [Option.bind_some, num_In_eq, cond_true, Bool.true_and]
    rw [wr (z := cntS j - 1) (by omega) (by omega), o1, o2]
    have e1 : inS i 0 (cntS j - 1) = (decide (0 ≤ i) && decide (i < cntS j)) := by
      unfold inS
      by_cases h1 : i < cntS j
      · rw [dt h1, dt (show i ≤ cntS j - 1 by omega)]
      · rw [df h1, df (show ¬ i ≤ cntS j - 1 by omega)]
    rw [e1]
    cases (decide (0 ≤ i) && decide (i < cntS j)) <;> cases decide (i = cntS j - 1) <;> rfl
theorem split_Count_eq (S : Seen) (j : K.s5.den) (hw : Wf j) : split_Count j = some (bif okS j then cntS j else 0) := by
  unfold split_Count split_Count_g
  rw [split_of_eq S j hw]
  unfold planS
  cases okS j <;> rfl
def leavesS (j : K.s5.den) : Int := (cntS j - 1) * pS (jF j) + pS (bestS j)
theorem mul_bd {a b : Int} (h : 0 ≤ a ∧ a ≤ 100000) (h' : 0 ≤ b ∧ b ≤ 4096) : 0 ≤ a * b ∧ a * b ≤ 409600000 := by
  refine ⟨Int.mul_nonneg h.1 h'.1, ?_⟩
  have := Int.mul_le_mul h.2 h'.2 h'.1 (by omega)
  omega
theorem split_Leaves_eq (S : Seen) (j : K.s5.den) (hw : Wf j) : split_Leaves j = some (bif okS j then leavesS j else 0) := by
  unfold split_Leaves split_Leaves_g
  rw [split_of_eq S j hw]
  unfold planS
  cases h : okS j with
  | false => rfl
  | true =>
    have hb := cntS_bd h
    have h1 := pS_le (jF j)
    have h2 := pS_le (bestS j)
    have h3 := mul_bd (a := cntS j - 1) (b := pS (jF j)) (by omega) h1
    simp only [Option.bind_some, scheme_Panels_eq, cond_true]
    rw [df (show ¬ cntS j = 0 by omega), wr (z := cntS j - 1) (by omega) (by omega), wr (z := (cntS j - 1) * pS (jF j)) (by omega) (by omega), wr (z := (cntS j - 1) * pS (jF j) + pS (bestS j)) (by omega) (by omega)]; rfl
end Go.Pv.X
