/- Plain laws: panels, steps, right schemes: what the program reckons is what the document's answer reckons. -/
import Derived.Test.YtdfdainmpklkiaaGreatDoorD
import Derived.ProofKit
set_option linter.unusedVariables false
set_option linter.unusedSimpArgs false
namespace Go.Pv.X
open Go.Proofs
theorem wr {z : Int} (h : -9223372036854775808 ≤ z) (h' : z ≤ 9223372036854775807) : IntKind.i64.wrap z = z := by
  have h2 : ((2 : Int) ^ IntKind.i64.bits) = 18446744073709551616 := rfl
  have h3 : ((2 : Int) ^ (IntKind.i64.bits - 1)) = 9223372036854775808 := rfl
  simp only [IntKind.wrap, h2, h3, show IntKind.i64.signed = true from rfl, Bool.true_and, decide_eq_true_eq]
  split <;> omega
theorem wf_int {n : Int} (h : (Lit.int IntKind.i64 n).wf = true) : -9223372036854775808 ≤ n ∧ n ≤ 9223372036854775807 := by
  have h2 : IntKind.i64.min ≤ n ∧ n ≤ 9223372036854775807 := by simpa [Lit.wf] using h
  exact ⟨h2.1, h2.2⟩
theorem bf {α : Type} {c : Bool} {x y : α} (h : c = false) : (bif c then x else y) = y := by rw [h]; rfl
theorem bt {α : Type} {c : Bool} {x y : α} (h : c = true) : (bif c then x else y) = x := by rw [h]; rfl
theorem df {p : Prop} [Decidable p] (h : ¬ p) : decide p = false := decide_eq_false h
theorem dt {p : Prop} [Decidable p] (h : p) : decide p = true := decide_eq_true h
theorem bor {α : Type} (a b : Bool) (x y : α) : (bif (bif a then true else b) then x else y) = bif a then x else bif b then x else y := by cases a <;> rfl
theorem band {α : Type} (a b : Bool) (x y : α) : (bif (bif a then b else false) then x else y) = bif a then (bif b then x else y) else y := by cases a <;> rfl
def inS (a b c : Int) : Bool := decide (b ≤ a) && decide (a ≤ c)
theorem num_In_eq (a b c : Int) : num_In a b c = some (inS a b c) := by
  unfold num_In num_In_g inS
  cases decide (b ≤ a) <;> rfl
theorem ref01_In_eq (a b c : Int) : ref01_In a b c = some (inS a b c) := by
  unfold ref01_In ref01_In_g inS
  cases decide (b ≤ a) <;> rfl
theorem inS_t {a b c : Int} : inS a b c = true ↔ b ≤ a ∧ a ≤ c := by simp [inS]
theorem inS_f {a b c : Int} : inS a b c = false ↔ ¬ (b ≤ a ∧ a ≤ c) := by rw [← inS_t]; simp
/-- A scheme's panels. -/
def pS (s : K.s4.den) : Int := bif inS s.1 1 64 && inS s.2.1 1 64 then s.1 * s.2.1 else 0
theorem mul_64 {a b : Int} (h1 : 1 ≤ a) (h2 : a ≤ 64) (h3 : 1 ≤ b) (h4 : b ≤ 64) : 1 ≤ a * b ∧ a * b ≤ 4096 := by
  constructor
  · have := Int.mul_le_mul h1 h3 (by omega) (by omega)
    omega
  · have := Int.mul_le_mul h2 h4 (by omega) (by omega)
    omega
theorem pS_le (s : K.s4.den) : 0 ≤ pS s ∧ pS s ≤ 4096 := by
  unfold pS
  cases h : (inS s.1 1 64 && inS s.2.1 1 64) with
  | false => exact ⟨by show (0 : Int) ≤ 0; omega, by show (0 : Int) ≤ 4096; omega⟩
  | true =>
    rw [Bool.and_eq_true, inS_t, inS_t] at h
    have := mul_64 h.1.1 h.1.2 h.2.1 h.2.2
    exact ⟨Int.le_trans (by decide) this.1, this.2⟩
theorem scheme_Panels_eq (s : K.s4.den) : scheme_Panels s = some (pS s) := by
  unfold scheme_Panels scheme_Panels_g pS
  rw [num_In_eq, num_In_eq]
  cases h1 : inS s.1 1 64 with
  | false => rfl
  | true =>
    cases h2 : inS s.2.1 1 64 with
    | false => rfl
    | true =>
      rw [inS_t] at h1 h2
      have := mul_64 h1.1 h1.2 h2.1 h2.2
      show some (IntKind.i64.wrap (s.1 * s.2.1)) = some (s.1 * s.2.1)
      rw [wr (by omega) (by omega)]
theorem ref11_Panels_eq (s : K.s4.den) : ref11_Panels s = some (pS s) := by
  unfold ref11_Panels ref11_Panels_g pS
  rw [ref01_In_eq, ref01_In_eq]
  cases h1 : inS s.1 1 64 with
  | false => rfl
  | true =>
    cases h2 : inS s.2.1 1 64 with
    | false => rfl
    | true =>
      rw [inS_t] at h1 h2
      have := mul_64 h1.1 h1.2 h2.1 h2.2
      show some (IntKind.i64.wrap (s.1 * s.2.1)) = some (s.1 * s.2.1)
      rw [wr (by omega) (by omega)]
/-! ### Steps -/
def stepS (s : K.s7.den) : Bool := inS s.1 1 4 && inS s.2.1 1 64
theorem digs_len : ∀ (f u : Nat) (acc : List UInt8), (digs f u acc).length ≤ f + acc.length
  | 0, _, acc => by simp [digs]
  | f + 1, u, acc => by
    rw [digs]
    cases decide (u < 10) with
    | true => simp only [cond_true, List.length_cons]; omega
    | false =>
      have := digs_len f (u / 10) (UInt8.ofNat (48 + u % 10) :: acc)
      simp only [cond_false]
      simp only [List.length_cons] at this
      omega
theorem dec_Put_eq {n : Int} (h : -9223372036854775808 ≤ n) (h' : n ≤ 9223372036854775807) : ∃ t, dec_Put n = some t ∧ t.size ≤ 21 := by
  refine ⟨⟨(bif decide (n < 0) then 45 :: digs 20 n.natAbs [] else digs 20 n.toNat []).toArray⟩, ?_, ?_⟩
  · unfold dec_Put dec_Put_g strconv_Itoa itoaF
    rw [dt h, dt h']; rfl
  · show (bif decide (n < 0) then 45 :: digs 20 n.natAbs [] else digs 20 n.toNat []).length ≤ 21
    cases decide (n < 0) with
    | true => have := digs_len 20 n.natAbs []; simp only [cond_true, List.length_cons, List.length_nil] at this ⊢; omega
    | false => have := digs_len 20 n.toNat []; simp only [cond_false, List.length_nil] at this ⊢; omega
theorem words_All_3 : words_All 3 = some [⟨#[76]⟩, ⟨#[82]⟩, ⟨#[66]⟩, ⟨#[84]⟩] := by kernel_rfl
theorem words_Put_3 (n : Int) : ∃ t : ByteArray, words_Put 3 n = some t ∧ t.size ≤ 1 ∧ (t.toList == (⟨#[]⟩ : ByteArray).toList) = !inS n 1 4 := by
  unfold words_Put words_Put_g
  rw [words_All_3]
  by_cases h1 : n < 1
  · rw [dt h1]
    exact ⟨_, rfl, by decide, by rw [inS_f.2 (by omega)]; kernel_rfl⟩
  · by_cases h2 : (4 : Int) < n
    · rw [df h1]
      show ∃ t, (bif decide ((4 : Int) < n) then _ else _) = some t ∧ _
      rw [dt h2]
      exact ⟨_, rfl, by decide, by rw [inS_f.2 (by omega)]; kernel_rfl⟩
    · have h3 : n = 1 ∨ n = 2 ∨ n = 3 ∨ n = 4 := by omega
      rcases h3 with rfl | rfl | rfl | rfl
      · exact ⟨⟨#[76]⟩, by kernel_rfl, by decide, by kernel_rfl⟩
      · exact ⟨⟨#[82]⟩, by kernel_rfl, by decide, by kernel_rfl⟩
      · exact ⟨⟨#[66]⟩, by kernel_rfl, by decide, by kernel_rfl⟩
      · exact ⟨⟨#[84]⟩, by kernel_rfl, by decide, by kernel_rfl⟩
theorem step_Put_eq (s : K.s7.den) : ∃ t, step_Put s = some (t, stepS s, ()) := by
  unfold step_Put step_Put_g stepS
  obtain ⟨t, h1, h2, h3⟩ := words_Put_3 s.1
  rw [h1]
  simp only [Option.bind_some, h3]
  cases hi : inS s.1 1 4 with
  | false => exact ⟨_, rfl⟩
  | true =>
    simp only [Bool.not_true, cond_false, num_In_eq, Option.bind_some, Bool.true_and]
    cases hn : inS s.2.1 1 64 with
    | false => exact ⟨_, rfl⟩
    | true =>
      rw [inS_t] at hn
      obtain ⟨u, h4, h5⟩ := dec_Put_eq (n := s.2.1) (by omega) (by omega)
      rw [h4]
      simp only [Bool.not_true, cond_false, Option.bind_some]
      rw [dt (show t.size + u.size ≤ 9223372036854775807 by omega)]
      cases s.2.2.1 with
      | false => exact ⟨_, rfl⟩
      | true =>
        simp only [cond_true]
        rw [dt (by have : (⟨#[117]⟩ : ByteArray).size = 1 := rfl; rw [ByteArray.size_append]; omega)]
        exact ⟨_, rfl⟩
/-- How many columns and rows there are behind a step. -/
def aftI (c r a n : Int) : Option (Int × Int) :=
  bif inS a 1 4 && inS n 1 64 then
    (bif decide (a ≤ 2) then (bif decide (n ≤ c - n) then some (c - n, r) else none)
     else (bif decide (n ≤ r - n) then some (c, r - n) else none))
  else none
def aftS (c r : Int) (s : K.s7.den) : Option (Int × Int) := aftI c r s.1 s.2.1
def goS : Int → Int → List K.s7.den → Option (Int × Int)
  | c, r, [] => some (c, r)
  | c, r, s :: l => (aftS c r s).bind fun p => goS p.1 p.2 l
def outS : Option (Int × Int) → K.s7.den
  | some p => (p.1, p.2, true, ())
  | none => (0, 0, false, ())
theorem aftI_bd {c r a n : Int} {p : Int × Int} (h : aftI c r a n = some p) (hc : 1 ≤ c ∧ c ≤ 9223372036854775807) (hr : 1 ≤ r ∧ r ≤ 9223372036854775807) : (1 ≤ p.1 ∧ p.1 ≤ 9223372036854775807) ∧ (1 ≤ p.2 ∧ p.2 ≤ 9223372036854775807) := by
  unfold aftI at h
  cases hs : (inS a 1 4 && inS n 1 64) with
  | false => rw [hs] at h; cases h
  | true =>
    have hs' := hs
    rw [Bool.and_eq_true, inS_t, inS_t] at hs'
    rw [hs] at h
    simp only [cond_true] at h
    by_cases h1 : a ≤ 2
    · rw [dt h1] at h
      by_cases h2 : n ≤ c - n
      · rw [dt h2] at h; simp only [cond_true, Option.some.injEq] at h; rw [← h]; exact ⟨⟨by show 1 ≤ c - n; omega, by show c - n ≤ 9223372036854775807; omega⟩, hr⟩
      · rw [df h2] at h; cases h
    · rw [df h1] at h
      by_cases h2 : n ≤ r - n
      · rw [dt h2] at h; simp only [cond_true, cond_false, Option.some.injEq] at h; rw [← h]; exact ⟨hc, by show 1 ≤ r - n; omega, by show r - n ≤ 9223372036854775807; omega⟩
      · rw [df h2] at h; cases h
theorem aftS_bd {c r : Int} {s : K.s7.den} {p : Int × Int} (h : aftS c r s = some p) (hc : 1 ≤ c ∧ c ≤ 9223372036854775807) (hr : 1 ≤ r ∧ r ≤ 9223372036854775807) : (1 ≤ p.1 ∧ p.1 ≤ 9223372036854775807) ∧ (1 ≤ p.2 ∧ p.2 ≤ 9223372036854775807) := aftI_bd h hc hr
theorem half {a n : Int} (h0 : 0 ≤ a) (h2 : a ≤ 9223372036854775807) : decide (IntKind.i64.wrap (a.tdiv 2) < n) = !decide (n ≤ a - n) := by
  rw [Int.tdiv_eq_ediv_of_nonneg h0, wr (by omega) (by omega)]
  by_cases h : n ≤ a - n
  · rw [dt h, df (by omega)]; rfl
  · rw [df h, dt (by omega)]; rfl
theorem after_I (c r a n : Int) (hc : 1 ≤ c ∧ c ≤ 9223372036854775807) (hr : 1 ≤ r ∧ r ≤ 9223372036854775807) :
    (bif !(inS a 1 4 && inS n 1 64) then some ((0 : Int), (0 : Int), false, ())
    else bif decide (c < 1) then some ((0 : Int), (0 : Int), false, ())
    else bif decide (r < 1) then some ((0 : Int), (0 : Int), false, ())
    else bif decide (a = 3) then bif decide (IntKind.i64.wrap (r.tdiv 2) < n) then some ((0 : Int), (0 : Int), false, ())
      else some (c, IntKind.i64.wrap (r - n), true, ())
    else bif decide (a = 4) then bif decide (IntKind.i64.wrap (r.tdiv 2) < n) then some ((0 : Int), (0 : Int), false, ())
      else some (c, IntKind.i64.wrap (r - n), true, ())
    else bif decide (IntKind.i64.wrap (c.tdiv 2) < n) then some ((0 : Int), (0 : Int), false, ())
    else some (IntKind.i64.wrap (c - n), r, true, ())) = some (outS (aftI c r a n)) := by
  unfold aftI
  cases hs : (inS a 1 4 && inS n 1 64) with
  | false => rfl
  | true =>
    rw [Bool.and_eq_true, inS_t, inS_t] at hs
    simp only [Bool.not_true, cond_false, cond_true]
    rw [df (show ¬ c < 1 by omega), df (show ¬ r < 1 by omega), half (by omega) (by omega), half (by omega) (by omega)]
    simp only [cond_false]
    by_cases h1 : a ≤ 2
    · rw [dt h1, df (show ¬ a = 3 by omega), df (show ¬ a = 4 by omega)]
      by_cases h2 : n ≤ c - n
      · rw [dt h2]; simp only [Bool.not_true, cond_false, cond_true]; rw [wr (by omega) (by omega)]; rfl
      · rw [df h2]; rfl
    · rw [df h1]
      have h3 : a = 3 ∨ a = 4 := by omega
      by_cases h2 : n ≤ r - n
      · rcases h3 with h3 | h3
        · rw [dt h2, dt h3]; simp only [Bool.not_true, cond_false, cond_true]; rw [wr (by omega) (by omega)]; rfl
        · rw [dt h2, df (show ¬ a = 3 by omega), dt h3]; simp only [Bool.not_true, cond_false, cond_true]; rw [wr (by omega) (by omega)]; rfl
      · rcases h3 with h3 | h3
        · rw [df h2, dt h3]; rfl
        · rw [df h2, df (show ¬ a = 3 by omega), dt h3]; rfl
theorem step_After_eq (c r : Int) (s : K.s7.den) (hc : 1 ≤ c ∧ c ≤ 9223372036854775807) (hr : 1 ≤ r ∧ r ≤ 9223372036854775807) : step_After c r s = some (outS (aftS c r s)) := by
  unfold step_After step_After_g
  obtain ⟨t, ht⟩ := step_Put_eq s
  rw [ht]
  simp only [Option.bind_some, bor]
  exact after_I c r s.1 s.2.1 hc hr
/-! ### Loops over a list's places -/
theorem drop_cons {α : Type} {l : List α} {n : Nat} {x : α} {r : List α} (h : l.drop n = x :: r) : n < l.length ∧ l[n]? = some x ∧ l.drop (n + 1) = r := by
  have hn : n < l.length := by
    have := congrArg List.length h
    rw [List.length_drop, List.length_cons] at this
    omega
  rw [List.drop_eq_getElem_cons hn] at h
  injection h with h1 h2
  exact ⟨hn, by rw [List.getElem?_eq_getElem hn, h1], h2⟩
theorem drop_nil {α : Type} {l : List α} {n : Nat} (h : l.drop n = []) : l.length ≤ n := by simpa using h
theorem nth_at {k : Kd} {xs : List k.den} {n : Nat} {x : k.den} (h : xs[n]? = some x) : nth (k := k) xs (n : Int) = x := by
  unfold nth
  rw [Int.toNat_natCast, List.getD_eq_getElem?_getD, h]; rfl
theorem lt_t {n m : Nat} (h : n < m) : decide ((n : Int) < (m : Int)) = true := dt (by omega)
theorem ge_t (n : Nat) : decide ((0 : Int) ≤ (n : Int)) = true := dt (by omega)
theorem lt_f {n m : Nat} (h : m ≤ n) : decide ((n : Int) < (m : Int)) = false := df (by omega)
theorem wr_n {n : Nat} (h : n < 9223372036854775807) : IntKind.i64.wrap ((n : Int) + 1) = ((n + 1 : Nat) : Int) := by rw [wr (by omega) (by omega)]; omega
theorem all_loop (x0 x1 : Int) (xs : List K.s7.den) (hx : (xs.length : Int) ≤ 9223372036854775807) : ∀ (l : List K.s7.den) (n m : Nat) (c r : Int), xs.drop n = l → l.length < m → (1 ≤ c ∧ c ≤ 9223372036854775807) → (1 ≤ r ∧ r ≤ 9223372036854775807) → ∀ N,
    step_All_g_l0 N @step_After x0 x1 xs m c r true (n : Int) = some (outS (goS c r l))
  | [], n, m + 1, c, r, hl, hm, hc, hr, N => by
    show step_All_g_b0 @step_After x0 x1 xs (step_All_g_l0 N @step_After x0 x1 xs m) c r true (n : Int) = _
    unfold step_All_g_b0
    rw [lt_f (drop_nil hl)]; rfl
  | s :: l, n, m + 1, c, r, hl, hm, hc, hr, N => by
    obtain ⟨h1, h2, h3⟩ := drop_cons hl
    show step_All_g_b0 @step_After x0 x1 xs (step_All_g_l0 N @step_After x0 x1 xs m) c r true (n : Int) = _
    unfold step_All_g_b0
    rw [lt_t h1, ge_t, nth_at h2, step_After_eq c r s hc hr]
    simp only [cond_true, Bool.and_self, Option.bind_some]
    rw [wr_n (by omega), goS]
    cases h : aftS c r s with
    | none =>
      have : ∀ i, step_All_g_l0 N @step_After x0 x1 xs m 0 0 false i = some (outS none) := fun i => by
        cases m with
        | zero => simp at hm
        | succ m => rfl
      exact this _
    | some p =>
      obtain ⟨q1, q2⟩ := aftS_bd h hc hr
      exact all_loop x0 x1 xs hx l (n + 1) m p.1 p.2 h3 (by simpa using hm) q1 q2 N
  | _, _, 0, _, _, _, hm, _, _, _ => absurd hm (by omega)
theorem step_All_eq (c r : Int) (l : List K.s7.den) (hl : (l.length : Int) ≤ 9223372036854775807) (hc : 1 ≤ c ∧ c ≤ 9223372036854775807) (hr : 1 ≤ r ∧ r ≤ 9223372036854775807) : step_All c r l = some (outS (goS c r l)) := by
  unfold step_All step_All_g step_All_g_at step_All_g_t
  rw [dt hc.1, dt hr.1]
  exact all_loop c r l hl l 0 FUEL c r rfl (by unfold FUEL; omega) hc hr FUEL
end Go.Pv.X
