/- Proved: for all lists of ints l and ints n, lo, hi the Go law NumSums answers true; no condition. -/
import Derived.Test.YteedpeogfglocaaPNumSumsx3
import Derived.Laws.BitsLemmas
set_option linter.unusedVariables false
set_option linter.unusedSimpArgs false
namespace Go.Proofs.Yteedpeogfglocaa.Pure
open Go.RowKit Go.Proofs.Yteedpeogfglocaa.PNumSums Go.Proofs.YteedpeogfglocaaW.PrintWords Go.Proofs.YteedpeogfglocaaW.PrintLast Go.Proofs.YteedpeogfglocaaW.PrintMore

/-! The core of num: sizes, products of 128 bits, quotients: what the printed functions come to. -/
theorem u64_wrap (n : Int) : IntKind.u64.wrap n = n % 18446744073709551616 := by simp [IntKind.wrap, IntKind.bits, IntKind.signed]
theorem u64_id {n : Int} (h0 : 0 ≤ n) (h1 : n < 18446744073709551616) : IntKind.u64.wrap n = n := by rw [u64_wrap]; omega
theorem wraps_u64 (n : Int) (h0 : 0 ≤ n) (h1 : n < 2 ^ 64) : IntKind.u64.wrap n = n := u64_id h0 (by simpa using h1)
theorem and_low (x : Int) (h0 : 0 ≤ x) (h1 : x < 18446744073709551616) : Go.bits .and .u64 x 4294967295 = x % 4294967296 := by
  have := bits_mask .u64 64 (by decide) wraps_u64 32 (by decide) x h0 (by simpa using h1)
  simpa using this
theorem and_one (x : Int) (h0 : 0 ≤ x) (h1 : x < 18446744073709551616) : Go.bits .and .u64 x 1 = x % 2 := by
  have := bits_mask .u64 64 (by decide) wraps_u64 1 (by decide) x h0 (by simpa using h1)
  simpa using this
theorem or_join (i : Nat) (x y : Int) (hx0 : 0 ≤ x) (hx : x % 2 ^ i = 0) (hx1 : x < 18446744073709551616) (hy0 : 0 ≤ y) (hy : y < 2 ^ i) (hy1 : y < 18446744073709551616) : Go.bits .or .u64 x y = x + y :=
  bits_join .u64 64 (by decide) wraps_u64 i x y hx0 hx (by simpa using hx1) hy0 hy (by simpa using hy1)
theorem or_one (x y : Int) (hx0 : 0 ≤ x) (hx : x % 2 = 0) (hx1 : x < 18446744073709551616) (hy0 : 0 ≤ y) (hy : y < 2) : Go.bits .or .u64 x y = x + y :=
  or_join 1 x y hx0 (by simpa using hx) hx1 hy0 (by simpa using hy) (by omega)
theorem prod_le {a b c d : Int} (ha : 0 ≤ a) (hab : a ≤ b) (hc : 0 ≤ c) (hcd : c ≤ d) : 0 ≤ a * c ∧ a * c ≤ b * d :=
  ⟨Int.mul_nonneg ha hc, Int.mul_le_mul hab hcd hc (by omega)⟩

theorem mul64 (x y : Int) (hx0 : 0 ≤ x) (hx1 : x < 18446744073709551616) (hy0 : 0 ≤ y) (hy1 : y < 18446744073709551616) :
    bits_Mul64.f x y = some (x * y / 18446744073709551616, x * y % 18446744073709551616) := by
  unfold bits_Mul64.f
  rw [and_low x hx0 hx1, and_low y hy0 hy1]
  obtain ⟨x1, hX1⟩ : ∃ a, x / 4294967296 = a := ⟨_, rfl⟩
  obtain ⟨x0, hX0⟩ : ∃ a, x % 4294967296 = a := ⟨_, rfl⟩
  obtain ⟨y1, hY1⟩ : ∃ a, y / 4294967296 = a := ⟨_, rfl⟩
  obtain ⟨y0, hY0⟩ : ∃ a, y % 4294967296 = a := ⟨_, rfl⟩
  rw [hX1, hX0, hY1, hY0]
  have ex : x = x1 * 4294967296 + x0 := by omega
  have ey : y = y1 * 4294967296 + y0 := by omega
  have b11 := prod_le (a := x1) (b := 4294967295) (c := y1) (d := 4294967295) (by omega) (by omega) (by omega) (by omega)
  have b10 := prod_le (a := x1) (b := 4294967295) (c := y0) (d := 4294967295) (by omega) (by omega) (by omega) (by omega)
  have b01 := prod_le (a := x0) (b := 4294967295) (c := y1) (d := 4294967295) (by omega) (by omega) (by omega) (by omega)
  have b00 := prod_le (a := x0) (b := 4294967295) (c := y0) (d := 4294967295) (by omega) (by omega) (by omega) (by omega)
  have e : x * y = (x1 * y1) * 18446744073709551616 + (x1 * y0) * 4294967296 + (x0 * y1) * 4294967296 + x0 * y0 := by
    subst ex ey; grind
  generalize hxy : x * y = p at *
  generalize x1 * y1 = p11 at *
  generalize x1 * y0 = p10 at *
  generalize x0 * y1 = p01 at *
  generalize x0 * y0 = p00 at *
  clear ex ey hX1 hX0 hY1 hY0 hxy
  have hl : IntKind.u64.wrap p10 = p10 := u64_id (by omega) (by omega)
  have h1 : IntKind.u64.wrap p11 = p11 := u64_id (by omega) (by omega)
  have h2 : IntKind.u64.wrap p01 = p01 := u64_id (by omega) (by omega)
  have h3 : IntKind.u64.wrap p00 = p00 := u64_id (by omega) (by omega)
  rw [hl, h1, h2, h3]
  have h4 : IntKind.u64.wrap (p10 + p00 / 4294967296) = p10 + p00 / 4294967296 := u64_id (by omega) (by omega)
  rw [h4, and_low (p10 + p00 / 4294967296) (by omega) (by omega)]
  have h5 : IntKind.u64.wrap ((p10 + p00 / 4294967296) % 4294967296 + p01) = (p10 + p00 / 4294967296) % 4294967296 + p01 := u64_id (by omega) (by omega)
  rw [h5]
  have h6 : IntKind.u64.wrap (p11 + (p10 + p00 / 4294967296) / 4294967296) = p11 + (p10 + p00 / 4294967296) / 4294967296 := u64_id (by omega) (by omega)
  rw [h6, u64_wrap, u64_wrap]
  congr 2
  omega

def len8 : ByteArray := ⟨#[0, 1, 2, 2, 3, 3, 3, 3, 4, 4, 4, 4, 4, 4, 4, 4, 5, 5, 5, 5, 5, 5, 5, 5, 5, 5, 5, 5, 5, 5, 5, 5, 6, 6, 6, 6, 6, 6, 6, 6, 6, 6, 6, 6, 6, 6, 6, 6, 6, 6, 6, 6, 6, 6, 6, 6, 6, 6, 6, 6, 6, 6, 6, 6, 7, 7, 7, 7, 7, 7, 7, 7, 7, 7, 7, 7, 7, 7, 7, 7, 7, 7, 7, 7, 7, 7, 7, 7, 7, 7, 7, 7, 7, 7, 7, 7, 7, 7, 7, 7, 7, 7, 7, 7, 7, 7, 7, 7, 7, 7, 7, 7, 7, 7, 7, 7, 7, 7, 7, 7, 7, 7, 7, 7, 7, 7, 7, 7, 8, 8, 8, 8, 8, 8, 8, 8, 8, 8, 8, 8, 8, 8, 8, 8, 8, 8, 8, 8, 8, 8, 8, 8, 8, 8, 8, 8, 8, 8, 8, 8, 8, 8, 8, 8, 8, 8, 8, 8, 8, 8, 8, 8, 8, 8, 8, 8, 8, 8, 8, 8, 8, 8, 8, 8, 8, 8, 8, 8, 8, 8, 8, 8, 8, 8, 8, 8, 8, 8, 8, 8, 8, 8, 8, 8, 8, 8, 8, 8, 8, 8, 8, 8, 8, 8, 8, 8, 8, 8, 8, 8, 8, 8, 8, 8, 8, 8, 8, 8, 8, 8, 8, 8, 8, 8, 8, 8, 8, 8, 8, 8, 8, 8, 8, 8, 8, 8, 8, 8, 8, 8, 8, 8, 8, 8, 8, 8]⟩
theorem len8_tells : ∀ n : Fin 256, 1 ≤ n.val → ∃ t : Fin 9, bt len8 (n.val : Int) = (t.val : Int) ∧ 1 ≤ t.val ∧ 2 ^ (t.val - 1) ≤ n.val ∧ n.val < 2 ^ t.val := by decide +kernel
theorem len8_at (i : Int) (h0 : 1 ≤ i) (h1 : i < 256) : ∃ t : Nat, bt len8 i = (t : Int) ∧ 1 ≤ t ∧ t ≤ 8 ∧ (2 : Int) ^ (t - 1) ≤ i ∧ i < (2 : Int) ^ t := by
  obtain ⟨n, rfl⟩ := Int.eq_ofNat_of_zero_le (show 0 ≤ i by omega)
  obtain ⟨t, a, b, c, d⟩ := len8_tells ⟨n, by omega⟩ (by show 1 ≤ n; omega)
  exact ⟨t.val, a, b, by have := t.isLt; omega, by exact_mod_cast c, by exact_mod_cast d⟩
/-- What the count of leading zeros is good for. -/
def Lead (y : Int) (L : Nat) : Prop := L ≤ 64 ∧ 1 ≤ L ∧ (2 : Int) ^ (L - 1) ≤ y ∧ y < (2 : Int) ^ L
theorem lead_of (y i : Int) (c t : Nat) (ct : c + t ≤ 64) (hi : y / 2 ^ c = i) (t1 : 1 ≤ t) (lo : (2 : Int) ^ (t - 1) ≤ i) (up : i < (2 : Int) ^ t) : Lead y (c + t) := by
  have pc : (0 : Int) < 2 ^ c := by exact_mod_cast Nat.two_pow_pos c
  subst hi
  refine ⟨ct, by omega, ?_, ?_⟩
  · rw [show c + t - 1 = (t - 1) + c by omega, Int.pow_add]
    exact (Int.le_ediv_iff_mul_le pc).mp lo
  · rw [show c + t = t + c by omega, Int.pow_add]
    exact (Int.ediv_lt_iff_lt_mul pc).mp up
theorem w64_small (n : Int) (h0 : -100 ≤ n) (h1 : n ≤ 1000) : wrap64 n = n := by unfold wrap64; omega
theorem len64_j0 (x : Int) (c : Nat) (hc : c ≤ 32) (k : Nat) (h0 : 1 ≤ x) (h1 : x < 4294967296) (y : Int) (hy : y / 2 ^ c = x) :
    ∃ L : Nat, bits_Len64.j0 (k + 1) x c = some (L : Int) ∧ Lead y L := by
  have step : ∀ (a b : Nat) (i : Int), y / 2 ^ a = i → 1 ≤ i → i < 256 → a ≤ 56 → b = a →
      ∃ L : Nat, (some (wrap64 ((b : Int) + wrap64 (bt len8 i))) : Option Int) = some (L : Int) ∧ Lead y L := by
    intro a b i ha i0 i1 a56 hb
    subst hb
    obtain ⟨t, ht, t1, t8, lo, up⟩ := len8_at i i0 i1
    refine ⟨b + t, ?_, lead_of y i b t (by omega) ha t1 lo up⟩
    rw [ht, w64_small (t : Int) (by omega) (by omega), w64_small _ (by omega) (by omega)]
    simp
  have dv : ∀ a : Nat, x / 2 ^ a = y / 2 ^ (c + a) := fun a => by
    rw [← hy, Int.ediv_ediv_of_nonneg (by exact_mod_cast Nat.zero_le _), Int.pow_add]
  change ∃ L : Nat, (if x ≥ 65536 then (if x / 65536 ≥ 256 then (if 0 ≤ x / 65536 / 256 % 256 then (if x / 65536 / 256 % 256 < 256 then some (wrap64 (wrap64 (wrap64 (c + 16) + 8) + wrap64 (bt len8 (x / 65536 / 256 % 256)))) else none) else none) else (if 0 ≤ x / 65536 % 256 then (if x / 65536 % 256 < 256 then some (wrap64 (wrap64 (c + 16) + wrap64 (bt len8 (x / 65536 % 256)))) else none) else none)) else (if x ≥ 256 then (if 0 ≤ x / 256 % 256 then (if x / 256 % 256 < 256 then some (wrap64 (wrap64 (c + 8) + wrap64 (bt len8 (x / 256 % 256)))) else none) else none) else (if 0 ≤ x % 256 then (if x % 256 < 256 then some (wrap64 (c + wrap64 (bt len8 (x % 256)))) else none) else none))) = some (L : Int) ∧ Lead y L
  by_cases c1 : x ≥ 65536
  · rw [if_pos c1]
    by_cases c2 : x / 65536 ≥ 256
    · rw [if_pos c2, if_pos (by omega), if_pos (by omega), w64_small (c + 16) (by omega) (by omega), w64_small (c + 16 + 8) (by omega) (by omega)]
      have := step (c + 24) (c + 24) (x / 65536 / 256 % 256) (by rw [← dv 24]; omega) (by omega) (by omega) (by omega) rfl
      rw [show ((c : Int) + 16 + 8) = ((c + 24 : Nat) : Int) by omega]; exact this
    · rw [if_neg c2, if_pos (by omega), if_pos (by omega), w64_small (c + 16) (by omega) (by omega)]
      have := step (c + 16) (c + 16) (x / 65536 % 256) (by rw [← dv 16]; omega) (by omega) (by omega) (by omega) rfl
      simpa using this
  · rw [if_neg c1]
    by_cases c2 : x ≥ 256
    · rw [if_pos c2, if_pos (by omega), if_pos (by omega), w64_small (c + 8) (by omega) (by omega)]
      have := step (c + 8) (c + 8) (x / 256 % 256) (by rw [← dv 8]; omega) (by omega) (by omega) (by omega) rfl
      simpa using this
    · rw [if_neg c2, if_pos (by omega), if_pos (by omega)]
      have := step c c (x % 256) (by rw [hy]; omega) (by omega) (by omega) (by omega) rfl
      simpa using this
theorem lead64 (k : Nat) (y : Int) (h0 : 1 ≤ y) (h1 : y < 18446744073709551616) :
    ∃ s : Nat, bits_LeadingZeros64.f (k + 1) y = some (s : Int) ∧ s ≤ 63 ∧ 9223372036854775808 ≤ y * 2 ^ s ∧ y * 2 ^ s < 18446744073709551616 := by
  obtain ⟨L, e, hL, hL1, lo, up⟩ : ∃ L : Nat, bits_Len64.f (k + 1) y = some (L : Int) ∧ Lead y L := by
    unfold bits_Len64.f
    by_cases c1 : y ≥ 4294967296
    · rw [if_pos c1]; exact len64_j0 (y / 4294967296) 32 (by omega) k (by omega) (by omega) y (by rfl)
    · rw [if_neg c1]; exact len64_j0 y 0 (by omega) k (by omega) (by omega) y (by simp)
  refine ⟨64 - L, ?_, by omega, ?_, ?_⟩
  · unfold bits_LeadingZeros64.f
    rw [e]; simp only [Option.bind_some]
    rw [w64_small _ (by omega) (by omega)]
    congr 1; omega
  · have := Int.mul_le_mul_of_nonneg_right lo (show (0 : Int) ≤ 2 ^ (64 - L) from Int.le_of_lt (by exact_mod_cast Nat.two_pow_pos _))
    rw [← Int.pow_add, show L - 1 + (64 - L) = 63 by omega] at this
    exact this
  · have := Int.mul_lt_mul_of_pos_right up (show (0 : Int) < 2 ^ (64 - L) from by exact_mod_cast Nat.two_pow_pos _)
    rw [← Int.pow_add, show L + (64 - L) = 64 by omega] at this
    exact this

/-- One digit of a quotient, as it is guessed: u and v over y1 and y0 (all digits of 32 bits, but u): the guess q, and what it leaves. -/
structure Dig (y1 y0 u v q rh : Int) : Prop where
  a1 : 2147483648 ≤ y1
  a2 : y1 < 4294967296
  b1 : 0 ≤ y0
  b2 : y0 < 4294967296
  u1 : 0 ≤ u
  u2 : u < y1 * 4294967296 + y0
  v1 : 0 ≤ v
  v2 : v < 4294967296
  r1 : 0 ≤ rh
  r2 : rh < 4294967296
  e : q * y1 + rh = u
  lo : (u * 4294967296 + v) / (y1 * 4294967296 + y0) ≤ q
  up : q ≤ 4294967297
theorem dig_pos {y1 y0 u v q rh : Int} (h : Dig y1 y0 u v q rh) : 0 < y1 * 4294967296 + y0 := by have := h.a1; have := h.b1; omega
theorem dig_Q {y1 y0 u v q rh : Int} (h : Dig y1 y0 u v q rh) : 0 ≤ (u * 4294967296 + v) / (y1 * 4294967296 + y0) ∧ (u * 4294967296 + v) / (y1 * 4294967296 + y0) < 4294967296 := by
  have hp := dig_pos h
  refine ⟨Int.ediv_nonneg (by have := h.u1; have := h.v1; omega) (by omega), (Int.ediv_lt_iff_lt_mul hp).mpr ?_⟩
  have := h.u2; have := h.v2; omega
/-- Is the guess too great? -/
theorem dig_test {y1 y0 u v q rh : Int} (h : Dig y1 y0 u v q rh) : (q * y0 > 4294967296 * rh + v) ↔ (u * 4294967296 + v) / (y1 * 4294967296 + y0) < q := by
  rw [Int.ediv_lt_iff_lt_mul (dig_pos h)]
  have e : q * (y1 * 4294967296 + y0) = (u - rh) * 4294967296 + q * y0 := by rw [← h.e]; grind
  rw [e]; constructor <;> intro hh <;> omega
theorem dig_break {y1 y0 u v q rh : Int} (h : Dig y1 y0 u v q rh) (t : (u * 4294967296 + v) / (y1 * 4294967296 + y0) < q) (hb : rh + y1 ≥ 4294967296) : q - 1 = (u * 4294967296 + v) / (y1 * 4294967296 + y0) := by
  have hle : q - 1 ≤ (u * 4294967296 + v) / (y1 * 4294967296 + y0) := by
    rw [Int.le_ediv_iff_mul_le (dig_pos h)]
    have e : (q - 1) * (y1 * 4294967296 + y0) = (u - (rh + y1)) * 4294967296 + (q - 1) * y0 := by rw [← h.e]; grind
    have hq := (dig_Q h).1
    have m := prod_le (a := q - 1) (b := 4294967296) (c := y0) (d := 4294967295) (by omega) (by have := h.up; omega) h.b1 (by have := h.b2; omega)
    have := h.v1
    rw [e]; omega
  omega
theorem dig_more {y1 y0 u v q rh : Int} (h : Dig y1 y0 u v q rh) (t : (u * 4294967296 + v) / (y1 * 4294967296 + y0) < q) (hb : rh + y1 < 4294967296) : Dig y1 y0 u v (q - 1) (rh + y1) :=
  { h with r1 := by have := h.r1; have := h.a1; omega, r2 := hb, e := by rw [← h.e]; grind, lo := by omega, up := by have := h.up; omega }
theorem dig_first {y1 y0 u v : Int} (a1 : 2147483648 ≤ y1) (a2 : y1 < 4294967296) (b1 : 0 ≤ y0) (b2 : y0 < 4294967296) (u1 : 0 ≤ u) (u2 : u < y1 * 4294967296 + y0) (v1 : 0 ≤ v) (v2 : v < 4294967296) : Dig y1 y0 u v (u / y1) (u - u / y1 * y1) := by
  have hm : u - u / y1 * y1 = u % y1 := by have := Int.emod_def u y1; rw [this, Int.mul_comm]
  have hpos : 0 < y1 * 4294967296 + y0 := by omega
  refine { a1, a2, b1, b2, u1, u2, v1, v2, r1 := ?_, r2 := ?_, e := by omega, lo := ?_, up := ?_ }
  · rw [hm]; exact Int.emod_nonneg _ (by omega)
  · rw [hm]; have := Int.emod_lt_of_pos u (show 0 < y1 by omega); omega
  · have : (u * 4294967296 + v) / (y1 * 4294967296 + y0) < u / y1 + 1 := by
      rw [Int.ediv_lt_iff_lt_mul hpos]
      have h1 : u < (u / y1 + 1) * y1 := by
        have := Int.emod_lt_of_pos u (show 0 < y1 by omega)
        have := Int.emod_add_mul_ediv u y1
        have e : (u / y1 + 1) * y1 = y1 * (u / y1) + y1 := by grind
        omega
      have h0 : 0 ≤ u / y1 := Int.ediv_nonneg u1 (by omega)
      have e : (u / y1 + 1) * (y1 * 4294967296 + y0) = (u / y1 + 1) * y1 * 4294967296 + (u / y1 + 1) * y0 := by grind
      have := Int.mul_nonneg (show 0 ≤ u / y1 + 1 by omega) b1
      rw [e]; omega
    omega
  · have : u / y1 < 4294967298 := by rw [Int.ediv_lt_iff_lt_mul (by omega)]; omega
    omega
theorem tdivu (a b : Int) (ha : 0 ≤ a) : Int.tdiv a b = a / b := Int.tdiv_eq_ediv_of_nonneg ha
theorem tmodu (a b : Int) (ha : 0 ≤ a) : Int.tmod a b = a % b := Int.tmod_eq_emod_of_nonneg ha

theorem digit1 (x2 x8 x9 x10 x11 x13 x14 : Int) (r : Int × Int) (hj : Ev (fun k => bits_Div64.j2 k x2 x8 x9 x10 x11 x13 x14 ((x11 * 4294967296 + x13) / (x9 * 4294967296 + x10))) r) :
    ∀ (n : Nat) (q rh : Int), Dig x9 x10 x11 x13 q rh → (q - (x11 * 4294967296 + x13) / (x9 * 4294967296 + x10)).toNat = n → Ev (fun k => bits_Div64.l0 k x2 x8 x9 x10 x11 x13 x14 q rh) r := by
  intro n
  induction n with
  | zero =>
    intro q rh h hn
    have hq := dig_Q h
    have ht := dig_test h
    obtain rfl : q = (x11 * 4294967296 + x13) / (x9 * 4294967296 + x10) := by have := h.lo; omega
    generalize hQ : (x11 * 4294967296 + x13) / (x9 * 4294967296 + x10) = Q at *
    have m := prod_le (a := Q) (b := 4294967295) (c := x10) (d := 4294967295) (by omega) (by omega) h.b1 (by have := h.b2; omega)
    have := h.r1; have := h.r2; have := h.v1; have := h.v2
    have w1 : IntKind.u64.wrap (Q * x10) = Q * x10 := u64_id (by omega) (by omega)
    have w2 : IntKind.u64.wrap (4294967296 * rh) = 4294967296 * rh := u64_id (by omega) (by omega)
    have w3 : IntKind.u64.wrap (4294967296 * rh + x13) = 4294967296 * rh + x13 := u64_id (by omega) (by omega)
    have hd : decide (Q * x10 > 4294967296 * rh + x13) = false := decide_eq_false (by omega)
    refine Ev.step (f := fun k => bits_Div64.j1 k x2 x8 x9 x10 x11 x13 x14 Q rh false) (fun k => ?_) (Ev.step (f := fun k => bits_Div64.j2 k x2 x8 x9 x10 x11 x13 x14 Q) (fun k => ?_) hj)
    · show (if Q ≥ 4294967296 then _ else _) = _
      rw [if_neg (by omega), w1, w2, w3, hd]
    · rfl
  | succ n ih =>
    intro q rh h hn
    have hq := dig_Q h
    have ht := dig_test h
    have hlt : (x11 * 4294967296 + x13) / (x9 * 4294967296 + x10) < q := by omega
    have hbr := dig_break h hlt
    have hmo := dig_more h hlt
    have ihq := ih (q - 1) (rh + x9)
    generalize hQ : (x11 * 4294967296 + x13) / (x9 * 4294967296 + x10) = Q at *
    have m := prod_le (a := q) (b := 4294967297) (c := x10) (d := 4294967295) (by omega) h.up h.b1 (by have := h.b2; omega)
    have := h.r1; have := h.r2; have := h.v1; have := h.v2; have := h.a1; have := h.a2; have := h.up
    have w1 : IntKind.u64.wrap (q * x10) = q * x10 := u64_id (by omega) (by omega)
    have w2 : IntKind.u64.wrap (4294967296 * rh) = 4294967296 * rh := u64_id (by omega) (by omega)
    have w3 : IntKind.u64.wrap (4294967296 * rh + x13) = 4294967296 * rh + x13 := u64_id (by omega) (by omega)
    have w4 : IntKind.u64.wrap (q - 1) = q - 1 := u64_id (by omega) (by omega)
    have w5 : IntKind.u64.wrap (rh + x9) = rh + x9 := u64_id (by omega) (by omega)
    have hd : decide (q * x10 > 4294967296 * rh + x13) = true := decide_eq_true (ht.mpr hlt)
    refine Ev.step (f := fun k => bits_Div64.j1 k x2 x8 x9 x10 x11 x13 x14 q rh true) (fun k => ?_) ?_
    · show (if q ≥ 4294967296 then _ else _) = _
      rw [w1, w2, w3, hd, ite_self]
    · by_cases hb : rh + x9 ≥ 4294967296
      · refine Ev.step (f := fun k => bits_Div64.j2 k x2 x8 x9 x10 x11 x13 x14 Q) (fun k => ?_) hj
        show (if IntKind.u64.wrap (rh + x9) ≥ 4294967296 then bits_Div64.j2 k x2 x8 x9 x10 x11 x13 x14 (IntKind.u64.wrap (q - 1)) else _) = _
        rw [w5, w4, if_pos hb, hbr hb]
      · refine Ev.step (f := fun k => bits_Div64.l0 k x2 x8 x9 x10 x11 x13 x14 (q - 1) (rh + x9)) (fun k => ?_) (ihq (hmo (by omega)) (by omega))
        show (if IntKind.u64.wrap (rh + x9) ≥ 4294967296 then _ else bits_Div64.l0 k x2 x8 x9 x10 x11 x13 x14 (IntKind.u64.wrap (q - 1)) (IntKind.u64.wrap (rh + x9))) = _
        rw [w5, w4, if_neg hb]
theorem digit0 (x2 x8 x9 x10 x14 x15 x17 : Int) (h8 : 0 ≤ x8) (r : Int × Int)
    (hj : some (IntKind.u64.wrap (IntKind.u64.wrap (x15 * 4294967296) + (x17 * 4294967296 + x14) / (x9 * 4294967296 + x10)), shr .u64 (IntKind.u64.wrap (IntKind.u64.wrap (IntKind.u64.wrap (x17 * 4294967296) + x14) - IntKind.u64.wrap ((x17 * 4294967296 + x14) / (x9 * 4294967296 + x10) * x2))) x8) = some r) :
    ∀ (n : Nat) (q rh : Int), Dig x9 x10 x17 x14 q rh → (q - (x17 * 4294967296 + x14) / (x9 * 4294967296 + x10)).toNat = n → Ev (fun k => bits_Div64.l1 k x2 x8 x9 x10 x14 x15 rh x17 q) r := by
  intro n
  induction n with
  | zero =>
    intro q rh h hn
    have hq := dig_Q h
    have ht := dig_test h
    obtain rfl : q = (x17 * 4294967296 + x14) / (x9 * 4294967296 + x10) := by have := h.lo; omega
    generalize hQ : (x17 * 4294967296 + x14) / (x9 * 4294967296 + x10) = Q at *
    have m := prod_le (a := Q) (b := 4294967295) (c := x10) (d := 4294967295) (by omega) (by omega) h.b1 (by have := h.b2; omega)
    have := h.r1; have := h.r2; have := h.v1; have := h.v2
    have w1 : IntKind.u64.wrap (Q * x10) = Q * x10 := u64_id (by omega) (by omega)
    have w2 : IntKind.u64.wrap (4294967296 * rh) = 4294967296 * rh := u64_id (by omega) (by omega)
    have w3 : IntKind.u64.wrap (4294967296 * rh + x14) = 4294967296 * rh + x14 := u64_id (by omega) (by omega)
    have hd : decide (Q * x10 > 4294967296 * rh + x14) = false := decide_eq_false (by omega)
    refine Ev.step (f := fun k => bits_Div64.j4 k x2 x8 x9 x10 x14 x15 rh x17 Q false) (fun k => ?_) (Ev.step (f := fun _ => some r) (fun k => ?_) (Ev.now r))
    · show (if Q ≥ 4294967296 then _ else _) = _
      rw [if_neg (by omega), w1, w2, w3, hd]
    · show (if 0 ≤ x8 then _ else _) = _
      rw [if_pos h8]; exact hj
  | succ n ih =>
    intro q rh h hn
    have hq := dig_Q h
    have ht := dig_test h
    have hlt : (x17 * 4294967296 + x14) / (x9 * 4294967296 + x10) < q := by omega
    have hbr := dig_break h hlt
    have hmo := dig_more h hlt
    have ihq := ih (q - 1) (rh + x9)
    generalize hQ : (x17 * 4294967296 + x14) / (x9 * 4294967296 + x10) = Q at *
    have m := prod_le (a := q) (b := 4294967297) (c := x10) (d := 4294967295) (by omega) h.up h.b1 (by have := h.b2; omega)
    have := h.r1; have := h.r2; have := h.v1; have := h.v2; have := h.a1; have := h.a2; have := h.up
    have w1 : IntKind.u64.wrap (q * x10) = q * x10 := u64_id (by omega) (by omega)
    have w2 : IntKind.u64.wrap (4294967296 * rh) = 4294967296 * rh := u64_id (by omega) (by omega)
    have w3 : IntKind.u64.wrap (4294967296 * rh + x14) = 4294967296 * rh + x14 := u64_id (by omega) (by omega)
    have w4 : IntKind.u64.wrap (q - 1) = q - 1 := u64_id (by omega) (by omega)
    have w5 : IntKind.u64.wrap (rh + x9) = rh + x9 := u64_id (by omega) (by omega)
    have hd : decide (q * x10 > 4294967296 * rh + x14) = true := decide_eq_true (ht.mpr hlt)
    refine Ev.step (f := fun k => bits_Div64.j4 k x2 x8 x9 x10 x14 x15 rh x17 q true) (fun k => ?_) ?_
    · show (if q ≥ 4294967296 then _ else _) = _
      rw [w1, w2, w3, hd, ite_self]
    · by_cases hb : rh + x9 ≥ 4294967296
      · refine Ev.step (f := fun _ => some r) (fun k => ?_) (Ev.now r)
        show (if IntKind.u64.wrap (rh + x9) ≥ 4294967296 then (if 0 ≤ x8 then some (IntKind.u64.wrap (IntKind.u64.wrap (x15 * 4294967296) + IntKind.u64.wrap (q - 1)), shr .u64 (IntKind.u64.wrap (IntKind.u64.wrap (IntKind.u64.wrap (x17 * 4294967296) + x14) - IntKind.u64.wrap (IntKind.u64.wrap (q - 1) * x2))) x8) else _) else _) = _
        rw [w5, w4, if_pos hb, if_pos h8, hbr hb]; exact hj
      · refine Ev.step (f := fun k => bits_Div64.l1 k x2 x8 x9 x10 x14 x15 (rh + x9) x17 (q - 1)) (fun k => ?_) (ihq (hmo (by omega)) (by omega))
        show (if IntKind.u64.wrap (rh + x9) ≥ 4294967296 then _ else bits_Div64.l1 k x2 x8 x9 x10 x14 x15 (IntKind.u64.wrap (rh + x9)) x17 (IntKind.u64.wrap (q - 1))) = _
        rw [w5, w4, if_neg hb]

theorem div64 (hi lo y : Int) (hh0 : 0 ≤ hi) (hh : hi < y) (hy : y < 18446744073709551616) (l0 : 0 ≤ lo) (l1 : lo < 18446744073709551616) :
    Ev (fun k => bits_Div64.f k hi lo y) ((hi * 18446744073709551616 + lo) / y, (hi * 18446744073709551616 + lo) % y) := by
  by_cases hz : hi = 0
  · refine Ev.congr (f := fun _ => some ((hi * 18446744073709551616 + lo) / y, (hi * 18446744073709551616 + lo) % y)) (fun k => ?_) (Ev.now _)
    unfold bits_Div64.f
    rw [if_neg (by omega), if_neg (by omega), if_pos hz, tdivu _ _ l0, tmodu _ _ l0]
    have hle : lo / y ≤ lo := Int.ediv_le_self _ l0
    have hge : 0 ≤ lo / y := Int.ediv_nonneg l0 (by omega)
    rw [u64_id hge (by omega), hz]; simp
  obtain ⟨s, hs, s63, lo63, up64⟩ := lead64 0 y (by omega) hy
  have hsE : Ev (fun k => bits_LeadingZeros64.f k y) (s : Int) := Ev.of (bits_LeadingZeros64.mono y) hs
  -- P and R, the two powers
  obtain ⟨P, hP⟩ : ∃ P : Int, (2 : Int) ^ s = P := ⟨_, rfl⟩
  obtain ⟨R, hR⟩ : ∃ R : Int, (2 : Int) ^ (64 - s) = R := ⟨_, rfl⟩
  have hPR : P * R = 18446744073709551616 := by rw [← hP, ← hR, ← Int.pow_add, show s + (64 - s) = 64 by omega]; rfl
  have P0 : 0 < P := by rw [← hP]; exact_mod_cast Nat.two_pow_pos s
  have R0 : 0 < R := by rw [← hR]; exact_mod_cast Nat.two_pow_pos (64 - s)
  rw [hP] at lo63 up64
  have shP : ∀ x : Int, shl .u64 x (s : Int) = IntKind.u64.wrap (x * P) := fun x => by
    unfold shl; rw [show ((s : Int)).toNat = s from rfl, Nat.min_eq_left (show s ≤ IntKind.u64.bits by show s ≤ 64; omega), hP]
  have shR : ∀ x : Int, shr .u64 x (64 - (s : Int)) = x / R := fun x => by
    unfold shr; rw [show (64 - (s : Int)).toNat = 64 - s by omega, Nat.min_eq_left (show 64 - s ≤ IntKind.u64.bits by show 64 - s ≤ 64; omega), hR]
  have shQ : ∀ x : Int, shr .u64 x (s : Int) = x / P := fun x => by
    unfold shr; rw [show ((s : Int)).toNat = s from rfl, Nat.min_eq_left (show s ≤ IntKind.u64.bits by show s ≤ 64; omega), hP]
  have hyP : IntKind.u64.wrap (y * P) = y * P := u64_id (Int.mul_nonneg (by omega) (by omega)) up64
  have hhP0 : 0 ≤ hi * P := Int.mul_nonneg hh0 (by omega)
  have hhPy : hi * P ≤ y * P - P := by
    have := Int.mul_le_mul_of_nonneg_right (show hi ≤ y - 1 by omega) (show 0 ≤ P by omega)
    have e : (y - 1) * P = y * P - P := by grind
    omega
  have hhP : IntKind.u64.wrap (hi * P) = hi * P := u64_id hhP0 (by omega)
  have q0 : 0 ≤ lo / R := Int.ediv_nonneg l0 (by omega)
  have q1 : lo / R < P := by rw [Int.ediv_lt_iff_lt_mul R0]; omega
  have hjoin : Go.bits .or .u64 (hi * P) (lo / R) = hi * P + lo / R := by
    refine or_join s (hi * P) (lo / R) hhP0 ?_ (by omega) q0 (by rw [hP]; exact q1) (by omega)
    rw [hP]; exact Int.mul_emod_left _ _
  have hsplit : lo * P = lo / R * 18446744073709551616 + lo % R * P := by
    have := Int.emod_add_mul_ediv lo R
    calc lo * P = (lo % R + R * (lo / R)) * P := by rw [this]
      _ = lo / R * (P * R) + lo % R * P := by grind
      _ = _ := by rw [hPR]
  have m0 : 0 ≤ lo % R := Int.emod_nonneg _ (by omega)
  have m1 : lo % R * P < 18446744073709551616 := by
    rw [← hPR, Int.mul_comm P R]
    exact Int.mul_lt_mul_of_pos_right (Int.emod_lt_of_pos lo R0) P0
  have m2 : 0 ≤ lo % R * P := Int.mul_nonneg m0 (by omega)
  have hlP : IntKind.u64.wrap (lo * P) = lo % R * P := by rw [u64_wrap, hsplit]; omega
  have hN : (hi * 18446744073709551616 + lo) * P = (hi * P + lo / R) * 18446744073709551616 + lo % R * P := by
    have e : (hi * 18446744073709551616 + lo) * P = hi * P * 18446744073709551616 + lo * P := by grind
    rw [e, hsplit]; grind
  -- the names of the text
  obtain ⟨yv, hyv⟩ : ∃ yv : Int, y * P = yv := ⟨_, rfl⟩
  obtain ⟨u, hu⟩ : ∃ u : Int, hi * P + lo / R = u := ⟨_, rfl⟩
  obtain ⟨v, hv⟩ : ∃ v : Int, lo % R * P = v := ⟨_, rfl⟩
  rw [hyv] at lo63 up64 hyP hhPy
  rw [hu] at hjoin
  rw [hv] at hlP m1 m2
  rw [hu, hv] at hN
  have u0 : 0 ≤ u := by omega
  have uy : u < yv := by omega
  have yd : yv / 4294967296 * 4294967296 + yv % 4294967296 = yv := by omega
  have D1 := dig_first (y1 := yv / 4294967296) (y0 := yv % 4294967296) (u := u) (v := v / 4294967296) (by omega) (by omega) (by omega) (by omega) u0 (by omega) (by omega) (by omega)
  rw [← yd] at up64
  have hQ1 := dig_Q D1
  obtain ⟨Q1, hQ1e⟩ : ∃ Q1 : Int, (u * 4294967296 + v / 4294967296) / yv = Q1 := ⟨_, rfl⟩
  rw [yd, hQ1e] at hQ1
  obtain ⟨r1, hr1⟩ : ∃ r1 : Int, (u * 4294967296 + v / 4294967296) % yv = r1 := ⟨_, rfl⟩
  have er1 : u * 4294967296 + v / 4294967296 = Q1 * yv + r1 := by
    have := Int.emod_add_mul_ediv (u * 4294967296 + v / 4294967296) yv
    rw [hQ1e, hr1, Int.mul_comm] at this; omega
  have r10 : 0 ≤ r1 := by rw [← hr1]; exact Int.emod_nonneg _ (by omega)
  have r11 : r1 < yv := by rw [← hr1]; exact Int.emod_lt_of_pos _ (by omega)
  have D0 := dig_first (y1 := yv / 4294967296) (y0 := yv % 4294967296) (u := r1) (v := v % 4294967296) (by omega) (by omega) (by omega) (by omega) r10 (by omega) (by omega) (by omega)
  have hQ0 := dig_Q D0
  obtain ⟨Q0, hQ0e⟩ : ∃ Q0 : Int, (r1 * 4294967296 + v % 4294967296) / yv = Q0 := ⟨_, rfl⟩
  rw [yd, hQ0e] at hQ0
  obtain ⟨r0, hr0⟩ : ∃ r0 : Int, (r1 * 4294967296 + v % 4294967296) % yv = r0 := ⟨_, rfl⟩
  have er0 : r1 * 4294967296 + v % 4294967296 = Q0 * yv + r0 := by
    have := Int.emod_add_mul_ediv (r1 * 4294967296 + v % 4294967296) yv
    rw [hQ0e, hr0, Int.mul_comm] at this; omega
  have r00 : 0 ≤ r0 := by rw [← hr0]; exact Int.emod_nonneg _ (by omega)
  have r01 : r0 < yv := by rw [← hr0]; exact Int.emod_lt_of_pos _ (by omega)
  -- the whole quotient
  have whole : (hi * 18446744073709551616 + lo) * P = (Q1 * 4294967296 + Q0) * yv + r0 := by
    have e1 : (Q1 * 4294967296 + Q0) * yv = Q1 * yv * 4294967296 + Q0 * yv := by grind
    rw [hN, e1]; omega
  have hdvd : r0 = (hi * 18446744073709551616 + lo - (Q1 * 4294967296 + Q0) * y) * P := by
    rw [← hyv] at whole; grind
  obtain ⟨ρ, hρ⟩ : ∃ ρ : Int, hi * 18446744073709551616 + lo - (Q1 * 4294967296 + Q0) * y = ρ := ⟨_, rfl⟩
  rw [hρ] at hdvd
  have ρ0 : 0 ≤ ρ := by
    refine Decidable.byContradiction fun hneg => ?_
    have := Int.mul_le_mul_of_nonneg_right (show ρ ≤ -1 by omega) (show 0 ≤ P by omega)
    omega
  have ρ1 : ρ < y := by
    refine Decidable.byContradiction fun hge => ?_
    have := Int.mul_le_mul_of_nonneg_right (show y ≤ ρ by omega) (show 0 ≤ P by omega)
    rw [← hyv] at r01; omega
  have hN2 : hi * 18446744073709551616 + lo = (Q1 * 4294967296 + Q0) * y + ρ := by omega
  have ediv : (hi * 18446744073709551616 + lo) / y = Q1 * 4294967296 + Q0 := by
    rw [Int.ediv_eq_iff_of_pos (by omega)]; omega
  have emod : (hi * 18446744073709551616 + lo) % y = ρ := by
    have := Int.emod_add_mul_ediv (hi * 18446744073709551616 + lo) y
    rw [ediv, Int.mul_comm y] at this; omega
  have edr : r0 / P = ρ := by rw [hdvd, Int.mul_ediv_cancel _ (by omega)]
  rw [ediv, emod]
  have u21 : IntKind.u64.wrap (IntKind.u64.wrap (IntKind.u64.wrap (u * 4294967296) + v / 4294967296) - IntKind.u64.wrap (Q1 * yv)) = r1 := by
    simp only [u64_wrap]; omega
  have last : IntKind.u64.wrap (IntKind.u64.wrap (IntKind.u64.wrap (r1 * 4294967296) + v % 4294967296) - IntKind.u64.wrap (Q0 * yv)) = r0 := by
    simp only [u64_wrap]; omega
  have tail := digit0 yv s (yv / 4294967296) (yv % 4294967296) (v % 4294967296) Q1 r1 (by omega) (Q1 * 4294967296 + Q0, ρ) (by
    rw [yd, hQ0e, last, shQ, edr, u64_id (n := Q1 * 4294967296) (by omega) (by omega), u64_id (n := Q1 * 4294967296 + Q0) (by omega) (by omega)]) _ _ _ D0 rfl
  have w_q0 : IntKind.u64.wrap (r1 / (yv / 4294967296)) = r1 / (yv / 4294967296) := u64_id (by have := D0.lo; have := (dig_Q D0).1; omega) (by have := D0.up; omega)
  have w_r0 : IntKind.u64.wrap (r1 / (yv / 4294967296) * (yv / 4294967296)) = r1 / (yv / 4294967296) * (yv / 4294967296) := u64_id (by have := D0.e; have := D0.r1; have := D0.r2; have := D0.a1; have := Int.mul_nonneg (show 0 ≤ r1 / (yv / 4294967296) by have := D0.lo; have := (dig_Q D0).1; omega) (show 0 ≤ yv / 4294967296 by omega); omega) (by have := D0.e; have := D0.r1; omega)
  have w_m0 : IntKind.u64.wrap (r1 - r1 / (yv / 4294967296) * (yv / 4294967296)) = r1 - r1 / (yv / 4294967296) * (yv / 4294967296) := u64_id D0.r1 (by have := D0.r2; omega)
  have w_q1 : IntKind.u64.wrap (u / (yv / 4294967296)) = u / (yv / 4294967296) := u64_id (by have := D1.lo; have := (dig_Q D1).1; omega) (by have := D1.up; omega)
  have w_r1 : IntKind.u64.wrap (u / (yv / 4294967296) * (yv / 4294967296)) = u / (yv / 4294967296) * (yv / 4294967296) := u64_id (by have := D1.e; have := D1.r1; have := D1.r2; have := D1.a1; have := Int.mul_nonneg (show 0 ≤ u / (yv / 4294967296) by have := D1.lo; have := (dig_Q D1).1; omega) (show 0 ≤ yv / 4294967296 by omega); omega) (by have := D1.e; have := D1.r1; omega)
  have w_m1 : IntKind.u64.wrap (u - u / (yv / 4294967296) * (yv / 4294967296)) = u - u / (yv / 4294967296) * (yv / 4294967296) := u64_id D1.r1 (by have := D1.r2; omega)
  have mid : Ev (fun k => bits_Div64.j2 k yv s (yv / 4294967296) (yv % 4294967296) u (v / 4294967296) (v % 4294967296) Q1) (Q1 * 4294967296 + Q0, ρ) := by
    refine Ev.step (f := fun k => bits_Div64.l1 k yv s (yv / 4294967296) (yv % 4294967296) (v % 4294967296) Q1 (r1 - r1 / (yv / 4294967296) * (yv / 4294967296)) r1 (r1 / (yv / 4294967296))) (fun k => ?_) tail
    show (if yv / 4294967296 = 0 then _ else _) = _
    rw [if_neg (by omega)]
    simp only [u21]
    rw [tdivu _ _ r10, w_q0, w_r0, w_m0]
  have head := digit1 yv s (yv / 4294967296) (yv % 4294967296) u (v / 4294967296) (v % 4294967296) (Q1 * 4294967296 + Q0, ρ) (by rw [yd, hQ1e]; exact mid) _ _ _ D1 rfl
  refine Ev.congr (f := fun k => (bits_LeadingZeros64.f k y).bind fun t => if t = (s : Int) then bits_Div64.l0 k yv s (yv / 4294967296) (yv % 4294967296) u (v / 4294967296) (v % 4294967296) (u / (yv / 4294967296)) (u - u / (yv / 4294967296) * (yv / 4294967296)) else bits_Div64.f k hi lo y) (fun k => ?_) (Ev.bind hsE (by simpa using head))
  show bits_Div64.f k hi lo y = _
  cases hk : bits_LeadingZeros64.f k y with
  | none =>
    unfold bits_Div64.f
    rw [if_neg (by omega), if_neg (by omega), if_neg hz, hk]; rfl
  | some t =>
    simp only [Option.bind_some]
    by_cases ht : t = s
    · rw [if_pos ht]
      subst ht
      unfold bits_Div64.f
      rw [if_neg (by omega), if_neg (by omega), if_neg hz, hk]
      simp only [Option.bind_some]
      have ws : IntKind.u64.wrap (s : Int) = s := u64_id (by omega) (by omega)
      have ws2 : IntKind.u64.wrap (64 - (s : Int)) = 64 - s := u64_id (by omega) (by omega)
      simp only [ws, ws2, shP, shR, hyv, hyP, hhP, hlP, hjoin]
      rw [if_pos (by omega), if_pos (by omega), if_neg (by omega), and_low yv (by omega) (by omega), and_low v (by omega) (by omega), tdivu _ _ u0, w_q1, w_r1, w_m1]
    · rw [if_neg ht]

/-- A number without its sign. -/
def mag (a : Int) : Int := if a < 0 then -a else a
theorem mag_b {a : Int} (h0 : -9223372036854775808 ≤ a) (h1 : a ≤ 9223372036854775807) : 0 ≤ mag a ∧ mag a ≤ 9223372036854775808 := by unfold mag; split <;> omega
theorem size_is {a : Int} (h0 : -9223372036854775808 ≤ a) (h1 : a ≤ 9223372036854775807) : num_size.f a = some (mag a) := by
  unfold num_size.f mag
  split
  · congr 1; rw [u64_wrap, u64_wrap]; omega
  · congr 1; rw [u64_wrap]; omega
/-- Is the quotient below 0 (or would it be)? -/
def below (a b c : Int) : Bool := ((decide (a < 0)) != (decide (b < 0))) != (decide (c < 0))
/-- A number with a sign, if it is an int. -/
def sgn (q : Int) (m : Bool) : Int × Bool := if m = true then (if q ≤ 9223372036854775808 then (-q, true) else (0, false)) else (if q < 9223372036854775808 then (q, true) else (0, false))
/-- What MulDiv is. -/
def md (a b c : Int) : Int × Bool :=
  if c = 0 then (0, false) else sgn (if below a b c = true ∧ mag a * mag b % mag c > 0 then mag a * mag b / mag c + 1 else mag a * mag b / mag c) (below a b c)
theorem signed_is (q : Int) (m : Bool) (h0 : 0 ≤ q) (h1 : q < 18446744073709551616) : Ev (fun k => num_signed.f k q m) (sgn q m) := by
  have w1 : q ≤ 9223372036854775808 → wrap64 (IntKind.u64.wrap (-q)) = -q := fun h => by rw [u64_wrap]; unfold wrap64; omega
  have w2 : q < 9223372036854775808 → wrap64 q = q := fun h => by unfold wrap64; omega
  cases m with
  | true =>
    refine Ev.congr (f := fun k => num_signed.j0 k q true (decide (q ≤ 9223372036854775808))) (fun k => by unfold num_signed.f; rw [if_pos rfl]) (Ev.step (f := fun _ => some (sgn q true)) (fun k => ?_) (Ev.now _))
    show (if decide (q ≤ 9223372036854775808) = true then _ else _) = _
    unfold sgn
    by_cases h : q ≤ 9223372036854775808
    · rw [if_pos (by simpa using h), w1 h, if_pos rfl, if_pos h]
    · rw [if_neg (by simpa using h), if_pos rfl, if_pos rfl, if_neg h]
  | false =>
    refine Ev.congr (f := fun k => num_signed.j0 k q false false) (fun k => by unfold num_signed.f; rw [if_neg (by decide)]) (Ev.step (f := fun _ => some (sgn q false)) (fun k => ?_) (Ev.now _))
    show (if false = true then some (wrap64 (IntKind.u64.wrap (-q)), true) else (if false = true then some ((0 : Int), false) else _)) = _
    unfold sgn
    simp only [Bool.false_eq_true, if_false]
    by_cases h : q < 9223372036854775808
    · rw [if_pos h, if_pos h, w2 h]
    · rw [if_neg h, if_neg h]
theorem ev_pair {α β : Type} {g : Nat → Option (α × β)} {p : α × β} (h : Ev g p) : Ev (fun k => (g k).bind fun t => some (t.1, t.2)) p := by
  refine Ev.bind (a := p) h (Ev.now _)
theorem muldiv (a b c : Int) (ha : -9223372036854775808 ≤ a) (ha' : a ≤ 9223372036854775807) (hb : -9223372036854775808 ≤ b) (hb' : b ≤ 9223372036854775807) (hc : -9223372036854775808 ≤ c) (hc' : c ≤ 9223372036854775807) :
    Ev (fun k => num_MulDiv.f k a b c) (md a b c) := by
  have A := mag_b ha ha'
  have B := mag_b hb hb'
  have C := mag_b hc hc'
  have hp := prod_le A.1 A.2 B.1 B.2
  have hM := mul64 (mag a) (mag b) A.1 (by omega) B.1 (by omega)
  unfold md
  obtain ⟨n, hn⟩ : ∃ n, mag a * mag b = n := ⟨_, rfl⟩
  obtain ⟨d, hd⟩ : ∃ d, mag c = d := ⟨_, rfl⟩
  rw [hn] at hM hp ⊢
  rw [hd] at C ⊢
  refine Ev.congr (f := fun k => if n / 18446744073709551616 ≥ d then (some (0, false)) else ((bits_Div64.f k (n / 18446744073709551616) (n % 18446744073709551616) d).bind fun bt => (if below a b c = true then (num_MulDiv.j0 k bt.1 (below a b c) (decide (bt.2 > 0))) else (num_MulDiv.j0 k bt.1 (below a b c) false)))) (fun k => ?_) ?_
  · unfold num_MulDiv.f
    rw [size_is ha ha', size_is hb hb', size_is hc hc']
    simp only [Option.bind_some]
    rw [hM, hd]
    simp only [Option.bind_some]
    rfl
  · by_cases hge : n / 18446744073709551616 ≥ d
    · refine Ev.congr (f := fun _ => some (0, false)) (fun k => by rw [if_pos hge]) ?_
      by_cases c0 : c = 0
      · rw [if_pos c0]; exact Ev.now _
      · have d1 : 1 ≤ d := by rw [← hd]; unfold mag; split <;> omega
        have hq : 18446744073709551616 ≤ n / d := by rw [Int.le_ediv_iff_mul_le (by omega)]; omega
        have : (if c = 0 then ((0, false) : Int × Bool) else sgn (if below a b c = true ∧ n % d > 0 then n / d + 1 else n / d) (below a b c)) = (0, false) := by
          rw [if_neg c0]
          have q1 : 9223372036854775808 < (if below a b c = true ∧ n % d > 0 then n / d + 1 else n / d) := by split <;> omega
          unfold sgn
          split
          · rw [if_neg (by omega)]
          · rw [if_neg (by omega)]
        rw [this]; exact Ev.now _
    · have c0 : c ≠ 0 := by
        intro h0; subst h0
        have : d = 0 := by rw [← hd]; rfl
        omega
      rw [if_neg c0]
      have hD := div64 (n / 18446744073709551616) (n % 18446744073709551616) d (by omega) (by omega) (by omega) (by omega) (by omega)
      have en : n / 18446744073709551616 * 18446744073709551616 + n % 18446744073709551616 = n := by omega
      rw [en] at hD
      have d1 : 1 ≤ d := by omega
      have hq0 : 0 ≤ n / d := Int.ediv_nonneg (by omega) (by omega)
      have hq1 : n / d < 18446744073709551616 := by rw [Int.ediv_lt_iff_lt_mul (by omega)]; omega
      refine Ev.congr (f := fun k => ((bits_Div64.f k (n / 18446744073709551616) (n % 18446744073709551616) d).bind fun bt => (if below a b c = true then (num_MulDiv.j0 k bt.1 (below a b c) (decide (bt.2 > 0))) else (num_MulDiv.j0 k bt.1 (below a b c) false)))) (fun k => by rw [if_neg hge]) (Ev.bind hD ?_)
      show Ev (fun k => if below a b c = true then (num_MulDiv.j0 k (n / d) (below a b c) (decide (n % d > 0))) else (num_MulDiv.j0 k (n / d) (below a b c) false)) _
      by_cases hbe : below a b c = true
      · by_cases hr : n % d > 0
        · rw [if_pos ⟨hbe, hr⟩]
          refine Ev.step (f := fun k => if IntKind.u64.wrap (n / d + 1) = 0 then some (0, false) else ((num_signed.f k (IntKind.u64.wrap (n / d + 1)) (below a b c)).bind fun t => some (t.1, t.2))) (fun k => ?_) ?_
          · show (if below a b c = true then _ else _) = _
            rw [if_pos hbe, decide_eq_true hr]; rfl
          · by_cases hw : IntKind.u64.wrap (n / d + 1) = 0
            · have hq : n / d = 18446744073709551615 := by rw [u64_wrap] at hw; omega
              have e : sgn (n / d + 1) (below a b c) = (0, false) := by rw [hq]; unfold sgn; split <;> rfl
              rw [e]
              exact Ev.congr (f := fun _ => some (0, false)) (fun k => by rw [if_pos hw]) (Ev.now _)
            · have hq : IntKind.u64.wrap (n / d + 1) = n / d + 1 := by rw [u64_wrap] at hw ⊢; omega
              refine Ev.congr (f := fun k => (num_signed.f k (n / d + 1) (below a b c)).bind fun t => some (t.1, t.2)) (fun k => by rw [if_neg hw, hq]) (ev_pair (signed_is _ _ (by omega) (by rw [u64_wrap] at hw; omega)))
        · rw [if_neg (fun h => hr h.2)]
          refine Ev.step (f := fun k => (num_signed.f k (n / d) (below a b c)).bind fun t => some (t.1, t.2)) (fun k => ?_) (ev_pair (signed_is _ _ hq0 hq1))
          show (if below a b c = true then _ else _) = _
          rw [if_pos hbe, decide_eq_false hr]; rfl
      · rw [if_neg (fun h => hbe h.1)]
        refine Ev.step (f := fun k => (num_signed.f k (n / d) (below a b c)).bind fun t => some (t.1, t.2)) (fun k => ?_) (ev_pair (signed_is _ _ hq0 hq1))
        show (if below a b c = true then _ else _) = _
        rw [if_neg hbe]; rfl
theorem alive : Ev (fun k => gatherumlaw01_alive.f k) true := by
  have h1 := muldiv (-7) 1 2 (by omega) (by omega) (by omega) (by omega) (by omega) (by omega)
  have h2 := muldiv 4611686018427387904 6 8 (by omega) (by omega) (by omega) (by omega) (by omega) (by omega)
  rw [show md (-7) 1 2 = (-4, true) by decide] at h1
  rw [show md 4611686018427387904 6 8 = (3458764513820540928, true) by decide] at h2
  refine Ev.bind (a := ((-4, true) : Int × Bool)) (g := fun k => num_Floor.f k (-7) 2) (ev_pair h1) (Ev.bind h2 ?_)
  exact Ev.now true

theorem i64_bd {a : Int} (h : (Lit.int .i64 a).wf = true) : -9223372036854775808 ≤ a ∧ a ≤ 9223372036854775807 := by
  simp [Lit.wf] at h
  have e : IntKind.i64.min = -9223372036854775808 := by decide
  omega
/-- A sum that may not fit. -/
def addS (a b : Int) : Int × Bool := if -9223372036854775808 ≤ a + b ∧ a + b ≤ 9223372036854775807 then (a + b, true) else (0, false)
/-- A difference that may not fit. -/
def subS (a b : Int) : Int × Bool := if -9223372036854775808 ≤ a - b ∧ a - b ≤ 9223372036854775807 then (a - b, true) else (0, false)
theorem bne_tf (p q : Prop) [Decidable p] [Decidable q] : ((decide p) != (decide q)) = true ↔ ¬ (p ↔ q) := by
  by_cases hp : p <;> by_cases hq : q <;> simp [hp, hq]

theorem add_is {a b : Int} (ha : -9223372036854775808 ≤ a) (ha' : a ≤ 9223372036854775807) (hb : -9223372036854775808 ≤ b) (hb' : b ≤ 9223372036854775807) : num_Add.f a b = some (addS a b) := by
  unfold num_Add.f addS
  have hw : wrap64 (a + b) = a + b ∨ wrap64 (a + b) = a + b + 18446744073709551616 ∨ wrap64 (a + b) = a + b - 18446744073709551616 := by unfold wrap64; omega
  have hw2 : -9223372036854775808 ≤ wrap64 (a + b) ∧ wrap64 (a + b) ≤ 9223372036854775807 := by unfold wrap64; omega
  generalize wrap64 (a + b) = n at *
  by_cases c1 : ((decide (n > a)) != (decide (b > 0))) = true
  · rw [if_pos c1]; rw [bne_tf] at c1
    by_cases c2 : b = 0
    · rw [if_pos c2, if_pos (by omega)]; congr 2; omega
    · rw [if_neg c2, if_neg (by omega)]
  · rw [if_neg c1]; rw [bne_tf] at c1
    rw [if_pos (by omega)]; congr 2; omega
theorem radd_is {a b : Int} (ha : -9223372036854775808 ≤ a) (ha' : a ≤ 9223372036854775807) (hb : -9223372036854775808 ≤ b) (hb' : b ≤ 9223372036854775807) : gatherumref01_Add.f a b = some (addS a b) := by
  unfold gatherumref01_Add.f addS
  have w1 : b > 0 → wrap64 (9223372036854775807 - b) = 9223372036854775807 - b := fun _ => by unfold wrap64; omega
  have w2 : b < 0 → wrap64 ((-9223372036854775808) - b) = -9223372036854775808 - b := fun _ => by unfold wrap64; omega
  have w3 : -9223372036854775808 ≤ a + b → a + b ≤ 9223372036854775807 → wrap64 (a + b) = a + b := fun _ _ => by unfold wrap64; omega
  by_cases c1 : b > 0
  · rw [if_pos c1, w1 c1]
    by_cases c2 : a > 9223372036854775807 - b
    · rw [if_pos c2, if_neg (by omega)]
    · rw [if_neg c2, if_neg (by omega), if_pos (by omega), w3 (by omega) (by omega)]
  · rw [if_neg c1]
    by_cases c3 : b < 0
    · rw [if_pos c3, w2 c3]
      by_cases c4 : a < -9223372036854775808 - b
      · rw [if_pos c4, if_neg (by omega)]
      · rw [if_neg c4, if_pos (by omega), w3 (by omega) (by omega)]
    · rw [if_neg c3, if_pos (by omega), w3 (by omega) (by omega)]

/-- A list's sum, as long as no sum ahead runs over. -/
def sumUp : List Int → Int → Int × Bool
  | [], s => (s, true)
  | x :: l, s => if (addS s x).2 = true then sumUp l (addS s x).1 else (0, false)
theorem addS_bd {a b : Int} : -9223372036854775808 ≤ (addS a b).1 ∧ (addS a b).1 ≤ 9223372036854775807 := by unfold addS; split <;> simp <;> omega
theorem rd_at (l : List Int) (i : Nat) (h : i < l.length) : rd l (i : Int) = l[i] := by unfold rd; simp [h]
theorem drop_at (l : List Int) (i : Nat) (h : i < l.length) : l.drop i = l[i] :: l.drop (i + 1) := List.drop_eq_getElem_cons h
theorem wrap_succ {i n : Nat} (h : i < n) (hn : n ≤ 9223372036854775807) : wrap64 ((i : Int) + 1) = ((i + 1 : Nat) : Int) := by unfold wrap64; omega
theorem sum_l (l : List Int) (hl : ∀ x ∈ l, (Lit.int .i64 x).wf = true) (hn : l.length ≤ 9223372036854775807) : ∀ (d i : Nat) (s : Int), l.length - i = d → i ≤ l.length → -9223372036854775808 ≤ s → s ≤ 9223372036854775807 →
    Ev (fun k => num_Sum.l0 k s l (l.length : Int) (i : Int)) (sumUp (l.drop i) s) := by
  intro d
  induction d with
  | zero =>
    intro i s hd hi s0 s1
    refine Ev.step (f := fun _ => some (s, true)) (fun k => ?_) ?_
    · show (if (i : Int) < (l.length : Int) then _ else _) = _
      rw [if_neg (by omega)]
    · rw [List.drop_of_length_le (by omega)]; exact Ev.now _
  | succ d ih =>
    intro i s hd hi s0 s1
    have hlt : i < l.length := by omega
    have hx := i64_bd (hl l[i] (List.getElem_mem hlt))
    rw [drop_at l i hlt]
    refine Ev.step (f := fun k => if (addS s l[i]).2 = true then num_Sum.l0 k (addS s l[i]).1 l (l.length : Int) ((i + 1 : Nat) : Int) else some (0, false)) (fun k => ?_) ?_
    · show (if (i : Int) < (l.length : Int) then (if 0 ≤ (i : Int) then (if (i : Int) < (l.length : Int) then _ else _) else _) else _) = _
      rw [if_pos (by omega), if_pos (by omega), if_pos (by omega), rd_at l i hlt, add_is s0 s1 hx.1 hx.2, wrap_succ hlt hn]; rfl
    · show Ev _ (if (addS s l[i]).2 = true then sumUp (l.drop (i + 1)) (addS s l[i]).1 else (0, false))
      by_cases c : (addS s l[i]).2 = true
      · simp only [if_pos c]
        exact ih (i + 1) _ (by omega) (by omega) addS_bd.1 addS_bd.2
      · simp only [if_neg c]; exact Ev.now _
theorem sum_is (l : List Int) (hl : ∀ x ∈ l, (Lit.int .i64 x).wf = true) (hn : l.length ≤ 9223372036854775807) : Ev (fun k => num_Sum.f k l) (sumUp l 0) :=
  sum_l l hl hn l.length 0 0 (by omega) (by omega) (by omega) (by omega)
theorem in_is (n lo hi : Int) : num_In.f n lo hi = some (decide (lo ≤ n) && decide (n ≤ hi)) := by
  unfold num_In.f
  by_cases h : lo ≤ n <;> simp [h]
theorem NumSums : gatherumlaw01_NumSums.Pure := by
  intro l n lo hi hm hb hl wn wlo whi
  have hn : l.length ≤ 9223372036854775807 := by omega
  have hs := sum_is l hl hn
  refine Ev.rounds (Ev.bind alive ?_)
  simp only [if_true]
  by_cases c : (l.length : Int) > 300
  · simp only [if_pos c]; exact Ev.now true
  simp only [if_neg c]
  have last : (if n ≥ lo then some ((decide (lo ≤ n) && decide (n ≤ hi)) == decide (n ≤ hi)) else some ((decide (lo ≤ n) && decide (n ≤ hi)) == false) : Option Bool) = some true := by
    by_cases h : lo ≤ n
    · rw [if_pos h]; simp [h]
    · rw [if_neg h]; simp [h]
  have stopF : sumUp l 0 = (0, false) → Ev (fun k => gatherumlaw01_NumSums.j1 k l n lo hi 0 false) true := by
    intro e
    rw [e] at hs
    refine Ev.step (f := fun k => (num_Sum.f k l).bind fun bt131 => (if bt131.1 = 0 then (if (bt131.2 == false) = true then ((num_In.f n lo hi).bind fun t133 => (if n ≥ lo then (some (t133 == (decide (n ≤ hi)))) else (some (t133 == false)))) else (some false)) else (some false))) (fun k => rfl) (Ev.bind hs ?_)
    refine Ev.congr (f := fun _ => some true) (fun k => ?_) (Ev.now true)
    rw [in_is]
    simp only [if_true, Option.bind_some, beq_self_eq_true]
    exact last
  have stopT : ∀ s, sumUp l 0 = (s, true) → Ev (fun k => gatherumlaw01_NumSums.j1 k l n lo hi s true) true := by
    intro s e
    rw [e] at hs
    refine Ev.step (f := fun k => (num_Sum.f k l).bind fun bt128 => (if bt128.1 = s then (if (bt128.2 == true) = true then ((num_In.f n lo hi).bind fun t130 => (if n ≥ lo then (some (t130 == (decide (n ≤ hi)))) else (some (t130 == false)))) else (some false)) else (some false))) (fun k => rfl) (Ev.bind hs ?_)
    refine Ev.congr (f := fun _ => some true) (fun k => ?_) (Ev.now true)
    rw [in_is]
    simp only [if_true, Option.bind_some, beq_self_eq_true]
    exact last
  have loop : ∀ (d i : Nat) (s : Int), l.length - i = d → i ≤ l.length → -9223372036854775808 ≤ s → s ≤ 9223372036854775807 → sumUp l 0 = sumUp (l.drop i) s →
      Ev (fun k => gatherumlaw01_NumSums.l0 k l n lo hi s true (i : Int)) true := by
    intro d
    induction d with
    | zero =>
      intro i s hd hi2 s0 s1 e
      rw [List.drop_of_length_le (by omega)] at e
      refine Ev.step (f := fun k => gatherumlaw01_NumSums.j1 k l n lo hi s true) (fun k => ?_) (stopT s e)
      show (if (i : Int) < (l.length : Int) then _ else _) = _
      rw [if_neg (by omega)]
    | succ d ih =>
      intro i s hd hi2 s0 s1 e
      have hlt : i < l.length := by omega
      have hx := i64_bd (hl l[i] (List.getElem_mem hlt))
      rw [drop_at l i hlt] at e
      replace e : sumUp l 0 = if (addS s l[i]).2 = true then sumUp (l.drop (i + 1)) (addS s l[i]).1 else (0, false) := e
      refine Ev.step (f := fun k => gatherumlaw01_NumSums.l0 k l n lo hi (addS s l[i]).1 (addS s l[i]).2 ((i + 1 : Nat) : Int)) (fun k => ?_) ?_
      · show (if (i : Int) < (l.length : Int) then (if true = true then (if 0 ≤ (i : Int) then ((gatherumref01_Add.f s (rd l (i : Int))).bind fun bt126 => (gatherumlaw01_NumSums.l0 k l n lo hi bt126.1 bt126.2 (wrap64 ((i : Int) + 1)))) else none) else gatherumlaw01_NumSums.j1 k l n lo hi s true) else gatherumlaw01_NumSums.j1 k l n lo hi s true) = _
        rw [if_pos (by omega), if_pos rfl, if_pos (by omega), rd_at l i hlt, radd_is s0 s1 hx.1 hx.2, wrap_succ hlt hn]; rfl
      · by_cases c2 : (addS s l[i]).2 = true
        · rw [if_pos c2] at e
          rw [c2]
          exact ih (i + 1) _ (by omega) (by omega) addS_bd.1 addS_bd.2 e
        · rw [if_neg c2] at e
          have hf : addS s l[i] = (0, false) := by
            unfold addS at c2 ⊢
            split at c2
            · exact absurd rfl c2
            · rename_i h; rw [if_neg h]
          rw [hf]
          refine Ev.step (f := fun k => gatherumlaw01_NumSums.j1 k l n lo hi 0 false) (fun k => ?_) (stopF e)
          show (if ((i + 1 : Nat) : Int) < (l.length : Int) then (if false = true then none else gatherumlaw01_NumSums.j1 k l n lo hi 0 false) else gatherumlaw01_NumSums.j1 k l n lo hi 0 false) = _
          simp only [Bool.false_eq_true, if_false, ite_self]
  exact loop l.length 0 0 (by omega) (by omega) (by omega) (by omega) rfl

end Go.Proofs.Yteedpeogfglocaa.Pure
