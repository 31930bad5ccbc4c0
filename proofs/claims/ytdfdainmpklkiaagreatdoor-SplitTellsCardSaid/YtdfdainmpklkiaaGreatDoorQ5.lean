/- Plain laws: light jobs. -/
import Derived.Test.YtdfdainmpklkiaaGreatDoorQ4
set_option linter.unusedVariables false
set_option linter.unusedSimpArgs false
namespace Go.Pv.X
open Go.Proofs
/-! ### Light jobs -/
theorem light_loop (j : K.s5.den) (hx : lenB (jL j)) (N : Nat) : ∀ (l : List ByteArray) (n m : Nat), (jL j).drop n = l → l.length < m → ∃ b, ref15_Light_g_l0 N j m (n : Int) = some b
  | [], n, m + 1, hl, hm => by
    show ∃ b, ref15_Light_g_b0 j (ref15_Light_g_l0 N j m) (n : Int) = _
    unfold ref15_Light_g_b0
    rw [lt_f (drop_nil hl)]; exact ⟨_, rfl⟩
  | x :: l, n, m + 1, hl, hm => by
    obtain ⟨h1, h2, h3⟩ := drop_cons hl
    show ∃ b, ref15_Light_g_b0 j (ref15_Light_g_l0 N j m) (n : Int) = _
    unfold ref15_Light_g_b0
    unfold lenB at hx
    obtain ⟨b, ih⟩ := light_loop j hx N l (n + 1) m h3 (by simpa using hm)
    rw [lt_t h1, ge_t, wr_n (by omega), ih]
    simp only [cond_true, Bool.and_self]
    generalize decide ((60 : Int) < _) = c
    cases c <;> exact ⟨_, rfl⟩
  | _, _, 0, _, hm => absurd hm (by omega)
theorem ref15_Light_some (j : K.s5.den) (hx : lenB (jL j)) : ∃ b, ref15_Light j = some b := by
  unfold ref15_Light ref15_Light_g ref15_Light_g_at ref15_Light_g_t
  obtain ⟨b, hb⟩ := light_loop j hx FUEL (jL j) 0 FUEL rfl (fuel_lt hx)
  have hb : ref15_Light_g_l0 FUEL j FUEL 0 = some b := hb
  rw [hb]
  generalize decide ((100 : Int) < _) = c1
  generalize decide ((6 : Int) < _) = c2
  generalize decide ((10 : Int) < _) = c3
  generalize decide ((300 : Int) < _) = c4
  generalize decide (_ ≤ (100000 : Int)) = c5
  cases c1 <;> cases c2 <;> cases c3 <;> cases c4 <;> cases c5 <;> exact ⟨_, rfl⟩
end Go.Pv.X
