/- Written by a program of this session, out of the translation: each Go function that is named here, called, answers what its Lean function tells, in whatever memory, where that function has an answer. -/
import Derived.Test.YteedpeogfglocaaPNumQuotientsx0
import Derived.Test.YteedpeogfglocaaPNumQuotientsx2
namespace Go.Proofs.Yteedpeogfglocaa.PNumQuotients
open Go.RowKit Go.Proofs.YteedpeogfglocaaW.PrintWords Go.Proofs.YteedpeogfglocaaW.PrintLast Go.Proofs.YteedpeogfglocaaW.PrintMore
attribute [local go_sem] max2_int min2_int max_two min_two max_three min_three max_four min_four   -- for this text's walks alone
set_option linter.unusedVariables false
set_option linter.unusedSimpArgs false

/-! ### gatherumref01_MulDiv: function 9 -/
mutual
def gatherumref01_MulDiv.j0 : Nat → Int → Int → Bool → Bool → Option (Int × Bool)
  | 0, _, _, _, _ => none
  | k + 1, x10, x11, x13, x47 => if x47 = true then (if (IntKind.u64.wrap (x11 + 1)) = 0 then (gatherumref01_MulDiv.j1 k (IntKind.u64.wrap (x10 + 1)) (IntKind.u64.wrap (x11 + 1)) x13) else (gatherumref01_MulDiv.j1 k x10 (IntKind.u64.wrap (x11 + 1)) x13)) else (gatherumref01_MulDiv.j1 k x10 x11 x13)
def gatherumref01_MulDiv.j1 : Nat → Int → Int → Bool → Option (Int × Bool)
  | 0, _, _, _ => none
  | k + 1, x10, x11, x13 => if x10 > 0 then (gatherumref01_MulDiv.j2 k x11 x13 true) else (if x11 > 9223372036854775808 then (gatherumref01_MulDiv.j2 k x11 x13 true) else (if x11 = 9223372036854775808 then (gatherumref01_MulDiv.j2 k x11 x13 (!x13)) else (gatherumref01_MulDiv.j2 k x11 x13 false)))
def gatherumref01_MulDiv.j2 : Nat → Int → Bool → Bool → Option (Int × Bool)
  | 0, _, _, _ => none
  | k + 1, x11, x13, x69 => if x69 = true then (some (0, false)) else (if x13 = true then (some (wrap64 (IntKind.u64.wrap (-x11)), true)) else (some (wrap64 (x11), true)))
end
def gatherumref01_MulDiv.f (k : Nat) (a0 : Int) (a1 : Int) (a2 : Int) : Option (Int × Bool) := if a2 = 0 then (some (0, false)) else ((gatherumref01_size.f a0).bind fun t121 => ((gatherumref01_size.f a1).bind fun t122 => ((gatherumref01_product.f k t121 t122).bind fun bt123 => ((gatherumref01_size.f a2).bind fun t125 => ((gatherumref01_divide.f k bt123.1 bt123.2 t125).bind fun bt126 => (if (((decide (a0 < 0)) != (decide (a1 < 0))) != (decide (a2 < 0))) = true then (gatherumref01_MulDiv.j0 k bt126.1 bt126.2.1 (((decide (a0 < 0)) != (decide (a1 < 0))) != (decide (a2 < 0))) (decide (bt126.2.2 > 0))) else (gatherumref01_MulDiv.j0 k bt126.1 bt126.2.1 (((decide (a0 < 0)) != (decide (a1 < 0))) != (decide (a2 < 0))) false)))))))
theorem gatherumref01_MulDiv.mono_l : ∀ k, (∀ y0 y1 y2 y3, LeO (gatherumref01_MulDiv.j0 k y0 y1 y2 y3) (gatherumref01_MulDiv.j0 (k + 1) y0 y1 y2 y3)) ∧ (∀ y0 y1 y2, LeO (gatherumref01_MulDiv.j1 k y0 y1 y2) (gatherumref01_MulDiv.j1 (k + 1) y0 y1 y2)) ∧ (∀ y0 y1 y2, LeO (gatherumref01_MulDiv.j2 k y0 y1 y2) (gatherumref01_MulDiv.j2 (k + 1) y0 y1 y2))
  | 0 => ⟨fun _ _ _ _ r h => by simp [gatherumref01_MulDiv.j0] at h, fun _ _ _ r h => by simp [gatherumref01_MulDiv.j1] at h, fun _ _ _ r h => by simp [gatherumref01_MulDiv.j2] at h⟩
  | k + 1 => by
    obtain ⟨ih0, ih1, ih2⟩ := gatherumref01_MulDiv.mono_l k
    refine ⟨?_, ?_, ?_⟩
    · intro y0 y1 y2 y3
      unfold gatherumref01_MulDiv.j0
      repeat' first
      | (with_reducible exact ih0 _ _ _ _)
      | (with_reducible exact ih1 _ _ _)
      | (with_reducible exact ih2 _ _ _)
      | (with_reducible exact gatherumref01_divide.mono _ _ _ _)
      | (with_reducible exact gatherumref01_product.mono _ _ _)
      | (with_reducible exact LeO.refl _)
      | (with_reducible exact LeO.none _)
      | (with_reducible refine LeO.ite ?_ ?_)
      | (with_reducible refine LeO.bind ?_ (fun _ => ?_))
      | exact ih0 _ _ _ _
      | exact ih1 _ _ _
      | exact ih2 _ _ _
      | exact gatherumref01_divide.mono _ _ _ _
      | exact gatherumref01_product.mono _ _ _
      | exact LeO.none _
      | refine LeO.ite ?_ ?_
      | refine LeO.bind ?_ (fun _ => ?_)
    · intro y0 y1 y2
      unfold gatherumref01_MulDiv.j1
      repeat' first
      | (with_reducible exact ih0 _ _ _ _)
      | (with_reducible exact ih1 _ _ _)
      | (with_reducible exact ih2 _ _ _)
      | (with_reducible exact gatherumref01_divide.mono _ _ _ _)
      | (with_reducible exact gatherumref01_product.mono _ _ _)
      | (with_reducible exact LeO.refl _)
      | (with_reducible exact LeO.none _)
      | (with_reducible refine LeO.ite ?_ ?_)
      | (with_reducible refine LeO.bind ?_ (fun _ => ?_))
      | exact ih0 _ _ _ _
      | exact ih1 _ _ _
      | exact ih2 _ _ _
      | exact gatherumref01_divide.mono _ _ _ _
      | exact gatherumref01_product.mono _ _ _
      | exact LeO.none _
      | refine LeO.ite ?_ ?_
      | refine LeO.bind ?_ (fun _ => ?_)
    · intro y0 y1 y2
      unfold gatherumref01_MulDiv.j2
      repeat' first
      | (with_reducible exact ih0 _ _ _ _)
      | (with_reducible exact ih1 _ _ _)
      | (with_reducible exact ih2 _ _ _)
      | (with_reducible exact gatherumref01_divide.mono _ _ _ _)
      | (with_reducible exact gatherumref01_product.mono _ _ _)
      | (with_reducible exact LeO.refl _)
      | (with_reducible exact LeO.none _)
      | (with_reducible refine LeO.ite ?_ ?_)
      | (with_reducible refine LeO.bind ?_ (fun _ => ?_))
      | exact ih0 _ _ _ _
      | exact ih1 _ _ _
      | exact ih2 _ _ _
      | exact gatherumref01_divide.mono _ _ _ _
      | exact gatherumref01_product.mono _ _ _
      | exact LeO.none _
      | refine LeO.ite ?_ ?_
      | refine LeO.bind ?_ (fun _ => ?_)
theorem gatherumref01_MulDiv.mono : ∀ a0 a1 a2 k, LeO (gatherumref01_MulDiv.f k a0 a1 a2) (gatherumref01_MulDiv.f (k + 1) a0 a1 a2) := by
  intro a0 a1 a2 k
  obtain ⟨ih0, ih1, ih2⟩ := gatherumref01_MulDiv.mono_l k
  unfold gatherumref01_MulDiv.f
  repeat' first
      | (with_reducible exact ih0 _ _ _ _)
      | (with_reducible exact ih1 _ _ _)
      | (with_reducible exact ih2 _ _ _)
      | (with_reducible exact gatherumref01_divide.mono _ _ _ _)
      | (with_reducible exact gatherumref01_product.mono _ _ _)
      | (with_reducible exact LeO.refl _)
      | (with_reducible exact LeO.none _)
      | (with_reducible refine LeO.ite ?_ ?_)
      | (with_reducible refine LeO.bind ?_ (fun _ => ?_))
      | exact ih0 _ _ _ _
      | exact ih1 _ _ _
      | exact ih2 _ _ _
      | exact gatherumref01_divide.mono _ _ _ _
      | exact gatherumref01_product.mono _ _ _
      | exact LeO.none _
      | refine LeO.ite ?_ ?_
      | refine LeO.bind ?_ (fun _ => ?_)
set_option maxHeartbeats 8000000 in
set_option maxRecDepth 100000 in
theorem gatherumref01_MulDiv.calls (k : Nat) (a0 : Int) (a1 : Int) (a2 : Int) (r1 : Int) (r2 : Bool) (w : World) (h : gatherumref01_MulDiv.f k a0 a1 a2 = some (r1, r2)) :
    Calls Try.prog 9 #[.int .i64 a0, .int .i64 a1, .int .i64 a2] w fun e w' => e = .returned (.tuple #[.int .i64 r1, .bool r2]) ∧ Drawn0 w w' := by
  have H : (if a2 = 0 then (some (0, false)) else ((gatherumref01_size.f a0).bind fun t121 => ((gatherumref01_size.f a1).bind fun t122 => ((gatherumref01_product.f k t121 t122).bind fun bt123 => ((gatherumref01_size.f a2).bind fun t125 => ((gatherumref01_divide.f k bt123.1 bt123.2 t125).bind fun bt126 => (if (((decide (a0 < 0)) != (decide (a1 < 0))) != (decide (a2 < 0))) = true then (gatherumref01_MulDiv.j0 k bt126.1 bt126.2.1 (((decide (a0 < 0)) != (decide (a1 < 0))) != (decide (a2 < 0))) (decide (bt126.2.2 > 0))) else (gatherumref01_MulDiv.j0 k bt126.1 bt126.2.1 (((decide (a0 < 0)) != (decide (a1 < 0))) != (decide (a2 < 0))) false)))))))) = some (r1, r2) := h
  clear h
  by_cases c4 : a2 = 0
  · rw [if_pos c4] at H
    have c4b0 : (a2 == 0) = true := beq_iff_eq.mpr c4
    have c4b1 : (a2 != 0) = false := bne_eq_false_iff_eq.mpr c4
    clear c4
    simp only [Option.some.injEq, Prod.mk.injEq] at H
    obtain ⟨rfl, rfl⟩ := H
    go_enter Try.func9, Try.ntmps9
    go_wp2
    go_ret2
    exact ⟨by first | rfl | (simp; done) | (simp [*]; done), by repeat (first | exact Drawn0.refl _ | apply Drawn0.step)⟩
  · rw [if_neg c4] at H
    have c4b0 : (a2 == 0) = false := beq_eq_false_iff_ne.mpr c4
    have c4b1 : (a2 != 0) = true := bne_iff_ne.mpr c4
    replace H := Option.bind_eq_some_iff.mp H
    obtain ⟨t121, A50, H⟩ := H
    replace H : ((gatherumref01_size.f a1).bind fun t122 => ((gatherumref01_product.f k t121 t122).bind fun bt123 => ((gatherumref01_size.f a2).bind fun t125 => ((gatherumref01_divide.f k bt123.1 bt123.2 t125).bind fun bt126 => (if (((decide (a0 < 0)) != (decide (a1 < 0))) != (decide (a2 < 0))) = true then (gatherumref01_MulDiv.j0 k bt126.1 bt126.2.1 (((decide (a0 < 0)) != (decide (a1 < 0))) != (decide (a2 < 0))) (decide (bt126.2.2 > 0))) else (gatherumref01_MulDiv.j0 k bt126.1 bt126.2.1 (((decide (a0 < 0)) != (decide (a1 < 0))) != (decide (a2 < 0))) false)))))) = some (r1, r2) := H
    have A5 := Aside0.mk A50
    clear A50
    replace H := Option.bind_eq_some_iff.mp H
    obtain ⟨t122, A60, H⟩ := H
    replace H : ((gatherumref01_product.f k t121 t122).bind fun bt123 => ((gatherumref01_size.f a2).bind fun t125 => ((gatherumref01_divide.f k bt123.1 bt123.2 t125).bind fun bt126 => (if (((decide (a0 < 0)) != (decide (a1 < 0))) != (decide (a2 < 0))) = true then (gatherumref01_MulDiv.j0 k bt126.1 bt126.2.1 (((decide (a0 < 0)) != (decide (a1 < 0))) != (decide (a2 < 0))) (decide (bt126.2.2 > 0))) else (gatherumref01_MulDiv.j0 k bt126.1 bt126.2.1 (((decide (a0 < 0)) != (decide (a1 < 0))) != (decide (a2 < 0))) false))))) = some (r1, r2) := H
    have A6 := Aside0.mk A60
    clear A60
    replace H := Option.bind_eq_some_iff.mp H
    obtain ⟨⟨t123, t124⟩, A70, H⟩ := H
    replace H : ((gatherumref01_size.f a2).bind fun t125 => ((gatherumref01_divide.f k t123 t124 t125).bind fun bt126 => (if (((decide (a0 < 0)) != (decide (a1 < 0))) != (decide (a2 < 0))) = true then (gatherumref01_MulDiv.j0 k bt126.1 bt126.2.1 (((decide (a0 < 0)) != (decide (a1 < 0))) != (decide (a2 < 0))) (decide (bt126.2.2 > 0))) else (gatherumref01_MulDiv.j0 k bt126.1 bt126.2.1 (((decide (a0 < 0)) != (decide (a1 < 0))) != (decide (a2 < 0))) false)))) = some (r1, r2) := H
    have A7 := Aside0.mk A70
    clear A70
    replace H := Option.bind_eq_some_iff.mp H
    obtain ⟨t125, A80, H⟩ := H
    replace H : ((gatherumref01_divide.f k t123 t124 t125).bind fun bt126 => (if (((decide (a0 < 0)) != (decide (a1 < 0))) != (decide (a2 < 0))) = true then (gatherumref01_MulDiv.j0 k bt126.1 bt126.2.1 (((decide (a0 < 0)) != (decide (a1 < 0))) != (decide (a2 < 0))) (decide (bt126.2.2 > 0))) else (gatherumref01_MulDiv.j0 k bt126.1 bt126.2.1 (((decide (a0 < 0)) != (decide (a1 < 0))) != (decide (a2 < 0))) false))) = some (r1, r2) := H
    have A8 := Aside0.mk A80
    clear A80
    replace H := Option.bind_eq_some_iff.mp H
    obtain ⟨⟨t126, t127, t128⟩, A90, H⟩ := H
    replace H : (if (((decide (a0 < 0)) != (decide (a1 < 0))) != (decide (a2 < 0))) = true then (gatherumref01_MulDiv.j0 k t126 t127 (((decide (a0 < 0)) != (decide (a1 < 0))) != (decide (a2 < 0))) (decide (t128 > 0))) else (gatherumref01_MulDiv.j0 k t126 t127 (((decide (a0 < 0)) != (decide (a1 < 0))) != (decide (a2 < 0))) false)) = some (r1, r2) := H
    have A9 := Aside0.mk A90
    clear A90
    have HC10 := Aside0.mk H
    clear H
    go_enter Try.func9, Try.ntmps9
    go_upto_region 7 with (first | ((with_reducible refine gate_callee (f := 23) rfl ?_); refine goesL_ (some 19) rfl rfl Try.func23 (by kernel_rfl) rfl #[.int .i64 a0] rfl (by (try simp only [List.map_toArray, List.map_cons, List.map_nil]); first | done | rfl | (simp only [List.length_drop, List.length_take]; rfl)) ?_; (with_reducible refine (gatherumref01_size.calls a0 t121 _ A5.out).mono ?_); rintro e w' ⟨rfl, ⟨nd, rfl⟩⟩; refine ⟨_, rfl, ?_⟩) | ((with_reducible refine gate_callee (f := 23) rfl ?_); refine goesL_ (some 21) rfl rfl Try.func23 (by kernel_rfl) rfl #[.int .i64 a1] rfl (by (try simp only [List.map_toArray, List.map_cons, List.map_nil]); first | done | rfl | (simp only [List.length_drop, List.length_take]; rfl)) ?_; (with_reducible refine (gatherumref01_size.calls a1 t122 _ A6.out).mono ?_); rintro e w' ⟨rfl, ⟨nd, rfl⟩⟩; refine ⟨_, rfl, ?_⟩) | ((with_reducible refine gate_callee (f := 22) rfl ?_); refine goesL_ (some 22) rfl rfl Try.func22 (by kernel_rfl) rfl #[.int .u64 t121, .int .u64 t122] rfl (by (try simp only [List.map_toArray, List.map_cons, List.map_nil]); first | done | rfl | (simp only [List.length_drop, List.length_take]; rfl)) ?_; (with_reducible refine (gatherumref01_product.calls k t121 t122 t123 t124 _ A7.out).mono ?_); rintro e w' ⟨rfl, ⟨nd, rfl⟩⟩; refine ⟨_, rfl, ?_⟩) | ((with_reducible refine gate_callee (f := 23) rfl ?_); refine goesL_ (some 29) rfl rfl Try.func23 (by kernel_rfl) rfl #[.int .i64 a2] rfl (by (try simp only [List.map_toArray, List.map_cons, List.map_nil]); first | done | rfl | (simp only [List.length_drop, List.length_take]; rfl)) ?_; (with_reducible refine (gatherumref01_size.calls a2 t125 _ A8.out).mono ?_); rintro e w' ⟨rfl, ⟨nd, rfl⟩⟩; refine ⟨_, rfl, ?_⟩) | ((with_reducible refine gate_callee (f := 24) rfl ?_); refine goesL_ (some 30) rfl rfl Try.func24 (by kernel_rfl) rfl #[.int .u64 t123, .int .u64 t124, .int .u64 t125] rfl (by (try simp only [List.map_toArray, List.map_cons, List.map_nil]); first | done | rfl | (simp only [List.length_drop, List.length_take]; rfl)) ?_; (with_reducible refine (gatherumref01_divide.calls k t123 t124 t125 t126 t127 t128 _ A9.out).mono ?_); rintro e w' ⟨rfl, ⟨nd, rfl⟩⟩; refine ⟨_, rfl, ?_⟩))
    (try simp only [Act.put, List.setIfInBounds_toArray, List.set_cons_zero, List.set_cons_succ])
    go_cut [13, 47] (fun v13 v47 wc => ∃ (kq : Nat) (x13_9 : Bool) (x47_9 : Bool), v13 = .bool x13_9 ∧ v47 = .bool x47_9 ∧ Aside0 (gatherumref01_MulDiv.j0 kq t126 t127 x13_9 x47_9 = some (r1, r2)) ∧ Aside0 (kq ≤ k) ∧ Drawn0 w wc)
    case first =>
      have H := HC10.out
      clear HC10
      by_cases c11 : (((decide (a0 < 0)) != (decide (a1 < 0))) != (decide (a2 < 0))) = true
      · rw [if_pos c11] at H
        have c11b0 : (((decide (a0 < 0)) != (decide (a1 < 0))) != (decide (a2 < 0))) = true := c11
        (try (have c11b1 : decide (((decide (a0 < 0)) != (decide (a1 < 0))) = (decide (a2 < 0))) = false := by simpa using c11))
        (try (have c11b2 : (((decide (a0 < 0)) != (decide (a1 < 0))) == (decide (a2 < 0))) = false := by simpa using c11))
        (try (have c11b3 : ¬ (((decide (a0 < 0)) != (decide (a1 < 0))) = (decide (a2 < 0))) := by simpa using c11))
        (try (have c11b4 : (!((!((decide (a0 < 0)) == (decide (a1 < 0)))) == (decide (a2 < 0)))) = true := by have z_ := c11; revert z_; generalize (decide (a0 < 0)) = q0_; generalize (decide (a1 < 0)) = q1_; generalize (decide (a2 < 0)) = q2_; revert q0_ q1_ q2_; decide))
        clear c11
        (first | rw [c11b0] | (simp only [i64_w, i32_w]; rw [c11b0]) | skip)
        have H' := Aside0.mk H
        clear H
        go_wp2
        go_meet
        case rel => exact ⟨_, ((((decide (a0 < 0)) != (decide (a1 < 0))) != (decide (a2 < 0)))), (decide (t128 > 0)), (by first | rfl | (simp; done) | (simp [*]; done)), (by first | rfl | (simp; done) | (simp [*]; done)), H', ⟨by first | omega | exact Nat.le_refl _⟩, by repeat (first | exact Drawn0.refl _ | apply Drawn0.step)⟩
      · rw [if_neg c11] at H
        have c11b0 : (((decide (a0 < 0)) != (decide (a1 < 0))) != (decide (a2 < 0))) = false := by simpa using c11
        (try (have c11b1 : decide (((decide (a0 < 0)) != (decide (a1 < 0))) = (decide (a2 < 0))) = true := by simpa using c11))
        (try (have c11b2 : (((decide (a0 < 0)) != (decide (a1 < 0))) == (decide (a2 < 0))) = true := by simpa using c11))
        (try (have c11b3 : (!((!((decide (a0 < 0)) == (decide (a1 < 0)))) == (decide (a2 < 0)))) = false := by have z_ := c11; revert z_; generalize (decide (a0 < 0)) = q0_; generalize (decide (a1 < 0)) = q1_; generalize (decide (a2 < 0)) = q2_; revert q0_ q1_ q2_; decide))
        clear c11
        (first | rw [c11b0] | (simp only [i64_w, i32_w]; rw [c11b0]) | skip)
        have H' := Aside0.mk H
        clear H
        go_wp2
        go_meet
        case rel => exact ⟨_, ((((decide (a0 < 0)) != (decide (a1 < 0))) != (decide (a2 < 0)))), (false), (by first | rfl | (simp; done) | (simp [*]; done)), (by first | rfl | (simp; done) | (simp [*]; done)), H', ⟨by first | omega | exact Nat.le_refl _⟩, by repeat (first | exact Drawn0.refl _ | apply Drawn0.step)⟩
    case rest =>
      clear HC10
      try clear c1
      try clear q1
      try clear c2
      try clear p2
      try clear q2
      try clear c4
      try clear c4b0
      try clear c4b1
      try clear c9
      try clear c11
      try clear c11b0
      try clear c11b1
      try clear c11b2
      obtain ⟨kq, x13_9, x47_9, rfl, rfl, HA, HJ9, ⟨mc9, rfl⟩⟩ := hcut
      cases kq with
      | zero => exact absurd HA.out (by simp [gatherumref01_MulDiv.j0])
      | succ kj9 =>
        have H := HA.out
        clear HA
        simp only [gatherumref01_MulDiv.j0] at H
        have HC12 := Aside0.mk H
        clear H
        go_upto_if 47 with (fail)
        go_cut [10, 11] (fun v10 v11 wc => ∃ (kq : Nat) (x10_11 : Int) (x11_11 : Int), v10 = .int .u64 x10_11 ∧ v11 = .int .u64 x11_11 ∧ Aside0 (gatherumref01_MulDiv.j1 kq x10_11 x11_11 x13_9 = some (r1, r2)) ∧ Aside0 (kq ≤ kj9) ∧ Drawn0 w wc)
        case first =>
          have H := HC12.out
          clear HC12
          by_cases c13 : x47_9 = true
          · subst c13
            have H1 : (if (IntKind.u64.wrap (t127 + 1)) = 0 then (gatherumref01_MulDiv.j1 kj9 (IntKind.u64.wrap (t126 + 1)) (IntKind.u64.wrap (t127 + 1)) x13_9) else (gatherumref01_MulDiv.j1 kj9 t126 (IntKind.u64.wrap (t127 + 1)) x13_9)) = some (r1, r2) := by rw [if_pos rfl] at H; exact H
            clear H
            have H := H1
            clear H1
            by_cases c14 : (IntKind.u64.wrap (t127 + 1)) = 0
            · rw [if_pos c14] at H
              have c14b0 : ((IntKind.u64.wrap (t127 + 1)) == 0) = true := beq_iff_eq.mpr c14
              have c14b1 : ((IntKind.u64.wrap (t127 + 1)) != 0) = false := bne_eq_false_iff_eq.mpr c14
              clear c14
              (first | rw [c14b0] | (simp only [i64_w, i32_w]; rw [c14b0]) | skip)
              have H' := Aside0.mk H
              clear H
              go_wp2
              go_meet
              case rel => exact ⟨_, (IntKind.u64.wrap (t126 + 1)), (IntKind.u64.wrap (t127 + 1)), (by first | rfl | (simp; done) | (simp [*]; done)), (by first | rfl | (simp; done) | (simp [*]; done)), H', ⟨by have := HJ9.out; first | omega | exact Nat.le_refl _⟩, by repeat (first | exact Drawn0.refl _ | apply Drawn0.step)⟩
            · rw [if_neg c14] at H
              have c14b0 : ((IntKind.u64.wrap (t127 + 1)) == 0) = false := beq_eq_false_iff_ne.mpr c14
              have c14b1 : ((IntKind.u64.wrap (t127 + 1)) != 0) = true := bne_iff_ne.mpr c14
              (first | rw [c14b0] | (simp only [i64_w, i32_w]; rw [c14b0]) | skip)
              have H' := Aside0.mk H
              clear H
              go_wp2
              go_meet
              case rel => exact ⟨_, (t126), (IntKind.u64.wrap (t127 + 1)), (by first | rfl | (simp; done) | (simp [*]; done)), (by first | rfl | (simp; done) | (simp [*]; done)), H', ⟨by have := HJ9.out; first | omega | exact Nat.le_refl _⟩, by repeat (first | exact Drawn0.refl _ | apply Drawn0.step)⟩
          · replace c13 := Bool.eq_false_iff.mpr c13
            subst c13
            have H1 : (gatherumref01_MulDiv.j1 kj9 t126 t127 x13_9) = some (r1, r2) := by rw [if_neg (show ¬ (false = true) by decide)] at H; exact H
            clear H
            have H := H1
            clear H1
            have H' := Aside0.mk H
            clear H
            go_wp2
            go_meet
            case rel => exact ⟨_, (t126), (t127), (by first | rfl | (simp; done) | (simp [*]; done)), (by first | rfl | (simp; done) | (simp [*]; done)), H', ⟨by have := HJ9.out; first | omega | exact Nat.le_refl _⟩, by repeat (first | exact Drawn0.refl _ | apply Drawn0.step)⟩
        case rest =>
          clear HC12
          try clear c1
          try clear q1
          try clear c2
          try clear p2
          try clear q2
          try clear c4
          try clear c4b0
          try clear c4b1
          try clear c9
          try clear c11
          try clear c11b0
          try clear c11b1
          try clear c11b2
          try clear c13
          try clear c14
          try clear c14b0
          try clear c14b1
          try clear p2
          try clear q1
          try clear q2
          obtain ⟨kq, x10_11, x11_11, rfl, rfl, HA, HJ11, ⟨mc11, rfl⟩⟩ := hcut
          cases kq with
          | zero => exact absurd HA.out (by simp [gatherumref01_MulDiv.j1])
          | succ kj11 =>
            have H := HA.out
            clear HA
            simp only [gatherumref01_MulDiv.j1] at H
            have HC15 := Aside0.mk H
            clear H
            go_upto_region 12 with (fail)
            go_cut [69] (fun v69 wc => ∃ (kq : Nat) (x69_14 : Bool), v69 = .bool x69_14 ∧ Aside0 (gatherumref01_MulDiv.j2 kq x11_11 x13_9 x69_14 = some (r1, r2)) ∧ Aside0 (kq ≤ kj11) ∧ Drawn0 w wc)
            case first =>
              have H := HC15.out
              clear HC15
              by_cases c16 : x10_11 > 0
              · rw [if_pos c16] at H
                have c16b0 : decide (0 < x10_11) = true := decide_eq_true c16
                clear c16
                (first | rw [c16b0] | (simp only [i64_w, i32_w]; rw [c16b0]) | skip)
                have H' := Aside0.mk H
                clear H
                go_wp2
                go_meet
                case rel => exact ⟨_, (true), (by first | rfl | (simp; done) | (simp [*]; done)), H', ⟨by have := HJ9.out; have := HJ11.out; first | omega | exact Nat.le_refl _⟩, by repeat (first | exact Drawn0.refl _ | apply Drawn0.step)⟩
              · rw [if_neg c16] at H
                have c16b0 : decide (0 < x10_11) = false := decide_eq_false c16
                clear c16
                (first | rw [c16b0] | (simp only [i64_w, i32_w]; rw [c16b0]) | skip)
                by_cases c17 : x11_11 > 9223372036854775808
                · rw [if_pos c17] at H
                  have c17b0 : decide (9223372036854775808 < x11_11) = true := decide_eq_true c17
                  clear c17
                  have H' := Aside0.mk H
                  clear H
                  go_wp2
                  go_meet
                  case rel => exact ⟨_, (true), (by first | rfl | (simp; done) | (simp [*]; done)), H', ⟨by have := HJ9.out; have := HJ11.out; first | omega | exact Nat.le_refl _⟩, by repeat (first | exact Drawn0.refl _ | apply Drawn0.step)⟩
                · rw [if_neg c17] at H
                  have c17b0 : decide (9223372036854775808 < x11_11) = false := decide_eq_false c17
                  clear c17
                  by_cases c18 : x11_11 = 9223372036854775808
                  · rw [if_pos c18] at H
                    have c18b0 : (x11_11 == 9223372036854775808) = true := beq_iff_eq.mpr c18
                    have c18b1 : (x11_11 != 9223372036854775808) = false := bne_eq_false_iff_eq.mpr c18
                    clear c18
                    have H' := Aside0.mk H
                    clear H
                    go_wp2
                    go_meet
                    case rel => exact ⟨_, (!x13_9), (by first | rfl | (simp; done) | (simp [*]; done)), H', ⟨by have := HJ9.out; have := HJ11.out; first | omega | exact Nat.le_refl _⟩, by repeat (first | exact Drawn0.refl _ | apply Drawn0.step)⟩
                  · rw [if_neg c18] at H
                    have c18b0 : (x11_11 == 9223372036854775808) = false := beq_eq_false_iff_ne.mpr c18
                    have c18b1 : (x11_11 != 9223372036854775808) = true := bne_iff_ne.mpr c18
                    have H' := Aside0.mk H
                    clear H
                    go_wp2
                    go_meet
                    case rel => exact ⟨_, (false), (by first | rfl | (simp; done) | (simp [*]; done)), H', ⟨by have := HJ9.out; have := HJ11.out; first | omega | exact Nat.le_refl _⟩, by repeat (first | exact Drawn0.refl _ | apply Drawn0.step)⟩
            case rest =>
              clear HC15
              try clear c1
              try clear q1
              try clear c2
              try clear p2
              try clear q2
              try clear c4
              try clear c4b0
              try clear c4b1
              try clear c9
              try clear c11
              try clear c11b0
              try clear c11b1
              try clear c11b2
              try clear c13
              try clear c14
              try clear c14b0
              try clear c14b1
              try clear c16
              try clear c16b0
              try clear c17
              try clear c17b0
              try clear c18
              try clear c18b0
              try clear c18b1
              try clear p2
              try clear q1
              try clear q2
              obtain ⟨kq, x69_14, rfl, HA, HJ14, ⟨mc14, rfl⟩⟩ := hcut
              cases kq with
              | zero => exact absurd HA.out (by simp [gatherumref01_MulDiv.j2])
              | succ kj14 =>
                have H := HA.out
                clear HA
                simp only [gatherumref01_MulDiv.j2] at H
                by_cases c19 : x69_14 = true
                · subst c19
                  have H1 : (some (0, false)) = some (r1, r2) := by rw [if_pos rfl] at H; exact H
                  clear H
                  have H := H1
                  clear H1
                  simp only [Option.some.injEq, Prod.mk.injEq] at H
                  obtain ⟨rfl, rfl⟩ := H
                  go_wp2
                  go_ret2
                  exact ⟨by first | rfl | (simp; done) | (simp [*]; done), by repeat (first | exact Drawn0.refl _ | apply Drawn0.step)⟩
                · replace c19 := Bool.eq_false_iff.mpr c19
                  subst c19
                  have H1 : (if x13_9 = true then (some (wrap64 (IntKind.u64.wrap (-x11_11)), true)) else (some (wrap64 (x11_11), true))) = some (r1, r2) := by rw [if_neg (show ¬ (false = true) by decide)] at H; exact H
                  clear H
                  have H := H1
                  clear H1
                  by_cases c20 : x13_9 = true
                  · subst c20
                    have H1 : (some (wrap64 (IntKind.u64.wrap (-x11_11)), true)) = some (r1, r2) := by rw [if_pos rfl] at H; exact H
                    clear H
                    have H := H1
                    clear H1
                    simp only [Option.some.injEq, Prod.mk.injEq] at H
                    obtain ⟨rfl, rfl⟩ := H
                    go_wp2
                    go_ret2
                    exact ⟨by first | rfl | (simp; done) | (simp [*]; done), by repeat (first | exact Drawn0.refl _ | apply Drawn0.step)⟩
                  · replace c20 := Bool.eq_false_iff.mpr c20
                    subst c20
                    have H1 : (some (wrap64 (x11_11), true)) = some (r1, r2) := by rw [if_neg (show ¬ (false = true) by decide)] at H; exact H
                    clear H
                    have H := H1
                    clear H1
                    simp only [Option.some.injEq, Prod.mk.injEq] at H
                    obtain ⟨rfl, rfl⟩ := H
                    go_wp2
                    go_ret2
                    exact ⟨by first | rfl | (simp; done) | (simp [*]; done), by repeat (first | exact Drawn0.refl _ | apply Drawn0.step)⟩

/-! ### num_Rest: function 11 -/
def num_Rest.f (a0 : Int) (a1 : Int) : Option (Int × Bool) := if a1 = 0 then (some (0, false)) else (if (Int.tmod a0 a1) = 0 then (some (Int.tmod a0 a1, true)) else (if ((decide ((Int.tmod a0 a1) < 0)) != (decide (a1 < 0))) = true then (some (wrap64 ((Int.tmod a0 a1) + a1), true)) else (some (Int.tmod a0 a1, true))))
set_option maxHeartbeats 8000000 in
set_option maxRecDepth 100000 in
theorem num_Rest.calls (a0 : Int) (a1 : Int) (r1 : Int) (r2 : Bool) (w : World) (h : num_Rest.f a0 a1 = some (r1, r2)) :
    Calls Try.prog 11 #[.int .i64 a0, .int .i64 a1] w fun e w' => e = .returned (.tuple #[.int .i64 r1, .bool r2]) ∧ Drawn0 w w' := by
  have H : (if a1 = 0 then (some (0, false)) else (if (Int.tmod a0 a1) = 0 then (some (Int.tmod a0 a1, true)) else (if ((decide ((Int.tmod a0 a1) < 0)) != (decide (a1 < 0))) = true then (some (wrap64 ((Int.tmod a0 a1) + a1), true)) else (some (Int.tmod a0 a1, true))))) = some (r1, r2) := h
  clear h
  by_cases c3 : a1 = 0
  · rw [if_pos c3] at H
    have c3b0 : (a1 == 0) = true := beq_iff_eq.mpr c3
    have c3b1 : (a1 != 0) = false := bne_eq_false_iff_eq.mpr c3
    clear c3
    simp only [Option.some.injEq, Prod.mk.injEq] at H
    obtain ⟨rfl, rfl⟩ := H
    go_enter Try.func11, Try.ntmps11
    go_wp2
    go_ret2
    exact ⟨by first | rfl | (simp; done) | (simp [*]; done), by repeat (first | exact Drawn0.refl _ | apply Drawn0.step)⟩
  · rw [if_neg c3] at H
    have c3b0 : (a1 == 0) = false := beq_eq_false_iff_ne.mpr c3
    have c3b1 : (a1 != 0) = true := bne_iff_ne.mpr c3
    by_cases c4 : (Int.tmod a0 a1) = 0
    · rw [if_pos c4] at H
      have c4b0 : ((Int.tmod a0 a1) == 0) = true := beq_iff_eq.mpr c4
      have c4b1 : ((Int.tmod a0 a1) != 0) = false := bne_eq_false_iff_eq.mpr c4
      clear c4
      simp only [Option.some.injEq, Prod.mk.injEq] at H
      obtain ⟨rfl, rfl⟩ := H
      go_enter Try.func11, Try.ntmps11
      go_wp2
      go_ret2
      exact ⟨by first | rfl | (simp; done) | (simp [*]; done), by repeat (first | exact Drawn0.refl _ | apply Drawn0.step)⟩
    · rw [if_neg c4] at H
      have c4b0 : ((Int.tmod a0 a1) == 0) = false := beq_eq_false_iff_ne.mpr c4
      have c4b1 : ((Int.tmod a0 a1) != 0) = true := bne_iff_ne.mpr c4
      by_cases c5 : ((decide ((Int.tmod a0 a1) < 0)) != (decide (a1 < 0))) = true
      · rw [if_pos c5] at H
        have c5b0 : ((decide ((Int.tmod a0 a1) < 0)) != (decide (a1 < 0))) = true := c5
        (try (have c5b1 : decide ((decide ((Int.tmod a0 a1) < 0)) = (decide (a1 < 0))) = false := by simpa using c5))
        (try (have c5b2 : ((decide ((Int.tmod a0 a1) < 0)) == (decide (a1 < 0))) = false := by simpa using c5))
        (try (have c5b3 : ¬ ((decide ((Int.tmod a0 a1) < 0)) = (decide (a1 < 0))) := by simpa using c5))
        clear c5
        simp only [Option.some.injEq, Prod.mk.injEq] at H
        obtain ⟨rfl, rfl⟩ := H
        go_enter Try.func11, Try.ntmps11
        go_wp2
        go_ret2
        exact ⟨by first | rfl | (simp; done) | (simp [*]; done), by repeat (first | exact Drawn0.refl _ | apply Drawn0.step)⟩
      · rw [if_neg c5] at H
        have c5b0 : ((decide ((Int.tmod a0 a1) < 0)) != (decide (a1 < 0))) = false := by simpa using c5
        (try (have c5b1 : decide ((decide ((Int.tmod a0 a1) < 0)) = (decide (a1 < 0))) = true := by simpa using c5))
        (try (have c5b2 : ((decide ((Int.tmod a0 a1) < 0)) == (decide (a1 < 0))) = true := by simpa using c5))
        clear c5
        simp only [Option.some.injEq, Prod.mk.injEq] at H
        obtain ⟨rfl, rfl⟩ := H
        go_enter Try.func11, Try.ntmps11
        go_wp2
        go_ret2
        exact ⟨by first | rfl | (simp; done) | (simp [*]; done), by repeat (first | exact Drawn0.refl _ | apply Drawn0.step)⟩

/-! ### gatherumlaw01_NumQuotients: function 4 -/
def gatherumlaw01_NumQuotients.j0 : Nat → Int → Int → Int → Bool → Int → Bool → Bool → Option (Bool)
  | 0, _, _, _, _, _, _, _ => none
  | k + 1, x0, x1, x5, x6, x7, x8, x44 => if x44 = true then (some false) else (if x8 = true then (if x6 = true then (if (wrap64 ((wrap64 (x5 * x1)) + x7)) = x0 then (if x1 > 0 then (if x7 ≥ 0 then (if x7 < x1 then (some true) else (if x1 < 0 then (if x7 ≤ 0 then (some (decide (x7 > x1))) else (some false)) else (some false))) else (if x1 < 0 then (if x7 ≤ 0 then (some (decide (x7 > x1))) else (some false)) else (some false))) else (if x1 < 0 then (if x7 ≤ 0 then (some (decide (x7 > x1))) else (some false)) else (some false))) else (some false)) else (if x1 > 0 then (if x7 ≥ 0 then (if x7 < x1 then (some true) else (if x1 < 0 then (if x7 ≤ 0 then (some (decide (x7 > x1))) else (some false)) else (some false))) else (if x1 < 0 then (if x7 ≤ 0 then (some (decide (x7 > x1))) else (some false)) else (some false))) else (if x1 < 0 then (if x7 ≤ 0 then (some (decide (x7 > x1))) else (some false)) else (some false)))) else (some (x7 == 0)))
def gatherumlaw01_NumQuotients.f (k : Nat) (a0 : Int) (a1 : Int) : Option (Bool) := (gatherumlaw01_alive.f k).bind fun t129 => (if t129 = true then ((num_Floor.f k a0 a1).bind fun bt130 => ((num_Rest.f a0 a1).bind fun bt132 => ((gatherumref01_MulDiv.f k a0 1 a1).bind fun bt134 => (if bt130.1 = bt134.1 then (if (bt130.2 != bt134.2) = true then (gatherumlaw01_NumQuotients.j0 k a0 a1 bt130.1 bt130.2 bt132.1 bt132.2 true) else (gatherumlaw01_NumQuotients.j0 k a0 a1 bt130.1 bt130.2 bt132.1 bt132.2 (bt132.2 != (a1 != 0)))) else (gatherumlaw01_NumQuotients.j0 k a0 a1 bt130.1 bt130.2 bt132.1 bt132.2 true))))) else (some false))
theorem gatherumlaw01_NumQuotients.mono_l : ∀ k, (∀ y0 y1 y2 y3 y4 y5 y6, LeO (gatherumlaw01_NumQuotients.j0 k y0 y1 y2 y3 y4 y5 y6) (gatherumlaw01_NumQuotients.j0 (k + 1) y0 y1 y2 y3 y4 y5 y6))
  | 0 => fun _ _ _ _ _ _ _ r h => by simp [gatherumlaw01_NumQuotients.j0] at h
  | k + 1 => by
    have ih0 := gatherumlaw01_NumQuotients.mono_l k
    · intro y0 y1 y2 y3 y4 y5 y6
      unfold gatherumlaw01_NumQuotients.j0
      repeat' first
      | (with_reducible exact ih0 _ _ _ _ _ _ _)
      | (with_reducible exact gatherumlaw01_alive.mono _)
      | (with_reducible exact gatherumref01_MulDiv.mono _ _ _ _)
      | (with_reducible exact num_Floor.mono _ _ _)
      | (with_reducible exact LeO.refl _)
      | (with_reducible exact LeO.none _)
      | (with_reducible refine LeO.ite ?_ ?_)
      | (with_reducible refine LeO.bind ?_ (fun _ => ?_))
      | exact ih0 _ _ _ _ _ _ _
      | exact gatherumlaw01_alive.mono _
      | exact gatherumref01_MulDiv.mono _ _ _ _
      | exact num_Floor.mono _ _ _
      | exact LeO.none _
      | refine LeO.ite ?_ ?_
      | refine LeO.bind ?_ (fun _ => ?_)
theorem gatherumlaw01_NumQuotients.mono : ∀ a0 a1 k, LeO (gatherumlaw01_NumQuotients.f k a0 a1) (gatherumlaw01_NumQuotients.f (k + 1) a0 a1) := by
  intro a0 a1 k
  have ih0 := gatherumlaw01_NumQuotients.mono_l k
  unfold gatherumlaw01_NumQuotients.f
  repeat' first
      | (with_reducible exact ih0 _ _ _ _ _ _ _)
      | (with_reducible exact gatherumlaw01_alive.mono _)
      | (with_reducible exact gatherumref01_MulDiv.mono _ _ _ _)
      | (with_reducible exact num_Floor.mono _ _ _)
      | (with_reducible exact LeO.refl _)
      | (with_reducible exact LeO.none _)
      | (with_reducible refine LeO.ite ?_ ?_)
      | (with_reducible refine LeO.bind ?_ (fun _ => ?_))
      | exact ih0 _ _ _ _ _ _ _
      | exact gatherumlaw01_alive.mono _
      | exact gatherumref01_MulDiv.mono _ _ _ _
      | exact num_Floor.mono _ _ _
      | exact LeO.none _
      | refine LeO.ite ?_ ?_
      | refine LeO.bind ?_ (fun _ => ?_)
set_option maxHeartbeats 8000000 in
set_option maxRecDepth 100000 in
theorem gatherumlaw01_NumQuotients.calls (k : Nat) (a0 : Int) (a1 : Int) (r : Bool) (w : World) (h : gatherumlaw01_NumQuotients.f k a0 a1 = some r) :
    Calls Try.prog 4 #[.int .i64 a0, .int .i64 a1] w fun e w' => e = .returned (.bool r) ∧ Drawn0 w w' := by
  have H : ((gatherumlaw01_alive.f k).bind fun t129 => (if t129 = true then ((num_Floor.f k a0 a1).bind fun bt130 => ((num_Rest.f a0 a1).bind fun bt132 => ((gatherumref01_MulDiv.f k a0 1 a1).bind fun bt134 => (if bt130.1 = bt134.1 then (if (bt130.2 != bt134.2) = true then (gatherumlaw01_NumQuotients.j0 k a0 a1 bt130.1 bt130.2 bt132.1 bt132.2 true) else (gatherumlaw01_NumQuotients.j0 k a0 a1 bt130.1 bt130.2 bt132.1 bt132.2 (bt132.2 != (a1 != 0)))) else (gatherumlaw01_NumQuotients.j0 k a0 a1 bt130.1 bt130.2 bt132.1 bt132.2 true))))) else (some false))) = some r := h
  clear h
  replace H := Option.bind_eq_some_iff.mp H
  obtain ⟨t129, A30, H⟩ := H
  replace H : (if t129 = true then ((num_Floor.f k a0 a1).bind fun bt130 => ((num_Rest.f a0 a1).bind fun bt132 => ((gatherumref01_MulDiv.f k a0 1 a1).bind fun bt134 => (if bt130.1 = bt134.1 then (if (bt130.2 != bt134.2) = true then (gatherumlaw01_NumQuotients.j0 k a0 a1 bt130.1 bt130.2 bt132.1 bt132.2 true) else (gatherumlaw01_NumQuotients.j0 k a0 a1 bt130.1 bt130.2 bt132.1 bt132.2 (bt132.2 != (a1 != 0)))) else (gatherumlaw01_NumQuotients.j0 k a0 a1 bt130.1 bt130.2 bt132.1 bt132.2 true))))) else (some false)) = some r := H
  have A3 := Aside0.mk A30
  clear A30
  by_cases c4 : t129 = true
  · subst c4
    have H1 : ((num_Floor.f k a0 a1).bind fun bt130 => ((num_Rest.f a0 a1).bind fun bt132 => ((gatherumref01_MulDiv.f k a0 1 a1).bind fun bt134 => (if bt130.1 = bt134.1 then (if (bt130.2 != bt134.2) = true then (gatherumlaw01_NumQuotients.j0 k a0 a1 bt130.1 bt130.2 bt132.1 bt132.2 true) else (gatherumlaw01_NumQuotients.j0 k a0 a1 bt130.1 bt130.2 bt132.1 bt132.2 (bt132.2 != (a1 != 0)))) else (gatherumlaw01_NumQuotients.j0 k a0 a1 bt130.1 bt130.2 bt132.1 bt132.2 true))))) = some r := by rw [if_pos rfl] at H; exact H
    clear H
    have H := H1
    clear H1
    replace H := Option.bind_eq_some_iff.mp H
    obtain ⟨⟨t130, t131⟩, A50, H⟩ := H
    replace H : ((num_Rest.f a0 a1).bind fun bt132 => ((gatherumref01_MulDiv.f k a0 1 a1).bind fun bt134 => (if t130 = bt134.1 then (if (t131 != bt134.2) = true then (gatherumlaw01_NumQuotients.j0 k a0 a1 t130 t131 bt132.1 bt132.2 true) else (gatherumlaw01_NumQuotients.j0 k a0 a1 t130 t131 bt132.1 bt132.2 (bt132.2 != (a1 != 0)))) else (gatherumlaw01_NumQuotients.j0 k a0 a1 t130 t131 bt132.1 bt132.2 true)))) = some r := H
    have A5 := Aside0.mk A50
    clear A50
    replace H := Option.bind_eq_some_iff.mp H
    obtain ⟨⟨t132, t133⟩, A60, H⟩ := H
    replace H : ((gatherumref01_MulDiv.f k a0 1 a1).bind fun bt134 => (if t130 = bt134.1 then (if (t131 != bt134.2) = true then (gatherumlaw01_NumQuotients.j0 k a0 a1 t130 t131 t132 t133 true) else (gatherumlaw01_NumQuotients.j0 k a0 a1 t130 t131 t132 t133 (t133 != (a1 != 0)))) else (gatherumlaw01_NumQuotients.j0 k a0 a1 t130 t131 t132 t133 true))) = some r := H
    have A6 := Aside0.mk A60
    clear A60
    replace H := Option.bind_eq_some_iff.mp H
    obtain ⟨⟨t134, t135⟩, A70, H⟩ := H
    replace H : (if t130 = t134 then (if (t131 != t135) = true then (gatherumlaw01_NumQuotients.j0 k a0 a1 t130 t131 t132 t133 true) else (gatherumlaw01_NumQuotients.j0 k a0 a1 t130 t131 t132 t133 (t133 != (a1 != 0)))) else (gatherumlaw01_NumQuotients.j0 k a0 a1 t130 t131 t132 t133 true)) = some r := H
    have A7 := Aside0.mk A70
    clear A70
    have HC8 := Aside0.mk H
    clear H
    go_enter Try.func4, Try.ntmps4
    go_upto_region 6 with (first | ((with_reducible refine gate_callee (f := 7) rfl ?_); refine goesL_ (some 11) rfl rfl Try.func7 (by kernel_rfl) rfl #[] rfl (by (try simp only [List.map_toArray, List.map_cons, List.map_nil]); first | done | rfl | (simp only [List.length_drop, List.length_take]; rfl)) ?_; (with_reducible refine (gatherumlaw01_alive.calls k  true _ A3.out).mono ?_); rintro e w' ⟨rfl, ⟨nd, rfl⟩⟩; refine ⟨_, rfl, ?_⟩) | ((with_reducible refine gate_callee (f := 10) rfl ?_); refine goesL_ (some 16) rfl rfl Try.func10 (by kernel_rfl) rfl #[.int .i64 a0, .int .i64 a1] rfl (by (try simp only [List.map_toArray, List.map_cons, List.map_nil]); first | done | rfl | (simp only [List.length_drop, List.length_take]; rfl)) ?_; (with_reducible refine (num_Floor.calls k a0 a1 t130 t131 _ A5.out).mono ?_); rintro e w' ⟨rfl, ⟨nd, rfl⟩⟩; refine ⟨_, rfl, ?_⟩) | ((with_reducible refine gate_callee (f := 11) rfl ?_); refine goesL_ (some 22) rfl rfl Try.func11 (by kernel_rfl) rfl #[.int .i64 a0, .int .i64 a1] rfl (by (try simp only [List.map_toArray, List.map_cons, List.map_nil]); first | done | rfl | (simp only [List.length_drop, List.length_take]; rfl)) ?_; (with_reducible refine (num_Rest.calls a0 a1 t132 t133 _ A6.out).mono ?_); rintro e w' ⟨rfl, ⟨nd, rfl⟩⟩; refine ⟨_, rfl, ?_⟩) | ((with_reducible refine gate_callee (f := 9) rfl ?_); refine goesL_ (some 28) rfl rfl Try.func9 (by kernel_rfl) rfl #[.int .i64 a0, .int .i64 1, .int .i64 a1] rfl (by (try simp only [List.map_toArray, List.map_cons, List.map_nil]); first | done | rfl | (simp only [List.length_drop, List.length_take]; rfl)) ?_; (with_reducible refine (gatherumref01_MulDiv.calls k a0 1 a1 t134 t135 _ A7.out).mono ?_); rintro e w' ⟨rfl, ⟨nd, rfl⟩⟩; refine ⟨_, rfl, ?_⟩))
    (try simp only [Act.put, List.setIfInBounds_toArray, List.set_cons_zero, List.set_cons_succ])
    go_cut [44] (fun v44 wc => ∃ (kq : Nat) (x44_7 : Bool), v44 = .bool x44_7 ∧ Aside0 (gatherumlaw01_NumQuotients.j0 kq a0 a1 t130 t131 t132 t133 x44_7 = some r) ∧ Aside0 (kq ≤ k) ∧ Drawn0 w wc)
    case first =>
      have H := HC8.out
      clear HC8
      by_cases c9 : t130 = t134
      · rw [if_pos c9] at H
        have c9b0 : (t130 == t134) = true := beq_iff_eq.mpr c9
        have c9b1 : (t130 != t134) = false := bne_eq_false_iff_eq.mpr c9
        clear c9
        (first | rw [c9b0] | (simp only [i64_w, i32_w]; rw [c9b0]) | skip)
        by_cases c10 : (t131 != t135) = true
        · rw [if_pos c10] at H
          have c10b0 : (t131 != t135) = true := c10
          (try (have c10b1 : decide (t131 = t135) = false := by simpa using c10))
          (try (have c10b2 : (t131 == t135) = false := by simpa using c10))
          (try (have c10b3 : ¬ (t131 = t135) := by simpa using c10))
          clear c10
          have H' := Aside0.mk H
          clear H
          go_wp2
          go_meet
          case rel => exact ⟨_, (true), (by first | rfl | (simp; done) | (simp [*]; done)), H', ⟨by first | omega | exact Nat.le_refl _⟩, by repeat (first | exact Drawn0.refl _ | apply Drawn0.step)⟩
        · rw [if_neg c10] at H
          have c10b0 : (t131 != t135) = false := by simpa using c10
          (try (have c10b1 : decide (t131 = t135) = true := by simpa using c10))
          (try (have c10b2 : (t131 == t135) = true := by simpa using c10))
          clear c10
          have H' := Aside0.mk H
          clear H
          go_wp2
          go_meet
          case rel => exact ⟨_, ((t133 != (a1 != 0))), (by first | rfl | (simp; done) | (simp [*]; done)), H', ⟨by first | omega | exact Nat.le_refl _⟩, by repeat (first | exact Drawn0.refl _ | apply Drawn0.step)⟩
      · rw [if_neg c9] at H
        have c9b0 : (t130 == t134) = false := beq_eq_false_iff_ne.mpr c9
        have c9b1 : (t130 != t134) = true := bne_iff_ne.mpr c9
        (first | rw [c9b0] | (simp only [i64_w, i32_w]; rw [c9b0]) | skip)
        have H' := Aside0.mk H
        clear H
        go_wp2
        go_meet
        case rel => exact ⟨_, (true), (by first | rfl | (simp; done) | (simp [*]; done)), H', ⟨by first | omega | exact Nat.le_refl _⟩, by repeat (first | exact Drawn0.refl _ | apply Drawn0.step)⟩
    case rest =>
      clear HC8
      try clear c1
      try clear p2
      try clear c4
      try clear c7
      try clear c9
      try clear c9b0
      try clear c9b1
      try clear c10
      try clear c10b0
      try clear c10b1
      try clear c10b2
      obtain ⟨kq, x44_7, rfl, HA, HJ7, ⟨mc7, rfl⟩⟩ := hcut
      cases kq with
      | zero => exact absurd HA.out (by simp [gatherumlaw01_NumQuotients.j0])
      | succ kj7 =>
        have H := HA.out
        clear HA
        simp only [gatherumlaw01_NumQuotients.j0] at H
        by_cases c11 : x44_7 = true
        · subst c11
          have H1 : (some false) = some r := by rw [if_pos rfl] at H; exact H
          clear H
          have H := H1
          clear H1
          obtain rfl := Option.some.inj H
          go_wp2
          go_ret
          exact ⟨by first | rfl | (simp; done) | (simp [*]; done), by repeat (first | exact Drawn0.refl _ | apply Drawn0.step)⟩
        · replace c11 := Bool.eq_false_iff.mpr c11
          subst c11
          have H1 : (if t133 = true then (if t131 = true then (if (wrap64 ((wrap64 (t130 * a1)) + t132)) = a0 then (if a1 > 0 then (if t132 ≥ 0 then (if t132 < a1 then (some true) else (if a1 < 0 then (if t132 ≤ 0 then (some (decide (t132 > a1))) else (some false)) else (some false))) else (if a1 < 0 then (if t132 ≤ 0 then (some (decide (t132 > a1))) else (some false)) else (some false))) else (if a1 < 0 then (if t132 ≤ 0 then (some (decide (t132 > a1))) else (some false)) else (some false))) else (some false)) else (if a1 > 0 then (if t132 ≥ 0 then (if t132 < a1 then (some true) else (if a1 < 0 then (if t132 ≤ 0 then (some (decide (t132 > a1))) else (some false)) else (some false))) else (if a1 < 0 then (if t132 ≤ 0 then (some (decide (t132 > a1))) else (some false)) else (some false))) else (if a1 < 0 then (if t132 ≤ 0 then (some (decide (t132 > a1))) else (some false)) else (some false)))) else (some (t132 == 0))) = some r := by rw [if_neg (show ¬ (false = true) by decide)] at H; exact H
          clear H
          have H := H1
          clear H1
          by_cases c12 : t133 = true
          · subst c12
            have H1 : (if t131 = true then (if (wrap64 ((wrap64 (t130 * a1)) + t132)) = a0 then (if a1 > 0 then (if t132 ≥ 0 then (if t132 < a1 then (some true) else (if a1 < 0 then (if t132 ≤ 0 then (some (decide (t132 > a1))) else (some false)) else (some false))) else (if a1 < 0 then (if t132 ≤ 0 then (some (decide (t132 > a1))) else (some false)) else (some false))) else (if a1 < 0 then (if t132 ≤ 0 then (some (decide (t132 > a1))) else (some false)) else (some false))) else (some false)) else (if a1 > 0 then (if t132 ≥ 0 then (if t132 < a1 then (some true) else (if a1 < 0 then (if t132 ≤ 0 then (some (decide (t132 > a1))) else (some false)) else (some false))) else (if a1 < 0 then (if t132 ≤ 0 then (some (decide (t132 > a1))) else (some false)) else (some false))) else (if a1 < 0 then (if t132 ≤ 0 then (some (decide (t132 > a1))) else (some false)) else (some false)))) = some r := by rw [if_pos rfl] at H; exact H
            clear H
            have H := H1
            clear H1
            by_cases c13 : t131 = true
            · subst c13
              have H1 : (if (wrap64 ((wrap64 (t130 * a1)) + t132)) = a0 then (if a1 > 0 then (if t132 ≥ 0 then (if t132 < a1 then (some true) else (if a1 < 0 then (if t132 ≤ 0 then (some (decide (t132 > a1))) else (some false)) else (some false))) else (if a1 < 0 then (if t132 ≤ 0 then (some (decide (t132 > a1))) else (some false)) else (some false))) else (if a1 < 0 then (if t132 ≤ 0 then (some (decide (t132 > a1))) else (some false)) else (some false))) else (some false)) = some r := by rw [if_pos rfl] at H; exact H
              clear H
              have H := H1
              clear H1
              by_cases c14 : (wrap64 ((wrap64 (t130 * a1)) + t132)) = a0
              · rw [if_pos c14] at H
                have c14b0 : ((wrap64 ((wrap64 (t130 * a1)) + t132)) == a0) = true := beq_iff_eq.mpr c14
                have c14b1 : ((wrap64 ((wrap64 (t130 * a1)) + t132)) != a0) = false := bne_eq_false_iff_eq.mpr c14
                clear c14
                by_cases c15 : a1 > 0
                · rw [if_pos c15] at H
                  have c15b0 : decide (0 < a1) = true := decide_eq_true c15
                  clear c15
                  by_cases c16 : t132 ≥ 0
                  · rw [if_pos c16] at H
                    have c16b0 : decide (0 ≤ t132) = true := decide_eq_true c16
                    clear c16
                    by_cases c17 : t132 < a1
                    · rw [if_pos c17] at H
                      have c17b0 : decide (t132 < a1) = true := decide_eq_true c17
                      clear c17
                      obtain rfl := Option.some.inj H
                      go_wp2
                      go_ret
                      exact ⟨by first | rfl | (simp; done) | (simp [*]; done), by repeat (first | exact Drawn0.refl _ | apply Drawn0.step)⟩
                    · rw [if_neg c17] at H
                      have c17b0 : decide (t132 < a1) = false := decide_eq_false c17
                      clear c17
                      by_cases c18 : a1 < 0
                      · rw [if_pos c18] at H
                        have c18b0 : decide (a1 < 0) = true := decide_eq_true c18
                        clear c18
                        by_cases c19 : t132 ≤ 0
                        · rw [if_pos c19] at H
                          have c19b0 : decide (t132 ≤ 0) = true := decide_eq_true c19
                          clear c19
                          obtain rfl := Option.some.inj H
                          go_wp2
                          go_ret
                          exact ⟨by first | rfl | (simp; done) | (simp [*]; done), by repeat (first | exact Drawn0.refl _ | apply Drawn0.step)⟩
                        · rw [if_neg c19] at H
                          have c19b0 : decide (t132 ≤ 0) = false := decide_eq_false c19
                          clear c19
                          obtain rfl := Option.some.inj H
                          go_wp2
                          go_ret
                          exact ⟨by first | rfl | (simp; done) | (simp [*]; done), by repeat (first | exact Drawn0.refl _ | apply Drawn0.step)⟩
                      · rw [if_neg c18] at H
                        have c18b0 : decide (a1 < 0) = false := decide_eq_false c18
                        clear c18
                        obtain rfl := Option.some.inj H
                        go_wp2
                        go_ret
                        exact ⟨by first | rfl | (simp; done) | (simp [*]; done), by repeat (first | exact Drawn0.refl _ | apply Drawn0.step)⟩
                  · rw [if_neg c16] at H
                    have c16b0 : decide (0 ≤ t132) = false := decide_eq_false c16
                    clear c16
                    by_cases c20 : a1 < 0
                    · rw [if_pos c20] at H
                      have c20b0 : decide (a1 < 0) = true := decide_eq_true c20
                      clear c20
                      by_cases c21 : t132 ≤ 0
                      · rw [if_pos c21] at H
                        have c21b0 : decide (t132 ≤ 0) = true := decide_eq_true c21
                        clear c21
                        obtain rfl := Option.some.inj H
                        go_wp2
                        go_ret
                        exact ⟨by first | rfl | (simp; done) | (simp [*]; done), by repeat (first | exact Drawn0.refl _ | apply Drawn0.step)⟩
                      · rw [if_neg c21] at H
                        have c21b0 : decide (t132 ≤ 0) = false := decide_eq_false c21
                        clear c21
                        obtain rfl := Option.some.inj H
                        go_wp2
                        go_ret
                        exact ⟨by first | rfl | (simp; done) | (simp [*]; done), by repeat (first | exact Drawn0.refl _ | apply Drawn0.step)⟩
                    · rw [if_neg c20] at H
                      have c20b0 : decide (a1 < 0) = false := decide_eq_false c20
                      clear c20
                      obtain rfl := Option.some.inj H
                      go_wp2
                      go_ret
                      exact ⟨by first | rfl | (simp; done) | (simp [*]; done), by repeat (first | exact Drawn0.refl _ | apply Drawn0.step)⟩
                · rw [if_neg c15] at H
                  have c15b0 : decide (0 < a1) = false := decide_eq_false c15
                  clear c15
                  by_cases c22 : a1 < 0
                  · rw [if_pos c22] at H
                    have c22b0 : decide (a1 < 0) = true := decide_eq_true c22
                    clear c22
                    by_cases c23 : t132 ≤ 0
                    · rw [if_pos c23] at H
                      have c23b0 : decide (t132 ≤ 0) = true := decide_eq_true c23
                      clear c23
                      obtain rfl := Option.some.inj H
                      go_wp2
                      go_ret
                      exact ⟨by first | rfl | (simp; done) | (simp [*]; done), by repeat (first | exact Drawn0.refl _ | apply Drawn0.step)⟩
                    · rw [if_neg c23] at H
                      have c23b0 : decide (t132 ≤ 0) = false := decide_eq_false c23
                      clear c23
                      obtain rfl := Option.some.inj H
                      go_wp2
                      go_ret
                      exact ⟨by first | rfl | (simp; done) | (simp [*]; done), by repeat (first | exact Drawn0.refl _ | apply Drawn0.step)⟩
                  · rw [if_neg c22] at H
                    have c22b0 : decide (a1 < 0) = false := decide_eq_false c22
                    clear c22
                    obtain rfl := Option.some.inj H
                    go_wp2
                    go_ret
                    exact ⟨by first | rfl | (simp; done) | (simp [*]; done), by repeat (first | exact Drawn0.refl _ | apply Drawn0.step)⟩
              · rw [if_neg c14] at H
                have c14b0 : ((wrap64 ((wrap64 (t130 * a1)) + t132)) == a0) = false := beq_eq_false_iff_ne.mpr c14
                have c14b1 : ((wrap64 ((wrap64 (t130 * a1)) + t132)) != a0) = true := bne_iff_ne.mpr c14
                obtain rfl := Option.some.inj H
                go_wp2
                go_ret
                exact ⟨by first | rfl | (simp; done) | (simp [*]; done), by repeat (first | exact Drawn0.refl _ | apply Drawn0.step)⟩
            · replace c13 := Bool.eq_false_iff.mpr c13
              subst c13
              have H1 : (if a1 > 0 then (if t132 ≥ 0 then (if t132 < a1 then (some true) else (if a1 < 0 then (if t132 ≤ 0 then (some (decide (t132 > a1))) else (some false)) else (some false))) else (if a1 < 0 then (if t132 ≤ 0 then (some (decide (t132 > a1))) else (some false)) else (some false))) else (if a1 < 0 then (if t132 ≤ 0 then (some (decide (t132 > a1))) else (some false)) else (some false))) = some r := by rw [if_neg (show ¬ (false = true) by decide)] at H; exact H
              clear H
              have H := H1
              clear H1
              by_cases c24 : a1 > 0
              · rw [if_pos c24] at H
                have c24b0 : decide (0 < a1) = true := decide_eq_true c24
                clear c24
                by_cases c25 : t132 ≥ 0
                · rw [if_pos c25] at H
                  have c25b0 : decide (0 ≤ t132) = true := decide_eq_true c25
                  clear c25
                  by_cases c26 : t132 < a1
                  · rw [if_pos c26] at H
                    have c26b0 : decide (t132 < a1) = true := decide_eq_true c26
                    clear c26
                    obtain rfl := Option.some.inj H
                    go_wp2
                    go_ret
                    exact ⟨by first | rfl | (simp; done) | (simp [*]; done), by repeat (first | exact Drawn0.refl _ | apply Drawn0.step)⟩
                  · rw [if_neg c26] at H
                    have c26b0 : decide (t132 < a1) = false := decide_eq_false c26
                    clear c26
                    by_cases c27 : a1 < 0
                    · rw [if_pos c27] at H
                      have c27b0 : decide (a1 < 0) = true := decide_eq_true c27
                      clear c27
                      by_cases c28 : t132 ≤ 0
                      · rw [if_pos c28] at H
                        have c28b0 : decide (t132 ≤ 0) = true := decide_eq_true c28
                        clear c28
                        obtain rfl := Option.some.inj H
                        go_wp2
                        go_ret
                        exact ⟨by first | rfl | (simp; done) | (simp [*]; done), by repeat (first | exact Drawn0.refl _ | apply Drawn0.step)⟩
                      · rw [if_neg c28] at H
                        have c28b0 : decide (t132 ≤ 0) = false := decide_eq_false c28
                        clear c28
                        obtain rfl := Option.some.inj H
                        go_wp2
                        go_ret
                        exact ⟨by first | rfl | (simp; done) | (simp [*]; done), by repeat (first | exact Drawn0.refl _ | apply Drawn0.step)⟩
                    · rw [if_neg c27] at H
                      have c27b0 : decide (a1 < 0) = false := decide_eq_false c27
                      clear c27
                      obtain rfl := Option.some.inj H
                      go_wp2
                      go_ret
                      exact ⟨by first | rfl | (simp; done) | (simp [*]; done), by repeat (first | exact Drawn0.refl _ | apply Drawn0.step)⟩
                · rw [if_neg c25] at H
                  have c25b0 : decide (0 ≤ t132) = false := decide_eq_false c25
                  clear c25
                  by_cases c29 : a1 < 0
                  · rw [if_pos c29] at H
                    have c29b0 : decide (a1 < 0) = true := decide_eq_true c29
                    clear c29
                    by_cases c30 : t132 ≤ 0
                    · rw [if_pos c30] at H
                      have c30b0 : decide (t132 ≤ 0) = true := decide_eq_true c30
                      clear c30
                      obtain rfl := Option.some.inj H
                      go_wp2
                      go_ret
                      exact ⟨by first | rfl | (simp; done) | (simp [*]; done), by repeat (first | exact Drawn0.refl _ | apply Drawn0.step)⟩
                    · rw [if_neg c30] at H
                      have c30b0 : decide (t132 ≤ 0) = false := decide_eq_false c30
                      clear c30
                      obtain rfl := Option.some.inj H
                      go_wp2
                      go_ret
                      exact ⟨by first | rfl | (simp; done) | (simp [*]; done), by repeat (first | exact Drawn0.refl _ | apply Drawn0.step)⟩
                  · rw [if_neg c29] at H
                    have c29b0 : decide (a1 < 0) = false := decide_eq_false c29
                    clear c29
                    obtain rfl := Option.some.inj H
                    go_wp2
                    go_ret
                    exact ⟨by first | rfl | (simp; done) | (simp [*]; done), by repeat (first | exact Drawn0.refl _ | apply Drawn0.step)⟩
              · rw [if_neg c24] at H
                have c24b0 : decide (0 < a1) = false := decide_eq_false c24
                clear c24
                by_cases c31 : a1 < 0
                · rw [if_pos c31] at H
                  have c31b0 : decide (a1 < 0) = true := decide_eq_true c31
                  clear c31
                  by_cases c32 : t132 ≤ 0
                  · rw [if_pos c32] at H
                    have c32b0 : decide (t132 ≤ 0) = true := decide_eq_true c32
                    clear c32
                    obtain rfl := Option.some.inj H
                    go_wp2
                    go_ret
                    exact ⟨by first | rfl | (simp; done) | (simp [*]; done), by repeat (first | exact Drawn0.refl _ | apply Drawn0.step)⟩
                  · rw [if_neg c32] at H
                    have c32b0 : decide (t132 ≤ 0) = false := decide_eq_false c32
                    clear c32
                    obtain rfl := Option.some.inj H
                    go_wp2
                    go_ret
                    exact ⟨by first | rfl | (simp; done) | (simp [*]; done), by repeat (first | exact Drawn0.refl _ | apply Drawn0.step)⟩
                · rw [if_neg c31] at H
                  have c31b0 : decide (a1 < 0) = false := decide_eq_false c31
                  clear c31
                  obtain rfl := Option.some.inj H
                  go_wp2
                  go_ret
                  exact ⟨by first | rfl | (simp; done) | (simp [*]; done), by repeat (first | exact Drawn0.refl _ | apply Drawn0.step)⟩
          · replace c12 := Bool.eq_false_iff.mpr c12
            subst c12
            have H1 : (some (t132 == 0)) = some r := by rw [if_neg (show ¬ (false = true) by decide)] at H; exact H
            clear H
            have H := H1
            clear H1
            obtain rfl := Option.some.inj H
            go_wp2
            go_ret
            exact ⟨by first | rfl | (simp; done) | (simp [*]; done), by repeat (first | exact Drawn0.refl _ | apply Drawn0.step)⟩
  · replace c4 := Bool.eq_false_iff.mpr c4
    subst c4
    have H1 : (some false) = some r := by rw [if_neg (show ¬ (false = true) by decide)] at H; exact H
    clear H
    have H := H1
    clear H1
    obtain rfl := Option.some.inj H
    go_enter Try.func4, Try.ntmps4
    go_wp2_with (first | ((with_reducible refine gate_callee (f := 7) rfl ?_); refine goesL_ (some 11) rfl rfl Try.func7 (by kernel_rfl) rfl #[] rfl (by (try simp only [List.map_toArray, List.map_cons, List.map_nil]); first | done | rfl | (simp only [List.length_drop, List.length_take]; rfl)) ?_; (with_reducible refine (gatherumlaw01_alive.calls k  false _ A3.out).mono ?_); rintro e w' ⟨rfl, ⟨nd, rfl⟩⟩; refine ⟨_, rfl, ?_⟩))
    go_ret
    exact ⟨by first | rfl | (simp; done) | (simp [*]; done), by repeat (first | exact Drawn0.refl _ | apply Drawn0.step)⟩

/-- THE ONE PURE STATEMENT of gatherumlaw01_NumQuotients: yours. -/
def gatherumlaw01_NumQuotients.Pure : Prop := ∀ (a0 : Int) (a1 : Int), (Lit.int .i64 a0).wf = true → (Lit.int .i64 a1).wf = true → ∃ k, gatherumlaw01_NumQuotients.f k a0 a1 = some true
theorem gatherumlaw01_NumQuotients.walk (P : gatherumlaw01_NumQuotients.Pure) (a0 : Int) (a1 : Int) (w : World) (w0 : (Lit.int .i64 a0).wf = true) (w1 : (Lit.int .i64 a1).wf = true) :
    Calls Try.prog 4 #[.int .i64 a0, .int .i64 a1] w fun e w' => e = .returned (.bool true) ∧ Below w.heap.size w w' := by
  obtain ⟨k, h⟩ := P a0 a1 w0 w1
  refine (gatherumlaw01_NumQuotients.calls k a0 a1 true w h).mono ?_
  rintro e w' ⟨rfl, hd⟩
  exact ⟨rfl, hd.below⟩

end Go.Proofs.Yteedpeogfglocaa.PNumQuotients
