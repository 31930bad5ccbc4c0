/- Written by a program of this session, out of the translation: each Go function that is named here, called, answers what its Lean function tells, in whatever memory, where that function has an answer. -/
import Derived.Test.YteedpeogfglocaaPNumAddsx0
import Derived.Test.YteedpeogfglocaaPNumAddsx1
namespace Go.Proofs.Yteedpeogfglocaa.PNumAdds
open Go.RowKit Go.Proofs.YteedpeogfglocaaW.PrintWords Go.Proofs.YteedpeogfglocaaW.PrintLast Go.Proofs.YteedpeogfglocaaW.PrintMore
attribute [local go_sem] max2_int min2_int max_two min_two max_three min_three max_four min_four   -- for this text's walks alone
set_option linter.unusedVariables false
set_option linter.unusedSimpArgs false

/-! ### num_signed: function 21 -/
def num_signed.j0 : Nat → Int → Bool → Bool → Option (Int × Bool)
  | 0, _, _, _ => none
  | k + 1, x0, x1, x6 => if x6 = true then (some (wrap64 (IntKind.u64.wrap (-x0)), true)) else (if x1 = true then (some (0, false)) else (if x0 < 9223372036854775808 then (some (wrap64 (x0), true)) else (some (0, false))))
def num_signed.f (k : Nat) (a0 : Int) (a1 : Bool) : Option (Int × Bool) := if a1 = true then (num_signed.j0 k a0 a1 (decide (a0 ≤ 9223372036854775808))) else (num_signed.j0 k a0 a1 false)
theorem num_signed.mono_l : ∀ k, (∀ y0 y1 y2, LeO (num_signed.j0 k y0 y1 y2) (num_signed.j0 (k + 1) y0 y1 y2))
  | 0 => fun _ _ _ r h => by simp [num_signed.j0] at h
  | k + 1 => by
    have ih0 := num_signed.mono_l k
    · intro y0 y1 y2
      unfold num_signed.j0
      repeat' first
      | (with_reducible exact ih0 _ _ _)
      | (with_reducible exact LeO.refl _)
      | (with_reducible exact LeO.none _)
      | (with_reducible refine LeO.ite ?_ ?_)
      | (with_reducible refine LeO.bind ?_ (fun _ => ?_))
      | exact ih0 _ _ _
      | exact LeO.none _
      | refine LeO.ite ?_ ?_
      | refine LeO.bind ?_ (fun _ => ?_)
theorem num_signed.mono : ∀ a0 a1 k, LeO (num_signed.f k a0 a1) (num_signed.f (k + 1) a0 a1) := by
  intro a0 a1 k
  have ih0 := num_signed.mono_l k
  unfold num_signed.f
  repeat' first
      | (with_reducible exact ih0 _ _ _)
      | (with_reducible exact LeO.refl _)
      | (with_reducible exact LeO.none _)
      | (with_reducible refine LeO.ite ?_ ?_)
      | (with_reducible refine LeO.bind ?_ (fun _ => ?_))
      | exact ih0 _ _ _
      | exact LeO.none _
      | refine LeO.ite ?_ ?_
      | refine LeO.bind ?_ (fun _ => ?_)
set_option maxHeartbeats 8000000 in
set_option maxRecDepth 100000 in
theorem num_signed.calls (k : Nat) (a0 : Int) (a1 : Bool) (r1 : Int) (r2 : Bool) (w : World) (h : num_signed.f k a0 a1 = some (r1, r2)) :
    Calls Try.prog 21 #[.int .u64 a0, .bool a1] w fun e w' => e = .returned (.tuple #[.int .i64 r1, .bool r2]) ∧ Drawn0 w w' := by
  have H : (if a1 = true then (num_signed.j0 k a0 a1 (decide (a0 ≤ 9223372036854775808))) else (num_signed.j0 k a0 a1 false)) = some (r1, r2) := h
  clear h
  have HC3 := Aside0.mk H
  clear H
  go_enter Try.func21, Try.ntmps21
  go_upto_region 1 with (fail)
  go_cut [6] (fun v6 wc => ∃ (kq : Nat) (x6_2 : Bool), v6 = .bool x6_2 ∧ Aside0 (num_signed.j0 kq a0 a1 x6_2 = some (r1, r2)) ∧ Aside0 (kq ≤ k) ∧ Drawn0 w wc)
  case first =>
    have H := HC3.out
    clear HC3
    by_cases c4 : a1 = true
    · subst c4
      have H1 : (num_signed.j0 k a0 true (decide (a0 ≤ 9223372036854775808))) = some (r1, r2) := by rw [if_pos rfl] at H; exact H
      clear H
      have H := H1
      clear H1
      have H' := Aside0.mk H
      clear H
      go_wp2
      go_meet
      case rel => exact ⟨_, (decide (a0 ≤ 9223372036854775808)), (by first | rfl | (simp; done) | (simp [*]; done)), H', ⟨by first | omega | exact Nat.le_refl _⟩, by repeat (first | exact Drawn0.refl _ | apply Drawn0.step)⟩
    · replace c4 := Bool.eq_false_iff.mpr c4
      subst c4
      have H1 : (num_signed.j0 k a0 false false) = some (r1, r2) := by rw [if_neg (show ¬ (false = true) by decide)] at H; exact H
      clear H
      have H := H1
      clear H1
      have H' := Aside0.mk H
      clear H
      go_wp2
      go_meet
      case rel => exact ⟨_, (false), (by first | rfl | (simp; done) | (simp [*]; done)), H', ⟨by first | omega | exact Nat.le_refl _⟩, by repeat (first | exact Drawn0.refl _ | apply Drawn0.step)⟩
  case rest =>
    clear HC3
    try clear c2
    try clear p2
    try clear c4
    obtain ⟨kq, x6_2, rfl, HA, HJ2, ⟨mc2, rfl⟩⟩ := hcut
    cases kq with
    | zero => exact absurd HA.out (by simp [num_signed.j0])
    | succ kj2 =>
      have H := HA.out
      clear HA
      simp only [num_signed.j0] at H
      by_cases c5 : x6_2 = true
      · subst c5
        have H1 : (some (wrap64 (IntKind.u64.wrap (-a0)), true)) = some (r1, r2) := by rw [if_pos rfl] at H; exact H
        clear H
        have H := H1
        clear H1
        simp only [Option.some.injEq, Prod.mk.injEq] at H
        obtain ⟨rfl, rfl⟩ := H
        go_wp2
        go_ret2
        exact ⟨by first | rfl | (simp; done) | (simp [*]; done), by repeat (first | exact Drawn0.refl _ | apply Drawn0.step)⟩
      · replace c5 := Bool.eq_false_iff.mpr c5
        subst c5
        have H1 : (if a1 = true then (some (0, false)) else (if a0 < 9223372036854775808 then (some (wrap64 (a0), true)) else (some (0, false)))) = some (r1, r2) := by rw [if_neg (show ¬ (false = true) by decide)] at H; exact H
        clear H
        have H := H1
        clear H1
        by_cases c6 : a1 = true
        · subst c6
          have H1 : (some (0, false)) = some (r1, r2) := by rw [if_pos rfl] at H; exact H
          clear H
          have H := H1
          clear H1
          simp only [Option.some.injEq, Prod.mk.injEq] at H
          obtain ⟨rfl, rfl⟩ := H
          go_wp2
          go_ret2
          exact ⟨by first | rfl | (simp; done) | (simp [*]; done), by repeat (first | exact Drawn0.refl _ | apply Drawn0.step)⟩
        · replace c6 := Bool.eq_false_iff.mpr c6
          subst c6
          have H1 : (if a0 < 9223372036854775808 then (some (wrap64 (a0), true)) else (some (0, false))) = some (r1, r2) := by rw [if_neg (show ¬ (false = true) by decide)] at H; exact H
          clear H
          have H := H1
          clear H1
          by_cases c7 : a0 < 9223372036854775808
          · rw [if_pos c7] at H
            have c7b0 : decide (a0 < 9223372036854775808) = true := decide_eq_true c7
            clear c7
            simp only [Option.some.injEq, Prod.mk.injEq] at H
            obtain ⟨rfl, rfl⟩ := H
            go_wp2
            go_ret2
            exact ⟨by first | rfl | (simp; done) | (simp [*]; done), by repeat (first | exact Drawn0.refl _ | apply Drawn0.step)⟩
          · rw [if_neg c7] at H
            have c7b0 : decide (a0 < 9223372036854775808) = false := decide_eq_false c7
            clear c7
            simp only [Option.some.injEq, Prod.mk.injEq] at H
            obtain ⟨rfl, rfl⟩ := H
            go_wp2
            go_ret2
            exact ⟨by first | rfl | (simp; done) | (simp [*]; done), by repeat (first | exact Drawn0.refl _ | apply Drawn0.step)⟩

/-! ### num_MulDiv: function 8 -/
def num_MulDiv.j0 : Nat → Int → Bool → Bool → Option (Int × Bool)
  | 0, _, _, _ => none
  | k + 1, x11, x13, x46 => if x46 = true then (if (IntKind.u64.wrap (x11 + 1)) = 0 then (some (0, false)) else ((num_signed.f k (IntKind.u64.wrap (x11 + 1)) x13).bind fun bt110 => (some (bt110.1, bt110.2)))) else ((num_signed.f k x11 x13).bind fun bt112 => (some (bt112.1, bt112.2)))
def num_MulDiv.f (k : Nat) (a0 : Int) (a1 : Int) (a2 : Int) : Option (Int × Bool) := (num_size.f a0).bind fun t103 => ((num_size.f a1).bind fun t104 => ((bits_Mul64.f t103 t104).bind fun bt105 => ((num_size.f a2).bind fun t107 => (if bt105.1 ≥ t107 then (some (0, false)) else ((bits_Div64.f k bt105.1 bt105.2 t107).bind fun bt108 => (if (((decide (a0 < 0)) != (decide (a1 < 0))) != (decide (a2 < 0))) = true then (num_MulDiv.j0 k bt108.1 (((decide (a0 < 0)) != (decide (a1 < 0))) != (decide (a2 < 0))) (decide (bt108.2 > 0))) else (num_MulDiv.j0 k bt108.1 (((decide (a0 < 0)) != (decide (a1 < 0))) != (decide (a2 < 0))) false)))))))
theorem num_MulDiv.mono_l : ∀ k, (∀ y0 y1 y2, LeO (num_MulDiv.j0 k y0 y1 y2) (num_MulDiv.j0 (k + 1) y0 y1 y2))
  | 0 => fun _ _ _ r h => by simp [num_MulDiv.j0] at h
  | k + 1 => by
    have ih0 := num_MulDiv.mono_l k
    · intro y0 y1 y2
      unfold num_MulDiv.j0
      repeat' first
      | (with_reducible exact ih0 _ _ _)
      | (with_reducible exact bits_Div64.mono _ _ _ _)
      | (with_reducible exact num_signed.mono _ _ _)
      | (with_reducible exact LeO.refl _)
      | (with_reducible exact LeO.none _)
      | (with_reducible refine LeO.ite ?_ ?_)
      | (with_reducible refine LeO.bind ?_ (fun _ => ?_))
      | exact ih0 _ _ _
      | exact bits_Div64.mono _ _ _ _
      | exact num_signed.mono _ _ _
      | exact LeO.none _
      | refine LeO.ite ?_ ?_
      | refine LeO.bind ?_ (fun _ => ?_)
theorem num_MulDiv.mono : ∀ a0 a1 a2 k, LeO (num_MulDiv.f k a0 a1 a2) (num_MulDiv.f (k + 1) a0 a1 a2) := by
  intro a0 a1 a2 k
  have ih0 := num_MulDiv.mono_l k
  unfold num_MulDiv.f
  repeat' first
      | (with_reducible exact ih0 _ _ _)
      | (with_reducible exact bits_Div64.mono _ _ _ _)
      | (with_reducible exact num_signed.mono _ _ _)
      | (with_reducible exact LeO.refl _)
      | (with_reducible exact LeO.none _)
      | (with_reducible refine LeO.ite ?_ ?_)
      | (with_reducible refine LeO.bind ?_ (fun _ => ?_))
      | exact ih0 _ _ _
      | exact bits_Div64.mono _ _ _ _
      | exact num_signed.mono _ _ _
      | exact LeO.none _
      | refine LeO.ite ?_ ?_
      | refine LeO.bind ?_ (fun _ => ?_)
set_option maxHeartbeats 8000000 in
set_option maxRecDepth 100000 in
theorem num_MulDiv.calls (k : Nat) (a0 : Int) (a1 : Int) (a2 : Int) (r1 : Int) (r2 : Bool) (w : World) (h : num_MulDiv.f k a0 a1 a2 = some (r1, r2)) :
    Calls Try.prog 8 #[.int .i64 a0, .int .i64 a1, .int .i64 a2] w fun e w' => e = .returned (.tuple #[.int .i64 r1, .bool r2]) ∧ Drawn0 w w' := by
  have H : ((num_size.f a0).bind fun t103 => ((num_size.f a1).bind fun t104 => ((bits_Mul64.f t103 t104).bind fun bt105 => ((num_size.f a2).bind fun t107 => (if bt105.1 ≥ t107 then (some (0, false)) else ((bits_Div64.f k bt105.1 bt105.2 t107).bind fun bt108 => (if (((decide (a0 < 0)) != (decide (a1 < 0))) != (decide (a2 < 0))) = true then (num_MulDiv.j0 k bt108.1 (((decide (a0 < 0)) != (decide (a1 < 0))) != (decide (a2 < 0))) (decide (bt108.2 > 0))) else (num_MulDiv.j0 k bt108.1 (((decide (a0 < 0)) != (decide (a1 < 0))) != (decide (a2 < 0))) false)))))))) = some (r1, r2) := h
  clear h
  replace H := Option.bind_eq_some_iff.mp H
  obtain ⟨t103, A40, H⟩ := H
  replace H : ((num_size.f a1).bind fun t104 => ((bits_Mul64.f t103 t104).bind fun bt105 => ((num_size.f a2).bind fun t107 => (if bt105.1 ≥ t107 then (some (0, false)) else ((bits_Div64.f k bt105.1 bt105.2 t107).bind fun bt108 => (if (((decide (a0 < 0)) != (decide (a1 < 0))) != (decide (a2 < 0))) = true then (num_MulDiv.j0 k bt108.1 (((decide (a0 < 0)) != (decide (a1 < 0))) != (decide (a2 < 0))) (decide (bt108.2 > 0))) else (num_MulDiv.j0 k bt108.1 (((decide (a0 < 0)) != (decide (a1 < 0))) != (decide (a2 < 0))) false))))))) = some (r1, r2) := H
  have A4 := Aside0.mk A40
  clear A40
  replace H := Option.bind_eq_some_iff.mp H
  obtain ⟨t104, A50, H⟩ := H
  replace H : ((bits_Mul64.f t103 t104).bind fun bt105 => ((num_size.f a2).bind fun t107 => (if bt105.1 ≥ t107 then (some (0, false)) else ((bits_Div64.f k bt105.1 bt105.2 t107).bind fun bt108 => (if (((decide (a0 < 0)) != (decide (a1 < 0))) != (decide (a2 < 0))) = true then (num_MulDiv.j0 k bt108.1 (((decide (a0 < 0)) != (decide (a1 < 0))) != (decide (a2 < 0))) (decide (bt108.2 > 0))) else (num_MulDiv.j0 k bt108.1 (((decide (a0 < 0)) != (decide (a1 < 0))) != (decide (a2 < 0))) false)))))) = some (r1, r2) := H
  have A5 := Aside0.mk A50
  clear A50
  replace H := Option.bind_eq_some_iff.mp H
  obtain ⟨⟨t105, t106⟩, A60, H⟩ := H
  replace H : ((num_size.f a2).bind fun t107 => (if t105 ≥ t107 then (some (0, false)) else ((bits_Div64.f k t105 t106 t107).bind fun bt108 => (if (((decide (a0 < 0)) != (decide (a1 < 0))) != (decide (a2 < 0))) = true then (num_MulDiv.j0 k bt108.1 (((decide (a0 < 0)) != (decide (a1 < 0))) != (decide (a2 < 0))) (decide (bt108.2 > 0))) else (num_MulDiv.j0 k bt108.1 (((decide (a0 < 0)) != (decide (a1 < 0))) != (decide (a2 < 0))) false))))) = some (r1, r2) := H
  have A6 := Aside0.mk A60
  clear A60
  replace H := Option.bind_eq_some_iff.mp H
  obtain ⟨t107, A70, H⟩ := H
  replace H : (if t105 ≥ t107 then (some (0, false)) else ((bits_Div64.f k t105 t106 t107).bind fun bt108 => (if (((decide (a0 < 0)) != (decide (a1 < 0))) != (decide (a2 < 0))) = true then (num_MulDiv.j0 k bt108.1 (((decide (a0 < 0)) != (decide (a1 < 0))) != (decide (a2 < 0))) (decide (bt108.2 > 0))) else (num_MulDiv.j0 k bt108.1 (((decide (a0 < 0)) != (decide (a1 < 0))) != (decide (a2 < 0))) false)))) = some (r1, r2) := H
  have A7 := Aside0.mk A70
  clear A70
  by_cases c8 : t105 ≥ t107
  · rw [if_pos c8] at H
    have c8b0 : decide (t107 ≤ t105) = true := decide_eq_true c8
    clear c8
    simp only [Option.some.injEq, Prod.mk.injEq] at H
    obtain ⟨rfl, rfl⟩ := H
    go_enter Try.func8, Try.ntmps8
    go_wp2_with (first | ((with_reducible refine gate_callee (f := 19) rfl ?_); refine goesL_ (some 16) rfl rfl Try.func19 (by kernel_rfl) rfl #[.int .i64 a0] rfl (by (try simp only [List.map_toArray, List.map_cons, List.map_nil]); first | done | rfl | (simp only [List.length_drop, List.length_take]; rfl)) ?_; (with_reducible refine (num_size.calls a0 t103 _ A4.out).mono ?_); rintro e w' ⟨rfl, ⟨nd, rfl⟩⟩; refine ⟨_, rfl, ?_⟩) | ((with_reducible refine gate_callee (f := 19) rfl ?_); refine goesL_ (some 18) rfl rfl Try.func19 (by kernel_rfl) rfl #[.int .i64 a1] rfl (by (try simp only [List.map_toArray, List.map_cons, List.map_nil]); first | done | rfl | (simp only [List.length_drop, List.length_take]; rfl)) ?_; (with_reducible refine (num_size.calls a1 t104 _ A5.out).mono ?_); rintro e w' ⟨rfl, ⟨nd, rfl⟩⟩; refine ⟨_, rfl, ?_⟩) | ((with_reducible refine gate_callee (f := 18) rfl ?_); refine goesL_ (some 19) rfl rfl Try.func18 (by kernel_rfl) rfl #[.int .u64 t103, .int .u64 t104] rfl (by (try simp only [List.map_toArray, List.map_cons, List.map_nil]); first | done | rfl | (simp only [List.length_drop, List.length_take]; rfl)) ?_; (with_reducible refine (bits_Mul64.calls t103 t104 t105 t106 _ A6.out).mono ?_); rintro e w' ⟨rfl, ⟨nd, rfl⟩⟩; refine ⟨_, rfl, ?_⟩) | ((with_reducible refine gate_callee (f := 19) rfl ?_); refine goesL_ (some 23) rfl rfl Try.func19 (by kernel_rfl) rfl #[.int .i64 a2] rfl (by (try simp only [List.map_toArray, List.map_cons, List.map_nil]); first | done | rfl | (simp only [List.length_drop, List.length_take]; rfl)) ?_; (with_reducible refine (num_size.calls a2 t107 _ A7.out).mono ?_); rintro e w' ⟨rfl, ⟨nd, rfl⟩⟩; refine ⟨_, rfl, ?_⟩))
    go_ret2
    exact ⟨by first | rfl | (simp; done) | (simp [*]; done), by repeat (first | exact Drawn0.refl _ | apply Drawn0.step)⟩
  · rw [if_neg c8] at H
    have c8b0 : decide (t107 ≤ t105) = false := decide_eq_false c8
    clear c8
    replace H := Option.bind_eq_some_iff.mp H
    obtain ⟨⟨t108, t109⟩, A90, H⟩ := H
    replace H : (if (((decide (a0 < 0)) != (decide (a1 < 0))) != (decide (a2 < 0))) = true then (num_MulDiv.j0 k t108 (((decide (a0 < 0)) != (decide (a1 < 0))) != (decide (a2 < 0))) (decide (t109 > 0))) else (num_MulDiv.j0 k t108 (((decide (a0 < 0)) != (decide (a1 < 0))) != (decide (a2 < 0))) false)) = some (r1, r2) := H
    have A9 := Aside0.mk A90
    clear A90
    have HC10 := Aside0.mk H
    clear H
    go_enter Try.func8, Try.ntmps8
    go_upto_region 7 with (first | ((with_reducible refine gate_callee (f := 19) rfl ?_); refine goesL_ (some 16) rfl rfl Try.func19 (by kernel_rfl) rfl #[.int .i64 a0] rfl (by (try simp only [List.map_toArray, List.map_cons, List.map_nil]); first | done | rfl | (simp only [List.length_drop, List.length_take]; rfl)) ?_; (with_reducible refine (num_size.calls a0 t103 _ A4.out).mono ?_); rintro e w' ⟨rfl, ⟨nd, rfl⟩⟩; refine ⟨_, rfl, ?_⟩) | ((with_reducible refine gate_callee (f := 19) rfl ?_); refine goesL_ (some 18) rfl rfl Try.func19 (by kernel_rfl) rfl #[.int .i64 a1] rfl (by (try simp only [List.map_toArray, List.map_cons, List.map_nil]); first | done | rfl | (simp only [List.length_drop, List.length_take]; rfl)) ?_; (with_reducible refine (num_size.calls a1 t104 _ A5.out).mono ?_); rintro e w' ⟨rfl, ⟨nd, rfl⟩⟩; refine ⟨_, rfl, ?_⟩) | ((with_reducible refine gate_callee (f := 18) rfl ?_); refine goesL_ (some 19) rfl rfl Try.func18 (by kernel_rfl) rfl #[.int .u64 t103, .int .u64 t104] rfl (by (try simp only [List.map_toArray, List.map_cons, List.map_nil]); first | done | rfl | (simp only [List.length_drop, List.length_take]; rfl)) ?_; (with_reducible refine (bits_Mul64.calls t103 t104 t105 t106 _ A6.out).mono ?_); rintro e w' ⟨rfl, ⟨nd, rfl⟩⟩; refine ⟨_, rfl, ?_⟩) | ((with_reducible refine gate_callee (f := 19) rfl ?_); refine goesL_ (some 23) rfl rfl Try.func19 (by kernel_rfl) rfl #[.int .i64 a2] rfl (by (try simp only [List.map_toArray, List.map_cons, List.map_nil]); first | done | rfl | (simp only [List.length_drop, List.length_take]; rfl)) ?_; (with_reducible refine (num_size.calls a2 t107 _ A7.out).mono ?_); rintro e w' ⟨rfl, ⟨nd, rfl⟩⟩; refine ⟨_, rfl, ?_⟩) | ((with_reducible refine gate_callee (f := 20) rfl ?_); refine goesL_ (some 31) rfl rfl Try.func20 (by kernel_rfl) rfl #[.int .u64 t105, .int .u64 t106, .int .u64 t107] rfl (by (try simp only [List.map_toArray, List.map_cons, List.map_nil]); first | done | rfl | (simp only [List.length_drop, List.length_take]; rfl)) ?_; (with_reducible refine (bits_Div64.calls k t105 t106 t107 t108 t109 _ A9.out).mono ?_); rintro e w' ⟨rfl, ⟨nd, rfl⟩⟩; refine ⟨_, rfl, ?_⟩))
    (try simp only [Act.put, List.setIfInBounds_toArray, List.set_cons_zero, List.set_cons_succ])
    go_cut [13, 46] (fun v13 v46 wc => ∃ (kq : Nat) (x13_9 : Bool) (x46_9 : Bool), v13 = .bool x13_9 ∧ v46 = .bool x46_9 ∧ Aside0 (num_MulDiv.j0 kq t108 x13_9 x46_9 = some (r1, r2)) ∧ Aside0 (kq ≤ k) ∧ Drawn0 w wc)
    case first =>
      have H := HC10.out
      clear HC10
      by_cases c11 : (((decide (a0 < 0)) != (decide (a1 < 0))) != (decide (a2 < 0))) = true
      · rw [if_pos c11] at H
        have c11b0 : (((decide (a0 < 0)) != (decide (a1 < 0))) != (decide (a2 < 0))) = true := c11
        (try (have c11b1 : decide (((decide (a0 < 0)) != (decide (a1 < 0))) = (decide (a2 < 0))) = false := by simpa using c11))
        (try (have c11b2 : (((decide (a0 < 0)) != (decide (a1 < 0))) == (decide (a2 < 0))) = false := by simpa using c11))
        (try (have c11b3 : ¬ (((decide (a0 < 0)) != (decide (a1 < 0))) = (decide (a2 < 0))) := by simpa using c11))
        (try (have c11b4 : (!((!((decide (a0 < 0)) == (decide (a1 < 0)))) == (decide (a2 < 0)))) = true := by have z_ := c11; revert z_; generalize (decide (a0 < 0)) = q0_; generalize (decide (a1 < 0)) = q1_; generalize (decide (a2 < 0)) = q2_; revert q0_ q1_ q2_; decide))
        clear c11
        (first | rw [c11b0] | (simp only [i64_w, i32_w]; rw [c11b0]) | skip)
        have H' := Aside0.mk H
        clear H
        go_wp2
        go_meet
        case rel => exact ⟨_, ((((decide (a0 < 0)) != (decide (a1 < 0))) != (decide (a2 < 0)))), (decide (t109 > 0)), (by first | rfl | (simp; done) | (simp [*]; done)), (by first | rfl | (simp; done) | (simp [*]; done)), H', ⟨by first | omega | exact Nat.le_refl _⟩, by repeat (first | exact Drawn0.refl _ | apply Drawn0.step)⟩
      · rw [if_neg c11] at H
        have c11b0 : (((decide (a0 < 0)) != (decide (a1 < 0))) != (decide (a2 < 0))) = false := by simpa using c11
        (try (have c11b1 : decide (((decide (a0 < 0)) != (decide (a1 < 0))) = (decide (a2 < 0))) = true := by simpa using c11))
        (try (have c11b2 : (((decide (a0 < 0)) != (decide (a1 < 0))) == (decide (a2 < 0))) = true := by simpa using c11))
        (try (have c11b3 : (!((!((decide (a0 < 0)) == (decide (a1 < 0)))) == (decide (a2 < 0)))) = false := by have z_ := c11; revert z_; generalize (decide (a0 < 0)) = q0_; generalize (decide (a1 < 0)) = q1_; generalize (decide (a2 < 0)) = q2_; revert q0_ q1_ q2_; decide))
        clear c11
        (first | rw [c11b0] | (simp only [i64_w, i32_w]; rw [c11b0]) | skip)
        have H' := Aside0.mk H
        clear H
        go_wp2
        go_meet
        case rel => exact ⟨_, ((((decide (a0 < 0)) != (decide (a1 < 0))) != (decide (a2 < 0)))), (false), (by first | rfl | (simp; done) | (simp [*]; done)), (by first | rfl | (simp; done) | (simp [*]; done)), H', ⟨by first | omega | exact Nat.le_refl _⟩, by repeat (first | exact Drawn0.refl _ | apply Drawn0.step)⟩
    case rest =>
      clear HC10
      try clear c1
      try clear q1
      try clear c2
      try clear p2
      try clear q2
      try clear c8
      try clear c8b0
      try clear c11
      try clear c11b0
      try clear c11b1
      try clear c11b2
      obtain ⟨kq, x13_9, x46_9, rfl, rfl, HA, HJ9, ⟨mc9, rfl⟩⟩ := hcut
      cases kq with
      | zero => exact absurd HA.out (by simp [num_MulDiv.j0])
      | succ kj9 =>
        have H := HA.out
        clear HA
        simp only [num_MulDiv.j0] at H
        by_cases c12 : x46_9 = true
        · subst c12
          have H1 : (if (IntKind.u64.wrap (t108 + 1)) = 0 then (some (0, false)) else ((num_signed.f kj9 (IntKind.u64.wrap (t108 + 1)) x13_9).bind fun bt110 => (some (bt110.1, bt110.2)))) = some (r1, r2) := by rw [if_pos rfl] at H; exact H
          clear H
          have H := H1
          clear H1
          by_cases c13 : (IntKind.u64.wrap (t108 + 1)) = 0
          · rw [if_pos c13] at H
            have c13b0 : ((IntKind.u64.wrap (t108 + 1)) == 0) = true := beq_iff_eq.mpr c13
            have c13b1 : ((IntKind.u64.wrap (t108 + 1)) != 0) = false := bne_eq_false_iff_eq.mpr c13
            clear c13
            simp only [Option.some.injEq, Prod.mk.injEq] at H
            obtain ⟨rfl, rfl⟩ := H
            go_wp2
            go_ret2
            exact ⟨by first | rfl | (simp; done) | (simp [*]; done), by repeat (first | exact Drawn0.refl _ | apply Drawn0.step)⟩
          · rw [if_neg c13] at H
            have c13b0 : ((IntKind.u64.wrap (t108 + 1)) == 0) = false := beq_eq_false_iff_ne.mpr c13
            have c13b1 : ((IntKind.u64.wrap (t108 + 1)) != 0) = true := bne_iff_ne.mpr c13
            replace H := Option.bind_eq_some_iff.mp H
            obtain ⟨⟨t110, t111⟩, A140, H⟩ := H
            replace H : (some (t110, t111)) = some (r1, r2) := H
            have A14 := Aside0.mk A140
            clear A140
            simp only [Option.some.injEq, Prod.mk.injEq] at H
            obtain ⟨rfl, rfl⟩ := H
            go_wp2_with (first | ((with_reducible refine gate_callee (f := 21) rfl ?_); refine goesL_ (some 53) rfl rfl Try.func21 (by kernel_rfl) rfl #[.int .u64 (IntKind.u64.wrap (t108 + 1)), .bool x13_9] rfl (by (try simp only [List.map_toArray, List.map_cons, List.map_nil]); first | done | rfl | (simp only [List.length_drop, List.length_take]; rfl)) ?_; (with_reducible refine (num_signed.calls kj9 (IntKind.u64.wrap (t108 + 1)) x13_9 t110 t111 _ A14.out).mono ?_); rintro e w' ⟨rfl, ⟨nd, rfl⟩⟩; refine ⟨_, rfl, ?_⟩))
            go_ret2
            exact ⟨by first | rfl | (simp; done) | (simp [*]; done), by repeat (first | exact Drawn0.refl _ | apply Drawn0.step)⟩
        · replace c12 := Bool.eq_false_iff.mpr c12
          subst c12
          have H1 : ((num_signed.f kj9 t108 x13_9).bind fun bt112 => (some (bt112.1, bt112.2))) = some (r1, r2) := by rw [if_neg (show ¬ (false = true) by decide)] at H; exact H
          clear H
          have H := H1
          clear H1
          replace H := Option.bind_eq_some_iff.mp H
          obtain ⟨⟨t112, t113⟩, A150, H⟩ := H
          replace H : (some (t112, t113)) = some (r1, r2) := H
          have A15 := Aside0.mk A150
          clear A150
          simp only [Option.some.injEq, Prod.mk.injEq] at H
          obtain ⟨rfl, rfl⟩ := H
          go_wp2_with (first | ((with_reducible refine gate_callee (f := 21) rfl ?_); refine goesL_ (some 53) rfl rfl Try.func21 (by kernel_rfl) rfl #[.int .u64 t108, .bool x13_9] rfl (by (try simp only [List.map_toArray, List.map_cons, List.map_nil]); first | done | rfl | (simp only [List.length_drop, List.length_take]; rfl)) ?_; (with_reducible refine (num_signed.calls kj9 t108 x13_9 t112 t113 _ A15.out).mono ?_); rintro e w' ⟨rfl, ⟨nd, rfl⟩⟩; refine ⟨_, rfl, ?_⟩))
          go_ret2
          exact ⟨by first | rfl | (simp; done) | (simp [*]; done), by repeat (first | exact Drawn0.refl _ | apply Drawn0.step)⟩

/-! ### num_Floor: function 10 -/
def num_Floor.f (k : Nat) (a0 : Int) (a1 : Int) : Option (Int × Bool) := (num_MulDiv.f k a0 1 a1).bind fun bt114 => (some (bt114.1, bt114.2))
theorem num_Floor.mono : ∀ a0 a1 k, LeO (num_Floor.f k a0 a1) (num_Floor.f (k + 1) a0 a1) := by
  intro a0 a1 k
  unfold num_Floor.f
  repeat' first
      | (with_reducible exact num_MulDiv.mono _ _ _ _)
      | (with_reducible exact LeO.refl _)
      | (with_reducible exact LeO.none _)
      | (with_reducible refine LeO.ite ?_ ?_)
      | (with_reducible refine LeO.bind ?_ (fun _ => ?_))
      | exact num_MulDiv.mono _ _ _ _
      | exact LeO.none _
      | refine LeO.ite ?_ ?_
      | refine LeO.bind ?_ (fun _ => ?_)
set_option maxHeartbeats 8000000 in
set_option maxRecDepth 100000 in
theorem num_Floor.calls (k : Nat) (a0 : Int) (a1 : Int) (r1 : Int) (r2 : Bool) (w : World) (h : num_Floor.f k a0 a1 = some (r1, r2)) :
    Calls Try.prog 10 #[.int .i64 a0, .int .i64 a1] w fun e w' => e = .returned (.tuple #[.int .i64 r1, .bool r2]) ∧ Drawn0 w w' := by
  have H : ((num_MulDiv.f k a0 1 a1).bind fun bt114 => (some (bt114.1, bt114.2))) = some (r1, r2) := h
  clear h
  replace H := Option.bind_eq_some_iff.mp H
  obtain ⟨⟨t114, t115⟩, A30, H⟩ := H
  replace H : (some (t114, t115)) = some (r1, r2) := H
  have A3 := Aside0.mk A30
  clear A30
  simp only [Option.some.injEq, Prod.mk.injEq] at H
  obtain ⟨rfl, rfl⟩ := H
  go_enter Try.func10, Try.ntmps10
  go_wp2_with (first | ((with_reducible refine gate_callee (f := 8) rfl ?_); refine goesL_ (some 8) rfl rfl Try.func8 (by kernel_rfl) rfl #[.int .i64 a0, .int .i64 1, .int .i64 a1] rfl (by (try simp only [List.map_toArray, List.map_cons, List.map_nil]); first | done | rfl | (simp only [List.length_drop, List.length_take]; rfl)) ?_; (with_reducible refine (num_MulDiv.calls k a0 1 a1 t114 t115 _ A3.out).mono ?_); rintro e w' ⟨rfl, ⟨nd, rfl⟩⟩; refine ⟨_, rfl, ?_⟩))
  go_ret2
  exact ⟨by first | rfl | (simp; done) | (simp [*]; done), by repeat (first | exact Drawn0.refl _ | apply Drawn0.step)⟩

/-! ### num_In: function 17 -/
def num_In.f (a0 : Int) (a1 : Int) (a2 : Int) : Option (Bool) := if a1 ≤ a0 then (some (decide (a0 ≤ a2))) else (some false)
set_option maxHeartbeats 8000000 in
set_option maxRecDepth 100000 in
theorem num_In.calls (a0 : Int) (a1 : Int) (a2 : Int) (r : Bool) (w : World) (h : num_In.f a0 a1 a2 = some r) :
    Calls Try.prog 17 #[.int .i64 a0, .int .i64 a1, .int .i64 a2] w fun e w' => e = .returned (.bool r) ∧ Drawn0 w w' := by
  have H : (if a1 ≤ a0 then (some (decide (a0 ≤ a2))) else (some false)) = some r := h
  clear h
  by_cases c4 : a1 ≤ a0
  · rw [if_pos c4] at H
    have c4b0 : decide (a1 ≤ a0) = true := decide_eq_true c4
    clear c4
    obtain rfl := Option.some.inj H
    go_enter Try.func17, Try.ntmps17
    go_wp2
    go_ret
    exact ⟨by first | rfl | (simp; done) | (simp [*]; done), by repeat (first | exact Drawn0.refl _ | apply Drawn0.step)⟩
  · rw [if_neg c4] at H
    have c4b0 : decide (a1 ≤ a0) = false := decide_eq_false c4
    clear c4
    obtain rfl := Option.some.inj H
    go_enter Try.func17, Try.ntmps17
    go_wp2
    go_ret
    exact ⟨by first | rfl | (simp; done) | (simp [*]; done), by repeat (first | exact Drawn0.refl _ | apply Drawn0.step)⟩

/-! ### gatherumlaw01_alive: function 7 -/
def gatherumlaw01_alive.f (k : Nat)  : Option (Bool) := (num_Floor.f k (-7) 2).bind fun bt116 => ((num_MulDiv.f k 4611686018427387904 6 8).bind fun bt118 => (if bt116.1 = (-4) then (if bt116.2 = true then (if bt118.1 = 3458764513820540928 then (if bt118.2 = true then ((num_In.f 3 3 3).bind fun t120 => (some t120)) else (some false)) else (some false)) else (some false)) else (some false)))
theorem gatherumlaw01_alive.mono : ∀ k, LeO (gatherumlaw01_alive.f k ) (gatherumlaw01_alive.f (k + 1) ) := by
  intro  k
  unfold gatherumlaw01_alive.f
  repeat' first
      | (with_reducible exact num_Floor.mono _ _ _)
      | (with_reducible exact num_MulDiv.mono _ _ _ _)
      | (with_reducible exact LeO.refl _)
      | (with_reducible exact LeO.none _)
      | (with_reducible refine LeO.ite ?_ ?_)
      | (with_reducible refine LeO.bind ?_ (fun _ => ?_))
      | exact num_Floor.mono _ _ _
      | exact num_MulDiv.mono _ _ _ _
      | exact LeO.none _
      | refine LeO.ite ?_ ?_
      | refine LeO.bind ?_ (fun _ => ?_)
set_option maxHeartbeats 8000000 in
set_option maxRecDepth 100000 in
theorem gatherumlaw01_alive.calls (k : Nat)  (r : Bool) (w : World) (h : gatherumlaw01_alive.f k  = some r) :
    Calls Try.prog 7 #[] w fun e w' => e = .returned (.bool r) ∧ Drawn0 w w' := by
  have H : ((num_Floor.f k (-7) 2).bind fun bt116 => ((num_MulDiv.f k 4611686018427387904 6 8).bind fun bt118 => (if bt116.1 = (-4) then (if bt116.2 = true then (if bt118.1 = 3458764513820540928 then (if bt118.2 = true then ((num_In.f 3 3 3).bind fun t120 => (some t120)) else (some false)) else (some false)) else (some false)) else (some false)))) = some r := h
  clear h
  replace H := Option.bind_eq_some_iff.mp H
  obtain ⟨⟨t116, t117⟩, A10, H⟩ := H
  replace H : ((num_MulDiv.f k 4611686018427387904 6 8).bind fun bt118 => (if t116 = (-4) then (if t117 = true then (if bt118.1 = 3458764513820540928 then (if bt118.2 = true then ((num_In.f 3 3 3).bind fun t120 => (some t120)) else (some false)) else (some false)) else (some false)) else (some false))) = some r := H
  have A1 := Aside0.mk A10
  clear A10
  replace H := Option.bind_eq_some_iff.mp H
  obtain ⟨⟨t118, t119⟩, A20, H⟩ := H
  replace H : (if t116 = (-4) then (if t117 = true then (if t118 = 3458764513820540928 then (if t119 = true then ((num_In.f 3 3 3).bind fun t120 => (some t120)) else (some false)) else (some false)) else (some false)) else (some false)) = some r := H
  have A2 := Aside0.mk A20
  clear A20
  by_cases c3 : t116 = (-4)
  · rw [if_pos c3] at H
    have c3b0 : (t116 == (-4)) = true := beq_iff_eq.mpr c3
    have c3b1 : (t116 != (-4)) = false := bne_eq_false_iff_eq.mpr c3
    clear c3
    by_cases c4 : t117 = true
    · subst c4
      have H1 : (if t118 = 3458764513820540928 then (if t119 = true then ((num_In.f 3 3 3).bind fun t120 => (some t120)) else (some false)) else (some false)) = some r := by rw [if_pos rfl] at H; exact H
      clear H
      have H := H1
      clear H1
      by_cases c5 : t118 = 3458764513820540928
      · rw [if_pos c5] at H
        have c5b0 : (t118 == 3458764513820540928) = true := beq_iff_eq.mpr c5
        have c5b1 : (t118 != 3458764513820540928) = false := bne_eq_false_iff_eq.mpr c5
        clear c5
        by_cases c6 : t119 = true
        · subst c6
          have H1 : ((num_In.f 3 3 3).bind fun t120 => (some t120)) = some r := by rw [if_pos rfl] at H; exact H
          clear H
          have H := H1
          clear H1
          replace H := Option.bind_eq_some_iff.mp H
          obtain ⟨t120, A70, H⟩ := H
          replace H : (some t120) = some r := H
          have A7 := Aside0.mk A70
          clear A70
          obtain rfl := Option.some.inj H
          go_enter Try.func7, Try.ntmps7
          go_wp2_with (first | ((with_reducible refine gate_callee (f := 10) rfl ?_); refine goesL_ (some 6) rfl rfl Try.func10 (by kernel_rfl) rfl #[.int .i64 (-7), .int .i64 2] rfl (by (try simp only [List.map_toArray, List.map_cons, List.map_nil]); first | done | rfl | (simp only [List.length_drop, List.length_take]; rfl)) ?_; (with_reducible refine (num_Floor.calls k (-7) 2 t116 true _ A1.out).mono ?_); rintro e w' ⟨rfl, ⟨nd, rfl⟩⟩; refine ⟨_, rfl, ?_⟩) | ((with_reducible refine gate_callee (f := 8) rfl ?_); refine goesL_ (some 10) rfl rfl Try.func8 (by kernel_rfl) rfl #[.int .i64 4611686018427387904, .int .i64 6, .int .i64 8] rfl (by (try simp only [List.map_toArray, List.map_cons, List.map_nil]); first | done | rfl | (simp only [List.length_drop, List.length_take]; rfl)) ?_; (with_reducible refine (num_MulDiv.calls k 4611686018427387904 6 8 t118 true _ A2.out).mono ?_); rintro e w' ⟨rfl, ⟨nd, rfl⟩⟩; refine ⟨_, rfl, ?_⟩) | (go_at_call 17; (with_reducible refine (num_In.calls 3 3 3 t120 _ A7.out).mono ?_); rintro e w' ⟨rfl, ⟨nd, rfl⟩⟩))
          go_ret
          exact ⟨by first | rfl | (simp; done) | (simp [*]; done), by repeat (first | exact Drawn0.refl _ | apply Drawn0.step)⟩
        · replace c6 := Bool.eq_false_iff.mpr c6
          subst c6
          have H1 : (some false) = some r := by rw [if_neg (show ¬ (false = true) by decide)] at H; exact H
          clear H
          have H := H1
          clear H1
          obtain rfl := Option.some.inj H
          go_enter Try.func7, Try.ntmps7
          go_wp2_with (first | ((with_reducible refine gate_callee (f := 10) rfl ?_); refine goesL_ (some 6) rfl rfl Try.func10 (by kernel_rfl) rfl #[.int .i64 (-7), .int .i64 2] rfl (by (try simp only [List.map_toArray, List.map_cons, List.map_nil]); first | done | rfl | (simp only [List.length_drop, List.length_take]; rfl)) ?_; (with_reducible refine (num_Floor.calls k (-7) 2 t116 true _ A1.out).mono ?_); rintro e w' ⟨rfl, ⟨nd, rfl⟩⟩; refine ⟨_, rfl, ?_⟩) | ((with_reducible refine gate_callee (f := 8) rfl ?_); refine goesL_ (some 10) rfl rfl Try.func8 (by kernel_rfl) rfl #[.int .i64 4611686018427387904, .int .i64 6, .int .i64 8] rfl (by (try simp only [List.map_toArray, List.map_cons, List.map_nil]); first | done | rfl | (simp only [List.length_drop, List.length_take]; rfl)) ?_; (with_reducible refine (num_MulDiv.calls k 4611686018427387904 6 8 t118 false _ A2.out).mono ?_); rintro e w' ⟨rfl, ⟨nd, rfl⟩⟩; refine ⟨_, rfl, ?_⟩))
          go_ret
          exact ⟨by first | rfl | (simp; done) | (simp [*]; done), by repeat (first | exact Drawn0.refl _ | apply Drawn0.step)⟩
      · rw [if_neg c5] at H
        have c5b0 : (t118 == 3458764513820540928) = false := beq_eq_false_iff_ne.mpr c5
        have c5b1 : (t118 != 3458764513820540928) = true := bne_iff_ne.mpr c5
        obtain rfl := Option.some.inj H
        go_enter Try.func7, Try.ntmps7
        go_wp2_with (first | ((with_reducible refine gate_callee (f := 10) rfl ?_); refine goesL_ (some 6) rfl rfl Try.func10 (by kernel_rfl) rfl #[.int .i64 (-7), .int .i64 2] rfl (by (try simp only [List.map_toArray, List.map_cons, List.map_nil]); first | done | rfl | (simp only [List.length_drop, List.length_take]; rfl)) ?_; (with_reducible refine (num_Floor.calls k (-7) 2 t116 true _ A1.out).mono ?_); rintro e w' ⟨rfl, ⟨nd, rfl⟩⟩; refine ⟨_, rfl, ?_⟩) | ((with_reducible refine gate_callee (f := 8) rfl ?_); refine goesL_ (some 10) rfl rfl Try.func8 (by kernel_rfl) rfl #[.int .i64 4611686018427387904, .int .i64 6, .int .i64 8] rfl (by (try simp only [List.map_toArray, List.map_cons, List.map_nil]); first | done | rfl | (simp only [List.length_drop, List.length_take]; rfl)) ?_; (with_reducible refine (num_MulDiv.calls k 4611686018427387904 6 8 t118 t119 _ A2.out).mono ?_); rintro e w' ⟨rfl, ⟨nd, rfl⟩⟩; refine ⟨_, rfl, ?_⟩))
        go_ret
        exact ⟨by first | rfl | (simp; done) | (simp [*]; done), by repeat (first | exact Drawn0.refl _ | apply Drawn0.step)⟩
    · replace c4 := Bool.eq_false_iff.mpr c4
      subst c4
      have H1 : (some false) = some r := by rw [if_neg (show ¬ (false = true) by decide)] at H; exact H
      clear H
      have H := H1
      clear H1
      obtain rfl := Option.some.inj H
      go_enter Try.func7, Try.ntmps7
      go_wp2_with (first | ((with_reducible refine gate_callee (f := 10) rfl ?_); refine goesL_ (some 6) rfl rfl Try.func10 (by kernel_rfl) rfl #[.int .i64 (-7), .int .i64 2] rfl (by (try simp only [List.map_toArray, List.map_cons, List.map_nil]); first | done | rfl | (simp only [List.length_drop, List.length_take]; rfl)) ?_; (with_reducible refine (num_Floor.calls k (-7) 2 t116 false _ A1.out).mono ?_); rintro e w' ⟨rfl, ⟨nd, rfl⟩⟩; refine ⟨_, rfl, ?_⟩) | ((with_reducible refine gate_callee (f := 8) rfl ?_); refine goesL_ (some 10) rfl rfl Try.func8 (by kernel_rfl) rfl #[.int .i64 4611686018427387904, .int .i64 6, .int .i64 8] rfl (by (try simp only [List.map_toArray, List.map_cons, List.map_nil]); first | done | rfl | (simp only [List.length_drop, List.length_take]; rfl)) ?_; (with_reducible refine (num_MulDiv.calls k 4611686018427387904 6 8 t118 t119 _ A2.out).mono ?_); rintro e w' ⟨rfl, ⟨nd, rfl⟩⟩; refine ⟨_, rfl, ?_⟩))
      go_ret
      exact ⟨by first | rfl | (simp; done) | (simp [*]; done), by repeat (first | exact Drawn0.refl _ | apply Drawn0.step)⟩
  · rw [if_neg c3] at H
    have c3b0 : (t116 == (-4)) = false := beq_eq_false_iff_ne.mpr c3
    have c3b1 : (t116 != (-4)) = true := bne_iff_ne.mpr c3
    obtain rfl := Option.some.inj H
    go_enter Try.func7, Try.ntmps7
    go_wp2_with (first | ((with_reducible refine gate_callee (f := 10) rfl ?_); refine goesL_ (some 6) rfl rfl Try.func10 (by kernel_rfl) rfl #[.int .i64 (-7), .int .i64 2] rfl (by (try simp only [List.map_toArray, List.map_cons, List.map_nil]); first | done | rfl | (simp only [List.length_drop, List.length_take]; rfl)) ?_; (with_reducible refine (num_Floor.calls k (-7) 2 t116 t117 _ A1.out).mono ?_); rintro e w' ⟨rfl, ⟨nd, rfl⟩⟩; refine ⟨_, rfl, ?_⟩) | ((with_reducible refine gate_callee (f := 8) rfl ?_); refine goesL_ (some 10) rfl rfl Try.func8 (by kernel_rfl) rfl #[.int .i64 4611686018427387904, .int .i64 6, .int .i64 8] rfl (by (try simp only [List.map_toArray, List.map_cons, List.map_nil]); first | done | rfl | (simp only [List.length_drop, List.length_take]; rfl)) ?_; (with_reducible refine (num_MulDiv.calls k 4611686018427387904 6 8 t118 t119 _ A2.out).mono ?_); rintro e w' ⟨rfl, ⟨nd, rfl⟩⟩; refine ⟨_, rfl, ?_⟩))
    go_ret
    exact ⟨by first | rfl | (simp; done) | (simp [*]; done), by repeat (first | exact Drawn0.refl _ | apply Drawn0.step)⟩

/-! ### gatherumref01_product: function 22 -/
def gatherumref01_product.l0 : Nat → Int → Int → Int → Int → Int → Option (Int × Int)
  | 0, _, _, _, _, _ => none
  | k + 1, x0, x1, x6, x7, x8 => if x8 ≥ 0 then (if 0 ≤ (IntKind.u64.wrap (x8)) then (if (Go.bits .and .u64 (shr .u64 x1 (IntKind.u64.wrap (x8))) 1) = 1 then (if (IntKind.u64.wrap ((IntKind.u64.wrap (x7 * 2)) + x0)) < x0 then (gatherumref01_product.l0 k x0 x1 (IntKind.u64.wrap ((Go.bits .or .u64 (IntKind.u64.wrap (x6 * 2)) (x7 / 9223372036854775808)) + 1)) (IntKind.u64.wrap ((IntKind.u64.wrap (x7 * 2)) + x0)) (wrap64 (x8 - 1))) else (gatherumref01_product.l0 k x0 x1 (Go.bits .or .u64 (IntKind.u64.wrap (x6 * 2)) (x7 / 9223372036854775808)) (IntKind.u64.wrap ((IntKind.u64.wrap (x7 * 2)) + x0)) (wrap64 (x8 - 1)))) else (gatherumref01_product.l0 k x0 x1 (Go.bits .or .u64 (IntKind.u64.wrap (x6 * 2)) (x7 / 9223372036854775808)) (IntKind.u64.wrap (x7 * 2)) (wrap64 (x8 - 1)))) else (none)) else (some (x6, x7))
def gatherumref01_product.f (k : Nat) (a0 : Int) (a1 : Int) : Option (Int × Int) := gatherumref01_product.l0 k a0 a1 0 0 63
theorem gatherumref01_product.mono_l : ∀ k, (∀ y0 y1 y2 y3 y4, LeO (gatherumref01_product.l0 k y0 y1 y2 y3 y4) (gatherumref01_product.l0 (k + 1) y0 y1 y2 y3 y4))
  | 0 => fun _ _ _ _ _ r h => by simp [gatherumref01_product.l0] at h
  | k + 1 => by
    have ih0 := gatherumref01_product.mono_l k
    · intro y0 y1 y2 y3 y4
      unfold gatherumref01_product.l0
      repeat' first
      | (with_reducible exact ih0 _ _ _ _ _)
      | (with_reducible exact LeO.refl _)
      | (with_reducible exact LeO.none _)
      | (with_reducible refine LeO.ite ?_ ?_)
      | (with_reducible refine LeO.bind ?_ (fun _ => ?_))
      | exact ih0 _ _ _ _ _
      | exact LeO.none _
      | refine LeO.ite ?_ ?_
      | refine LeO.bind ?_ (fun _ => ?_)
theorem gatherumref01_product.mono : ∀ a0 a1 k, LeO (gatherumref01_product.f k a0 a1) (gatherumref01_product.f (k + 1) a0 a1) := by
  intro a0 a1 k
  have ih0 := gatherumref01_product.mono_l k
  unfold gatherumref01_product.f
  repeat' first
      | (with_reducible exact ih0 _ _ _ _ _)
      | (with_reducible exact LeO.refl _)
      | (with_reducible exact LeO.none _)
      | (with_reducible refine LeO.ite ?_ ?_)
      | (with_reducible refine LeO.bind ?_ (fun _ => ?_))
      | exact ih0 _ _ _ _ _
      | exact LeO.none _
      | refine LeO.ite ?_ ?_
      | refine LeO.bind ?_ (fun _ => ?_)
set_option maxHeartbeats 8000000 in
set_option maxRecDepth 100000 in
theorem gatherumref01_product.calls (k : Nat) (a0 : Int) (a1 : Int) (r1 : Int) (r2 : Int) (w : World) (h : gatherumref01_product.f k a0 a1 = some (r1, r2)) :
    Calls Try.prog 22 #[.int .u64 a0, .int .u64 a1] w fun e w' => e = .returned (.tuple #[.int .u64 r1, .int .u64 r2]) ∧ Drawn0 w w' := by
  have H : (gatherumref01_product.l0 k a0 a1 0 0 63) = some (r1, r2) := h
  clear h
  have H' := Aside0.mk H
  clear H
  go_enter Try.func22, Try.ntmps22
  go_wp2
  go_loopg [6, 7, 8] k (fun kq v6 v7 v8 w' => ∃ (x6_1 : Int) (x7_1 : Int) (x8_1 : Int), v6 = .int .u64 x6_1 ∧ v7 = .int .u64 x7_1 ∧ v8 = .int .i64 x8_1 ∧ Aside0 (gatherumref01_product.l0 kq a0 a1 x6_1 x7_1 x8_1 = some (r1, r2)) ∧ Aside0 (kq ≤ k) ∧ Drawn0 w w')
  case atStart => exact ⟨(0), (0), (63), (by first | rfl | (simp; done) | (simp [*]; done)), (by first | rfl | (simp; done) | (simp [*]; done)), (by first | rfl | (simp; done) | (simp [*]; done)), H', ⟨Nat.le_refl _⟩, by repeat (first | exact Drawn0.refl _ | apply Drawn0.step)⟩
  case round =>
    clear H'
    try clear c2
    try clear p2
    obtain ⟨x6_1, x7_1, x8_1, rfl, rfl, rfl, HA, HK1, ⟨m1, rfl⟩⟩ := hrel
    cases gk with
    | zero => exact absurd HA.out (by simp [gatherumref01_product.l0])
    | succ k1 =>
      have H := HA.out
      clear HA
      simp only [gatherumref01_product.l0] at H
      by_cases c3 : x8_1 ≥ 0
      · rw [if_pos c3] at H
        have c3b0 : decide (0 ≤ x8_1) = true := decide_eq_true c3
        clear c3
        obtain ⟨ji4, hji4⟩ : ∃ j_ : Int, (IntKind.u64.wrap (x8_1)) = j_ := ⟨_, rfl⟩
        replace H : (if 0 ≤ (ji4) then (if (Go.bits .and .u64 (shr .u64 a1 (ji4)) 1) = 1 then (if (IntKind.u64.wrap ((IntKind.u64.wrap (x7_1 * 2)) + a0)) < a0 then (gatherumref01_product.l0 k1 a0 a1 (IntKind.u64.wrap ((Go.bits .or .u64 (IntKind.u64.wrap (x6_1 * 2)) (x7_1 / 9223372036854775808)) + 1)) (IntKind.u64.wrap ((IntKind.u64.wrap (x7_1 * 2)) + a0)) (wrap64 (x8_1 - 1))) else (gatherumref01_product.l0 k1 a0 a1 (Go.bits .or .u64 (IntKind.u64.wrap (x6_1 * 2)) (x7_1 / 9223372036854775808)) (IntKind.u64.wrap ((IntKind.u64.wrap (x7_1 * 2)) + a0)) (wrap64 (x8_1 - 1)))) else (gatherumref01_product.l0 k1 a0 a1 (Go.bits .or .u64 (IntKind.u64.wrap (x6_1 * 2)) (x7_1 / 9223372036854775808)) (IntKind.u64.wrap (x7_1 * 2)) (wrap64 (x8_1 - 1)))) else (none)) = some (r1, r2) := by first | (rw [hji4] at H; exact H) | (simp only [hji4] at H ⊢; exact H)
        by_cases c5 : 0 ≤ (ji4)
        · rw [if_pos c5] at H
          have c5b0 := eq_true c5
          have c5b1 : decide (0 ≤ (ji4)) = true := decide_eq_true c5
          clear c5
          obtain ⟨ji6, hji6⟩ : ∃ j_ : Int, (shr .u64 a1 (ji4)) = j_ := ⟨_, rfl⟩
          replace H : (if (Go.bits .and .u64 (ji6) 1) = 1 then (if (IntKind.u64.wrap ((IntKind.u64.wrap (x7_1 * 2)) + a0)) < a0 then (gatherumref01_product.l0 k1 a0 a1 (IntKind.u64.wrap ((Go.bits .or .u64 (IntKind.u64.wrap (x6_1 * 2)) (x7_1 / 9223372036854775808)) + 1)) (IntKind.u64.wrap ((IntKind.u64.wrap (x7_1 * 2)) + a0)) (wrap64 (x8_1 - 1))) else (gatherumref01_product.l0 k1 a0 a1 (Go.bits .or .u64 (IntKind.u64.wrap (x6_1 * 2)) (x7_1 / 9223372036854775808)) (IntKind.u64.wrap ((IntKind.u64.wrap (x7_1 * 2)) + a0)) (wrap64 (x8_1 - 1)))) else (gatherumref01_product.l0 k1 a0 a1 (Go.bits .or .u64 (IntKind.u64.wrap (x6_1 * 2)) (x7_1 / 9223372036854775808)) (IntKind.u64.wrap (x7_1 * 2)) (wrap64 (x8_1 - 1)))) = some (r1, r2) := by first | (rw [hji6] at H; exact H) | (simp only [hji6] at H ⊢; exact H)
          have hji6_ : (a1 / 2 ^ min (ji4).toNat 64) = ji6 := hji6
          have hji6z : (ji4) ≤ 64 → (a1 / 2 ^ (ji4).toNat) = ji6 := shr_small hji6
          by_cases c7 : (Go.bits .and .u64 (ji6) 1) = 1
          · rw [if_pos c7] at H
            have c7b0 : ((Go.bits .and .u64 (ji6) 1) == 1) = true := beq_iff_eq.mpr c7
            have c7b1 : ((Go.bits .and .u64 (ji6) 1) != 1) = false := bne_eq_false_iff_eq.mpr c7
            clear c7
            by_cases c8 : (IntKind.u64.wrap ((IntKind.u64.wrap (x7_1 * 2)) + a0)) < a0
            · rw [if_pos c8] at H
              have c8b0 : decide ((IntKind.u64.wrap ((IntKind.u64.wrap (x7_1 * 2)) + a0)) < a0) = true := decide_eq_true c8
              clear c8
              have H' := Aside0.mk H
              clear H
              go_wp2
              go_roundg k1
              case measure => have := HK1.out; omega
              case rel => exact ⟨(IntKind.u64.wrap ((Go.bits .or .u64 (IntKind.u64.wrap (x6_1 * 2)) (x7_1 / 9223372036854775808)) + 1)), (IntKind.u64.wrap ((IntKind.u64.wrap (x7_1 * 2)) + a0)), (wrap64 (x8_1 - 1)), (by first | rfl | (simp; done) | (simp [*]; done)), (by first | rfl | (simp; done) | (simp [*]; done)), (by first | rfl | (simp; done) | (simp [*]; done)), H', ⟨by have := HK1.out; omega⟩, by repeat (first | exact Drawn0.refl _ | apply Drawn0.step)⟩
            · rw [if_neg c8] at H
              have c8b0 : decide ((IntKind.u64.wrap ((IntKind.u64.wrap (x7_1 * 2)) + a0)) < a0) = false := decide_eq_false c8
              clear c8
              have H' := Aside0.mk H
              clear H
              go_wp2
              go_roundg k1
              case measure => have := HK1.out; omega
              case rel => exact ⟨(Go.bits .or .u64 (IntKind.u64.wrap (x6_1 * 2)) (x7_1 / 9223372036854775808)), (IntKind.u64.wrap ((IntKind.u64.wrap (x7_1 * 2)) + a0)), (wrap64 (x8_1 - 1)), (by first | rfl | (simp; done) | (simp [*]; done)), (by first | rfl | (simp; done) | (simp [*]; done)), (by first | rfl | (simp; done) | (simp [*]; done)), H', ⟨by have := HK1.out; omega⟩, by repeat (first | exact Drawn0.refl _ | apply Drawn0.step)⟩
          · rw [if_neg c7] at H
            have c7b0 : ((Go.bits .and .u64 (ji6) 1) == 1) = false := beq_eq_false_iff_ne.mpr c7
            have c7b1 : ((Go.bits .and .u64 (ji6) 1) != 1) = true := bne_iff_ne.mpr c7
            have H' := Aside0.mk H
            clear H
            go_wp2
            go_roundg k1
            case measure => have := HK1.out; omega
            case rel => exact ⟨(Go.bits .or .u64 (IntKind.u64.wrap (x6_1 * 2)) (x7_1 / 9223372036854775808)), (IntKind.u64.wrap (x7_1 * 2)), (wrap64 (x8_1 - 1)), (by first | rfl | (simp; done) | (simp [*]; done)), (by first | rfl | (simp; done) | (simp [*]; done)), (by first | rfl | (simp; done) | (simp [*]; done)), H', ⟨by have := HK1.out; omega⟩, by repeat (first | exact Drawn0.refl _ | apply Drawn0.step)⟩
        · rw [if_neg c5] at H
          exact absurd H (by simp)
      · rw [if_neg c3] at H
        have c3b0 : decide (0 ≤ x8_1) = false := decide_eq_false c3
        clear c3
        simp only [Option.some.injEq, Prod.mk.injEq] at H
        obtain ⟨rfl, rfl⟩ := H
        go_wp2
        go_ret2
        exact ⟨by first | rfl | (simp; done) | (simp [*]; done), by repeat (first | exact Drawn0.refl _ | apply Drawn0.step)⟩

/-! ### gatherumref01_size: function 23 -/
def gatherumref01_size.f (a0 : Int) : Option (Int) := if a0 < 0 then (some (IntKind.u64.wrap (-(IntKind.u64.wrap (a0))))) else (some (IntKind.u64.wrap (a0)))
set_option maxHeartbeats 8000000 in
set_option maxRecDepth 100000 in
theorem gatherumref01_size.calls (a0 : Int) (r : Int) (w : World) (h : gatherumref01_size.f a0 = some r) :
    Calls Try.prog 23 #[.int .i64 a0] w fun e w' => e = .returned (.int .u64 r) ∧ Drawn0 w w' := by
  have H : (if a0 < 0 then (some (IntKind.u64.wrap (-(IntKind.u64.wrap (a0))))) else (some (IntKind.u64.wrap (a0)))) = some r := h
  clear h
  by_cases c2 : a0 < 0
  · rw [if_pos c2] at H
    have c2b0 : decide (a0 < 0) = true := decide_eq_true c2
    clear c2
    obtain rfl := Option.some.inj H
    go_enter Try.func23, Try.ntmps23
    go_wp2
    go_ret
    exact ⟨by first | rfl | (simp; done) | (simp [*]; done), by repeat (first | exact Drawn0.refl _ | apply Drawn0.step)⟩
  · rw [if_neg c2] at H
    have c2b0 : decide (a0 < 0) = false := decide_eq_false c2
    clear c2
    obtain rfl := Option.some.inj H
    go_enter Try.func23, Try.ntmps23
    go_wp2
    go_ret
    exact ⟨by first | rfl | (simp; done) | (simp [*]; done), by repeat (first | exact Drawn0.refl _ | apply Drawn0.step)⟩

/-! ### gatherumref01_divide: function 24 -/
def gatherumref01_divide.l0 : Nat → Int → Int → Int → Int → Int → Int → Int → Option (Int × Int × Int)
  | 0, _, _, _, _, _, _, _ => none
  | k + 1, x0, x1, x2, x9, x10, x11, x12 => if x12 < 128 then (if (Go.bits .or .u64 (IntKind.u64.wrap (x11 * 2)) (x0 / 9223372036854775808)) ≥ x2 then (gatherumref01_divide.l0 k (Go.bits .or .u64 (IntKind.u64.wrap (x0 * 2)) (x1 / 9223372036854775808)) (IntKind.u64.wrap (x1 * 2)) x2 (Go.bits .or .u64 (IntKind.u64.wrap (x9 * 2)) (x10 / 9223372036854775808)) (Go.bits .or .u64 (IntKind.u64.wrap (x10 * 2)) 1) (IntKind.u64.wrap ((Go.bits .or .u64 (IntKind.u64.wrap (x11 * 2)) (x0 / 9223372036854775808)) - x2)) (wrap64 (x12 + 1))) else (gatherumref01_divide.l0 k (Go.bits .or .u64 (IntKind.u64.wrap (x0 * 2)) (x1 / 9223372036854775808)) (IntKind.u64.wrap (x1 * 2)) x2 (Go.bits .or .u64 (IntKind.u64.wrap (x9 * 2)) (x10 / 9223372036854775808)) (IntKind.u64.wrap (x10 * 2)) (Go.bits .or .u64 (IntKind.u64.wrap (x11 * 2)) (x0 / 9223372036854775808)) (wrap64 (x12 + 1)))) else (some (x9, x10, x11))
def gatherumref01_divide.f (k : Nat) (a0 : Int) (a1 : Int) (a2 : Int) : Option (Int × Int × Int) := gatherumref01_divide.l0 k a0 a1 a2 0 0 0 0
theorem gatherumref01_divide.mono_l : ∀ k, (∀ y0 y1 y2 y3 y4 y5 y6, LeO (gatherumref01_divide.l0 k y0 y1 y2 y3 y4 y5 y6) (gatherumref01_divide.l0 (k + 1) y0 y1 y2 y3 y4 y5 y6))
  | 0 => fun _ _ _ _ _ _ _ r h => by simp [gatherumref01_divide.l0] at h
  | k + 1 => by
    have ih0 := gatherumref01_divide.mono_l k
    · intro y0 y1 y2 y3 y4 y5 y6
      unfold gatherumref01_divide.l0
      repeat' first
      | (with_reducible exact ih0 _ _ _ _ _ _ _)
      | (with_reducible exact LeO.refl _)
      | (with_reducible exact LeO.none _)
      | (with_reducible refine LeO.ite ?_ ?_)
      | (with_reducible refine LeO.bind ?_ (fun _ => ?_))
      | exact ih0 _ _ _ _ _ _ _
      | exact LeO.none _
      | refine LeO.ite ?_ ?_
      | refine LeO.bind ?_ (fun _ => ?_)
theorem gatherumref01_divide.mono : ∀ a0 a1 a2 k, LeO (gatherumref01_divide.f k a0 a1 a2) (gatherumref01_divide.f (k + 1) a0 a1 a2) := by
  intro a0 a1 a2 k
  have ih0 := gatherumref01_divide.mono_l k
  unfold gatherumref01_divide.f
  repeat' first
      | (with_reducible exact ih0 _ _ _ _ _ _ _)
      | (with_reducible exact LeO.refl _)
      | (with_reducible exact LeO.none _)
      | (with_reducible refine LeO.ite ?_ ?_)
      | (with_reducible refine LeO.bind ?_ (fun _ => ?_))
      | exact ih0 _ _ _ _ _ _ _
      | exact LeO.none _
      | refine LeO.ite ?_ ?_
      | refine LeO.bind ?_ (fun _ => ?_)
set_option maxHeartbeats 8000000 in
set_option maxRecDepth 100000 in
theorem gatherumref01_divide.calls (k : Nat) (a0 : Int) (a1 : Int) (a2 : Int) (r1 : Int) (r2 : Int) (r3 : Int) (w : World) (h : gatherumref01_divide.f k a0 a1 a2 = some (r1, r2, r3)) :
    Calls Try.prog 24 #[.int .u64 a0, .int .u64 a1, .int .u64 a2] w fun e w' => e = .returned (.tuple #[.int .u64 r1, .int .u64 r2, .int .u64 r3]) ∧ Drawn0 w w' := by
  have H : (gatherumref01_divide.l0 k a0 a1 a2 0 0 0 0) = some (r1, r2, r3) := h
  clear h
  have H' := Aside0.mk H
  clear H
  go_enter Try.func24, Try.ntmps24
  go_wp2
  go_loopg [0, 1, 9, 10, 11, 12] k (fun kq v0 v1 v9 v10 v11 v12 w' => ∃ (x0_1 : Int) (x1_1 : Int) (x9_1 : Int) (x10_1 : Int) (x11_1 : Int) (x12_1 : Int), v0 = .int .u64 x0_1 ∧ v1 = .int .u64 x1_1 ∧ v9 = .int .u64 x9_1 ∧ v10 = .int .u64 x10_1 ∧ v11 = .int .u64 x11_1 ∧ v12 = .int .i64 x12_1 ∧ Aside0 (gatherumref01_divide.l0 kq x0_1 x1_1 a2 x9_1 x10_1 x11_1 x12_1 = some (r1, r2, r3)) ∧ Aside0 (kq ≤ k) ∧ Drawn0 w w')
  case atStart => exact ⟨(a0), (a1), (0), (0), (0), (0), (by first | rfl | (simp; done) | (simp [*]; done)), (by first | rfl | (simp; done) | (simp [*]; done)), (by first | rfl | (simp; done) | (simp [*]; done)), (by first | rfl | (simp; done) | (simp [*]; done)), (by first | rfl | (simp; done) | (simp [*]; done)), (by first | rfl | (simp; done) | (simp [*]; done)), H', ⟨Nat.le_refl _⟩, by repeat (first | exact Drawn0.refl _ | apply Drawn0.step)⟩
  case round =>
    clear H'
    try clear c2
    try clear p2
    obtain ⟨x0_1, x1_1, x9_1, x10_1, x11_1, x12_1, rfl, rfl, rfl, rfl, rfl, rfl, HA, HK1, ⟨m1, rfl⟩⟩ := hrel
    cases gk with
    | zero => exact absurd HA.out (by simp [gatherumref01_divide.l0])
    | succ k1 =>
      have H := HA.out
      clear HA
      simp only [gatherumref01_divide.l0] at H
      by_cases c4 : x12_1 < 128
      · rw [if_pos c4] at H
        have c4b0 : decide (x12_1 < 128) = true := decide_eq_true c4
        clear c4
        by_cases c5 : (Go.bits .or .u64 (IntKind.u64.wrap (x11_1 * 2)) (x0_1 / 9223372036854775808)) ≥ a2
        · rw [if_pos c5] at H
          have c5b0 : decide (a2 ≤ (Go.bits .or .u64 (IntKind.u64.wrap (x11_1 * 2)) (x0_1 / 9223372036854775808))) = true := decide_eq_true c5
          clear c5
          have H' := Aside0.mk H
          clear H
          go_wp2
          go_roundg k1
          case measure => have := HK1.out; omega
          case rel => exact ⟨(Go.bits .or .u64 (IntKind.u64.wrap (x0_1 * 2)) (x1_1 / 9223372036854775808)), (IntKind.u64.wrap (x1_1 * 2)), (Go.bits .or .u64 (IntKind.u64.wrap (x9_1 * 2)) (x10_1 / 9223372036854775808)), (Go.bits .or .u64 (IntKind.u64.wrap (x10_1 * 2)) 1), (IntKind.u64.wrap ((Go.bits .or .u64 (IntKind.u64.wrap (x11_1 * 2)) (x0_1 / 9223372036854775808)) - a2)), (wrap64 (x12_1 + 1)), (by first | rfl | (simp; done) | (simp [*]; done)), (by first | rfl | (simp; done) | (simp [*]; done)), (by first | rfl | (simp; done) | (simp [*]; done)), (by first | rfl | (simp; done) | (simp [*]; done)), (by first | rfl | (simp; done) | (simp [*]; done)), (by first | rfl | (simp; done) | (simp [*]; done)), H', ⟨by have := HK1.out; omega⟩, by repeat (first | exact Drawn0.refl _ | apply Drawn0.step)⟩
        · rw [if_neg c5] at H
          have c5b0 : decide (a2 ≤ (Go.bits .or .u64 (IntKind.u64.wrap (x11_1 * 2)) (x0_1 / 9223372036854775808))) = false := decide_eq_false c5
          clear c5
          have H' := Aside0.mk H
          clear H
          go_wp2
          go_roundg k1
          case measure => have := HK1.out; omega
          case rel => exact ⟨(Go.bits .or .u64 (IntKind.u64.wrap (x0_1 * 2)) (x1_1 / 9223372036854775808)), (IntKind.u64.wrap (x1_1 * 2)), (Go.bits .or .u64 (IntKind.u64.wrap (x9_1 * 2)) (x10_1 / 9223372036854775808)), (IntKind.u64.wrap (x10_1 * 2)), (Go.bits .or .u64 (IntKind.u64.wrap (x11_1 * 2)) (x0_1 / 9223372036854775808)), (wrap64 (x12_1 + 1)), (by first | rfl | (simp; done) | (simp [*]; done)), (by first | rfl | (simp; done) | (simp [*]; done)), (by first | rfl | (simp; done) | (simp [*]; done)), (by first | rfl | (simp; done) | (simp [*]; done)), (by first | rfl | (simp; done) | (simp [*]; done)), (by first | rfl | (simp; done) | (simp [*]; done)), H', ⟨by have := HK1.out; omega⟩, by repeat (first | exact Drawn0.refl _ | apply Drawn0.step)⟩
      · rw [if_neg c4] at H
        have c4b0 : decide (x12_1 < 128) = false := decide_eq_false c4
        clear c4
        simp only [Option.some.injEq, Prod.mk.injEq] at H
        obtain ⟨rfl, rfl, rfl⟩ := H
        go_wp2
        go_ret3
        exact ⟨by first | rfl | (simp; done) | (simp [*]; done), by repeat (first | exact Drawn0.refl _ | apply Drawn0.step)⟩

end Go.Proofs.Yteedpeogfglocaa.PNumAdds
