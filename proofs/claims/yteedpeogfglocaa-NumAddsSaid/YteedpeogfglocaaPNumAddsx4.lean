/- Written by a program of this session, out of the translation: each Go function that is named here, called, answers what its Lean function tells, in whatever memory, where that function has an answer. -/
import Derived.Test.YteedpeogfglocaaPNumAddsx0
import Derived.Test.YteedpeogfglocaaPNumAddsx2
import Derived.Test.YteedpeogfglocaaPNumAddsx3
namespace Go.Proofs.Yteedpeogfglocaa.PNumAdds
open Go.RowKit Go.Proofs.YteedpeogfglocaaW.PrintWords Go.Proofs.YteedpeogfglocaaW.PrintLast Go.Proofs.YteedpeogfglocaaW.PrintMore
attribute [local go_sem] max2_int min2_int max_two min_two max_three min_three max_four min_four   -- for this text's walks alone
set_option linter.unusedVariables false
set_option linter.unusedSimpArgs false

/-! ### gatherumlaw01_NumAdds: function 5 -/
mutual
def gatherumlaw01_NumAdds.j0 : Nat → Int → Int → Int → Bool → Int → Bool → Bool → Option (Bool)
  | 0, _, _, _, _, _, _, _ => none
  | k + 1, x0, x1, x5, x6, x7, x8, x68 => if x68 = true then (some false) else (if x6 = true then ((num_Sub.f x5 x1).bind fun bt142 => (if bt142.1 = x0 then (gatherumlaw01_NumAdds.j1 k x0 x1 x7 x8 (!bt142.2)) else (gatherumlaw01_NumAdds.j1 k x0 x1 x7 x8 true))) else (if x8 = true then ((num_Add.f x7 x1).bind fun bt146 => (if bt146.1 = x0 then (if bt146.2 = true then (some ((decide (x7 ≤ x0)) == (decide (x1 ≥ 0)))) else (some false)) else (some false))) else (if x7 = 0 then (if ((decide (x1 > 0)) == (decide (x0 < 0))) = true then (some (x1 != 0)) else (some false)) else (some false))))
def gatherumlaw01_NumAdds.j1 : Nat → Int → Int → Int → Bool → Bool → Option (Bool)
  | 0, _, _, _, _, _ => none
  | k + 1, x0, x1, x7, x8, x82 => if x82 = true then (some false) else (if x8 = true then ((num_Add.f x7 x1).bind fun bt144 => (if bt144.1 = x0 then (if bt144.2 = true then (some ((decide (x7 ≤ x0)) == (decide (x1 ≥ 0)))) else (some false)) else (some false))) else (if x7 = 0 then (if ((decide (x1 > 0)) == (decide (x0 < 0))) = true then (some (x1 != 0)) else (some false)) else (some false)))
end
def gatherumlaw01_NumAdds.f (k : Nat) (a0 : Int) (a1 : Int) : Option (Bool) := (gatherumlaw01_alive.f k).bind fun t131 => (if t131 = true then ((num_Add.f a0 a1).bind fun bt132 => ((num_Sub.f a0 a1).bind fun bt134 => ((num_Mul.f k a0 a1).bind fun bt136 => ((gatherumref01_Add.f a0 a1).bind fun bt138 => ((gatherumref01_MulDiv.f k a0 a1 1).bind fun bt140 => (if bt132.1 = bt138.1 then (if (bt132.2 != bt138.2) = true then (gatherumlaw01_NumAdds.j0 k a0 a1 bt132.1 bt132.2 bt134.1 bt134.2 true) else (if bt136.1 = bt140.1 then (gatherumlaw01_NumAdds.j0 k a0 a1 bt132.1 bt132.2 bt134.1 bt134.2 (bt136.2 != bt140.2)) else (gatherumlaw01_NumAdds.j0 k a0 a1 bt132.1 bt132.2 bt134.1 bt134.2 true))) else (gatherumlaw01_NumAdds.j0 k a0 a1 bt132.1 bt132.2 bt134.1 bt134.2 true))))))) else (some false))
theorem gatherumlaw01_NumAdds.mono_l : ∀ k, (∀ y0 y1 y2 y3 y4 y5 y6, LeO (gatherumlaw01_NumAdds.j0 k y0 y1 y2 y3 y4 y5 y6) (gatherumlaw01_NumAdds.j0 (k + 1) y0 y1 y2 y3 y4 y5 y6)) ∧ (∀ y0 y1 y2 y3 y4, LeO (gatherumlaw01_NumAdds.j1 k y0 y1 y2 y3 y4) (gatherumlaw01_NumAdds.j1 (k + 1) y0 y1 y2 y3 y4))
  | 0 => ⟨fun _ _ _ _ _ _ _ r h => by simp [gatherumlaw01_NumAdds.j0] at h, fun _ _ _ _ _ r h => by simp [gatherumlaw01_NumAdds.j1] at h⟩
  | k + 1 => by
    obtain ⟨ih0, ih1⟩ := gatherumlaw01_NumAdds.mono_l k
    refine ⟨?_, ?_⟩
    · intro y0 y1 y2 y3 y4 y5 y6
      unfold gatherumlaw01_NumAdds.j0
      repeat' first
      | (with_reducible exact ih0 _ _ _ _ _ _ _)
      | (with_reducible exact ih1 _ _ _ _ _)
      | (with_reducible exact gatherumlaw01_alive.mono _)
      | (with_reducible exact gatherumref01_MulDiv.mono _ _ _ _)
      | (with_reducible exact num_Mul.mono _ _ _)
      | (with_reducible exact LeO.refl _)
      | (with_reducible exact LeO.none _)
      | (with_reducible refine LeO.ite ?_ ?_)
      | (with_reducible refine LeO.bind ?_ (fun _ => ?_))
      | exact ih0 _ _ _ _ _ _ _
      | exact ih1 _ _ _ _ _
      | exact gatherumlaw01_alive.mono _
      | exact gatherumref01_MulDiv.mono _ _ _ _
      | exact num_Mul.mono _ _ _
      | exact LeO.none _
      | refine LeO.ite ?_ ?_
      | refine LeO.bind ?_ (fun _ => ?_)
    · intro y0 y1 y2 y3 y4
      unfold gatherumlaw01_NumAdds.j1
      repeat' first
      | (with_reducible exact ih0 _ _ _ _ _ _ _)
      | (with_reducible exact ih1 _ _ _ _ _)
      | (with_reducible exact gatherumlaw01_alive.mono _)
      | (with_reducible exact gatherumref01_MulDiv.mono _ _ _ _)
      | (with_reducible exact num_Mul.mono _ _ _)
      | (with_reducible exact LeO.refl _)
      | (with_reducible exact LeO.none _)
      | (with_reducible refine LeO.ite ?_ ?_)
      | (with_reducible refine LeO.bind ?_ (fun _ => ?_))
      | exact ih0 _ _ _ _ _ _ _
      | exact ih1 _ _ _ _ _
      | exact gatherumlaw01_alive.mono _
      | exact gatherumref01_MulDiv.mono _ _ _ _
      | exact num_Mul.mono _ _ _
      | exact LeO.none _
      | refine LeO.ite ?_ ?_
      | refine LeO.bind ?_ (fun _ => ?_)
theorem gatherumlaw01_NumAdds.mono : ∀ a0 a1 k, LeO (gatherumlaw01_NumAdds.f k a0 a1) (gatherumlaw01_NumAdds.f (k + 1) a0 a1) := by
  intro a0 a1 k
  obtain ⟨ih0, ih1⟩ := gatherumlaw01_NumAdds.mono_l k
  unfold gatherumlaw01_NumAdds.f
  repeat' first
      | (with_reducible exact ih0 _ _ _ _ _ _ _)
      | (with_reducible exact ih1 _ _ _ _ _)
      | (with_reducible exact gatherumlaw01_alive.mono _)
      | (with_reducible exact gatherumref01_MulDiv.mono _ _ _ _)
      | (with_reducible exact num_Mul.mono _ _ _)
      | (with_reducible exact LeO.refl _)
      | (with_reducible exact LeO.none _)
      | (with_reducible refine LeO.ite ?_ ?_)
      | (with_reducible refine LeO.bind ?_ (fun _ => ?_))
      | exact ih0 _ _ _ _ _ _ _
      | exact ih1 _ _ _ _ _
      | exact gatherumlaw01_alive.mono _
      | exact gatherumref01_MulDiv.mono _ _ _ _
      | exact num_Mul.mono _ _ _
      | exact LeO.none _
      | refine LeO.ite ?_ ?_
      | refine LeO.bind ?_ (fun _ => ?_)
set_option maxHeartbeats 8000000 in
set_option maxRecDepth 100000 in
theorem gatherumlaw01_NumAdds.calls (k : Nat) (a0 : Int) (a1 : Int) (r : Bool) (w : World) (h : gatherumlaw01_NumAdds.f k a0 a1 = some r) :
    Calls Try.prog 5 #[.int .i64 a0, .int .i64 a1] w fun e w' => e = .returned (.bool r) ∧ Drawn0 w w' := by
  have H : ((gatherumlaw01_alive.f k).bind fun t131 => (if t131 = true then ((num_Add.f a0 a1).bind fun bt132 => ((num_Sub.f a0 a1).bind fun bt134 => ((num_Mul.f k a0 a1).bind fun bt136 => ((gatherumref01_Add.f a0 a1).bind fun bt138 => ((gatherumref01_MulDiv.f k a0 a1 1).bind fun bt140 => (if bt132.1 = bt138.1 then (if (bt132.2 != bt138.2) = true then (gatherumlaw01_NumAdds.j0 k a0 a1 bt132.1 bt132.2 bt134.1 bt134.2 true) else (if bt136.1 = bt140.1 then (gatherumlaw01_NumAdds.j0 k a0 a1 bt132.1 bt132.2 bt134.1 bt134.2 (bt136.2 != bt140.2)) else (gatherumlaw01_NumAdds.j0 k a0 a1 bt132.1 bt132.2 bt134.1 bt134.2 true))) else (gatherumlaw01_NumAdds.j0 k a0 a1 bt132.1 bt132.2 bt134.1 bt134.2 true))))))) else (some false))) = some r := h
  clear h
  replace H := Option.bind_eq_some_iff.mp H
  obtain ⟨t131, A30, H⟩ := H
  replace H : (if t131 = true then ((num_Add.f a0 a1).bind fun bt132 => ((num_Sub.f a0 a1).bind fun bt134 => ((num_Mul.f k a0 a1).bind fun bt136 => ((gatherumref01_Add.f a0 a1).bind fun bt138 => ((gatherumref01_MulDiv.f k a0 a1 1).bind fun bt140 => (if bt132.1 = bt138.1 then (if (bt132.2 != bt138.2) = true then (gatherumlaw01_NumAdds.j0 k a0 a1 bt132.1 bt132.2 bt134.1 bt134.2 true) else (if bt136.1 = bt140.1 then (gatherumlaw01_NumAdds.j0 k a0 a1 bt132.1 bt132.2 bt134.1 bt134.2 (bt136.2 != bt140.2)) else (gatherumlaw01_NumAdds.j0 k a0 a1 bt132.1 bt132.2 bt134.1 bt134.2 true))) else (gatherumlaw01_NumAdds.j0 k a0 a1 bt132.1 bt132.2 bt134.1 bt134.2 true))))))) else (some false)) = some r := H
  have A3 := Aside0.mk A30
  clear A30
  by_cases c4 : t131 = true
  · subst c4
    have H1 : ((num_Add.f a0 a1).bind fun bt132 => ((num_Sub.f a0 a1).bind fun bt134 => ((num_Mul.f k a0 a1).bind fun bt136 => ((gatherumref01_Add.f a0 a1).bind fun bt138 => ((gatherumref01_MulDiv.f k a0 a1 1).bind fun bt140 => (if bt132.1 = bt138.1 then (if (bt132.2 != bt138.2) = true then (gatherumlaw01_NumAdds.j0 k a0 a1 bt132.1 bt132.2 bt134.1 bt134.2 true) else (if bt136.1 = bt140.1 then (gatherumlaw01_NumAdds.j0 k a0 a1 bt132.1 bt132.2 bt134.1 bt134.2 (bt136.2 != bt140.2)) else (gatherumlaw01_NumAdds.j0 k a0 a1 bt132.1 bt132.2 bt134.1 bt134.2 true))) else (gatherumlaw01_NumAdds.j0 k a0 a1 bt132.1 bt132.2 bt134.1 bt134.2 true))))))) = some r := by rw [if_pos rfl] at H; exact H
    clear H
    have H := H1
    clear H1
    replace H := Option.bind_eq_some_iff.mp H
    obtain ⟨⟨t132, t133⟩, A50, H⟩ := H
    replace H : ((num_Sub.f a0 a1).bind fun bt134 => ((num_Mul.f k a0 a1).bind fun bt136 => ((gatherumref01_Add.f a0 a1).bind fun bt138 => ((gatherumref01_MulDiv.f k a0 a1 1).bind fun bt140 => (if t132 = bt138.1 then (if (t133 != bt138.2) = true then (gatherumlaw01_NumAdds.j0 k a0 a1 t132 t133 bt134.1 bt134.2 true) else (if bt136.1 = bt140.1 then (gatherumlaw01_NumAdds.j0 k a0 a1 t132 t133 bt134.1 bt134.2 (bt136.2 != bt140.2)) else (gatherumlaw01_NumAdds.j0 k a0 a1 t132 t133 bt134.1 bt134.2 true))) else (gatherumlaw01_NumAdds.j0 k a0 a1 t132 t133 bt134.1 bt134.2 true)))))) = some r := H
    have A5 := Aside0.mk A50
    clear A50
    replace H := Option.bind_eq_some_iff.mp H
    obtain ⟨⟨t134, t135⟩, A60, H⟩ := H
    replace H : ((num_Mul.f k a0 a1).bind fun bt136 => ((gatherumref01_Add.f a0 a1).bind fun bt138 => ((gatherumref01_MulDiv.f k a0 a1 1).bind fun bt140 => (if t132 = bt138.1 then (if (t133 != bt138.2) = true then (gatherumlaw01_NumAdds.j0 k a0 a1 t132 t133 t134 t135 true) else (if bt136.1 = bt140.1 then (gatherumlaw01_NumAdds.j0 k a0 a1 t132 t133 t134 t135 (bt136.2 != bt140.2)) else (gatherumlaw01_NumAdds.j0 k a0 a1 t132 t133 t134 t135 true))) else (gatherumlaw01_NumAdds.j0 k a0 a1 t132 t133 t134 t135 true))))) = some r := H
    have A6 := Aside0.mk A60
    clear A60
    replace H := Option.bind_eq_some_iff.mp H
    obtain ⟨⟨t136, t137⟩, A70, H⟩ := H
    replace H : ((gatherumref01_Add.f a0 a1).bind fun bt138 => ((gatherumref01_MulDiv.f k a0 a1 1).bind fun bt140 => (if t132 = bt138.1 then (if (t133 != bt138.2) = true then (gatherumlaw01_NumAdds.j0 k a0 a1 t132 t133 t134 t135 true) else (if t136 = bt140.1 then (gatherumlaw01_NumAdds.j0 k a0 a1 t132 t133 t134 t135 (t137 != bt140.2)) else (gatherumlaw01_NumAdds.j0 k a0 a1 t132 t133 t134 t135 true))) else (gatherumlaw01_NumAdds.j0 k a0 a1 t132 t133 t134 t135 true)))) = some r := H
    have A7 := Aside0.mk A70
    clear A70
    replace H := Option.bind_eq_some_iff.mp H
    obtain ⟨⟨t138, t139⟩, A80, H⟩ := H
    replace H : ((gatherumref01_MulDiv.f k a0 a1 1).bind fun bt140 => (if t132 = t138 then (if (t133 != t139) = true then (gatherumlaw01_NumAdds.j0 k a0 a1 t132 t133 t134 t135 true) else (if t136 = bt140.1 then (gatherumlaw01_NumAdds.j0 k a0 a1 t132 t133 t134 t135 (t137 != bt140.2)) else (gatherumlaw01_NumAdds.j0 k a0 a1 t132 t133 t134 t135 true))) else (gatherumlaw01_NumAdds.j0 k a0 a1 t132 t133 t134 t135 true))) = some r := H
    have A8 := Aside0.mk A80
    clear A80
    replace H := Option.bind_eq_some_iff.mp H
    obtain ⟨⟨t140, t141⟩, A90, H⟩ := H
    replace H : (if t132 = t138 then (if (t133 != t139) = true then (gatherumlaw01_NumAdds.j0 k a0 a1 t132 t133 t134 t135 true) else (if t136 = t140 then (gatherumlaw01_NumAdds.j0 k a0 a1 t132 t133 t134 t135 (t137 != t141)) else (gatherumlaw01_NumAdds.j0 k a0 a1 t132 t133 t134 t135 true))) else (gatherumlaw01_NumAdds.j0 k a0 a1 t132 t133 t134 t135 true)) = some r := H
    have A9 := Aside0.mk A90
    clear A90
    have HC10 := Aside0.mk H
    clear H
    go_enter Try.func5, Try.ntmps5
    go_upto_region 8 with (first | ((with_reducible refine gate_callee (f := 7) rfl ?_); refine goesL_ (some 19) rfl rfl Try.func7 (by kernel_rfl) rfl #[] rfl (by (try simp only [List.map_toArray, List.map_cons, List.map_nil]); first | done | rfl | (simp only [List.length_drop, List.length_take]; rfl)) ?_; (with_reducible refine (gatherumlaw01_alive.calls k  true _ A3.out).mono ?_); rintro e w' ⟨rfl, ⟨nd, rfl⟩⟩; refine ⟨_, rfl, ?_⟩) | ((with_reducible refine gate_callee (f := 12) rfl ?_); refine goesL_ (some 24) rfl rfl Try.func12 (by kernel_rfl) rfl #[.int .i64 a0, .int .i64 a1] rfl (by (try simp only [List.map_toArray, List.map_cons, List.map_nil]); first | done | rfl | (simp only [List.length_drop, List.length_take]; rfl)) ?_; (with_reducible refine (num_Add.calls a0 a1 t132 t133 _ A5.out).mono ?_); rintro e w' ⟨rfl, ⟨nd, rfl⟩⟩; refine ⟨_, rfl, ?_⟩) | ((with_reducible refine gate_callee (f := 13) rfl ?_); refine goesL_ (some 30) rfl rfl Try.func13 (by kernel_rfl) rfl #[.int .i64 a0, .int .i64 a1] rfl (by (try simp only [List.map_toArray, List.map_cons, List.map_nil]); first | done | rfl | (simp only [List.length_drop, List.length_take]; rfl)) ?_; (with_reducible refine (num_Sub.calls a0 a1 t134 t135 _ A6.out).mono ?_); rintro e w' ⟨rfl, ⟨nd, rfl⟩⟩; refine ⟨_, rfl, ?_⟩) | ((with_reducible refine gate_callee (f := 14) rfl ?_); refine goesL_ (some 36) rfl rfl Try.func14 (by kernel_rfl) rfl #[.int .i64 a0, .int .i64 a1] rfl (by (try simp only [List.map_toArray, List.map_cons, List.map_nil]); first | done | rfl | (simp only [List.length_drop, List.length_take]; rfl)) ?_; (with_reducible refine (num_Mul.calls k a0 a1 t136 t137 _ A7.out).mono ?_); rintro e w' ⟨rfl, ⟨nd, rfl⟩⟩; refine ⟨_, rfl, ?_⟩) | ((with_reducible refine gate_callee (f := 15) rfl ?_); refine goesL_ (some 42) rfl rfl Try.func15 (by kernel_rfl) rfl #[.int .i64 a0, .int .i64 a1] rfl (by (try simp only [List.map_toArray, List.map_cons, List.map_nil]); first | done | rfl | (simp only [List.length_drop, List.length_take]; rfl)) ?_; (with_reducible refine (gatherumref01_Add.calls a0 a1 t138 t139 _ A8.out).mono ?_); rintro e w' ⟨rfl, ⟨nd, rfl⟩⟩; refine ⟨_, rfl, ?_⟩) | ((with_reducible refine gate_callee (f := 9) rfl ?_); refine goesL_ (some 48) rfl rfl Try.func9 (by kernel_rfl) rfl #[.int .i64 a0, .int .i64 a1, .int .i64 1] rfl (by (try simp only [List.map_toArray, List.map_cons, List.map_nil]); first | done | rfl | (simp only [List.length_drop, List.length_take]; rfl)) ?_; (with_reducible refine (gatherumref01_MulDiv.calls k a0 a1 1 t140 t141 _ A9.out).mono ?_); rintro e w' ⟨rfl, ⟨nd, rfl⟩⟩; refine ⟨_, rfl, ?_⟩))
    (try simp only [Act.put, List.setIfInBounds_toArray, List.set_cons_zero, List.set_cons_succ])
    go_cut [68] (fun v68 wc => ∃ (kq : Nat) (x68_9 : Bool), v68 = .bool x68_9 ∧ Aside0 (gatherumlaw01_NumAdds.j0 kq a0 a1 t132 t133 t134 t135 x68_9 = some r) ∧ Aside0 (kq ≤ k) ∧ Drawn0 w wc)
    case first =>
      have H := HC10.out
      clear HC10
      by_cases c11 : t132 = t138
      · rw [if_pos c11] at H
        have c11b0 : (t132 == t138) = true := beq_iff_eq.mpr c11
        have c11b1 : (t132 != t138) = false := bne_eq_false_iff_eq.mpr c11
        clear c11
        (first | rw [c11b0] | (simp only [i64_w, i32_w]; rw [c11b0]) | skip)
        by_cases c12 : (t133 != t139) = true
        · rw [if_pos c12] at H
          have c12b0 : (t133 != t139) = true := c12
          (try (have c12b1 : decide (t133 = t139) = false := by simpa using c12))
          (try (have c12b2 : (t133 == t139) = false := by simpa using c12))
          (try (have c12b3 : ¬ (t133 = t139) := by simpa using c12))
          clear c12
          have H' := Aside0.mk H
          clear H
          go_wp2
          go_meet
          case rel => exact ⟨_, (true), (by first | rfl | (simp; done) | (simp [*]; done)), H', ⟨by first | omega | exact Nat.le_refl _⟩, by repeat (first | exact Drawn0.refl _ | apply Drawn0.step)⟩
        · rw [if_neg c12] at H
          have c12b0 : (t133 != t139) = false := by simpa using c12
          (try (have c12b1 : decide (t133 = t139) = true := by simpa using c12))
          (try (have c12b2 : (t133 == t139) = true := by simpa using c12))
          clear c12
          by_cases c13 : t136 = t140
          · rw [if_pos c13] at H
            have c13b0 : (t136 == t140) = true := beq_iff_eq.mpr c13
            have c13b1 : (t136 != t140) = false := bne_eq_false_iff_eq.mpr c13
            clear c13
            have H' := Aside0.mk H
            clear H
            go_wp2
            go_meet
            case rel => exact ⟨_, ((t137 != t141)), (by first | rfl | (simp; done) | (simp [*]; done)), H', ⟨by first | omega | exact Nat.le_refl _⟩, by repeat (first | exact Drawn0.refl _ | apply Drawn0.step)⟩
          · rw [if_neg c13] at H
            have c13b0 : (t136 == t140) = false := beq_eq_false_iff_ne.mpr c13
            have c13b1 : (t136 != t140) = true := bne_iff_ne.mpr c13
            have H' := Aside0.mk H
            clear H
            go_wp2
            go_meet
            case rel => exact ⟨_, (true), (by first | rfl | (simp; done) | (simp [*]; done)), H', ⟨by first | omega | exact Nat.le_refl _⟩, by repeat (first | exact Drawn0.refl _ | apply Drawn0.step)⟩
      · rw [if_neg c11] at H
        have c11b0 : (t132 == t138) = false := beq_eq_false_iff_ne.mpr c11
        have c11b1 : (t132 != t138) = true := bne_iff_ne.mpr c11
        (first | rw [c11b0] | (simp only [i64_w, i32_w]; rw [c11b0]) | skip)
        have H' := Aside0.mk H
        clear H
        go_wp2
        go_meet
        case rel => exact ⟨_, (true), (by first | rfl | (simp; done) | (simp [*]; done)), H', ⟨by first | omega | exact Nat.le_refl _⟩, by repeat (first | exact Drawn0.refl _ | apply Drawn0.step)⟩
    case rest =>
      clear HC10
      try clear c1
      try clear p2
      try clear c4
      try clear c5
      try clear c7
      try clear c9
      try clear c11
      try clear c11b0
      try clear c11b1
      try clear c12
      try clear c12b0
      try clear c12b1
      try clear c12b2
      try clear c13
      try clear c13b0
      try clear c13b1
      obtain ⟨kq, x68_9, rfl, HA, HJ9, ⟨mc9, rfl⟩⟩ := hcut
      cases kq with
      | zero => exact absurd HA.out (by simp [gatherumlaw01_NumAdds.j0])
      | succ kj9 =>
        have H := HA.out
        clear HA
        simp only [gatherumlaw01_NumAdds.j0] at H
        by_cases c14 : x68_9 = true
        · subst c14
          have H1 : (some false) = some r := by rw [if_pos rfl] at H; exact H
          clear H
          have H := H1
          clear H1
          obtain rfl := Option.some.inj H
          go_wp2
          go_ret
          exact ⟨by first | rfl | (simp; done) | (simp [*]; done), by repeat (first | exact Drawn0.refl _ | apply Drawn0.step)⟩
        · replace c14 := Bool.eq_false_iff.mpr c14
          subst c14
          have H1 : (if t133 = true then ((num_Sub.f t132 a1).bind fun bt142 => (if bt142.1 = a0 then (gatherumlaw01_NumAdds.j1 kj9 a0 a1 t134 t135 (!bt142.2)) else (gatherumlaw01_NumAdds.j1 kj9 a0 a1 t134 t135 true))) else (if t135 = true then ((num_Add.f t134 a1).bind fun bt146 => (if bt146.1 = a0 then (if bt146.2 = true then (some ((decide (t134 ≤ a0)) == (decide (a1 ≥ 0)))) else (some false)) else (some false))) else (if t134 = 0 then (if ((decide (a1 > 0)) == (decide (a0 < 0))) = true then (some (a1 != 0)) else (some false)) else (some false)))) = some r := by rw [if_neg (show ¬ (false = true) by decide)] at H; exact H
          clear H
          have H := H1
          clear H1
          by_cases c15 : t133 = true
          · subst c15
            have H1 : ((num_Sub.f t132 a1).bind fun bt142 => (if bt142.1 = a0 then (gatherumlaw01_NumAdds.j1 kj9 a0 a1 t134 t135 (!bt142.2)) else (gatherumlaw01_NumAdds.j1 kj9 a0 a1 t134 t135 true))) = some r := by rw [if_pos rfl] at H; exact H
            clear H
            have H := H1
            clear H1
            replace H := Option.bind_eq_some_iff.mp H
            obtain ⟨⟨t142, t143⟩, A160, H⟩ := H
            replace H : (if t142 = a0 then (gatherumlaw01_NumAdds.j1 kj9 a0 a1 t134 t135 (!t143)) else (gatherumlaw01_NumAdds.j1 kj9 a0 a1 t134 t135 true)) = some r := H
            have A16 := Aside0.mk A160
            clear A160
            have HC17 := Aside0.mk H
            clear H
            go_upto_region 12 with (first | ((with_reducible refine gate_callee (f := 13) rfl ?_); refine goesL_ (some 73) rfl rfl Try.func13 (by kernel_rfl) rfl #[.int .i64 t132, .int .i64 a1] rfl (by (try simp only [List.map_toArray, List.map_cons, List.map_nil]); first | done | rfl | (simp only [List.length_drop, List.length_take]; rfl)) ?_; (with_reducible refine (num_Sub.calls t132 a1 t142 t143 _ A16.out).mono ?_); rintro e w' ⟨rfl, ⟨nd, rfl⟩⟩; refine ⟨_, rfl, ?_⟩))
            (try simp only [Act.put, List.setIfInBounds_toArray, List.set_cons_zero, List.set_cons_succ])
            go_cut [82] (fun v82 wc => ∃ (kq : Nat) (x82_16 : Bool), v82 = .bool x82_16 ∧ Aside0 (gatherumlaw01_NumAdds.j1 kq a0 a1 t134 t135 x82_16 = some r) ∧ Aside0 (kq ≤ kj9) ∧ Drawn0 w wc)
            case first =>
              have H := HC17.out
              clear HC17
              by_cases c18 : t142 = a0
              · rw [if_pos c18] at H
                have c18b0 : (t142 == a0) = true := beq_iff_eq.mpr c18
                have c18b1 : (t142 != a0) = false := bne_eq_false_iff_eq.mpr c18
                clear c18
                (first | rw [c18b0] | (simp only [i64_w, i32_w]; rw [c18b0]) | skip)
                have H' := Aside0.mk H
                clear H
                go_wp2
                go_meet
                case rel => exact ⟨_, (!t143), (by first | rfl | (simp; done) | (simp [*]; done)), H', ⟨by have := HJ9.out; first | omega | exact Nat.le_refl _⟩, by repeat (first | exact Drawn0.refl _ | apply Drawn0.step)⟩
              · rw [if_neg c18] at H
                have c18b0 : (t142 == a0) = false := beq_eq_false_iff_ne.mpr c18
                have c18b1 : (t142 != a0) = true := bne_iff_ne.mpr c18
                (first | rw [c18b0] | (simp only [i64_w, i32_w]; rw [c18b0]) | skip)
                have H' := Aside0.mk H
                clear H
                go_wp2
                go_meet
                case rel => exact ⟨_, (true), (by first | rfl | (simp; done) | (simp [*]; done)), H', ⟨by have := HJ9.out; first | omega | exact Nat.le_refl _⟩, by repeat (first | exact Drawn0.refl _ | apply Drawn0.step)⟩
            case rest =>
              clear HC17
              try clear c1
              try clear p2
              try clear c4
              try clear c5
              try clear c7
              try clear c9
              try clear c11
              try clear c11b0
              try clear c11b1
              try clear c12
              try clear c12b0
              try clear c12b1
              try clear c12b2
              try clear c13
              try clear c13b0
              try clear c13b1
              try clear c14
              try clear c15
              try clear c18
              try clear c18b0
              try clear c18b1
              try clear p2
              obtain ⟨kq, x82_16, rfl, HA, HJ16, ⟨mc16, rfl⟩⟩ := hcut
              cases kq with
              | zero => exact absurd HA.out (by simp [gatherumlaw01_NumAdds.j1])
              | succ kj16 =>
                have H := HA.out
                clear HA
                simp only [gatherumlaw01_NumAdds.j1] at H
                by_cases c19 : x82_16 = true
                · subst c19
                  have H1 : (some false) = some r := by rw [if_pos rfl] at H; exact H
                  clear H
                  have H := H1
                  clear H1
                  obtain rfl := Option.some.inj H
                  go_wp2
                  go_ret
                  exact ⟨by first | rfl | (simp; done) | (simp [*]; done), by repeat (first | exact Drawn0.refl _ | apply Drawn0.step)⟩
                · replace c19 := Bool.eq_false_iff.mpr c19
                  subst c19
                  have H1 : (if t135 = true then ((num_Add.f t134 a1).bind fun bt144 => (if bt144.1 = a0 then (if bt144.2 = true then (some ((decide (t134 ≤ a0)) == (decide (a1 ≥ 0)))) else (some false)) else (some false))) else (if t134 = 0 then (if ((decide (a1 > 0)) == (decide (a0 < 0))) = true then (some (a1 != 0)) else (some false)) else (some false))) = some r := by rw [if_neg (show ¬ (false = true) by decide)] at H; exact H
                  clear H
                  have H := H1
                  clear H1
                  by_cases c20 : t135 = true
                  · subst c20
                    have H1 : ((num_Add.f t134 a1).bind fun bt144 => (if bt144.1 = a0 then (if bt144.2 = true then (some ((decide (t134 ≤ a0)) == (decide (a1 ≥ 0)))) else (some false)) else (some false))) = some r := by rw [if_pos rfl] at H; exact H
                    clear H
                    have H := H1
                    clear H1
                    replace H := Option.bind_eq_some_iff.mp H
                    obtain ⟨⟨t144, t145⟩, A210, H⟩ := H
                    replace H : (if t144 = a0 then (if t145 = true then (some ((decide (t134 ≤ a0)) == (decide (a1 ≥ 0)))) else (some false)) else (some false)) = some r := H
                    have A21 := Aside0.mk A210
                    clear A210
                    by_cases c22 : t144 = a0
                    · rw [if_pos c22] at H
                      have c22b0 : (t144 == a0) = true := beq_iff_eq.mpr c22
                      have c22b1 : (t144 != a0) = false := bne_eq_false_iff_eq.mpr c22
                      clear c22
                      by_cases c23 : t145 = true
                      · subst c23
                        have H1 : (some ((decide (t134 ≤ a0)) == (decide (a1 ≥ 0)))) = some r := by rw [if_pos rfl] at H; exact H
                        clear H
                        have H := H1
                        clear H1
                        obtain rfl := Option.some.inj H
                        go_wp2_with (first | ((with_reducible refine gate_callee (f := 12) rfl ?_); refine goesL_ (some 101) rfl rfl Try.func12 (by kernel_rfl) rfl #[.int .i64 t134, .int .i64 a1] rfl (by (try simp only [List.map_toArray, List.map_cons, List.map_nil]); first | done | rfl | (simp only [List.length_drop, List.length_take]; rfl)) ?_; (with_reducible refine (num_Add.calls t134 a1 t144 true _ A21.out).mono ?_); rintro e w' ⟨rfl, ⟨nd, rfl⟩⟩; refine ⟨_, rfl, ?_⟩))
                        go_ret
                        exact ⟨by first | rfl | (simp; done) | (simp [*]; done), by repeat (first | exact Drawn0.refl _ | apply Drawn0.step)⟩
                      · replace c23 := Bool.eq_false_iff.mpr c23
                        subst c23
                        have H1 : (some false) = some r := by rw [if_neg (show ¬ (false = true) by decide)] at H; exact H
                        clear H
                        have H := H1
                        clear H1
                        obtain rfl := Option.some.inj H
                        go_wp2_with (first | ((with_reducible refine gate_callee (f := 12) rfl ?_); refine goesL_ (some 101) rfl rfl Try.func12 (by kernel_rfl) rfl #[.int .i64 t134, .int .i64 a1] rfl (by (try simp only [List.map_toArray, List.map_cons, List.map_nil]); first | done | rfl | (simp only [List.length_drop, List.length_take]; rfl)) ?_; (with_reducible refine (num_Add.calls t134 a1 t144 false _ A21.out).mono ?_); rintro e w' ⟨rfl, ⟨nd, rfl⟩⟩; refine ⟨_, rfl, ?_⟩))
                        go_ret
                        exact ⟨by first | rfl | (simp; done) | (simp [*]; done), by repeat (first | exact Drawn0.refl _ | apply Drawn0.step)⟩
                    · rw [if_neg c22] at H
                      have c22b0 : (t144 == a0) = false := beq_eq_false_iff_ne.mpr c22
                      have c22b1 : (t144 != a0) = true := bne_iff_ne.mpr c22
                      obtain rfl := Option.some.inj H
                      go_wp2_with (first | ((with_reducible refine gate_callee (f := 12) rfl ?_); refine goesL_ (some 101) rfl rfl Try.func12 (by kernel_rfl) rfl #[.int .i64 t134, .int .i64 a1] rfl (by (try simp only [List.map_toArray, List.map_cons, List.map_nil]); first | done | rfl | (simp only [List.length_drop, List.length_take]; rfl)) ?_; (with_reducible refine (num_Add.calls t134 a1 t144 t145 _ A21.out).mono ?_); rintro e w' ⟨rfl, ⟨nd, rfl⟩⟩; refine ⟨_, rfl, ?_⟩))
                      go_ret
                      exact ⟨by first | rfl | (simp; done) | (simp [*]; done), by repeat (first | exact Drawn0.refl _ | apply Drawn0.step)⟩
                  · replace c20 := Bool.eq_false_iff.mpr c20
                    subst c20
                    have H1 : (if t134 = 0 then (if ((decide (a1 > 0)) == (decide (a0 < 0))) = true then (some (a1 != 0)) else (some false)) else (some false)) = some r := by rw [if_neg (show ¬ (false = true) by decide)] at H; exact H
                    clear H
                    have H := H1
                    clear H1
                    by_cases c24 : t134 = 0
                    · rw [if_pos c24] at H
                      have c24b0 : (t134 == 0) = true := beq_iff_eq.mpr c24
                      have c24b1 : (t134 != 0) = false := bne_eq_false_iff_eq.mpr c24
                      clear c24
                      by_cases c25 : ((decide (a1 > 0)) == (decide (a0 < 0))) = true
                      · rw [if_pos c25] at H
                        have c25b0 : ((decide (a1 > 0)) == (decide (a0 < 0))) = true := c25
                        (try (have c25b1 : decide ((decide (a1 > 0)) = (decide (a0 < 0))) = true := by simpa using c25))
                        (try (have c25b2 : ((decide (a1 > 0)) == (decide (a0 < 0))) = true := by simpa using c25))
                        clear c25
                        obtain rfl := Option.some.inj H
                        go_wp2
                        go_ret
                        exact ⟨by first | rfl | (simp; done) | (simp [*]; done), by repeat (first | exact Drawn0.refl _ | apply Drawn0.step)⟩
                      · rw [if_neg c25] at H
                        have c25b0 : ((decide (a1 > 0)) == (decide (a0 < 0))) = false := by simpa using c25
                        (try (have c25b1 : decide ((decide (a1 > 0)) = (decide (a0 < 0))) = false := by simpa using c25))
                        (try (have c25b2 : ((decide (a1 > 0)) == (decide (a0 < 0))) = false := by simpa using c25))
                        (try (have c25b3 : ¬ ((decide (a1 > 0)) = (decide (a0 < 0))) := by simpa using c25))
                        clear c25
                        obtain rfl := Option.some.inj H
                        go_wp2
                        go_ret
                        exact ⟨by first | rfl | (simp; done) | (simp [*]; done), by repeat (first | exact Drawn0.refl _ | apply Drawn0.step)⟩
                    · rw [if_neg c24] at H
                      have c24b0 : (t134 == 0) = false := beq_eq_false_iff_ne.mpr c24
                      have c24b1 : (t134 != 0) = true := bne_iff_ne.mpr c24
                      obtain rfl := Option.some.inj H
                      go_wp2
                      go_ret
                      exact ⟨by first | rfl | (simp; done) | (simp [*]; done), by repeat (first | exact Drawn0.refl _ | apply Drawn0.step)⟩
          · replace c15 := Bool.eq_false_iff.mpr c15
            subst c15
            have H1 : (if t135 = true then ((num_Add.f t134 a1).bind fun bt146 => (if bt146.1 = a0 then (if bt146.2 = true then (some ((decide (t134 ≤ a0)) == (decide (a1 ≥ 0)))) else (some false)) else (some false))) else (if t134 = 0 then (if ((decide (a1 > 0)) == (decide (a0 < 0))) = true then (some (a1 != 0)) else (some false)) else (some false))) = some r := by rw [if_neg (show ¬ (false = true) by decide)] at H; exact H
            clear H
            have H := H1
            clear H1
            by_cases c26 : t135 = true
            · subst c26
              have H1 : ((num_Add.f t134 a1).bind fun bt146 => (if bt146.1 = a0 then (if bt146.2 = true then (some ((decide (t134 ≤ a0)) == (decide (a1 ≥ 0)))) else (some false)) else (some false))) = some r := by rw [if_pos rfl] at H; exact H
              clear H
              have H := H1
              clear H1
              replace H := Option.bind_eq_some_iff.mp H
              obtain ⟨⟨t146, t147⟩, A270, H⟩ := H
              replace H : (if t146 = a0 then (if t147 = true then (some ((decide (t134 ≤ a0)) == (decide (a1 ≥ 0)))) else (some false)) else (some false)) = some r := H
              have A27 := Aside0.mk A270
              clear A270
              by_cases c28 : t146 = a0
              · rw [if_pos c28] at H
                have c28b0 : (t146 == a0) = true := beq_iff_eq.mpr c28
                have c28b1 : (t146 != a0) = false := bne_eq_false_iff_eq.mpr c28
                clear c28
                by_cases c29 : t147 = true
                · subst c29
                  have H1 : (some ((decide (t134 ≤ a0)) == (decide (a1 ≥ 0)))) = some r := by rw [if_pos rfl] at H; exact H
                  clear H
                  have H := H1
                  clear H1
                  obtain rfl := Option.some.inj H
                  go_wp2_with (first | ((with_reducible refine gate_callee (f := 12) rfl ?_); refine goesL_ (some 101) rfl rfl Try.func12 (by kernel_rfl) rfl #[.int .i64 t134, .int .i64 a1] rfl (by (try simp only [List.map_toArray, List.map_cons, List.map_nil]); first | done | rfl | (simp only [List.length_drop, List.length_take]; rfl)) ?_; (with_reducible refine (num_Add.calls t134 a1 t146 true _ A27.out).mono ?_); rintro e w' ⟨rfl, ⟨nd, rfl⟩⟩; refine ⟨_, rfl, ?_⟩))
                  go_ret
                  exact ⟨by first | rfl | (simp; done) | (simp [*]; done), by repeat (first | exact Drawn0.refl _ | apply Drawn0.step)⟩
                · replace c29 := Bool.eq_false_iff.mpr c29
                  subst c29
                  have H1 : (some false) = some r := by rw [if_neg (show ¬ (false = true) by decide)] at H; exact H
                  clear H
                  have H := H1
                  clear H1
                  obtain rfl := Option.some.inj H
                  go_wp2_with (first | ((with_reducible refine gate_callee (f := 12) rfl ?_); refine goesL_ (some 101) rfl rfl Try.func12 (by kernel_rfl) rfl #[.int .i64 t134, .int .i64 a1] rfl (by (try simp only [List.map_toArray, List.map_cons, List.map_nil]); first | done | rfl | (simp only [List.length_drop, List.length_take]; rfl)) ?_; (with_reducible refine (num_Add.calls t134 a1 t146 false _ A27.out).mono ?_); rintro e w' ⟨rfl, ⟨nd, rfl⟩⟩; refine ⟨_, rfl, ?_⟩))
                  go_ret
                  exact ⟨by first | rfl | (simp; done) | (simp [*]; done), by repeat (first | exact Drawn0.refl _ | apply Drawn0.step)⟩
              · rw [if_neg c28] at H
                have c28b0 : (t146 == a0) = false := beq_eq_false_iff_ne.mpr c28
                have c28b1 : (t146 != a0) = true := bne_iff_ne.mpr c28
                obtain rfl := Option.some.inj H
                go_wp2_with (first | ((with_reducible refine gate_callee (f := 12) rfl ?_); refine goesL_ (some 101) rfl rfl Try.func12 (by kernel_rfl) rfl #[.int .i64 t134, .int .i64 a1] rfl (by (try simp only [List.map_toArray, List.map_cons, List.map_nil]); first | done | rfl | (simp only [List.length_drop, List.length_take]; rfl)) ?_; (with_reducible refine (num_Add.calls t134 a1 t146 t147 _ A27.out).mono ?_); rintro e w' ⟨rfl, ⟨nd, rfl⟩⟩; refine ⟨_, rfl, ?_⟩))
                go_ret
                exact ⟨by first | rfl | (simp; done) | (simp [*]; done), by repeat (first | exact Drawn0.refl _ | apply Drawn0.step)⟩
            · replace c26 := Bool.eq_false_iff.mpr c26
              subst c26
              have H1 : (if t134 = 0 then (if ((decide (a1 > 0)) == (decide (a0 < 0))) = true then (some (a1 != 0)) else (some false)) else (some false)) = some r := by rw [if_neg (show ¬ (false = true) by decide)] at H; exact H
              clear H
              have H := H1
              clear H1
              by_cases c30 : t134 = 0
              · rw [if_pos c30] at H
                have c30b0 : (t134 == 0) = true := beq_iff_eq.mpr c30
                have c30b1 : (t134 != 0) = false := bne_eq_false_iff_eq.mpr c30
                clear c30
                by_cases c31 : ((decide (a1 > 0)) == (decide (a0 < 0))) = true
                · rw [if_pos c31] at H
                  have c31b0 : ((decide (a1 > 0)) == (decide (a0 < 0))) = true := c31
                  (try (have c31b1 : decide ((decide (a1 > 0)) = (decide (a0 < 0))) = true := by simpa using c31))
                  (try (have c31b2 : ((decide (a1 > 0)) == (decide (a0 < 0))) = true := by simpa using c31))
                  clear c31
                  obtain rfl := Option.some.inj H
                  go_wp2
                  go_ret
                  exact ⟨by first | rfl | (simp; done) | (simp [*]; done), by repeat (first | exact Drawn0.refl _ | apply Drawn0.step)⟩
                · rw [if_neg c31] at H
                  have c31b0 : ((decide (a1 > 0)) == (decide (a0 < 0))) = false := by simpa using c31
                  (try (have c31b1 : decide ((decide (a1 > 0)) = (decide (a0 < 0))) = false := by simpa using c31))
                  (try (have c31b2 : ((decide (a1 > 0)) == (decide (a0 < 0))) = false := by simpa using c31))
                  (try (have c31b3 : ¬ ((decide (a1 > 0)) = (decide (a0 < 0))) := by simpa using c31))
                  clear c31
                  obtain rfl := Option.some.inj H
                  go_wp2
                  go_ret
                  exact ⟨by first | rfl | (simp; done) | (simp [*]; done), by repeat (first | exact Drawn0.refl _ | apply Drawn0.step)⟩
              · rw [if_neg c30] at H
                have c30b0 : (t134 == 0) = false := beq_eq_false_iff_ne.mpr c30
                have c30b1 : (t134 != 0) = true := bne_iff_ne.mpr c30
                obtain rfl := Option.some.inj H
                go_wp2
                go_ret
                exact ⟨by first | rfl | (simp; done) | (simp [*]; done), by repeat (first | exact Drawn0.refl _ | apply Drawn0.step)⟩
  · replace c4 := Bool.eq_false_iff.mpr c4
    subst c4
    have H1 : (some false) = some r := by rw [if_neg (show ¬ (false = true) by decide)] at H; exact H
    clear H
    have H := H1
    clear H1
    obtain rfl := Option.some.inj H
    go_enter Try.func5, Try.ntmps5
    go_wp2_with (first | ((with_reducible refine gate_callee (f := 7) rfl ?_); refine goesL_ (some 19) rfl rfl Try.func7 (by kernel_rfl) rfl #[] rfl (by (try simp only [List.map_toArray, List.map_cons, List.map_nil]); first | done | rfl | (simp only [List.length_drop, List.length_take]; rfl)) ?_; (with_reducible refine (gatherumlaw01_alive.calls k  false _ A3.out).mono ?_); rintro e w' ⟨rfl, ⟨nd, rfl⟩⟩; refine ⟨_, rfl, ?_⟩))
    go_ret
    exact ⟨by first | rfl | (simp; done) | (simp [*]; done), by repeat (first | exact Drawn0.refl _ | apply Drawn0.step)⟩

/-- THE ONE PURE STATEMENT of gatherumlaw01_NumAdds: yours. -/
def gatherumlaw01_NumAdds.Pure : Prop := ∀ (a0 : Int) (a1 : Int), (Lit.int .i64 a0).wf = true → (Lit.int .i64 a1).wf = true → ∃ k, gatherumlaw01_NumAdds.f k a0 a1 = some true
theorem gatherumlaw01_NumAdds.walk (P : gatherumlaw01_NumAdds.Pure) (a0 : Int) (a1 : Int) (w : World) (w0 : (Lit.int .i64 a0).wf = true) (w1 : (Lit.int .i64 a1).wf = true) :
    Calls Try.prog 5 #[.int .i64 a0, .int .i64 a1] w fun e w' => e = .returned (.bool true) ∧ Below w.heap.size w w' := by
  obtain ⟨k, h⟩ := P a0 a1 w0 w1
  refine (gatherumlaw01_NumAdds.calls k a0 a1 true w h).mono ?_
  rintro e w' ⟨rfl, hd⟩
  exact ⟨rfl, hd.below⟩

end Go.Proofs.Yteedpeogfglocaa.PNumAdds
