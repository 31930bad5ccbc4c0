/- The statement of 'gatherum/gatherumlaw17.SplitTells', from what the call answers at every argument. -/
import Derived.Test.YtdfdainmpklkiaaGreatDoorR2
import Derived.Test.YtdfdainmpklkiaaGreatDoorE
import Derived.Test.YtdfdainmpklkiaaGreatDoorQr
import Derived.Test.YtdfdainmpklkiaaGreatDoorCards
import Derived.Test.YtdfdainmpklkiaaGreatDoorTie
import Derived.WalkKit
import Derived.ProofKit
import Derived.OpenShut
import Derived.Deep.DeepHandedRow
import Derived.Deep.DeepWitnessRowRef
import Derived.Lay
set_option linter.unusedVariables false
set_option linter.unusedSimpArgs false
namespace Go.Proofs.YtdfdainmpklkiaaGreatDoor.splitTells
open Go.ChangeShapes Go.WideShapes Go.ChangeAt Go.RowKit Go.Pv Go.Pv.X
theorem own : ownKnob Tryz.prog.godebug = none := by kernel_rfl
theorem laidOut : laidOutB Tryz.prog = true := by kernel_rfl
def A0 : Array Value := #[.agg #[.string ⟨#[]⟩, .int .i64 0, .int .i64 0, .int .i64 0, .int .i64 0, .int .i64 0, .int .i64 0, .int .i64 0, .int .i64 0, .int .i64 0, .int .i64 0, .int .i64 0, .int .i64 0, .int .i64 0, .slice none 0 0, .slice none 0 0, .int .i64 0, .int .i64 0, .int .i64 0, .int .i64 0, .int .i64 0, .int .i64 0, .int .i64 0, .int .i64 0, .int .i64 0, .int .i64 0, .int .i64 0, .int .i64 0, .int .i64 0, .int .i64 0, .int .i64 0, .int .i64 0, .int .i64 0], .int .i64 0]
def D0 {H : Type} : List (DataW H) := [.agg [.lit (.string []), .lit (.int .i64 0), .agg [.lit (.int .i64 0), .lit (.int .i64 0)], .lit (.int .i64 0), .lit (.int .i64 0), .lit (.int .i64 0), .lit (.int .i64 0), .lit (.int .i64 0), .lit (.int .i64 0), .lit (.int .i64 0), .lit (.int .i64 0), .agg [.lit (.int .i64 0), .lit (.int .i64 0), .nil], .nil, .lit (.int .i64 0), .lit (.int .i64 0), .lit (.int .i64 0), .lit (.int .i64 0), .lit (.int .i64 0), .lit (.int .i64 0), .lit (.int .i64 0), .lit (.int .i64 0), .lit (.int .i64 0), .lit (.int .i64 0), .lit (.int .i64 0), .lit (.int .i64 0), .lit (.int .i64 0), .lit (.int .i64 0), .lit (.int .i64 0), .lit (.int .i64 0), .lit (.int .i64 0)], .lit (.int .i64 0)]
def ks : List Kd := [K.s5, (.int .i64)]
theorem fit : fitsL Tryz.prog ks Tryz.f4.params.toList = true := by kernel_rfl
noncomputable def W0 (os : Os) : World := World.laidAll Tryz.prog os Rows.splitTellsRow.laid
set_option maxRecDepth 100000 in
theorem laid0 (os : Os) : laidMet Tryz.prog Rows.splitTellsRow.laid ((W0 os).forCall (fun _ _ => 0) ⟨#[], A0, []⟩).memory := laidMet_laidAll _ (by kernel_rfl) (by kernel_rfl)
theorem plainLaid (W : World) : laidMetH Tryz.prog Rows.splitTellsRow.laid W ↔ laidMet Tryz.prog Rows.splitTellsRow.laid W := by rw [MakeChecks.laidMetH_plain _ _ _ (by kernel_rfl)]
set_option maxRecDepth 100000 in
theorem reads (os : Os) {H : Type} (enc : TypeId × Value → H) : ∃ places, DataW.whole enc Tryz.prog ((W0 os).forCall (fun _ _ => 0) ⟨#[], A0, []⟩).memory Tryz.f4.params.toList Rows.splitTellsSpec.vars false A0.toList 8 = some (D0, [], places) :=
  ⟨[], by kernel_rfl⟩
theorem hok : CallOK Tryz.prog lay 4 (Spec.of ks (fun x => law17_SplitTells x.1 x.2.1) (ofDen .bool)).go := law17_SplitTells_ok
theorem law : ∀ x, wfL ks x → (fun x => law17_SplitTells x.1 x.2.1) x = some true := splitTells_true
theorem hlay (W : World) (h : laidMet Tryz.prog Rows.splitTellsRow.laid W) (_ : W.ShapedOpen Tryz.prog) : lay W := ⟨tab_head (by kernel_rfl) (by kernel_rfl) (laidMet.tail (laidMet.tail (laidMet.tail (laidMet.tail (laidMet.tail (laidMet.tail (laidMet.tail h))))))), tab_head (by kernel_rfl) (by kernel_rfl) (laidMet.tail (laidMet.tail h)), trivial⟩
set_option maxRecDepth 100000 in
theorem contract (H : Type) (enc : TypeId × Value → H) (W : World) (base : Nat) (args : Array Value) (ds gs : List (DataW H)) (before : List MemPlace)
    (hval : ∀ (j : Nat) t v, Tryz.f4.params[j]? = some t → args[j]? = some v → Value.okWide Tryz.prog W .any base t v)
    (hW : DataW.Whole enc Tryz.prog Tryz.f4.params.toList Rows.splitTellsSpec.vars false W args.toList ds gs before) (hL : laidMetH Tryz.prog Rows.splitTellsRow.laid W) (hS : W.ShapedOpen Tryz.prog) :
    Calls Tryz.prog 4 args W fun e W' => ∃ v, e = .returned v ∧ Rows.splitTellsSpec.post enc Tryz.prog Tryz.f4 false true false false W args v W' := by
  rw [plainLaid] at hL
  have hW' := hW
  obtain ⟨p, q, hA, hV, rfl, _, _⟩ := hW
  obtain ⟨rfl, rfl⟩ := trodVars_none hV
  have walk := law_calls hok law fit hA (fun j t v ht hv => hval j t v (by simpa using ht) hv) (hlay W hL hS)
  refine walk.mono fun e W' ⟨he, hb⟩ => ?_
  subst he
  have hB := trodAll_below laidOut hb fit hA
  simp only [List.append_nil] at hW'
  obtain ⟨d0, d1, rfl⟩ := trodAll_ds2 (Tryz.params4 ▸ hA)
  exact ⟨_, rfl, _, _, _, _, _, [], hW', trodAll_mk1 (shut_bool Tryz.underlying4 _), hB, rfl, hb.frame _, fun h => by cases h⟩
set_option maxRecDepth 100000 in
theorem lifted (os : Os) (started : os.Started) (H : Type) (enc : TypeId × Value → H) (F : Stop.Interp) :
    ReturnsInHanded {} Tryz.checked os 4 .any ((OpenSpec.ofChange Rows.splitTellsSpec).preRow enc Tryz.prog Tryz.f4 Rows.splitTellsRow.domain false Rows.splitTellsRow.laid) (((OpenSpec.ofChange Rows.splitTellsSpec).at F).post enc Tryz.prog Tryz.f4 false true false false) := by
  obtain ⟨places, hx⟩ := reads os enc
  refine returnsInHanded_of_row (C := Tryz.checked) (s := OpenSpec.ofChange Rows.splitTellsSpec) own started (by kernel_rfl) Tryz.func4
    (witness_row_atRef (enc := enc) (C := Tryz.checked) false (W0 os) A0 (World.laidAll_os _ _ _) (by kernel_rfl) (by kernel_rfl) (by kernel_rfl)
      (OpenSpec.preRow_of_cond 8 hx (by kernel_rfl) (fun k hk => by cases hk) (by kernel_rfl) ((plainLaid _).mpr (laid0 os)))) ?_
  intro W base args ds gs before hval hW _ _ _ hL hS _
  exact contract H enc W base args ds gs before hval hW hL hS
theorem said : Rows.splitTellsRow.holds Tryz.pinned (OpenSpec.ofChange Rows.splitTellsSpec) :=
  OpenClaim.holds_of_cond 4 Tryz.f4 rfl rfl rfl rfl rfl rfl rfl ⟨rfl, rfl, rfl, rfl, rfl⟩ rfl rfl rfl rfl rfl (by kernel_rfl) Tryz.func4 (by kernel_rfl)
    (of_decide_eq_true (by kernel_rfl)) (by unfold Func.isWrapper; first | (rw [if_pos (by decide +kernel)]; kernel_rfl) | (rw [if_neg (by decide +kernel)]; exact ⟨rfl, rfl⟩))
    (fun os started H enc _ F => by rw [OpenClaim.pre_eq_preRow]; exact lifted os started H enc F)
theorem plainLooks (f : FuncId) (fn : Func) (hf : Tryz.pinned.checked.prog.funcNamed "gatherum/gatherumlaw17.SplitTells" = some f) (hfn : Tryz.pinned.checked.prog.funcs[f]? = some fn) :
    true = Tryz.pinned.checked.prog.looks [] ∧ ∀ (j : Nat) t, fn.params[j]? = some t → Tryz.pinned.checked.prog.wantsStandIn t = false := by
  obtain rfl : f = 4 := Option.some.inj ((show Tryz.prog.funcNamed "gatherum/gatherumlaw17.SplitTells" = some 4 by kernel_rfl).symm.trans hf) |>.symm
  obtain rfl : fn = Tryz.f4 := (Option.some.inj (Tryz.func4.symm.trans hfn)).symm
  refine ⟨by kernel_rfl, fun j t ht => ?_⟩
  have hall : ∀ t ∈ Tryz.f4.params.toList, Tryz.prog.wantsStandIn t = false := fun t ht => by
    have := List.all_eq_true.1 (show Tryz.f4.params.toList.all (fun t => !Tryz.prog.wantsStandIn t) = true by kernel_rfl) t ht
    simpa using this
  exact hall t (by simpa using Array.mem_of_getElem? ht)
theorem card : Claim7.holds Tryz.pinned (.plain (OpenSpec.ofChange Rows.splitTellsSpec)) Rows.splitTellsCard :=
  Claim7.holds_tied_plain_at .later [] _ _ _ _ said (fun _ h => by cases h) (by kernel_rfl) (fun _ h => by cases h) splitTells_row_tie rfl ⟨rfl, rfl⟩ (by kernel_rfl) rfl plainLooks (by kernel_rfl)
end Go.Proofs.YtdfdainmpklkiaaGreatDoor.splitTells
namespace Go.Proofs.YtdfdainmpklkiaaGreatDoor
theorem splitTells_holds : Rows.SplitTellsCardSaid := splitTells.card
end Go.Proofs.YtdfdainmpklkiaaGreatDoor
