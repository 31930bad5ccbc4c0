/- Printed: each function's run, and what it is. -/
import Derived.Test.YtdfdainmpklkiaaGreatDoorD
import Derived.Test.YtdfdainmpklkiaaGreatDoorS
import Derived.Test.YtdfdainmpklkiaaGreatDoorProg
set_option linter.unusedVariables false
set_option linter.unusedSimpArgs false
namespace Go.Pv.X
open Go.Proofs
set_option maxRecDepth 100000
def lay (w : World) : Prop := Lib.TabIs Tryz.prog w "strings.asciiSpace" .u8 Lib.asciiSpaceTab ∧ Lib.TabIs Tryz.prog w "internal/strconv.uint64pow10" .u64 Lib.pow10Tab ∧ True
theorem lay_0 (w : World) (h : lay w) : Lib.TabIs Tryz.prog w "strings.asciiSpace" .u8 Lib.asciiSpaceTab := h.1
theorem lay_1 (w : World) (h : lay w) : Lib.TabIs Tryz.prog w "internal/strconv.uint64pow10" .u64 Lib.pow10Tab := h.2.1
theorem lay_stays : Stays lay := fun w0 h0 w w' h hb => ⟨stays_tab (by kernel_rfl) w0 (lay_0 w0 h0) w w' (lay_0 w h) hb, stays_tab (by kernel_rfl) w0 (lay_1 w0 h0) w w' (lay_1 w h) hb, trivial⟩
def kds : Nat → Option Kd := fun t => match t with
  | 3 => some (.int .i64)
  | 4 => some .bool
  | 5 => some (.int .u8)
  | 9 => some .str
  | 21 => some (.int .i32)
  | 23 => some K.s3
  | 24 => some (.list K.s7)
  | 26 => some K.s4
  | 27 => some (.list .str)
  | 29 => some K.s5
  | 34 => some (.list K.s4)
  | 45 => some K.s6
  | 50 => some K.s7
  | 55 => some (.list K.s10)
  | 56 => some (.list (.int .i64))
  | 58 => some K.s8
  | 61 => some (.list K.s9)
  | 72 => some .fn
  | 74 => some .fn
  | 80 => some K.s9
  | 87 => some .ptr
  | 93 => some (.list K.s10)
  | 96 => some K.s10
  | 98 => some K.s10
  | 103 => some .fn
  | 114 => some .ptr
  | 116 => some .ptr
  | 118 => some .fn
  | 139 => some .err
  | 143 => some (.list .ptr)
  | 145 => some K.s14
  | 146 => some .fn
  | 148 => some .ptr
  | 152 => some K.s15
  | 166 => some .fn
  | 169 => some .fn
  | 195 => some (.list (.list K.s10))
  | _ => none
theorem kds_ok : ∀ t k, kds t = some k → Fits Tryz.prog k t := by
  intro t k h
  unfold kds at h
  split at h <;> first | (injection h with h; subst h; show fitsB _ _ _ = true; kernel_rfl) | cases h
theorem follows : Tryz.prog.follows .mixedOrders = true := by kernel_rfl
def eqs : Nat → Bool := fun t => match t with
  | 50 => true
  | _ => false
theorem eqs_ok : ∀ t k, eqs t = true → kds t = some k → EqOK Tryz.prog k t := by
  intro t k h hk
  unfold eqs at h
  split at h <;> first | (cases h; done) | (replace hk := hk.symm; injection hk with hk; subst hk; exact ⟨by kernel_rfl, by kernel_rfl, by decide⟩)
def ref15_Usual_g_live : Nat → List Nat := fun b => match b with | _ => []
def ref15_Usual_g_tab : Tab := ⟨kds, eqs, [], [], [], []⟩
def ref15_Usual_g_cx : Cx := (ref15_Usual_g_tab).cx ref15_Usual_g_live ⟨[], [], [], []⟩
theorem ref15_Usual_g_run (n : Nat) : run ref15_Usual_g_cx noY n Tryz.f22 [] [] (fun p _ => (argD K.s5) p) = ref15_Usual_g := by kernel_rfl
def ref15_Usual_sp (F : ref15_Usual_T) : Spec := Spec.of [] (fun x => F) (ofDen K.s5)
def ref15_Usual_spec : Spec := ref15_Usual_sp ref15_Usual
theorem ref15_Usual_tabok : TabOK Tryz.prog lay (ref15_Usual_g_tab) := ⟨kds_ok, eqs_ok, Good.nil, GoodH.nil, GoodR.nil, GoodI.nil⟩
theorem ref15_Usual_ok : CallOK Tryz.prog lay 22 ref15_Usual_spec.go :=
  spec_ok (T := ref15_Usual_g_tab) (live := ref15_Usual_g_live) (o := ⟨[], [], [], []⟩) (fn := Tryz.f22) lay_stays ref15_Usual_tabok follows ⟨by kernel_rfl, by kernel_rfl, by kernel_rfl⟩ (by kernel_rfl) (fun r => freeP_ofDen (k := K.s5) rfl r) (fun _ _ h => argD_eq h) FUEL fun x => ref15_Usual_g_run FUEL
def num_In_g_live : Nat → List Nat := fun b => match b with | _ => []
def num_In_g_tab : Tab := ⟨kds, eqs, [], [], [], []⟩
def num_In_g_cx : Cx := (num_In_g_tab).cx num_In_g_live ⟨[], [], [], []⟩
theorem num_In_g_run (n : Nat) (x0 : Int) (x1 : Int) (x2 : Int) : run num_In_g_cx noY n Tryz.f27 [.i .i64 x0, .i .i64 x1, .i .i64 x2] [] (fun p _ => (argD .bool) p) = num_In_g x0 x1 x2 := by kernel_rfl
def num_In_sp (F : num_In_T) : Spec := Spec.of [(.int .i64), (.int .i64), (.int .i64)] (fun x => F x.1 x.2.1 x.2.2.1) (ofDen .bool)
def num_In_spec : Spec := num_In_sp num_In
theorem num_In_tabok : TabOK Tryz.prog lay (num_In_g_tab) := ⟨kds_ok, eqs_ok, Good.nil, GoodH.nil, GoodR.nil, GoodI.nil⟩
theorem num_In_ok : CallOK Tryz.prog lay 27 num_In_spec.go :=
  spec_ok (T := num_In_g_tab) (live := num_In_g_live) (o := ⟨[], [], [], []⟩) (fn := Tryz.f27) lay_stays num_In_tabok follows ⟨by kernel_rfl, by kernel_rfl, by kernel_rfl⟩ (by kernel_rfl) (fun r => freeP_ofDen (k := .bool) rfl r) (fun _ _ h => argD_eq h) FUEL fun x => num_In_g_run FUEL x.1 x.2.1 x.2.2.1
def scheme_Panels_g_live : Nat → List Nat := fun b => match b with | _ => []
def scheme_Panels_g_tab (num_In : num_In_T) : Tab := ⟨kds, eqs, [(27, num_In_sp num_In)], [], [], []⟩
def scheme_Panels_g_cx (num_In : num_In_T) : Cx := (scheme_Panels_g_tab @num_In).cx scheme_Panels_g_live ⟨[], [], [], []⟩
theorem scheme_Panels_g_run (n : Nat) (num_In : num_In_T) (x0 : K.s4.den) : run (scheme_Panels_g_cx @num_In) noY n Tryz.f25 [.st K.s4 x0] [] (fun p _ => (argD (.int .i64)) p) = scheme_Panels_g @num_In x0 := by kernel_rfl
def scheme_Panels_sp (F : scheme_Panels_T) : Spec := Spec.of [K.s4] (fun x => F x.1) (ofDen (.int .i64))
def scheme_Panels_spec : Spec := scheme_Panels_sp scheme_Panels
theorem scheme_Panels_tabok : TabOK Tryz.prog lay (scheme_Panels_g_tab @num_In) := ⟨kds_ok, eqs_ok, (Good.cons num_In_ok Good.nil), GoodH.nil, GoodR.nil, GoodI.nil⟩
theorem scheme_Panels_ok : CallOK Tryz.prog lay 25 scheme_Panels_spec.go :=
  spec_ok (T := scheme_Panels_g_tab @num_In) (live := scheme_Panels_g_live) (o := ⟨[], [], [], []⟩) (fn := Tryz.f25) lay_stays scheme_Panels_tabok follows ⟨by kernel_rfl, by kernel_rfl, by kernel_rfl⟩ (by kernel_rfl) (fun r => freeP_ofDen (k := (.int .i64)) rfl r) (fun _ _ h => argD_eq h) FUEL fun x => scheme_Panels_g_run FUEL @num_In x.1
def strings_Fields_sp (F : strings_Fields_T) : Spec := Spec.of [.str] (fun x => F x.1) (fun x => .o true .str x)
def strings_Fields_spec : Spec := strings_Fields_sp strings_Fields
theorem strings_Fields_ok : CallOK Tryz.prog lay 50 strings_Fields_spec.go := fields_ok Tryz.laysM157 rfl ⟨Tryz.f50, Tryz.func50, by kernel_rfl, by kernel_rfl⟩ (lay_0)
def words_All_g_live : Nat → List Nat := fun b => match b with | _ => []
def words_All_g_tab (strings_Fields : strings_Fields_T) : Tab := ⟨kds, eqs, [(50, strings_Fields_sp strings_Fields)], [], [], []⟩
def words_All_g_cx (strings_Fields : strings_Fields_T) : Cx := (words_All_g_tab @strings_Fields).cx words_All_g_live ⟨[], [], [], []⟩
theorem words_All_g_run (n : Nat) (strings_Fields : strings_Fields_T) (x0 : Int) : run (words_All_g_cx @strings_Fields) noY n Tryz.f83 [.i .i64 x0] [] (fun p _ => (ownD true .str) p) = words_All_g @strings_Fields x0 := by kernel_rfl
def words_All_sp (F : words_All_T) : Spec := Spec.of [(.int .i64)] (fun x => F x.1) (fun x => .o true .str x)
def words_All_spec : Spec := words_All_sp words_All
theorem words_All_tabok : TabOK Tryz.prog lay (words_All_g_tab @strings_Fields) := ⟨kds_ok, eqs_ok, (Good.cons strings_Fields_ok Good.nil), GoodH.nil, GoodR.nil, GoodI.nil⟩
theorem words_All_ok : CallOK Tryz.prog lay 83 words_All_spec.go :=
  spec_ok (T := words_All_g_tab @strings_Fields) (live := words_All_g_live) (o := ⟨[], [], [], []⟩) (fn := Tryz.f83) lay_stays words_All_tabok follows ⟨by kernel_rfl, by kernel_rfl, by kernel_rfl⟩ (by kernel_rfl) (fun _ => rfl) (fun _ _ h => ownD_eq h) FUEL fun x => words_All_g_run FUEL @strings_Fields x.1
def words_Put_g_live : Nat → List Nat := fun b => match b with | _ => []
def words_Put_g_tab (words_All : words_All_T) : Tab := ⟨kds, eqs, [(83, words_All_sp words_All)], [], [], []⟩
def words_Put_g_cx (words_All : words_All_T) : Cx := (words_Put_g_tab @words_All).cx words_Put_g_live ⟨[], [], [], []⟩
theorem words_Put_g_run (n : Nat) (words_All : words_All_T) (x0 : Int) (x1 : Int) : run (words_Put_g_cx @words_All) noY n Tryz.f68 [.i .i64 x0, .i .i64 x1] [] (fun p _ => (argD .str) p) = words_Put_g @words_All x0 x1 := by kernel_rfl
def words_Put_sp (F : words_Put_T) : Spec := Spec.of [(.int .i64), (.int .i64)] (fun x => F x.1 x.2.1) (ofDen .str)
def words_Put_spec : Spec := words_Put_sp words_Put
theorem words_Put_tabok : TabOK Tryz.prog lay (words_Put_g_tab @words_All) := ⟨kds_ok, eqs_ok, (Good.cons words_All_ok Good.nil), GoodH.nil, GoodR.nil, GoodI.nil⟩
theorem words_Put_ok : CallOK Tryz.prog lay 68 words_Put_spec.go :=
  spec_ok (T := words_Put_g_tab @words_All) (live := words_Put_g_live) (o := ⟨[], [], [], []⟩) (fn := Tryz.f68) lay_stays words_Put_tabok follows ⟨by kernel_rfl, by kernel_rfl, by kernel_rfl⟩ (by kernel_rfl) (fun r => freeP_ofDen (k := .str) rfl r) (fun _ _ h => argD_eq h) FUEL fun x => words_Put_g_run FUEL @words_All x.1 x.2.1
def strconv_Itoa_sp (F : strconv_Itoa_T) : Spec := Spec.of [(.int .i64)] (fun x => F x.1) (ofDen .str)
def strconv_Itoa_spec : Spec := strconv_Itoa_sp strconv_Itoa
theorem strconv_Itoa_ok : CallOK Tryz.prog lay 84 strconv_Itoa_spec.go := itoa_ok Tryz.laysM171 rfl ⟨Tryz.f84, Tryz.func84, by kernel_rfl, by kernel_rfl⟩ (lay_1)
def dec_Put_g_live : Nat → List Nat := fun b => match b with | _ => []
def dec_Put_g_tab (strconv_Itoa : strconv_Itoa_T) : Tab := ⟨kds, eqs, [(84, strconv_Itoa_sp strconv_Itoa)], [], [], []⟩
def dec_Put_g_cx (strconv_Itoa : strconv_Itoa_T) : Cx := (dec_Put_g_tab @strconv_Itoa).cx dec_Put_g_live ⟨[], [], [], []⟩
theorem dec_Put_g_run (n : Nat) (strconv_Itoa : strconv_Itoa_T) (x0 : Int) : run (dec_Put_g_cx @strconv_Itoa) noY n Tryz.f69 [.i .i64 x0] [] (fun p _ => (argD .str) p) = dec_Put_g @strconv_Itoa x0 := by kernel_rfl
def dec_Put_sp (F : dec_Put_T) : Spec := Spec.of [(.int .i64)] (fun x => F x.1) (ofDen .str)
def dec_Put_spec : Spec := dec_Put_sp dec_Put
theorem dec_Put_tabok : TabOK Tryz.prog lay (dec_Put_g_tab @strconv_Itoa) := ⟨kds_ok, eqs_ok, (Good.cons strconv_Itoa_ok Good.nil), GoodH.nil, GoodR.nil, GoodI.nil⟩
theorem dec_Put_ok : CallOK Tryz.prog lay 69 dec_Put_spec.go :=
  spec_ok (T := dec_Put_g_tab @strconv_Itoa) (live := dec_Put_g_live) (o := ⟨[], [], [], []⟩) (fn := Tryz.f69) lay_stays dec_Put_tabok follows ⟨by kernel_rfl, by kernel_rfl, by kernel_rfl⟩ (by kernel_rfl) (fun r => freeP_ofDen (k := .str) rfl r) (fun _ _ h => argD_eq h) FUEL fun x => dec_Put_g_run FUEL @strconv_Itoa x.1
def step_Put_g_live : Nat → List Nat := fun b => match b with | _ => []
def step_Put_g_tab (num_In : num_In_T) (words_Put : words_Put_T) (dec_Put : dec_Put_T) : Tab := ⟨kds, eqs, [(27, num_In_sp num_In), (68, words_Put_sp words_Put), (69, dec_Put_sp dec_Put)], [], [], []⟩
def step_Put_g_cx (num_In : num_In_T) (words_Put : words_Put_T) (dec_Put : dec_Put_T) : Cx := (step_Put_g_tab @num_In @words_Put @dec_Put).cx step_Put_g_live ⟨[], [], [], []⟩
theorem step_Put_g_run (n : Nat) (num_In : num_In_T) (words_Put : words_Put_T) (dec_Put : dec_Put_T) (x0 : K.s7.den) : run (step_Put_g_cx @num_In @words_Put @dec_Put) noY n Tryz.f58 [.st K.s7 x0] [] (fun p _ => (tupsD (.pair .str (.pair .bool .unit))) p) = step_Put_g @num_In @words_Put @dec_Put x0 := by kernel_rfl
def step_Put_sp (F : step_Put_T) : Spec := Spec.of [K.s7] (fun x => F x.1) (fun x => .tup (tupL (.pair .str (.pair .bool .unit)) x))
def step_Put_spec : Spec := step_Put_sp step_Put
theorem step_Put_tabok : TabOK Tryz.prog lay (step_Put_g_tab @num_In @words_Put @dec_Put) := ⟨kds_ok, eqs_ok, (Good.cons num_In_ok (Good.cons words_Put_ok (Good.cons dec_Put_ok Good.nil))), GoodH.nil, GoodR.nil, GoodI.nil⟩
theorem step_Put_ok : CallOK Tryz.prog lay 58 step_Put_spec.go :=
  spec_ok (T := step_Put_g_tab @num_In @words_Put @dec_Put) (live := step_Put_g_live) (o := ⟨[], [], [], []⟩) (fn := Tryz.f58) lay_stays step_Put_tabok follows ⟨by kernel_rfl, by kernel_rfl, by kernel_rfl⟩ (by kernel_rfl) (fun r => freeP_tupL (k := (.pair .str (.pair .bool .unit))) rfl r) (fun _ _ h => tupsD_eq h) FUEL fun x => step_Put_g_run FUEL @num_In @words_Put @dec_Put x.1
def step_After_g_live : Nat → List Nat := fun b => match b with | _ => []
def step_After_g_tab (step_Put : step_Put_T) : Tab := ⟨kds, eqs, [(58, step_Put_sp step_Put)], [], [], []⟩
def step_After_g_cx (step_Put : step_Put_T) : Cx := (step_After_g_tab @step_Put).cx step_After_g_live ⟨[], [], [], []⟩
theorem step_After_g_run (n : Nat) (step_Put : step_Put_T) (x0 : Int) (x1 : Int) (x2 : K.s7.den) : run (step_After_g_cx @step_Put) noY n Tryz.f47 [.i .i64 x0, .i .i64 x1, .st K.s7 x2] [] (fun p _ => (tupsD K.s7) p) = step_After_g @step_Put x0 x1 x2 := by kernel_rfl
def step_After_sp (F : step_After_T) : Spec := Spec.of [(.int .i64), (.int .i64), K.s7] (fun x => F x.1 x.2.1 x.2.2.1) (fun x => .tup (tupL K.s7 x))
def step_After_spec : Spec := step_After_sp step_After
theorem step_After_tabok : TabOK Tryz.prog lay (step_After_g_tab @step_Put) := ⟨kds_ok, eqs_ok, (Good.cons step_Put_ok Good.nil), GoodH.nil, GoodR.nil, GoodI.nil⟩
theorem step_After_ok : CallOK Tryz.prog lay 47 step_After_spec.go :=
  spec_ok (T := step_After_g_tab @step_Put) (live := step_After_g_live) (o := ⟨[], [], [], []⟩) (fn := Tryz.f47) lay_stays step_After_tabok follows ⟨by kernel_rfl, by kernel_rfl, by kernel_rfl⟩ (by kernel_rfl) (fun r => freeP_tupL (k := K.s7) rfl r) (fun _ _ h => tupsD_eq h) FUEL fun x => step_After_g_run FUEL @step_Put x.1 x.2.1 x.2.2.1
def step_All_g_live : Nat → List Nat := fun b => match b with | 0 => [0, 1, 2, 9, 10] | _ => []
def step_All_g_tab (step_After : step_After_T) : Tab := ⟨kds, eqs, [(47, step_After_sp step_After)], [], [], []⟩
def step_All_g_cx (step_After : step_After_T) : Cx := (step_All_g_tab @step_After).cx step_All_g_live ⟨[], [], [], []⟩
def step_All_g_e0 (x0 : Int) (x1 : Int) (x2 : (List K.s7.den)) (v0_0 : Int) (v0_1 : Int) (v0_9 : Bool) (v0_10 : Int) : Env :=
  ⟨[.i .i64 v0_0, .i .i64 v0_1, .l K.s7 x2, .un, .un, .un, .un, .un, .un, .b v0_9, .i .i64 v0_10] ++ List.replicate 30 .un, List.replicate 41 [], ([] : Hp)⟩
theorem step_All_g_s0 (n : Nat) (m : Nat) (step_After : step_After_T) (x0 : Int) (x1 : Int) (x2 : (List K.s7.den)) (v0_0 : Int) (v0_1 : Int) (v0_9 : Bool) (v0_10 : Int) : loopN (step_All_g_cx @step_After) noY n Tryz.f36 (fun p _ => (tupsD K.s7) p) [1, 1, 0, 1, 0] (m + 1) (step_All_g_e0 x0 x1 x2 v0_0 v0_1 v0_9 v0_10) =
    step_All_g_b0 @step_After x0 x1 x2 (fun v0_0 v0_1 v0_9 v0_10 => loopN (step_All_g_cx @step_After) noY n Tryz.f36 (fun p _ => (tupsD K.s7) p) [1, 1, 0, 1, 0] m (step_All_g_e0 x0 x1 x2 v0_0 v0_1 v0_9 v0_10)) v0_0 v0_1 v0_9 v0_10 := by kernel_rfl
theorem step_All_g_q0 (n : Nat) (step_After : step_After_T) (x0 : Int) (x1 : Int) (x2 : (List K.s7.den)) (m : Nat) : ∀ (v0_0 : Int) (v0_1 : Int) (v0_9 : Bool) (v0_10 : Int), loopN (step_All_g_cx @step_After) noY n Tryz.f36 (fun p _ => (tupsD K.s7) p) [1, 1, 0, 1, 0] m (step_All_g_e0 x0 x1 x2 v0_0 v0_1 v0_9 v0_10) = step_All_g_l0 n @step_After x0 x1 x2 m v0_0 v0_1 v0_9 v0_10 := by
  induction m with
  | zero => intro v0_0 v0_1 v0_9 v0_10; rfl
  | succ m ih =>
    intro v0_0 v0_1 v0_9 v0_10
    rw [step_All_g_s0]
    have hs : (fun v0_0 v0_1 v0_9 v0_10 => loopN (step_All_g_cx @step_After) noY n Tryz.f36 (fun p _ => (tupsD K.s7) p) [1, 1, 0, 1, 0] m (step_All_g_e0 x0 x1 x2 v0_0 v0_1 v0_9 v0_10)) = step_All_g_l0 n @step_After x0 x1 x2 m := by
      funext v0_0 v0_1 v0_9 v0_10; exact ih v0_0 v0_1 v0_9 v0_10
    rw [hs]
    rfl
theorem step_All_g_r (n : Nat) (step_After : step_After_T) (x0 : Int) (x1 : Int) (x2 : (List K.s7.den)) : run (step_All_g_cx @step_After) noY n Tryz.f36 [.i .i64 x0, .i .i64 x1, .l K.s7 x2] [] (fun p _ => (tupsD K.s7) p) = step_All_g_t @step_After x0 x1 x2 (fun v0_0 v0_1 v0_9 v0_10 => loopN (step_All_g_cx @step_After) noY n Tryz.f36 (fun p _ => (tupsD K.s7) p) [1, 1, 0, 1, 0] n (step_All_g_e0 x0 x1 x2 v0_0 v0_1 v0_9 v0_10)) := by kernel_rfl
theorem step_All_g_run (n : Nat) (step_After : step_After_T) (x0 : Int) (x1 : Int) (x2 : (List K.s7.den)) : run (step_All_g_cx @step_After) noY n Tryz.f36 [.i .i64 x0, .i .i64 x1, .l K.s7 x2] [] (fun p _ => (tupsD K.s7) p) = step_All_g_at n @step_After x0 x1 x2 := by
  rw [step_All_g_r]
  have h0' : (fun v0_0 v0_1 v0_9 v0_10 => loopN (step_All_g_cx @step_After) noY n Tryz.f36 (fun p _ => (tupsD K.s7) p) [1, 1, 0, 1, 0] n (step_All_g_e0 x0 x1 x2 v0_0 v0_1 v0_9 v0_10)) = step_All_g_l0 n @step_After x0 x1 x2 n := by funext v0_0 v0_1 v0_9 v0_10; exact step_All_g_q0 n @step_After x0 x1 x2 n v0_0 v0_1 v0_9 v0_10
  rw [h0']
  rfl
def step_All_sp (F : step_All_T) : Spec := Spec.of [(.int .i64), (.int .i64), (.list K.s7)] (fun x => F x.1 x.2.1 x.2.2.1) (fun x => .tup (tupL K.s7 x))
def step_All_spec : Spec := step_All_sp step_All
theorem step_All_tabok : TabOK Tryz.prog lay (step_All_g_tab @step_After) := ⟨kds_ok, eqs_ok, (Good.cons step_After_ok Good.nil), GoodH.nil, GoodR.nil, GoodI.nil⟩
theorem step_All_ok : CallOK Tryz.prog lay 36 step_All_spec.go :=
  spec_ok (T := step_All_g_tab @step_After) (live := step_All_g_live) (o := ⟨[], [], [], []⟩) (fn := Tryz.f36) lay_stays step_All_tabok follows ⟨by kernel_rfl, by kernel_rfl, by kernel_rfl⟩ (by kernel_rfl) (fun r => freeP_tupL (k := K.s7) rfl r) (fun _ _ h => tupsD_eq h) FUEL fun x => step_All_g_run FUEL @step_After x.1 x.2.1 x.2.2.1
def scheme_Right_g_live : Nat → List Nat := fun b => match b with | _ => []
def scheme_Right_g_tab (scheme_Panels : scheme_Panels_T) (step_All : step_All_T) : Tab := ⟨kds, eqs, [(25, scheme_Panels_sp scheme_Panels), (36, step_All_sp step_All)], [], [], []⟩
def scheme_Right_g_cx (scheme_Panels : scheme_Panels_T) (step_All : step_All_T) : Cx := (scheme_Right_g_tab @scheme_Panels @step_All).cx scheme_Right_g_live ⟨[], [], [], []⟩
theorem scheme_Right_g_run (n : Nat) (scheme_Panels : scheme_Panels_T) (step_All : step_All_T) (x0 : K.s4.den) : run (scheme_Right_g_cx @scheme_Panels @step_All) noY n Tryz.f26 [.st K.s4 x0] [] (fun p _ => (argD .bool) p) = scheme_Right_g @scheme_Panels @step_All x0 := by kernel_rfl
def scheme_Right_sp (F : scheme_Right_T) : Spec := Spec.of [K.s4] (fun x => F x.1) (ofDen .bool)
def scheme_Right_spec : Spec := scheme_Right_sp scheme_Right
theorem scheme_Right_tabok : TabOK Tryz.prog lay (scheme_Right_g_tab @scheme_Panels @step_All) := ⟨kds_ok, eqs_ok, (Good.cons scheme_Panels_ok (Good.cons step_All_ok Good.nil)), GoodH.nil, GoodR.nil, GoodI.nil⟩
theorem scheme_Right_ok : CallOK Tryz.prog lay 26 scheme_Right_spec.go :=
  spec_ok (T := scheme_Right_g_tab @scheme_Panels @step_All) (live := scheme_Right_g_live) (o := ⟨[], [], [], []⟩) (fn := Tryz.f26) lay_stays scheme_Right_tabok follows ⟨by kernel_rfl, by kernel_rfl, by kernel_rfl⟩ (by kernel_rfl) (fun r => freeP_ofDen (k := .bool) rfl r) (fun _ _ h => argD_eq h) FUEL fun x => scheme_Right_g_run FUEL @scheme_Panels @step_All x.1
def split_Folds_g_live : Nat → List Nat := fun b => match b with | _ => []
def split_Folds_g_tab (scheme_Panels : scheme_Panels_T) (scheme_Right : scheme_Right_T) (num_In : num_In_T) : Tab := ⟨kds, eqs, [(25, scheme_Panels_sp scheme_Panels), (26, scheme_Right_sp scheme_Right), (27, num_In_sp num_In)], [], [], []⟩
def split_Folds_g_cx (scheme_Panels : scheme_Panels_T) (scheme_Right : scheme_Right_T) (num_In : num_In_T) : Cx := (split_Folds_g_tab @scheme_Panels @scheme_Right @num_In).cx split_Folds_g_live ⟨[], [], [], []⟩
theorem split_Folds_g_run (n : Nat) (scheme_Panels : scheme_Panels_T) (scheme_Right : scheme_Right_T) (num_In : num_In_T) (x0 : K.s5.den) : run (split_Folds_g_cx @scheme_Panels @scheme_Right @num_In) noY n Tryz.f12 [.st K.s5 x0] [] (fun p _ => (argD .bool) p) = split_Folds_g @scheme_Panels @scheme_Right @num_In x0 := by kernel_rfl
def split_Folds_sp (F : split_Folds_T) : Spec := Spec.of [K.s5] (fun x => F x.1) (ofDen .bool)
def split_Folds_spec : Spec := split_Folds_sp split_Folds
theorem split_Folds_tabok : TabOK Tryz.prog lay (split_Folds_g_tab @scheme_Panels @scheme_Right @num_In) := ⟨kds_ok, eqs_ok, (Good.cons scheme_Panels_ok (Good.cons scheme_Right_ok (Good.cons num_In_ok Good.nil))), GoodH.nil, GoodR.nil, GoodI.nil⟩
theorem split_Folds_ok : CallOK Tryz.prog lay 12 split_Folds_spec.go :=
  spec_ok (T := split_Folds_g_tab @scheme_Panels @scheme_Right @num_In) (live := split_Folds_g_live) (o := ⟨[], [], [], []⟩) (fn := Tryz.f12) lay_stays split_Folds_tabok follows ⟨by kernel_rfl, by kernel_rfl, by kernel_rfl⟩ (by kernel_rfl) (fun r => freeP_ofDen (k := .bool) rfl r) (fun _ _ h => argD_eq h) FUEL fun x => split_Folds_g_run FUEL @scheme_Panels @scheme_Right @num_In x.1
def strings_splitSeq__g_live : Nat → List Nat := fun b => match b with | _ => []
def strings_splitSeq__g_tab : Tab := ⟨kds, eqs, [], [], [], []⟩
def strings_splitSeq__g_cx : Cx := (strings_splitSeq__g_tab).cx strings_splitSeq__g_live ⟨[3], [], [], []⟩
theorem strings_splitSeq__g_run (n : Nat) (x0 : ByteArray) (x1 : ByteArray) (x2 : Int) (h : Hp) : run strings_splitSeq__g_cx noY n Tryz.f59 [.s x0, .s x1, .i .i64 x2] h (finH (An.clo 70 [(.ac [.str] 0), (.pl .ptr), (.ac [(.int .i64)] 0)])) = strings_splitSeq__g x0 x1 x2 h := by kernel_rfl
def strings_splitSeq__sp (F : strings_splitSeq__T) : HF := hSpec [(.a (.pl .str)), (.a (.pl .str)), (.a (.pl (.int .i64)))] (An.clo 70 [(.ac [.str] 0), (.pl .ptr), (.ac [(.int .i64)] 0)]) (fun x h => F x.1 x.2.1 x.2.2.1 h)
def strings_splitSeq__spec : HF := strings_splitSeq__sp strings_splitSeq_
theorem strings_splitSeq__tabok : TabOK Tryz.prog lay (strings_splitSeq__g_tab) := ⟨kds_ok, eqs_ok, Good.nil, GoodH.nil, GoodR.nil, GoodI.nil⟩
theorem strings_splitSeq__ok : CallH Tryz.prog lay 59 strings_splitSeq__spec :=
  hSpec_ok (T := strings_splitSeq__g_tab) (live := strings_splitSeq__g_live) (o := ⟨[3], [], [], []⟩) (fn := Tryz.f59) strings_splitSeq__tabok follows ⟨by kernel_rfl, by kernel_rfl, by kernel_rfl⟩ FUEL fun x h => strings_splitSeq__g_run FUEL x.1 x.2.1 x.2.2.1 h
def strings_SplitSeq__g_live : Nat → List Nat := fun b => match b with | _ => []
def strings_SplitSeq__g_tab (strings_splitSeq_ : strings_splitSeq__T) : Tab := ⟨kds, eqs, [], [(59, @strings_splitSeq__sp @strings_splitSeq_)], [], []⟩
def strings_SplitSeq__g_cx (strings_splitSeq_ : strings_splitSeq__T) : Cx := (strings_SplitSeq__g_tab @strings_splitSeq_).cx strings_SplitSeq__g_live ⟨[], [], [7], []⟩
theorem strings_SplitSeq__g_run (n : Nat) (strings_splitSeq_ : strings_splitSeq__T) (x0 : ByteArray) (x1 : ByteArray) (h : Hp) : run (strings_SplitSeq__g_cx @strings_splitSeq_) noY n Tryz.f49 [.s x0, .s x1] h (finH (An.clo 70 [(.ac [.str] 0), (.pl .ptr), (.ac [(.int .i64)] 0)])) = strings_SplitSeq__g @strings_splitSeq_ x0 x1 h := by kernel_rfl
def strings_SplitSeq__sp (F : strings_SplitSeq__T) : HF := hSpec [(.a (.pl .str)), (.a (.pl .str))] (An.clo 70 [(.ac [.str] 0), (.pl .ptr), (.ac [(.int .i64)] 0)]) (fun x h => F x.1 x.2.1 h)
def strings_SplitSeq__spec : HF := strings_SplitSeq__sp strings_SplitSeq_
theorem strings_SplitSeq__tabok : TabOK Tryz.prog lay (strings_SplitSeq__g_tab @strings_splitSeq_) := ⟨kds_ok, eqs_ok, Good.nil, (GoodH.cons strings_splitSeq__ok GoodH.nil), GoodR.nil, GoodI.nil⟩
theorem strings_SplitSeq__ok : CallH Tryz.prog lay 49 strings_SplitSeq__spec :=
  hSpec_ok (T := strings_SplitSeq__g_tab @strings_splitSeq_) (live := strings_SplitSeq__g_live) (o := ⟨[], [], [7], []⟩) (fn := Tryz.f49) strings_SplitSeq__tabok follows ⟨by kernel_rfl, by kernel_rfl, by kernel_rfl⟩ FUEL fun x h => strings_SplitSeq__g_run FUEL @strings_splitSeq_ x.1 x.2.1 h
def unicode_utf8_DecodeRuneInString_sp (F : unicode_utf8_DecodeRuneInString_T) : Spec := Spec.of [.str] (fun x => F x.1) (fun x => .tup (tupL (.pair (.int .i32) (.pair (.int .i64) .unit)) x))
def unicode_utf8_DecodeRuneInString_spec : Spec := unicode_utf8_DecodeRuneInString_sp unicode_utf8_DecodeRuneInString
theorem unicode_utf8_DecodeRuneInString_ok : CallOK Tryz.prog lay 71 unicode_utf8_DecodeRuneInString_spec.go := none_spec
def strings_Index_sp (F : strings_Index_T) : Spec := Spec.of [.str, .str] (fun x => F x.1 x.2.1) (ofDen (.int .i64))
def strings_Index_spec : Spec := strings_Index_sp strings_Index
theorem strings_Index_ok : CallOK Tryz.prog lay 72 strings_Index_spec.go := index_ok Tryz.lays143 rfl ⟨Tryz.f72, Tryz.func72, by kernel_rfl, by kernel_rfl⟩
def strings_splitSeq_1_g_live : Nat → List Nat := fun b => match b with | 0 => [0, 2] | 2 => [0, 1, 2, 3] | _ => []
def strings_splitSeq_1_g_tab (unicode_utf8_DecodeRuneInString : unicode_utf8_DecodeRuneInString_T) (strings_Index : strings_Index_T) : Tab := ⟨kds, eqs, [(71, unicode_utf8_DecodeRuneInString_sp unicode_utf8_DecodeRuneInString), (72, strings_Index_sp strings_Index)], [], [], []⟩
def strings_splitSeq_1_g_cx (unicode_utf8_DecodeRuneInString : unicode_utf8_DecodeRuneInString_T) (strings_Index : strings_Index_T) : Cx := (strings_splitSeq_1_g_tab @unicode_utf8_DecodeRuneInString @strings_Index).cx strings_splitSeq_1_g_live ⟨[], [], [24, 41, 51], []⟩
def strings_splitSeq_1_g_e0 (x0_0 : ByteArray) (x1 : (Option (Nat × Nat))) (x2_0 : Int) (h : Hp) (v0_h : Hp) : Env :=
  ⟨[.yl, .un, .p x1] ++ List.replicate 49 .un, List.replicate 52 [], v0_h⟩
def strings_splitSeq_1_g_e1 (x0_0 : ByteArray) (x1 : (Option (Nat × Nat))) (x2_0 : Int) (h : Hp) (v1_h : Hp) : Env :=
  ⟨[.yl, .ac [.s x0_0] 0, .p x1, .ac [.i .i64 x2_0] 0] ++ List.replicate 48 .un, List.replicate 52 [], v1_h⟩
theorem strings_splitSeq_1_g_s1 {ρ : Type} (n : Nat) (m : Nat) (unicode_utf8_DecodeRuneInString : unicode_utf8_DecodeRuneInString_T) (strings_Index : strings_Index_T) (x0_0 : ByteArray) (x1 : (Option (Nat × Nat))) (x2_0 : Int) (Y : Yd ρ) (h : Hp) (fin : Hp → Option ρ) (v1_h : Hp) : loopN (strings_splitSeq_1_g_cx @unicode_utf8_DecodeRuneInString @strings_Index) Y n Tryz.f70 (fun _ h => fin h) [1, 0, 0] (m + 1) (strings_splitSeq_1_g_e1 x0_0 x1 x2_0 h v1_h) =
    strings_splitSeq_1_g_b1 @unicode_utf8_DecodeRuneInString @strings_Index x0_0 x1 x2_0 (yw [.str] Y) h fin (fun v1_h => loopN (strings_splitSeq_1_g_cx @unicode_utf8_DecodeRuneInString @strings_Index) Y n Tryz.f70 (fun _ h => fin h) [1, 0, 0] m (strings_splitSeq_1_g_e1 x0_0 x1 x2_0 h v1_h)) v1_h := by kernel_rfl
theorem strings_splitSeq_1_g_q1 {ρ : Type} (n : Nat) (unicode_utf8_DecodeRuneInString : unicode_utf8_DecodeRuneInString_T) (strings_Index : strings_Index_T) (x0_0 : ByteArray) (x1 : (Option (Nat × Nat))) (x2_0 : Int) (Y : Yd ρ) (h : Hp) (fin : Hp → Option ρ) (m : Nat) : ∀ (v1_h : Hp), loopN (strings_splitSeq_1_g_cx @unicode_utf8_DecodeRuneInString @strings_Index) Y n Tryz.f70 (fun _ h => fin h) [1, 0, 0] m (strings_splitSeq_1_g_e1 x0_0 x1 x2_0 h v1_h) = strings_splitSeq_1_g_l1 n @unicode_utf8_DecodeRuneInString @strings_Index x0_0 x1 x2_0 (yw [.str] Y) h fin m v1_h := by
  induction m with
  | zero => intro v1_h; rfl
  | succ m ih =>
    intro v1_h
    rw [strings_splitSeq_1_g_s1]
    have hs : (fun v1_h => loopN (strings_splitSeq_1_g_cx @unicode_utf8_DecodeRuneInString @strings_Index) Y n Tryz.f70 (fun _ h => fin h) [1, 0, 0] m (strings_splitSeq_1_g_e1 x0_0 x1 x2_0 h v1_h)) = strings_splitSeq_1_g_l1 n @unicode_utf8_DecodeRuneInString @strings_Index x0_0 x1 x2_0 (yw [.str] Y) h fin m := by
      funext v1_h; exact ih v1_h
    rw [hs]
    rfl
theorem strings_splitSeq_1_g_s0 {ρ : Type} (n : Nat) (m : Nat) (unicode_utf8_DecodeRuneInString : unicode_utf8_DecodeRuneInString_T) (strings_Index : strings_Index_T) (x0_0 : ByteArray) (x1 : (Option (Nat × Nat))) (x2_0 : Int) (Y : Yd ρ) (h : Hp) (fin : Hp → Option ρ) (v0_h : Hp) : loopN (strings_splitSeq_1_g_cx @unicode_utf8_DecodeRuneInString @strings_Index) Y n Tryz.f70 (fun _ h => fin h) [0, 1, 0, 0, 0] (m + 1) (strings_splitSeq_1_g_e0 x0_0 x1 x2_0 h v0_h) =
    strings_splitSeq_1_g_b0 @unicode_utf8_DecodeRuneInString @strings_Index x0_0 x1 x2_0 (yw [.str] Y) h fin (fun v0_h => loopN (strings_splitSeq_1_g_cx @unicode_utf8_DecodeRuneInString @strings_Index) Y n Tryz.f70 (fun _ h => fin h) [0, 1, 0, 0, 0] m (strings_splitSeq_1_g_e0 x0_0 x1 x2_0 h v0_h)) v0_h := by kernel_rfl
theorem strings_splitSeq_1_g_q0 {ρ : Type} (n : Nat) (unicode_utf8_DecodeRuneInString : unicode_utf8_DecodeRuneInString_T) (strings_Index : strings_Index_T) (x0_0 : ByteArray) (x1 : (Option (Nat × Nat))) (x2_0 : Int) (Y : Yd ρ) (h : Hp) (fin : Hp → Option ρ) (m : Nat) : ∀ (v0_h : Hp), loopN (strings_splitSeq_1_g_cx @unicode_utf8_DecodeRuneInString @strings_Index) Y n Tryz.f70 (fun _ h => fin h) [0, 1, 0, 0, 0] m (strings_splitSeq_1_g_e0 x0_0 x1 x2_0 h v0_h) = strings_splitSeq_1_g_l0 n @unicode_utf8_DecodeRuneInString @strings_Index x0_0 x1 x2_0 (yw [.str] Y) h fin m v0_h := by
  induction m with
  | zero => intro v0_h; rfl
  | succ m ih =>
    intro v0_h
    rw [strings_splitSeq_1_g_s0]
    have hs : (fun v0_h => loopN (strings_splitSeq_1_g_cx @unicode_utf8_DecodeRuneInString @strings_Index) Y n Tryz.f70 (fun _ h => fin h) [0, 1, 0, 0, 0] m (strings_splitSeq_1_g_e0 x0_0 x1 x2_0 h v0_h)) = strings_splitSeq_1_g_l0 n @unicode_utf8_DecodeRuneInString @strings_Index x0_0 x1 x2_0 (yw [.str] Y) h fin m := by
      funext v0_h; exact ih v0_h
    rw [hs]
    rfl
theorem strings_splitSeq_1_g_r {ρ : Type} (n : Nat) (unicode_utf8_DecodeRuneInString : unicode_utf8_DecodeRuneInString_T) (strings_Index : strings_Index_T) (x0_0 : ByteArray) (x1 : (Option (Nat × Nat))) (x2_0 : Int) (Y : Yd ρ) (h : Hp) (fin : Hp → Option ρ) : run (strings_splitSeq_1_g_cx @unicode_utf8_DecodeRuneInString @strings_Index) Y n Tryz.f70 [.yl, .ac [.s x0_0] 0, .p x1, .ac [.i .i64 x2_0] 0] h (fun _ h => fin h) = strings_splitSeq_1_g_t @unicode_utf8_DecodeRuneInString @strings_Index x0_0 x1 x2_0 (yw [.str] Y) h fin (fun v0_h => loopN (strings_splitSeq_1_g_cx @unicode_utf8_DecodeRuneInString @strings_Index) Y n Tryz.f70 (fun _ h => fin h) [0, 1, 0, 0, 0] n (strings_splitSeq_1_g_e0 x0_0 x1 x2_0 h v0_h)) (fun v1_h => loopN (strings_splitSeq_1_g_cx @unicode_utf8_DecodeRuneInString @strings_Index) Y n Tryz.f70 (fun _ h => fin h) [1, 0, 0] n (strings_splitSeq_1_g_e1 x0_0 x1 x2_0 h v1_h)) := by kernel_rfl
theorem strings_splitSeq_1_g_run {ρ : Type} (n : Nat) (unicode_utf8_DecodeRuneInString : unicode_utf8_DecodeRuneInString_T) (strings_Index : strings_Index_T) (x0_0 : ByteArray) (x1 : (Option (Nat × Nat))) (x2_0 : Int) (Y : Yd ρ) (h : Hp) (fin : Hp → Option ρ) : run (strings_splitSeq_1_g_cx @unicode_utf8_DecodeRuneInString @strings_Index) Y n Tryz.f70 [.yl, .ac [.s x0_0] 0, .p x1, .ac [.i .i64 x2_0] 0] h (fun _ h => fin h) = strings_splitSeq_1_g_at n @unicode_utf8_DecodeRuneInString @strings_Index x0_0 x1 x2_0 (yw [.str] Y) h fin := by
  rw [strings_splitSeq_1_g_r]
  have h0' : (fun v0_h => loopN (strings_splitSeq_1_g_cx @unicode_utf8_DecodeRuneInString @strings_Index) Y n Tryz.f70 (fun _ h => fin h) [0, 1, 0, 0, 0] n (strings_splitSeq_1_g_e0 x0_0 x1 x2_0 h v0_h)) = strings_splitSeq_1_g_l0 n @unicode_utf8_DecodeRuneInString @strings_Index x0_0 x1 x2_0 (yw [.str] Y) h fin n := by funext v0_h; exact strings_splitSeq_1_g_q0 n @unicode_utf8_DecodeRuneInString @strings_Index x0_0 x1 x2_0 Y h fin n v0_h
  have h1' : (fun v1_h => loopN (strings_splitSeq_1_g_cx @unicode_utf8_DecodeRuneInString @strings_Index) Y n Tryz.f70 (fun _ h => fin h) [1, 0, 0] n (strings_splitSeq_1_g_e1 x0_0 x1 x2_0 h v1_h)) = strings_splitSeq_1_g_l1 n @unicode_utf8_DecodeRuneInString @strings_Index x0_0 x1 x2_0 (yw [.str] Y) h fin n := by funext v1_h; exact strings_splitSeq_1_g_q1 n @unicode_utf8_DecodeRuneInString @strings_Index x0_0 x1 x2_0 Y h fin n v1_h
  rw [h0', h1']
  rfl
def strings_splitSeq_1_sp (F : strings_splitSeq_1_T) : IF := iSpec [(.a (.ac [.str] 0)), (.a (.pl .ptr)), (.a (.ac [(.int .i64)] 0))] [.str] (fun x Y h fin => F x.1.1 x.2.1 x.2.2.1.1 Y h fin)
def strings_splitSeq_1_spec : IF := strings_splitSeq_1_sp @strings_splitSeq_1
theorem strings_splitSeq_1_tabok : TabOK Tryz.prog lay (strings_splitSeq_1_g_tab @unicode_utf8_DecodeRuneInString @strings_Index) := ⟨kds_ok, eqs_ok, (Good.cons unicode_utf8_DecodeRuneInString_ok (Good.cons strings_Index_ok Good.nil)), GoodH.nil, GoodR.nil, GoodI.nil⟩
theorem strings_splitSeq_1_ok : IterOK Tryz.prog lay 70 strings_splitSeq_1_spec :=
  iSpec_ok (T := strings_splitSeq_1_g_tab @unicode_utf8_DecodeRuneInString @strings_Index) (live := strings_splitSeq_1_g_live) (o := ⟨[], [], [24, 41, 51], []⟩) (fn := Tryz.f70) strings_splitSeq_1_tabok follows ⟨by kernel_rfl, by kernel_rfl, by kernel_rfl⟩ FUEL fun Y x h fin => strings_splitSeq_1_g_run FUEL @unicode_utf8_DecodeRuneInString @strings_Index x.1.1 x.2.1 x.2.2.1.1 Y h fin
def strconv_Atoi_sp (F : strconv_Atoi_T) : Spec := Spec.of [.str] (fun x => F x.1) (fun x => .tup (tupL (.pair (.int .i64) (.pair .err .unit)) x))
def strconv_Atoi_spec : Spec := strconv_Atoi_sp strconv_Atoi
theorem strconv_Atoi_ok : CallOK Tryz.prog lay 89 strconv_Atoi_spec.go := atoi_ok Tryz.laysC172 rfl ⟨Tryz.f89, Tryz.func89, by kernel_rfl, by kernel_rfl⟩
def dec_Get_g_live : Nat → List Nat := fun b => match b with | _ => []
def dec_Get_g_tab (dec_Put : dec_Put_T) (strconv_Atoi : strconv_Atoi_T) : Tab := ⟨kds, eqs, [(69, dec_Put_sp dec_Put), (89, strconv_Atoi_sp strconv_Atoi)], [], [], []⟩
def dec_Get_g_cx (dec_Put : dec_Put_T) (strconv_Atoi : strconv_Atoi_T) : Cx := (dec_Get_g_tab @dec_Put @strconv_Atoi).cx dec_Get_g_live ⟨[], [], [], []⟩
theorem dec_Get_g_run (n : Nat) (dec_Put : dec_Put_T) (strconv_Atoi : strconv_Atoi_T) (x0 : ByteArray) : run (dec_Get_g_cx @dec_Put @strconv_Atoi) noY n Tryz.f74 [.s x0] [] (fun p _ => (tupsD (.pair (.int .i64) (.pair .bool .unit))) p) = dec_Get_g @dec_Put @strconv_Atoi x0 := by kernel_rfl
def dec_Get_sp (F : dec_Get_T) : Spec := Spec.of [.str] (fun x => F x.1) (fun x => .tup (tupL (.pair (.int .i64) (.pair .bool .unit)) x))
def dec_Get_spec : Spec := dec_Get_sp dec_Get
theorem dec_Get_tabok : TabOK Tryz.prog lay (dec_Get_g_tab @dec_Put @strconv_Atoi) := ⟨kds_ok, eqs_ok, (Good.cons dec_Put_ok (Good.cons strconv_Atoi_ok Good.nil)), GoodH.nil, GoodR.nil, GoodI.nil⟩
theorem dec_Get_ok : CallOK Tryz.prog lay 74 dec_Get_spec.go :=
  spec_ok (T := dec_Get_g_tab @dec_Put @strconv_Atoi) (live := dec_Get_g_live) (o := ⟨[], [], [], []⟩) (fn := Tryz.f74) lay_stays dec_Get_tabok follows ⟨by kernel_rfl, by kernel_rfl, by kernel_rfl⟩ (by kernel_rfl) (fun r => freeP_tupL (k := (.pair (.int .i64) (.pair .bool .unit))) rfl r) (fun _ _ h => tupsD_eq h) FUEL fun x => dec_Get_g_run FUEL @dec_Put @strconv_Atoi x.1
def dec_Within_g_live : Nat → List Nat := fun b => match b with | _ => []
def dec_Within_g_tab (num_In : num_In_T) (dec_Get : dec_Get_T) : Tab := ⟨kds, eqs, [(27, num_In_sp num_In), (74, dec_Get_sp dec_Get)], [], [], []⟩
def dec_Within_g_cx (num_In : num_In_T) (dec_Get : dec_Get_T) : Cx := (dec_Within_g_tab @num_In @dec_Get).cx dec_Within_g_live ⟨[], [], [], []⟩
theorem dec_Within_g_run (n : Nat) (num_In : num_In_T) (dec_Get : dec_Get_T) (x0 : ByteArray) (x1 : Int) (x2 : Int) : run (dec_Within_g_cx @num_In @dec_Get) noY n Tryz.f62 [.s x0, .i .i64 x1, .i .i64 x2] [] (fun p _ => (tupsD (.pair (.int .i64) (.pair .bool .unit))) p) = dec_Within_g @num_In @dec_Get x0 x1 x2 := by kernel_rfl
def dec_Within_sp (F : dec_Within_T) : Spec := Spec.of [.str, (.int .i64), (.int .i64)] (fun x => F x.1 x.2.1 x.2.2.1) (fun x => .tup (tupL (.pair (.int .i64) (.pair .bool .unit)) x))
def dec_Within_spec : Spec := dec_Within_sp dec_Within
theorem dec_Within_tabok : TabOK Tryz.prog lay (dec_Within_g_tab @num_In @dec_Get) := ⟨kds_ok, eqs_ok, (Good.cons num_In_ok (Good.cons dec_Get_ok Good.nil)), GoodH.nil, GoodR.nil, GoodI.nil⟩
theorem dec_Within_ok : CallOK Tryz.prog lay 62 dec_Within_spec.go :=
  spec_ok (T := dec_Within_g_tab @num_In @dec_Get) (live := dec_Within_g_live) (o := ⟨[], [], [], []⟩) (fn := Tryz.f62) lay_stays dec_Within_tabok follows ⟨by kernel_rfl, by kernel_rfl, by kernel_rfl⟩ (by kernel_rfl) (fun r => freeP_tupL (k := (.pair (.int .i64) (.pair .bool .unit))) rfl r) (fun _ _ h => tupsD_eq h) FUEL fun x => dec_Within_g_run FUEL @num_In @dec_Get x.1 x.2.1 x.2.2.1
def slices_Index_string_g_live : Nat → List Nat := fun b => match b with | 0 => [0, 1, 7, 8] | _ => []
def slices_Index_string_g_tab : Tab := ⟨kds, eqs, [], [], [], []⟩
def slices_Index_string_g_cx : Cx := (slices_Index_string_g_tab).cx slices_Index_string_g_live ⟨[], [], [], []⟩
def slices_Index_string_g_e0 (x0 : (List ByteArray)) (x1 : ByteArray) (v0_8 : Int) : Env :=
  ⟨[.l .str x0, .s x1, .un, .un, .un, .un, .un, .i .i64 (x0.length : Int), .i .i64 v0_8] ++ List.replicate 10 .un, List.replicate 19 [], ([] : Hp)⟩
theorem slices_Index_string_g_s0 (n : Nat) (m : Nat) (x0 : (List ByteArray)) (x1 : ByteArray) (v0_8 : Int) : loopN slices_Index_string_g_cx noY n Tryz.f90 (fun p _ => (argD (.int .i64)) p) [1, 0, 1, 0] (m + 1) (slices_Index_string_g_e0 x0 x1 v0_8) =
    slices_Index_string_g_b0 x0 x1 (fun v0_8 => loopN slices_Index_string_g_cx noY n Tryz.f90 (fun p _ => (argD (.int .i64)) p) [1, 0, 1, 0] m (slices_Index_string_g_e0 x0 x1 v0_8)) v0_8 := by kernel_rfl
theorem slices_Index_string_g_q0 (n : Nat) (x0 : (List ByteArray)) (x1 : ByteArray) (m : Nat) : ∀ (v0_8 : Int), loopN slices_Index_string_g_cx noY n Tryz.f90 (fun p _ => (argD (.int .i64)) p) [1, 0, 1, 0] m (slices_Index_string_g_e0 x0 x1 v0_8) = slices_Index_string_g_l0 n x0 x1 m v0_8 := by
  induction m with
  | zero => intro v0_8; rfl
  | succ m ih =>
    intro v0_8
    rw [slices_Index_string_g_s0]
    have hs : (fun v0_8 => loopN slices_Index_string_g_cx noY n Tryz.f90 (fun p _ => (argD (.int .i64)) p) [1, 0, 1, 0] m (slices_Index_string_g_e0 x0 x1 v0_8)) = slices_Index_string_g_l0 n x0 x1 m := by
      funext v0_8; exact ih v0_8
    rw [hs]
    rfl
theorem slices_Index_string_g_r (n : Nat) (x0 : (List ByteArray)) (x1 : ByteArray) : run slices_Index_string_g_cx noY n Tryz.f90 [.l .str x0, .s x1] [] (fun p _ => (argD (.int .i64)) p) = slices_Index_string_g_t x0 x1 (fun v0_8 => loopN slices_Index_string_g_cx noY n Tryz.f90 (fun p _ => (argD (.int .i64)) p) [1, 0, 1, 0] n (slices_Index_string_g_e0 x0 x1 v0_8)) := by kernel_rfl
theorem slices_Index_string_g_run (n : Nat) (x0 : (List ByteArray)) (x1 : ByteArray) : run slices_Index_string_g_cx noY n Tryz.f90 [.l .str x0, .s x1] [] (fun p _ => (argD (.int .i64)) p) = slices_Index_string_g_at n x0 x1 := by
  rw [slices_Index_string_g_r]
  have h0' : (fun v0_8 => loopN slices_Index_string_g_cx noY n Tryz.f90 (fun p _ => (argD (.int .i64)) p) [1, 0, 1, 0] n (slices_Index_string_g_e0 x0 x1 v0_8)) = slices_Index_string_g_l0 n x0 x1 n := by funext v0_8; exact slices_Index_string_g_q0 n x0 x1 n v0_8
  rw [h0']
  rfl
def slices_Index_string_sp (F : slices_Index_string_T) : Spec := Spec.of [(.list .str), .str] (fun x => F x.1 x.2.1) (ofDen (.int .i64))
def slices_Index_string_spec : Spec := slices_Index_string_sp slices_Index_string
theorem slices_Index_string_tabok : TabOK Tryz.prog lay (slices_Index_string_g_tab) := ⟨kds_ok, eqs_ok, Good.nil, GoodH.nil, GoodR.nil, GoodI.nil⟩
theorem slices_Index_string_ok : CallOK Tryz.prog lay 90 slices_Index_string_spec.go :=
  spec_ok (T := slices_Index_string_g_tab) (live := slices_Index_string_g_live) (o := ⟨[], [], [], []⟩) (fn := Tryz.f90) lay_stays slices_Index_string_tabok follows ⟨by kernel_rfl, by kernel_rfl, by kernel_rfl⟩ (by kernel_rfl) (fun r => freeP_ofDen (k := (.int .i64)) rfl r) (fun _ _ h => argD_eq h) FUEL fun x => slices_Index_string_g_run FUEL x.1 x.2.1
def words_Get_g_live : Nat → List Nat := fun b => match b with | _ => []
def words_Get_g_tab (words_All : words_All_T) (slices_Index_string : slices_Index_string_T) : Tab := ⟨kds, eqs, [(83, words_All_sp words_All), (90, slices_Index_string_sp slices_Index_string)], [], [], []⟩
def words_Get_g_cx (words_All : words_All_T) (slices_Index_string : slices_Index_string_T) : Cx := (words_Get_g_tab @words_All @slices_Index_string).cx words_Get_g_live ⟨[], [], [], []⟩
theorem words_Get_g_run (n : Nat) (words_All : words_All_T) (slices_Index_string : slices_Index_string_T) (x0 : Int) (x1 : ByteArray) : run (words_Get_g_cx @words_All @slices_Index_string) noY n Tryz.f75 [.i .i64 x0, .s x1] [] (fun p _ => (tupsD (.pair (.int .i64) (.pair .bool .unit))) p) = words_Get_g @words_All @slices_Index_string x0 x1 := by kernel_rfl
def words_Get_sp (F : words_Get_T) : Spec := Spec.of [(.int .i64), .str] (fun x => F x.1 x.2.1) (fun x => .tup (tupL (.pair (.int .i64) (.pair .bool .unit)) x))
def words_Get_spec : Spec := words_Get_sp words_Get
theorem words_Get_tabok : TabOK Tryz.prog lay (words_Get_g_tab @words_All @slices_Index_string) := ⟨kds_ok, eqs_ok, (Good.cons words_All_ok (Good.cons slices_Index_string_ok Good.nil)), GoodH.nil, GoodR.nil, GoodI.nil⟩
theorem words_Get_ok : CallOK Tryz.prog lay 75 words_Get_spec.go :=
  spec_ok (T := words_Get_g_tab @words_All @slices_Index_string) (live := words_Get_g_live) (o := ⟨[], [], [], []⟩) (fn := Tryz.f75) lay_stays words_Get_tabok follows ⟨by kernel_rfl, by kernel_rfl, by kernel_rfl⟩ (by kernel_rfl) (fun r => freeP_tupL (k := (.pair (.int .i64) (.pair .bool .unit))) rfl r) (fun _ _ h => tupsD_eq h) FUEL fun x => words_Get_g_run FUEL @words_All @slices_Index_string x.1 x.2.1
def step_Get_g_live : Nat → List Nat := fun b => match b with | _ => []
def step_Get_g_tab (dec_Within : dec_Within_T) (words_Get : words_Get_T) : Tab := ⟨kds, eqs, [(62, dec_Within_sp dec_Within), (75, words_Get_sp words_Get)], [], [], []⟩
def step_Get_g_cx (dec_Within : dec_Within_T) (words_Get : words_Get_T) : Cx := (step_Get_g_tab @dec_Within @words_Get).cx step_Get_g_live ⟨[], [], [], []⟩
theorem step_Get_g_run (n : Nat) (dec_Within : dec_Within_T) (words_Get : words_Get_T) (x0 : ByteArray) : run (step_Get_g_cx @dec_Within @words_Get) noY n Tryz.f63 [.s x0] [] (fun p _ => (tupsD (.pair K.s7 (.pair .bool .unit))) p) = step_Get_g @dec_Within @words_Get x0 := by kernel_rfl
def step_Get_sp (F : step_Get_T) : Spec := Spec.of [.str] (fun x => F x.1) (fun x => .tup (tupL (.pair K.s7 (.pair .bool .unit)) x))
def step_Get_spec : Spec := step_Get_sp step_Get
theorem step_Get_tabok : TabOK Tryz.prog lay (step_Get_g_tab @dec_Within @words_Get) := ⟨kds_ok, eqs_ok, (Good.cons dec_Within_ok (Good.cons words_Get_ok Good.nil)), GoodH.nil, GoodR.nil, GoodI.nil⟩
theorem step_Get_ok : CallOK Tryz.prog lay 63 step_Get_spec.go :=
  spec_ok (T := step_Get_g_tab @dec_Within @words_Get) (live := step_Get_g_live) (o := ⟨[], [], [], []⟩) (fn := Tryz.f63) lay_stays step_Get_tabok follows ⟨by kernel_rfl, by kernel_rfl, by kernel_rfl⟩ (by kernel_rfl) (fun r => freeP_tupL (k := (.pair K.s7 (.pair .bool .unit))) rfl r) (fun _ _ h => tupsD_eq h) FUEL fun x => step_Get_g_run FUEL @dec_Within @words_Get x.1
def scheme_of_g_live : Nat → List Nat := fun b => match b with | 0 => [2, 4, 5, 6, 32, 33, 34] | _ => []
def scheme_of_g_tab (dec_Within : dec_Within_T) (step_Get : step_Get_T) : Tab := ⟨kds, eqs, [(62, dec_Within_sp dec_Within), (63, step_Get_sp step_Get)], [], [], []⟩
def scheme_of_g_cx (dec_Within : dec_Within_T) (step_Get : step_Get_T) : Cx := (scheme_of_g_tab @dec_Within @step_Get).cx scheme_of_g_live ⟨[], [], [], []⟩
def scheme_of_g_e0 (x0 : (List ByteArray)) (v0_5 : Bool) (v0_6 : Bool) (v0_34 : Int) (v0_4_0 : Int) (v0_4_1 : Int) (v0_4_2 : (List K.s7.den)) : Env :=
  ⟨[.un, .un, .bx 2 0, .un, .bx 4 0, .b v0_5, .b v0_6] ++ List.replicate 25 .un ++ [.l .str ((x0.take (Int.toNat (x0.length : Int))).drop (Int.toNat (2 : Int))), .i .i64 (((x0.take (Int.toNat (x0.length : Int))).drop (Int.toNat (2 : Int))).length : Int), .i .i64 v0_34] ++ List.replicate 29 .un, [[], [], [.i .i64 (0 : Int), .i .i64 (0 : Int), .o false K.s7 ([] : List K.s7.den)], [], [.i .i64 v0_4_0, .i .i64 v0_4_1, .o false K.s7 v0_4_2]] ++ List.replicate 59 [], ([] : Hp)⟩
theorem scheme_of_g_s0 (n : Nat) (m : Nat) (dec_Within : dec_Within_T) (step_Get : step_Get_T) (x0 : (List ByteArray)) (v0_5 : Bool) (v0_6 : Bool) (v0_34 : Int) (v0_4_0 : Int) (v0_4_1 : Int) (v0_4_2 : (List K.s7.den)) : loopN (scheme_of_g_cx @dec_Within @step_Get) noY n Tryz.f51 (fun p _ => (tupsD (.pair K.s4 (.pair .bool .unit))) p) [1, 1, 1, 1, 1, 1, 0, 1, 0] (m + 1) (scheme_of_g_e0 x0 v0_5 v0_6 v0_34 v0_4_0 v0_4_1 v0_4_2) =
    scheme_of_g_b0 @dec_Within @step_Get x0 (fun v0_5 v0_6 v0_34 v0_4_0 v0_4_1 v0_4_2 => loopN (scheme_of_g_cx @dec_Within @step_Get) noY n Tryz.f51 (fun p _ => (tupsD (.pair K.s4 (.pair .bool .unit))) p) [1, 1, 1, 1, 1, 1, 0, 1, 0] m (scheme_of_g_e0 x0 v0_5 v0_6 v0_34 v0_4_0 v0_4_1 v0_4_2)) v0_5 v0_6 v0_34 v0_4_0 v0_4_1 v0_4_2 := by kernel_rfl
theorem scheme_of_g_q0 (n : Nat) (dec_Within : dec_Within_T) (step_Get : step_Get_T) (x0 : (List ByteArray)) (m : Nat) : ∀ (v0_5 : Bool) (v0_6 : Bool) (v0_34 : Int) (v0_4_0 : Int) (v0_4_1 : Int) (v0_4_2 : (List K.s7.den)), loopN (scheme_of_g_cx @dec_Within @step_Get) noY n Tryz.f51 (fun p _ => (tupsD (.pair K.s4 (.pair .bool .unit))) p) [1, 1, 1, 1, 1, 1, 0, 1, 0] m (scheme_of_g_e0 x0 v0_5 v0_6 v0_34 v0_4_0 v0_4_1 v0_4_2) = scheme_of_g_l0 n @dec_Within @step_Get x0 m v0_5 v0_6 v0_34 v0_4_0 v0_4_1 v0_4_2 := by
  induction m with
  | zero => intro v0_5 v0_6 v0_34 v0_4_0 v0_4_1 v0_4_2; rfl
  | succ m ih =>
    intro v0_5 v0_6 v0_34 v0_4_0 v0_4_1 v0_4_2
    rw [scheme_of_g_s0]
    have hs : (fun v0_5 v0_6 v0_34 v0_4_0 v0_4_1 v0_4_2 => loopN (scheme_of_g_cx @dec_Within @step_Get) noY n Tryz.f51 (fun p _ => (tupsD (.pair K.s4 (.pair .bool .unit))) p) [1, 1, 1, 1, 1, 1, 0, 1, 0] m (scheme_of_g_e0 x0 v0_5 v0_6 v0_34 v0_4_0 v0_4_1 v0_4_2)) = scheme_of_g_l0 n @dec_Within @step_Get x0 m := by
      funext v0_5 v0_6 v0_34 v0_4_0 v0_4_1 v0_4_2; exact ih v0_5 v0_6 v0_34 v0_4_0 v0_4_1 v0_4_2
    rw [hs]
    rfl
theorem scheme_of_g_r (n : Nat) (dec_Within : dec_Within_T) (step_Get : step_Get_T) (x0 : (List ByteArray)) : run (scheme_of_g_cx @dec_Within @step_Get) noY n Tryz.f51 [.l .str x0] [] (fun p _ => (tupsD (.pair K.s4 (.pair .bool .unit))) p) = scheme_of_g_t @dec_Within @step_Get x0 (fun v0_5 v0_6 v0_34 v0_4_0 v0_4_1 v0_4_2 => loopN (scheme_of_g_cx @dec_Within @step_Get) noY n Tryz.f51 (fun p _ => (tupsD (.pair K.s4 (.pair .bool .unit))) p) [1, 1, 1, 1, 1, 1, 0, 1, 0] n (scheme_of_g_e0 x0 v0_5 v0_6 v0_34 v0_4_0 v0_4_1 v0_4_2)) := by kernel_rfl
theorem scheme_of_g_run (n : Nat) (dec_Within : dec_Within_T) (step_Get : step_Get_T) (x0 : (List ByteArray)) : run (scheme_of_g_cx @dec_Within @step_Get) noY n Tryz.f51 [.l .str x0] [] (fun p _ => (tupsD (.pair K.s4 (.pair .bool .unit))) p) = scheme_of_g_at n @dec_Within @step_Get x0 := by
  rw [scheme_of_g_r]
  have h0' : (fun v0_5 v0_6 v0_34 v0_4_0 v0_4_1 v0_4_2 => loopN (scheme_of_g_cx @dec_Within @step_Get) noY n Tryz.f51 (fun p _ => (tupsD (.pair K.s4 (.pair .bool .unit))) p) [1, 1, 1, 1, 1, 1, 0, 1, 0] n (scheme_of_g_e0 x0 v0_5 v0_6 v0_34 v0_4_0 v0_4_1 v0_4_2)) = scheme_of_g_l0 n @dec_Within @step_Get x0 n := by funext v0_5 v0_6 v0_34 v0_4_0 v0_4_1 v0_4_2; exact scheme_of_g_q0 n @dec_Within @step_Get x0 n v0_5 v0_6 v0_34 v0_4_0 v0_4_1 v0_4_2
  rw [h0']
  rfl
def scheme_of_sp (F : scheme_of_T) : Spec := Spec.of [(.list .str)] (fun x => F x.1) (fun x => .tup (tupL (.pair K.s4 (.pair .bool .unit)) x))
def scheme_of_spec : Spec := scheme_of_sp scheme_of
theorem scheme_of_tabok : TabOK Tryz.prog lay (scheme_of_g_tab @dec_Within @step_Get) := ⟨kds_ok, eqs_ok, (Good.cons dec_Within_ok (Good.cons step_Get_ok Good.nil)), GoodH.nil, GoodR.nil, GoodI.nil⟩
theorem scheme_of_ok : CallOK Tryz.prog lay 51 scheme_of_spec.go :=
  spec_ok (T := scheme_of_g_tab @dec_Within @step_Get) (live := scheme_of_g_live) (o := ⟨[], [], [], []⟩) (fn := Tryz.f51) lay_stays scheme_of_tabok follows ⟨by kernel_rfl, by kernel_rfl, by kernel_rfl⟩ (by kernel_rfl) (fun r => freeP_tupL (k := (.pair K.s4 (.pair .bool .unit))) rfl r) (fun _ _ h => tupsD_eq h) FUEL fun x => scheme_of_g_run FUEL @dec_Within @step_Get x.1
def scheme_each_g_live : Nat → List Nat := fun b => match b with | _ => []
def scheme_each_g_tab (strings_Fields : strings_Fields_T) (scheme_of : scheme_of_T) (strings_SplitSeq_ : strings_SplitSeq__T) (strings_splitSeq_1 : strings_splitSeq_1_T) : Tab := ⟨kds, eqs, [(50, strings_Fields_sp strings_Fields), (51, scheme_of_sp scheme_of)], [(49, @strings_SplitSeq__sp @strings_SplitSeq_)], [], [(70, @strings_splitSeq_1_sp @strings_splitSeq_1)]⟩
def scheme_each_g_cx (strings_Fields : strings_Fields_T) (scheme_of : scheme_of_T) (strings_SplitSeq_ : strings_SplitSeq__T) (strings_splitSeq_1 : strings_splitSeq_1_T) : Cx := (scheme_each_g_tab @strings_Fields @scheme_of @strings_SplitSeq_ @strings_splitSeq_1).cx scheme_each_g_live ⟨[], [], [6, 23], []⟩
theorem scheme_each_g_run {ρ : Type} (n : Nat) (strings_Fields : strings_Fields_T) (scheme_of : scheme_of_T) (strings_SplitSeq_ : strings_SplitSeq__T) (strings_splitSeq_1 : strings_splitSeq_1_T) (Y : Yd ρ) (h : Hp) (fin : Hp → Option ρ) : run (scheme_each_g_cx @strings_Fields @scheme_of @strings_SplitSeq_ @strings_splitSeq_1) Y n Tryz.f38 [.yl] h (fun _ h => fin h) = scheme_each_g @strings_Fields @scheme_of @strings_SplitSeq_ @strings_splitSeq_1 (yw [.str, K.s4] Y) h fin := by kernel_rfl
def scheme_each_sp (F : scheme_each_T) : IF := iSpec [] [.str, K.s4] (fun x Y h fin => F Y h fin)
def scheme_each_spec : IF := scheme_each_sp @scheme_each
theorem scheme_each_tabok : TabOK Tryz.prog lay (scheme_each_g_tab @strings_Fields @scheme_of @strings_SplitSeq_ @strings_splitSeq_1) := ⟨kds_ok, eqs_ok, (Good.cons strings_Fields_ok (Good.cons scheme_of_ok Good.nil)), (GoodH.cons strings_SplitSeq__ok GoodH.nil), GoodR.nil, (GoodI.cons strings_splitSeq_1_ok GoodI.nil)⟩
theorem scheme_each_ok : IterOK Tryz.prog lay 38 scheme_each_spec :=
  iSpec_ok (T := scheme_each_g_tab @strings_Fields @scheme_of @strings_SplitSeq_ @strings_splitSeq_1) (live := scheme_each_g_live) (o := ⟨[], [], [6, 23], []⟩) (fn := Tryz.f38) scheme_each_tabok follows ⟨by kernel_rfl, by kernel_rfl, by kernel_rfl⟩ FUEL fun Y x h fin => scheme_each_g_run FUEL @strings_Fields @scheme_of @strings_SplitSeq_ @strings_splitSeq_1 Y h fin
def scheme_Find_g_live : Nat → List Nat := fun b => match b with | _ => []
def scheme_Find_g_tab (scheme_each : scheme_each_T) : Tab := ⟨kds, eqs, [], [], [], [(38, @scheme_each_sp @scheme_each)]⟩
def scheme_Find_g_cx (scheme_each : scheme_each_T) : Cx := (scheme_Find_g_tab @scheme_each).cx scheme_Find_g_live ⟨[2, 3], [], [], []⟩
theorem scheme_Find_g_run (n : Nat) (scheme_each : scheme_each_T) (x0 : ByteArray) : run (scheme_Find_g_cx @scheme_each) noY n Tryz.f29 [.s x0] [] (fun p _ => (tupsD (.pair K.s4 (.pair .bool .unit))) p) = scheme_Find_g @scheme_each x0 := by kernel_rfl
def scheme_Find_sp (F : scheme_Find_T) : Spec := Spec.of [.str] (fun x => F x.1) (fun x => .tup (tupL (.pair K.s4 (.pair .bool .unit)) x))
def scheme_Find_spec : Spec := scheme_Find_sp scheme_Find
theorem scheme_Find_tabok : TabOK Tryz.prog lay (scheme_Find_g_tab @scheme_each) := ⟨kds_ok, eqs_ok, Good.nil, GoodH.nil, GoodR.nil, (GoodI.cons scheme_each_ok GoodI.nil)⟩
theorem scheme_Find_ok : CallOK Tryz.prog lay 29 scheme_Find_spec.go :=
  spec_ok (T := scheme_Find_g_tab @scheme_each) (live := scheme_Find_g_live) (o := ⟨[2, 3], [], [], []⟩) (fn := Tryz.f29) lay_stays scheme_Find_tabok follows ⟨by kernel_rfl, by kernel_rfl, by kernel_rfl⟩ (by kernel_rfl) (fun r => freeP_tupL (k := (.pair K.s4 (.pair .bool .unit))) rfl r) (fun _ _ h => tupsD_eq h) FUEL fun x => scheme_Find_g_run FUEL @scheme_each x.1
def grid_New_cell_g_live : Nat → List Nat := fun b => match b with | _ => []
def grid_New_cell_g_tab (num_In : num_In_T) : Tab := ⟨kds, eqs, [(27, num_In_sp num_In)], [], [], []⟩
def grid_New_cell_g_cx (num_In : num_In_T) : Cx := (grid_New_cell_g_tab @num_In).cx grid_New_cell_g_live ⟨[20], [19], [], []⟩
theorem grid_New_cell_g_run (n : Nat) (num_In : num_In_T) (x0 : Int) (x1 : Int) (h : Hp) : run (grid_New_cell_g_cx @num_In) noY n Tryz.f76 [.i .i64 x0, .i .i64 x1] h (finH (An.v .ptr)) = grid_New_cell_g @num_In x0 x1 h := by kernel_rfl
def grid_New_cell_sp (F : grid_New_cell_T) : HF := hSpec [(.a (.pl (.int .i64))), (.a (.pl (.int .i64)))] (An.v .ptr) (fun x h => F x.1 x.2.1 h)
def grid_New_cell_spec : HF := grid_New_cell_sp grid_New_cell
theorem grid_New_cell_tabok : TabOK Tryz.prog lay (grid_New_cell_g_tab @num_In) := ⟨kds_ok, eqs_ok, (Good.cons num_In_ok Good.nil), GoodH.nil, GoodR.nil, GoodI.nil⟩
theorem grid_New_cell_ok : CallH Tryz.prog lay 76 grid_New_cell_spec :=
  hSpec_ok (T := grid_New_cell_g_tab @num_In) (live := grid_New_cell_g_live) (o := ⟨[20], [19], [], []⟩) (fn := Tryz.f76) grid_New_cell_tabok follows ⟨by kernel_rfl, by kernel_rfl, by kernel_rfl⟩ FUEL fun x h => grid_New_cell_g_run FUEL @num_In x.1 x.2.1 h
def grid_Grid_All_cell_g_live : Nat → List Nat := fun b => match b with | _ => []
def grid_Grid_All_cell_g_tab : Tab := ⟨kds, eqs, [], [], [], []⟩
def grid_Grid_All_cell_g_cx : Cx := (grid_Grid_All_cell_g_tab).cx grid_Grid_All_cell_g_live ⟨[], [], [], []⟩
theorem grid_Grid_All_cell_g_run (n : Nat) (x0 : (Option (Nat × Nat))) (h : Hp) : run grid_Grid_All_cell_g_cx noY n Tryz.f77 [.p x0] h (finH (An.clo 91 [(.ac [.ptr] 0)])) = grid_Grid_All_cell_g_c x0 h (fun r => some (r, h)) := by kernel_rfl
theorem grid_Grid_All_cell_g_nat (x0 : (Option (Nat × Nat))) (h : Hp) : grid_Grid_All_cell_g_c x0 h (fun r => some (r, h)) = (grid_Grid_All_cell_g x0 h).bind fun r => some (r, h) := by
  unfold grid_Grid_All_cell_g grid_Grid_All_cell_g_c
  rfl
def grid_Grid_All_cell_sp (F : grid_Grid_All_cell_T) : RF := rSpec [(.a (.pl .ptr))] (An.clo 91 [(.ac [.ptr] 0)]) (fun x h => F x.1 h)
def grid_Grid_All_cell_spec : RF := grid_Grid_All_cell_sp grid_Grid_All_cell
theorem grid_Grid_All_cell_tabok : TabOK Tryz.prog lay (grid_Grid_All_cell_g_tab) := ⟨kds_ok, eqs_ok, Good.nil, GoodH.nil, GoodR.nil, GoodI.nil⟩
theorem grid_Grid_All_cell_ok : CallR Tryz.prog lay 77 grid_Grid_All_cell_spec :=
  rSpec_ok (T := grid_Grid_All_cell_g_tab) (live := grid_Grid_All_cell_g_live) (o := ⟨[], [], [], []⟩) (fn := Tryz.f77) grid_Grid_All_cell_tabok follows ⟨by kernel_rfl, by kernel_rfl, by kernel_rfl⟩ (by kernel_rfl) An.clo_o FUEL fun x h => (grid_Grid_All_cell_g_run FUEL x.1 h).trans (grid_Grid_All_cell_g_nat x.1 h)
def CloneH_sp (F : CloneH_T) : HF := hSpec [.hr .ptr] (An.o true .ptr) (fun x h => F x.1.1 x.1.2 h)
def CloneH_spec : HF := CloneH_sp CloneH
theorem CloneH_ok : CallH Tryz.prog lay 92 CloneH_spec := cloneH_ok Tryz.clone92 rfl ⟨Tryz.f92, Tryz.func92, by kernel_rfl, by kernel_rfl⟩ (by decide) (show fitsB _ _ _ = true by kernel_rfl)
def grid_Grid_All_1_cell_g_live : Nat → List Nat := fun b => match b with | 0 => [0, 1, 11, 12, 13] | _ => []
def grid_Grid_All_1_cell_g_tab (CloneH : CloneH_T) : Tab := ⟨kds, eqs, [], [(92, @CloneH_sp @CloneH)], [], []⟩
def grid_Grid_All_1_cell_g_cx (CloneH : CloneH_T) : Cx := (grid_Grid_All_1_cell_g_tab @CloneH).cx grid_Grid_All_1_cell_g_live ⟨[], [10], [11, 33], []⟩
def grid_Grid_All_1_cell_g_e0 (x0_0 : (Option (Nat × Nat))) (h : Hp) (v0_11 : (List (Option (Nat × Nat)))) (v0_12 : Int) (v0_13 : Int) (v0_h : Hp) : Env :=
  ⟨[.yl, .ac [.p x0_0] 0] ++ List.replicate 9 .un ++ [.o true .ptr v0_11, .i .i64 v0_12, .i .i64 v0_13] ++ List.replicate 22 .un, List.replicate 36 [], v0_h⟩
theorem grid_Grid_All_1_cell_g_s0 {ρ : Type} (n : Nat) (m : Nat) (CloneH : CloneH_T) (x0_0 : (Option (Nat × Nat))) (Y : Yd ρ) (h : Hp) (fin : Hp → Option ρ) (v0_11 : (List (Option (Nat × Nat)))) (v0_12 : Int) (v0_13 : Int) (v0_h : Hp) : loopN (grid_Grid_All_1_cell_g_cx @CloneH) Y n Tryz.f91 (fun _ h => fin h) [1, 1, 0] (m + 1) (grid_Grid_All_1_cell_g_e0 x0_0 h v0_11 v0_12 v0_13 v0_h) =
    grid_Grid_All_1_cell_g_b0 @CloneH x0_0 (yw [K.s3, .ptr] Y) h fin (fun v0_11 v0_12 v0_13 v0_h => loopN (grid_Grid_All_1_cell_g_cx @CloneH) Y n Tryz.f91 (fun _ h => fin h) [1, 1, 0] m (grid_Grid_All_1_cell_g_e0 x0_0 h v0_11 v0_12 v0_13 v0_h)) v0_11 v0_12 v0_13 v0_h := by kernel_rfl
theorem grid_Grid_All_1_cell_g_q0 {ρ : Type} (n : Nat) (CloneH : CloneH_T) (x0_0 : (Option (Nat × Nat))) (Y : Yd ρ) (h : Hp) (fin : Hp → Option ρ) (m : Nat) : ∀ (v0_11 : (List (Option (Nat × Nat)))) (v0_12 : Int) (v0_13 : Int) (v0_h : Hp), loopN (grid_Grid_All_1_cell_g_cx @CloneH) Y n Tryz.f91 (fun _ h => fin h) [1, 1, 0] m (grid_Grid_All_1_cell_g_e0 x0_0 h v0_11 v0_12 v0_13 v0_h) = grid_Grid_All_1_cell_g_l0 n @CloneH x0_0 (yw [K.s3, .ptr] Y) h fin m v0_11 v0_12 v0_13 v0_h := by
  induction m with
  | zero => intro v0_11 v0_12 v0_13 v0_h; rfl
  | succ m ih =>
    intro v0_11 v0_12 v0_13 v0_h
    rw [grid_Grid_All_1_cell_g_s0]
    have hs : (fun v0_11 v0_12 v0_13 v0_h => loopN (grid_Grid_All_1_cell_g_cx @CloneH) Y n Tryz.f91 (fun _ h => fin h) [1, 1, 0] m (grid_Grid_All_1_cell_g_e0 x0_0 h v0_11 v0_12 v0_13 v0_h)) = grid_Grid_All_1_cell_g_l0 n @CloneH x0_0 (yw [K.s3, .ptr] Y) h fin m := by
      funext v0_11 v0_12 v0_13 v0_h; exact ih v0_11 v0_12 v0_13 v0_h
    rw [hs]
    rfl
theorem grid_Grid_All_1_cell_g_r {ρ : Type} (n : Nat) (CloneH : CloneH_T) (x0_0 : (Option (Nat × Nat))) (Y : Yd ρ) (h : Hp) (fin : Hp → Option ρ) : run (grid_Grid_All_1_cell_g_cx @CloneH) Y n Tryz.f91 [.yl, .ac [.p x0_0] 0] h (fun _ h => fin h) = grid_Grid_All_1_cell_g_t @CloneH x0_0 (yw [K.s3, .ptr] Y) h fin (fun v0_11 v0_12 v0_13 v0_h => loopN (grid_Grid_All_1_cell_g_cx @CloneH) Y n Tryz.f91 (fun _ h => fin h) [1, 1, 0] n (grid_Grid_All_1_cell_g_e0 x0_0 h v0_11 v0_12 v0_13 v0_h)) := by kernel_rfl
theorem grid_Grid_All_1_cell_g_run {ρ : Type} (n : Nat) (CloneH : CloneH_T) (x0_0 : (Option (Nat × Nat))) (Y : Yd ρ) (h : Hp) (fin : Hp → Option ρ) : run (grid_Grid_All_1_cell_g_cx @CloneH) Y n Tryz.f91 [.yl, .ac [.p x0_0] 0] h (fun _ h => fin h) = grid_Grid_All_1_cell_g_at n @CloneH x0_0 (yw [K.s3, .ptr] Y) h fin := by
  rw [grid_Grid_All_1_cell_g_r]
  have h0' : (fun v0_11 v0_12 v0_13 v0_h => loopN (grid_Grid_All_1_cell_g_cx @CloneH) Y n Tryz.f91 (fun _ h => fin h) [1, 1, 0] n (grid_Grid_All_1_cell_g_e0 x0_0 h v0_11 v0_12 v0_13 v0_h)) = grid_Grid_All_1_cell_g_l0 n @CloneH x0_0 (yw [K.s3, .ptr] Y) h fin n := by funext v0_11 v0_12 v0_13 v0_h; exact grid_Grid_All_1_cell_g_q0 n @CloneH x0_0 Y h fin n v0_11 v0_12 v0_13 v0_h
  rw [h0']
  rfl
def grid_Grid_All_1_cell_sp (F : grid_Grid_All_1_cell_T) : IF := iSpec [(.a (.ac [.ptr] 0))] [K.s3, .ptr] (fun x Y h fin => F x.1.1 Y h fin)
def grid_Grid_All_1_cell_spec : IF := grid_Grid_All_1_cell_sp @grid_Grid_All_1_cell
theorem grid_Grid_All_1_cell_tabok : TabOK Tryz.prog lay (grid_Grid_All_1_cell_g_tab @CloneH) := ⟨kds_ok, eqs_ok, Good.nil, (GoodH.cons CloneH_ok GoodH.nil), GoodR.nil, GoodI.nil⟩
theorem grid_Grid_All_1_cell_ok : IterOK Tryz.prog lay 91 grid_Grid_All_1_cell_spec :=
  iSpec_ok (T := grid_Grid_All_1_cell_g_tab @CloneH) (live := grid_Grid_All_1_cell_g_live) (o := ⟨[], [10], [11, 33], []⟩) (fn := Tryz.f91) grid_Grid_All_1_cell_tabok follows ⟨by kernel_rfl, by kernel_rfl, by kernel_rfl⟩ FUEL fun Y x h fin => grid_Grid_All_1_cell_g_run FUEL @CloneH x.1.1 Y h fin
def Clone_sp (F : Clone_T) : Spec := Spec.of [.list K.s10] (fun x => F x.1) (fun x => .o true K.s10 x)
def Clone_spec : Spec := Clone_sp Clone
theorem Clone_ok : CallOK Tryz.prog lay 94 Clone_spec.go := clone_ok Tryz.clone94 rfl ⟨Tryz.f94, Tryz.func94, by kernel_rfl, by kernel_rfl⟩ (by decide) (show fitsB _ _ _ = true by kernel_rfl)
def deck_Of_cell_g_live : Nat → List Nat := fun b => match b with | _ => []
def deck_Of_cell_g_tab (Clone : Clone_T) : Tab := ⟨kds, eqs, [(94, Clone_sp Clone)], [], [], []⟩
def deck_Of_cell_g_cx (Clone : Clone_T) : Cx := (deck_Of_cell_g_tab @Clone).cx deck_Of_cell_g_live ⟨[6], [5], [], []⟩
theorem deck_Of_cell_g_run (n : Nat) (Clone : Clone_T) (x0 : (List K.s10.den)) (h : Hp) : run (deck_Of_cell_g_cx @Clone) noY n Tryz.f79 [.l K.s10 x0] h (finH (An.v .ptr)) = deck_Of_cell_g @Clone x0 h := by kernel_rfl
def deck_Of_cell_sp (F : deck_Of_cell_T) : HF := hSpec [(.a (.pl (.list K.s10)))] (An.v .ptr) (fun x h => F x.1 h)
def deck_Of_cell_spec : HF := deck_Of_cell_sp deck_Of_cell
theorem deck_Of_cell_tabok : TabOK Tryz.prog lay (deck_Of_cell_g_tab @Clone) := ⟨kds_ok, eqs_ok, (Good.cons Clone_ok Good.nil), GoodH.nil, GoodR.nil, GoodI.nil⟩
theorem deck_Of_cell_ok : CallH Tryz.prog lay 79 deck_Of_cell_spec :=
  hSpec_ok (T := deck_Of_cell_g_tab @Clone) (live := deck_Of_cell_g_live) (o := ⟨[6], [5], [], []⟩) (fn := Tryz.f79) deck_Of_cell_tabok follows ⟨by kernel_rfl, by kernel_rfl, by kernel_rfl⟩ FUEL fun x h => deck_Of_cell_g_run FUEL @Clone x.1 h
def grid_Grid_Cols_cell_g_live : Nat → List Nat := fun b => match b with | _ => []
def grid_Grid_Cols_cell_g_tab : Tab := ⟨kds, eqs, [], [], [], []⟩
def grid_Grid_Cols_cell_g_cx : Cx := (grid_Grid_Cols_cell_g_tab).cx grid_Grid_Cols_cell_g_live ⟨[], [], [], []⟩
theorem grid_Grid_Cols_cell_g_run (n : Nat) (x0 : (Option (Nat × Nat))) (h : Hp) : run grid_Grid_Cols_cell_g_cx noY n Tryz.f105 [.p x0] h (finH (An.v (.int .i64))) = grid_Grid_Cols_cell_g_c x0 h (fun r => some (r, h)) := by kernel_rfl
theorem grid_Grid_Cols_cell_g_nat (x0 : (Option (Nat × Nat))) (h : Hp) : grid_Grid_Cols_cell_g_c x0 h (fun r => some (r, h)) = (grid_Grid_Cols_cell_g x0 h).bind fun r => some (r, h) := by
  unfold grid_Grid_Cols_cell_g grid_Grid_Cols_cell_g_c
  refine bif_nat ?_ ?_
  · rfl
  · refine bind_nat fun q1 => ?_
    refine bind_nat fun r2 => ?_
    rfl
def grid_Grid_Cols_cell_sp (F : grid_Grid_Cols_cell_T) : RF := rSpec [(.a (.pl .ptr))] (An.v (.int .i64)) (fun x h => F x.1 h)
def grid_Grid_Cols_cell_spec : RF := grid_Grid_Cols_cell_sp grid_Grid_Cols_cell
theorem grid_Grid_Cols_cell_tabok : TabOK Tryz.prog lay (grid_Grid_Cols_cell_g_tab) := ⟨kds_ok, eqs_ok, Good.nil, GoodH.nil, GoodR.nil, GoodI.nil⟩
theorem grid_Grid_Cols_cell_ok : CallR Tryz.prog lay 105 grid_Grid_Cols_cell_spec :=
  rSpec_ok (T := grid_Grid_Cols_cell_g_tab) (live := grid_Grid_Cols_cell_g_live) (o := ⟨[], [], [], []⟩) (fn := Tryz.f105) grid_Grid_Cols_cell_tabok follows ⟨by kernel_rfl, by kernel_rfl, by kernel_rfl⟩ (by kernel_rfl) An.v_o FUEL fun x h => (grid_Grid_Cols_cell_g_run FUEL x.1 h).trans (grid_Grid_Cols_cell_g_nat x.1 h)
def grid_Grid_Rows_cell_g_live : Nat → List Nat := fun b => match b with | _ => []
def grid_Grid_Rows_cell_g_tab : Tab := ⟨kds, eqs, [], [], [], []⟩
def grid_Grid_Rows_cell_g_cx : Cx := (grid_Grid_Rows_cell_g_tab).cx grid_Grid_Rows_cell_g_live ⟨[], [], [], []⟩
theorem grid_Grid_Rows_cell_g_run (n : Nat) (x0 : (Option (Nat × Nat))) (h : Hp) : run grid_Grid_Rows_cell_g_cx noY n Tryz.f106 [.p x0] h (finH (An.v (.int .i64))) = grid_Grid_Rows_cell_g_c x0 h (fun r => some (r, h)) := by kernel_rfl
theorem grid_Grid_Rows_cell_g_nat (x0 : (Option (Nat × Nat))) (h : Hp) : grid_Grid_Rows_cell_g_c x0 h (fun r => some (r, h)) = (grid_Grid_Rows_cell_g x0 h).bind fun r => some (r, h) := by
  unfold grid_Grid_Rows_cell_g grid_Grid_Rows_cell_g_c
  refine bif_nat ?_ ?_
  · rfl
  · refine bind_nat fun q1 => ?_
    refine bind_nat fun r2 => ?_
    rfl
def grid_Grid_Rows_cell_sp (F : grid_Grid_Rows_cell_T) : RF := rSpec [(.a (.pl .ptr))] (An.v (.int .i64)) (fun x h => F x.1 h)
def grid_Grid_Rows_cell_spec : RF := grid_Grid_Rows_cell_sp grid_Grid_Rows_cell
theorem grid_Grid_Rows_cell_tabok : TabOK Tryz.prog lay (grid_Grid_Rows_cell_g_tab) := ⟨kds_ok, eqs_ok, Good.nil, GoodH.nil, GoodR.nil, GoodI.nil⟩
theorem grid_Grid_Rows_cell_ok : CallR Tryz.prog lay 106 grid_Grid_Rows_cell_spec :=
  rSpec_ok (T := grid_Grid_Rows_cell_g_tab) (live := grid_Grid_Rows_cell_g_live) (o := ⟨[], [], [], []⟩) (fn := Tryz.f106) grid_Grid_Rows_cell_tabok follows ⟨by kernel_rfl, by kernel_rfl, by kernel_rfl⟩ (by kernel_rfl) An.v_o FUEL fun x h => (grid_Grid_Rows_cell_g_run FUEL x.1 h).trans (grid_Grid_Rows_cell_g_nat x.1 h)
def grid_Grid_cell_cell_g_live : Nat → List Nat := fun b => match b with | _ => []
def grid_Grid_cell_cell_g_tab (num_In : num_In_T) (grid_Grid_Cols_cell : grid_Grid_Cols_cell_T) (grid_Grid_Rows_cell : grid_Grid_Rows_cell_T) : Tab := ⟨kds, eqs, [(27, num_In_sp num_In)], [], [(105, @grid_Grid_Cols_cell_sp @grid_Grid_Cols_cell), (106, @grid_Grid_Rows_cell_sp @grid_Grid_Rows_cell)], []⟩
def grid_Grid_cell_cell_g_cx (num_In : num_In_T) (grid_Grid_Cols_cell : grid_Grid_Cols_cell_T) (grid_Grid_Rows_cell : grid_Grid_Rows_cell_T) : Cx := (grid_Grid_cell_cell_g_tab @num_In @grid_Grid_Cols_cell @grid_Grid_Rows_cell).cx grid_Grid_cell_cell_g_live ⟨[], [24], [], [9, 16]⟩
theorem grid_Grid_cell_cell_g_run (n : Nat) (num_In : num_In_T) (grid_Grid_Cols_cell : grid_Grid_Cols_cell_T) (grid_Grid_Rows_cell : grid_Grid_Rows_cell_T) (x0 : (Option (Nat × Nat))) (x1 : Int) (x2 : Int) (h : Hp) : run (grid_Grid_cell_cell_g_cx @num_In @grid_Grid_Cols_cell @grid_Grid_Rows_cell) noY n Tryz.f93 [.p x0, .i .i64 x1, .i .i64 x2] h (finH (An.rh .ptr)) = grid_Grid_cell_cell_g_c @num_In @grid_Grid_Cols_cell @grid_Grid_Rows_cell x0 x1 x2 h (fun r => some (r, h)) := by kernel_rfl
theorem grid_Grid_cell_cell_g_nat (num_In : num_In_T) (grid_Grid_Cols_cell : grid_Grid_Cols_cell_T) (grid_Grid_Rows_cell : grid_Grid_Rows_cell_T) (x0 : (Option (Nat × Nat))) (x1 : Int) (x2 : Int) (h : Hp) : grid_Grid_cell_cell_g_c @num_In @grid_Grid_Cols_cell @grid_Grid_Rows_cell x0 x1 x2 h (fun r => some (r, h)) = (grid_Grid_cell_cell_g @num_In @grid_Grid_Cols_cell @grid_Grid_Rows_cell x0 x1 x2 h).bind fun r => some (r, h) := by
  unfold grid_Grid_cell_cell_g grid_Grid_cell_cell_g_c
  refine bind_nat fun r1 => ?_
  refine bind_nat fun r2 => ?_
  refine bif_nat ?_ ?_
  · rfl
  · refine bind_nat fun r3 => ?_
    refine bind_nat fun r4 => ?_
    refine bif_nat ?_ ?_
    · rfl
    · refine bind_nat fun q5 => ?_
      refine bind_nat fun r6 => ?_
      refine bind_nat fun q7 => ?_
      refine bind_nat fun r8 => ?_
      refine bind_nat fun r9 => ?_
      refine bif_nat ?_ ?_
      · rfl
      · rfl
def grid_Grid_cell_cell_sp (F : grid_Grid_cell_cell_T) : RF := rSpec [(.a (.pl .ptr)), (.a (.pl (.int .i64))), (.a (.pl (.int .i64)))] (An.rh .ptr) (fun x h => F x.1 x.2.1 x.2.2.1 h)
def grid_Grid_cell_cell_spec : RF := grid_Grid_cell_cell_sp grid_Grid_cell_cell
theorem grid_Grid_cell_cell_tabok : TabOK Tryz.prog lay (grid_Grid_cell_cell_g_tab @num_In @grid_Grid_Cols_cell @grid_Grid_Rows_cell) := ⟨kds_ok, eqs_ok, (Good.cons num_In_ok Good.nil), GoodH.nil, (GoodR.cons grid_Grid_Cols_cell_ok (GoodR.cons grid_Grid_Rows_cell_ok GoodR.nil)), GoodI.nil⟩
theorem grid_Grid_cell_cell_ok : CallR Tryz.prog lay 93 grid_Grid_cell_cell_spec :=
  rSpec_ok (T := grid_Grid_cell_cell_g_tab @num_In @grid_Grid_Cols_cell @grid_Grid_Rows_cell) (live := grid_Grid_cell_cell_g_live) (o := ⟨[], [24], [], [9, 16]⟩) (fn := Tryz.f93) grid_Grid_cell_cell_tabok follows ⟨by kernel_rfl, by kernel_rfl, by kernel_rfl⟩ (by kernel_rfl) An.rh_o FUEL fun x h => (grid_Grid_cell_cell_g_run FUEL @num_In @grid_Grid_Cols_cell @grid_Grid_Rows_cell x.1 x.2.1 x.2.2.1 h).trans (grid_Grid_cell_cell_g_nat @num_In @grid_Grid_Cols_cell @grid_Grid_Rows_cell x.1 x.2.1 x.2.2.1 h)
def grid_Grid_Set_cell_g_live : Nat → List Nat := fun b => match b with | _ => []
def grid_Grid_Set_cell_g_tab (grid_Grid_cell_cell : grid_Grid_cell_cell_T) : Tab := ⟨kds, eqs, [], [], [(93, @grid_Grid_cell_cell_sp @grid_Grid_cell_cell)], []⟩
def grid_Grid_Set_cell_g_cx (grid_Grid_cell_cell : grid_Grid_cell_cell_T) : Cx := (grid_Grid_Set_cell_g_tab @grid_Grid_cell_cell).cx grid_Grid_Set_cell_g_live ⟨[], [], [], [13]⟩
theorem grid_Grid_Set_cell_g_run (n : Nat) (grid_Grid_cell_cell : grid_Grid_cell_cell_T) (x0 : (Option (Nat × Nat))) (x1 : Int) (x2 : Int) (x3 : (Option (Nat × Nat))) (h : Hp) : run (grid_Grid_Set_cell_g_cx @grid_Grid_cell_cell) noY n Tryz.f78 [.p x0, .i .i64 x1, .i .i64 x2, .p x3] h (finH (An.v .bool)) = grid_Grid_Set_cell_g @grid_Grid_cell_cell x0 x1 x2 x3 h := by kernel_rfl
def grid_Grid_Set_cell_sp (F : grid_Grid_Set_cell_T) : HF := hSpec [(.a (.pl .ptr)), (.a (.pl (.int .i64))), (.a (.pl (.int .i64))), (.a (.pl .ptr))] (An.v .bool) (fun x h => F x.1 x.2.1 x.2.2.1 x.2.2.2.1 h)
def grid_Grid_Set_cell_spec : HF := grid_Grid_Set_cell_sp grid_Grid_Set_cell
theorem grid_Grid_Set_cell_tabok : TabOK Tryz.prog lay (grid_Grid_Set_cell_g_tab @grid_Grid_cell_cell) := ⟨kds_ok, eqs_ok, Good.nil, GoodH.nil, (GoodR.cons grid_Grid_cell_cell_ok GoodR.nil), GoodI.nil⟩
theorem grid_Grid_Set_cell_ok : CallH Tryz.prog lay 78 grid_Grid_Set_cell_spec :=
  hSpec_ok (T := grid_Grid_Set_cell_g_tab @grid_Grid_cell_cell) (live := grid_Grid_Set_cell_g_live) (o := ⟨[], [], [], [13]⟩) (fn := Tryz.f78) grid_Grid_Set_cell_tabok follows ⟨by kernel_rfl, by kernel_rfl, by kernel_rfl⟩ FUEL fun x h => grid_Grid_Set_cell_g_run FUEL @grid_Grid_cell_cell x.1 x.2.1 x.2.2.1 x.2.2.2.1 h
def grid_Grid_Part_cell_g_live : Nat → List Nat := fun b => match b with | _ => []
def grid_Grid_Part_cell_g_tab (num_In : num_In_T) (grid_New_cell : grid_New_cell_T) (grid_Grid_Set_cell : grid_Grid_Set_cell_T) (grid_Grid_All_cell : grid_Grid_All_cell_T) (grid_Grid_cell_cell : grid_Grid_cell_cell_T) (grid_Grid_All_1_cell : grid_Grid_All_1_cell_T) : Tab := ⟨kds, eqs, [(27, num_In_sp num_In)], [(76, @grid_New_cell_sp @grid_New_cell), (78, @grid_Grid_Set_cell_sp @grid_Grid_Set_cell)], [(77, @grid_Grid_All_cell_sp @grid_Grid_All_cell), (93, @grid_Grid_cell_cell_sp @grid_Grid_cell_cell)], [(91, @grid_Grid_All_1_cell_sp @grid_Grid_All_1_cell)]⟩
def grid_Grid_Part_cell_g_cx (num_In : num_In_T) (grid_New_cell : grid_New_cell_T) (grid_Grid_Set_cell : grid_Grid_Set_cell_T) (grid_Grid_All_cell : grid_Grid_All_cell_T) (grid_Grid_cell_cell : grid_Grid_cell_cell_T) (grid_Grid_All_1_cell : grid_Grid_All_1_cell_T) : Cx := (grid_Grid_Part_cell_g_tab @num_In @grid_New_cell @grid_Grid_Set_cell @grid_Grid_All_cell @grid_Grid_cell_cell @grid_Grid_All_1_cell).cx grid_Grid_Part_cell_g_live ⟨[], [], [42, 64], [16, 44, 61]⟩
theorem grid_Grid_Part_cell_g_run (n : Nat) (num_In : num_In_T) (grid_New_cell : grid_New_cell_T) (grid_Grid_Set_cell : grid_Grid_Set_cell_T) (grid_Grid_All_cell : grid_Grid_All_cell_T) (grid_Grid_cell_cell : grid_Grid_cell_cell_T) (grid_Grid_All_1_cell : grid_Grid_All_1_cell_T) (x0 : (Option (Nat × Nat))) (x1 : Int) (x2 : Int) (x3 : Int) (x4 : Int) (h : Hp) : run (grid_Grid_Part_cell_g_cx @num_In @grid_New_cell @grid_Grid_Set_cell @grid_Grid_All_cell @grid_Grid_cell_cell @grid_Grid_All_1_cell) noY n Tryz.f112 [.p x0, .i .i64 x1, .i .i64 x2, .i .i64 x3, .i .i64 x4] h (finH (An.v .ptr)) = grid_Grid_Part_cell_g @num_In @grid_New_cell @grid_Grid_Set_cell @grid_Grid_All_cell @grid_Grid_cell_cell @grid_Grid_All_1_cell x0 x1 x2 x3 x4 h := by kernel_rfl
def grid_Grid_Part_cell_sp (F : grid_Grid_Part_cell_T) : HF := hSpec [(.a (.pl .ptr)), (.a (.pl (.int .i64))), (.a (.pl (.int .i64))), (.a (.pl (.int .i64))), (.a (.pl (.int .i64)))] (An.v .ptr) (fun x h => F x.1 x.2.1 x.2.2.1 x.2.2.2.1 x.2.2.2.2.1 h)
def grid_Grid_Part_cell_spec : HF := grid_Grid_Part_cell_sp grid_Grid_Part_cell
theorem grid_Grid_Part_cell_tabok : TabOK Tryz.prog lay (grid_Grid_Part_cell_g_tab @num_In @grid_New_cell @grid_Grid_Set_cell @grid_Grid_All_cell @grid_Grid_cell_cell @grid_Grid_All_1_cell) := ⟨kds_ok, eqs_ok, (Good.cons num_In_ok Good.nil), (GoodH.cons grid_New_cell_ok (GoodH.cons grid_Grid_Set_cell_ok GoodH.nil)), (GoodR.cons grid_Grid_All_cell_ok (GoodR.cons grid_Grid_cell_cell_ok GoodR.nil)), (GoodI.cons grid_Grid_All_1_cell_ok GoodI.nil)⟩
theorem grid_Grid_Part_cell_ok : CallH Tryz.prog lay 112 grid_Grid_Part_cell_spec :=
  hSpec_ok (T := grid_Grid_Part_cell_g_tab @num_In @grid_New_cell @grid_Grid_Set_cell @grid_Grid_All_cell @grid_Grid_cell_cell @grid_Grid_All_1_cell) (live := grid_Grid_Part_cell_g_live) (o := ⟨[], [], [42, 64], [16, 44, 61]⟩) (fn := Tryz.f112) grid_Grid_Part_cell_tabok follows ⟨by kernel_rfl, by kernel_rfl, by kernel_rfl⟩ FUEL fun x h => grid_Grid_Part_cell_g_run FUEL @num_In @grid_New_cell @grid_Grid_Set_cell @grid_Grid_All_cell @grid_Grid_cell_cell @grid_Grid_All_1_cell x.1 x.2.1 x.2.2.1 x.2.2.2.1 x.2.2.2.2.1 h
def grid_Grid_At_cell_g_live : Nat → List Nat := fun b => match b with | _ => []
def grid_Grid_At_cell_g_tab (grid_Grid_cell_cell : grid_Grid_cell_cell_T) : Tab := ⟨kds, eqs, [], [], [(93, @grid_Grid_cell_cell_sp @grid_Grid_cell_cell)], []⟩
def grid_Grid_At_cell_g_cx (grid_Grid_cell_cell : grid_Grid_cell_cell_T) : Cx := (grid_Grid_At_cell_g_tab @grid_Grid_cell_cell).cx grid_Grid_At_cell_g_live ⟨[], [], [], [12]⟩
theorem grid_Grid_At_cell_g_run (n : Nat) (grid_Grid_cell_cell : grid_Grid_cell_cell_T) (x0 : (Option (Nat × Nat))) (x1 : Int) (x2 : Int) (h : Hp) : run (grid_Grid_At_cell_g_cx @grid_Grid_cell_cell) noY n Tryz.f81 [.p x0, .i .i64 x1, .i .i64 x2] h (finH (An.tup (.pair .ptr (.pair .bool .unit)))) = grid_Grid_At_cell_g_c @grid_Grid_cell_cell x0 x1 x2 h (fun r => some (r, h)) := by kernel_rfl
theorem grid_Grid_At_cell_g_nat (grid_Grid_cell_cell : grid_Grid_cell_cell_T) (x0 : (Option (Nat × Nat))) (x1 : Int) (x2 : Int) (h : Hp) : grid_Grid_At_cell_g_c @grid_Grid_cell_cell x0 x1 x2 h (fun r => some (r, h)) = (grid_Grid_At_cell_g @grid_Grid_cell_cell x0 x1 x2 h).bind fun r => some (r, h) := by
  unfold grid_Grid_At_cell_g grid_Grid_At_cell_g_c
  refine bind_nat fun r1 => ?_
  cases r1 with
  | none =>
    rfl
  | some q2 =>
    refine bind_nat fun r3 => ?_
    refine bind_nat fun r4 => ?_
    refine bind_nat fun r5 => ?_
    rfl
def grid_Grid_At_cell_sp (F : grid_Grid_At_cell_T) : RF := rSpec [(.a (.pl .ptr)), (.a (.pl (.int .i64))), (.a (.pl (.int .i64)))] (An.tup (.pair .ptr (.pair .bool .unit))) (fun x h => F x.1 x.2.1 x.2.2.1 h)
def grid_Grid_At_cell_spec : RF := grid_Grid_At_cell_sp grid_Grid_At_cell
theorem grid_Grid_At_cell_tabok : TabOK Tryz.prog lay (grid_Grid_At_cell_g_tab @grid_Grid_cell_cell) := ⟨kds_ok, eqs_ok, Good.nil, GoodH.nil, (GoodR.cons grid_Grid_cell_cell_ok GoodR.nil), GoodI.nil⟩
theorem grid_Grid_At_cell_ok : CallR Tryz.prog lay 81 grid_Grid_At_cell_spec :=
  rSpec_ok (T := grid_Grid_At_cell_g_tab @grid_Grid_cell_cell) (live := grid_Grid_At_cell_g_live) (o := ⟨[], [], [], [12]⟩) (fn := Tryz.f81) grid_Grid_At_cell_tabok follows ⟨by kernel_rfl, by kernel_rfl, by kernel_rfl⟩ (by kernel_rfl) An.tup_o FUEL fun x h => (grid_Grid_At_cell_g_run FUEL @grid_Grid_cell_cell x.1 x.2.1 x.2.2.1 h).trans (grid_Grid_At_cell_g_nat @grid_Grid_cell_cell x.1 x.2.1 x.2.2.1 h)
def unfold_flip_g_live : Nat → List Nat := fun b => match b with | _ => []
def unfold_flip_g_tab : Tab := ⟨kds, eqs, [], [], [], []⟩
def unfold_flip_g_cx : Cx := (unfold_flip_g_tab).cx unfold_flip_g_live ⟨[], [], [], []⟩
theorem unfold_flip_g_run (n : Nat) (x0 : Bool) : run unfold_flip_g_cx noY n Tryz.f109 [.b x0] [] (fun p _ => (An.clo 122 [(.ac [.bool] 0)]).fin p) = unfold_flip_g x0 := by kernel_rfl
def unfold_flip_sp (F : unfold_flip_T) : Spec := pSpec [(.a (.pl .bool))] (An.clo 122 [(.ac [.bool] 0)]) (fun x => F x.1)
def unfold_flip_spec : Spec := unfold_flip_sp unfold_flip
theorem unfold_flip_tabok : TabOK Tryz.prog lay (unfold_flip_g_tab) := ⟨kds_ok, eqs_ok, Good.nil, GoodH.nil, GoodR.nil, GoodI.nil⟩
theorem unfold_flip_ok : CallOK Tryz.prog lay 109 unfold_flip_spec.go :=
  pSpec_ok (T := unfold_flip_g_tab) (live := unfold_flip_g_live) (o := ⟨[], [], [], []⟩) (fn := Tryz.f109) lay_stays unfold_flip_tabok follows ⟨by kernel_rfl, by kernel_rfl, by kernel_rfl⟩ (by kernel_rfl) (An.clo_f (by kernel_rfl)) FUEL fun x => unfold_flip_g_run FUEL x.1
def deck_Deck_list_cell_g_live : Nat → List Nat := fun b => match b with | _ => []
def deck_Deck_list_cell_g_tab : Tab := ⟨kds, eqs, [], [], [], []⟩
def deck_Deck_list_cell_g_cx : Cx := (deck_Deck_list_cell_g_tab).cx deck_Deck_list_cell_g_live ⟨[], [8], [], []⟩
theorem deck_Deck_list_cell_g_run (n : Nat) (x0 : (Option (Nat × Nat))) (h : Hp) : run deck_Deck_list_cell_g_cx noY n Tryz.f97 [.p x0] h (finH (An.hr K.s10)) = deck_Deck_list_cell_g_c x0 h (fun r => some (r, h)) := by kernel_rfl
theorem deck_Deck_list_cell_g_nat (x0 : (Option (Nat × Nat))) (h : Hp) : deck_Deck_list_cell_g_c x0 h (fun r => some (r, h)) = (deck_Deck_list_cell_g x0 h).bind fun r => some (r, h) := by
  unfold deck_Deck_list_cell_g deck_Deck_list_cell_g_c
  refine bif_nat ?_ ?_
  · rfl
  · refine bind_nat fun q1 => ?_
    refine bind_nat fun r2 => ?_
    rfl
def deck_Deck_list_cell_sp (F : deck_Deck_list_cell_T) : RF := rSpec [(.a (.pl .ptr))] (An.hr K.s10) (fun x h => F x.1 h)
def deck_Deck_list_cell_spec : RF := deck_Deck_list_cell_sp deck_Deck_list_cell
theorem deck_Deck_list_cell_tabok : TabOK Tryz.prog lay (deck_Deck_list_cell_g_tab) := ⟨kds_ok, eqs_ok, Good.nil, GoodH.nil, GoodR.nil, GoodI.nil⟩
theorem deck_Deck_list_cell_ok : CallR Tryz.prog lay 97 deck_Deck_list_cell_spec :=
  rSpec_ok (T := deck_Deck_list_cell_g_tab) (live := deck_Deck_list_cell_g_live) (o := ⟨[], [8], [], []⟩) (fn := Tryz.f97) deck_Deck_list_cell_tabok follows ⟨by kernel_rfl, by kernel_rfl, by kernel_rfl⟩ (by kernel_rfl) An.hr_o FUEL fun x h => (deck_Deck_list_cell_g_run FUEL x.1 h).trans (deck_Deck_list_cell_g_nat x.1 h)
def slices_Reverse_cell_g_live : Nat → List Nat := fun b => match b with | 0 => [0, 2, 3] | _ => []
def slices_Reverse_cell_g_tab : Tab := ⟨kds, eqs, [], [], [], []⟩
def slices_Reverse_cell_g_cx : Cx := (slices_Reverse_cell_g_tab).cx slices_Reverse_cell_g_live ⟨[], [], [], []⟩
def slices_Reverse_cell_g_e0 (x0_0 : Nat) (x0_1 : Nat) (h : Hp) (v0_2 : Int) (v0_3 : Int) (v0_h : Hp) : Env :=
  ⟨[.r (.b (.h x0_0) x0_1), .un, .i .i64 v0_2, .i .i64 v0_3] ++ List.replicate 24 .un, List.replicate 28 [], v0_h⟩
theorem slices_Reverse_cell_g_s0 (n : Nat) (m : Nat) (x0_0 : Nat) (x0_1 : Nat) (h : Hp) (v0_2 : Int) (v0_3 : Int) (v0_h : Hp) : loopN slices_Reverse_cell_g_cx noY n Tryz.f121 (finH (An.tup .unit)) [1, 0] (m + 1) (slices_Reverse_cell_g_e0 x0_0 x0_1 h v0_2 v0_3 v0_h) =
    slices_Reverse_cell_g_b0 x0_0 x0_1 h (fun v0_2 v0_3 v0_h => loopN slices_Reverse_cell_g_cx noY n Tryz.f121 (finH (An.tup .unit)) [1, 0] m (slices_Reverse_cell_g_e0 x0_0 x0_1 h v0_2 v0_3 v0_h)) v0_2 v0_3 v0_h := by kernel_rfl
theorem slices_Reverse_cell_g_q0 (n : Nat) (x0_0 : Nat) (x0_1 : Nat) (h : Hp) (m : Nat) : ∀ (v0_2 : Int) (v0_3 : Int) (v0_h : Hp), loopN slices_Reverse_cell_g_cx noY n Tryz.f121 (finH (An.tup .unit)) [1, 0] m (slices_Reverse_cell_g_e0 x0_0 x0_1 h v0_2 v0_3 v0_h) = slices_Reverse_cell_g_l0 n x0_0 x0_1 h m v0_2 v0_3 v0_h := by
  induction m with
  | zero => intro v0_2 v0_3 v0_h; rfl
  | succ m ih =>
    intro v0_2 v0_3 v0_h
    rw [slices_Reverse_cell_g_s0]
    have hs : (fun v0_2 v0_3 v0_h => loopN slices_Reverse_cell_g_cx noY n Tryz.f121 (finH (An.tup .unit)) [1, 0] m (slices_Reverse_cell_g_e0 x0_0 x0_1 h v0_2 v0_3 v0_h)) = slices_Reverse_cell_g_l0 n x0_0 x0_1 h m := by
      funext v0_2 v0_3 v0_h; exact ih v0_2 v0_3 v0_h
    rw [hs]
    rfl
theorem slices_Reverse_cell_g_r (n : Nat) (x0_0 : Nat) (x0_1 : Nat) (h : Hp) : run slices_Reverse_cell_g_cx noY n Tryz.f121 [.r (.b (.h x0_0) x0_1)] h (finH (An.tup .unit)) = slices_Reverse_cell_g_t x0_0 x0_1 h (fun v0_2 v0_3 v0_h => loopN slices_Reverse_cell_g_cx noY n Tryz.f121 (finH (An.tup .unit)) [1, 0] n (slices_Reverse_cell_g_e0 x0_0 x0_1 h v0_2 v0_3 v0_h)) := by kernel_rfl
theorem slices_Reverse_cell_g_run (n : Nat) (x0_0 : Nat) (x0_1 : Nat) (h : Hp) : run slices_Reverse_cell_g_cx noY n Tryz.f121 [.r (.b (.h x0_0) x0_1)] h (finH (An.tup .unit)) = slices_Reverse_cell_g_at n x0_0 x0_1 h := by
  rw [slices_Reverse_cell_g_r]
  have h0' : (fun v0_2 v0_3 v0_h => loopN slices_Reverse_cell_g_cx noY n Tryz.f121 (finH (An.tup .unit)) [1, 0] n (slices_Reverse_cell_g_e0 x0_0 x0_1 h v0_2 v0_3 v0_h)) = slices_Reverse_cell_g_l0 n x0_0 x0_1 h n := by funext v0_2 v0_3 v0_h; exact slices_Reverse_cell_g_q0 n x0_0 x0_1 h n v0_2 v0_3 v0_h
  rw [h0']
  rfl
def slices_Reverse_cell_sp (F : slices_Reverse_cell_T) : HF := hSpec [(.hr K.s10)] (An.tup .unit) (fun x h => F x.1.1 x.1.2 h)
def slices_Reverse_cell_spec : HF := slices_Reverse_cell_sp slices_Reverse_cell
theorem slices_Reverse_cell_tabok : TabOK Tryz.prog lay (slices_Reverse_cell_g_tab) := ⟨kds_ok, eqs_ok, Good.nil, GoodH.nil, GoodR.nil, GoodI.nil⟩
theorem slices_Reverse_cell_ok : CallH Tryz.prog lay 121 slices_Reverse_cell_spec :=
  hSpec_ok (T := slices_Reverse_cell_g_tab) (live := slices_Reverse_cell_g_live) (o := ⟨[], [], [], []⟩) (fn := Tryz.f121) slices_Reverse_cell_tabok follows ⟨by kernel_rfl, by kernel_rfl, by kernel_rfl⟩ FUEL fun x h => slices_Reverse_cell_g_run FUEL x.1.1 x.1.2 h
def unfold_flip_1_g_live : Nat → List Nat := fun b => match b with | _ => []
def unfold_flip_1_g_tab : Tab := ⟨kds, eqs, [], [], [], []⟩
def unfold_flip_1_g_cx : Cx := (unfold_flip_1_g_tab).cx unfold_flip_1_g_live ⟨[], [], [], []⟩
theorem unfold_flip_1_g_run (n : Nat) (x0 : K.s10.den) (x1_0 : Bool) : run unfold_flip_1_g_cx noY n Tryz.f122 [.st K.s10 x0, .ac [.b x1_0] 0] [] (fun p _ => (An.v K.s10).fin p) = unfold_flip_1_g x0 x1_0 := by kernel_rfl
def unfold_flip_1_sp (F : unfold_flip_1_T) : Spec := pSpec [(.a (.pl K.s10)), (.a (.ac [.bool] 0))] (An.v K.s10) (fun x => F x.1 x.2.1.1)
def unfold_flip_1_spec : Spec := unfold_flip_1_sp unfold_flip_1
theorem unfold_flip_1_tabok : TabOK Tryz.prog lay (unfold_flip_1_g_tab) := ⟨kds_ok, eqs_ok, Good.nil, GoodH.nil, GoodR.nil, GoodI.nil⟩
theorem unfold_flip_1_ok : CallOK Tryz.prog lay 122 unfold_flip_1_spec.go :=
  pSpec_ok (T := unfold_flip_1_g_tab) (live := unfold_flip_1_g_live) (o := ⟨[], [], [], []⟩) (fn := Tryz.f122) lay_stays unfold_flip_1_tabok follows ⟨by kernel_rfl, by kernel_rfl, by kernel_rfl⟩ (by kernel_rfl) (An.v_f (by kernel_rfl)) FUEL fun x => unfold_flip_1_g_run FUEL x.1 x.2.1.1
def deck_Deck_Turn_cell_g_live : Nat → List Nat := fun b => match b with | 0 => [0, 1, 12, 13, 14] | _ => []
def deck_Deck_Turn_cell_g_tab (unfold_flip_1 : unfold_flip_1_T) (slices_Reverse_cell : slices_Reverse_cell_T) (deck_Deck_list_cell : deck_Deck_list_cell_T) : Tab := ⟨kds, eqs, [(122, unfold_flip_1_sp unfold_flip_1)], [(121, @slices_Reverse_cell_sp @slices_Reverse_cell)], [(97, @deck_Deck_list_cell_sp @deck_Deck_list_cell)], []⟩
def deck_Deck_Turn_cell_g_cx (unfold_flip_1 : unfold_flip_1_T) (slices_Reverse_cell : slices_Reverse_cell_T) (deck_Deck_list_cell : deck_Deck_list_cell_T) : Cx := (deck_Deck_Turn_cell_g_tab @unfold_flip_1 @slices_Reverse_cell @deck_Deck_list_cell).cx deck_Deck_Turn_cell_g_live ⟨[], [22], [8], [7, 12]⟩
def deck_Deck_Turn_cell_g_e0 (x0 : (Option (Nat × Nat))) (x1_0_0 : Bool) (h : Hp) (v0_12_i : Nat) (v0_12_o : Nat) (v0_13 : Int) (v0_14 : Int) (v0_h : Hp) : Env :=
  ⟨[.p x0, .clo 122 [.ac [.b x1_0_0] 0]] ++ List.replicate 10 .un ++ [.r (.b (.h v0_12_i) v0_12_o), .i .i64 v0_13, .i .i64 v0_14] ++ List.replicate 14 .un, List.replicate 29 [], v0_h⟩
theorem deck_Deck_Turn_cell_g_s0 (n : Nat) (m : Nat) (unfold_flip_1 : unfold_flip_1_T) (slices_Reverse_cell : slices_Reverse_cell_T) (deck_Deck_list_cell : deck_Deck_list_cell_T) (x0 : (Option (Nat × Nat))) (x1_0_0 : Bool) (h : Hp) (v0_12_i : Nat) (v0_12_o : Nat) (v0_13 : Int) (v0_14 : Int) (v0_h : Hp) : loopN (deck_Deck_Turn_cell_g_cx @unfold_flip_1 @slices_Reverse_cell @deck_Deck_list_cell) noY n Tryz.f108 (finH (An.tup .unit)) [1, 1, 1, 0] (m + 1) (deck_Deck_Turn_cell_g_e0 x0 x1_0_0 h v0_12_i v0_12_o v0_13 v0_14 v0_h) =
    deck_Deck_Turn_cell_g_b0 @unfold_flip_1 @slices_Reverse_cell @deck_Deck_list_cell x0 x1_0_0 h (fun v0_12_i v0_12_o v0_13 v0_14 v0_h => loopN (deck_Deck_Turn_cell_g_cx @unfold_flip_1 @slices_Reverse_cell @deck_Deck_list_cell) noY n Tryz.f108 (finH (An.tup .unit)) [1, 1, 1, 0] m (deck_Deck_Turn_cell_g_e0 x0 x1_0_0 h v0_12_i v0_12_o v0_13 v0_14 v0_h)) v0_12_i v0_12_o v0_13 v0_14 v0_h := by kernel_rfl
theorem deck_Deck_Turn_cell_g_q0 (n : Nat) (unfold_flip_1 : unfold_flip_1_T) (slices_Reverse_cell : slices_Reverse_cell_T) (deck_Deck_list_cell : deck_Deck_list_cell_T) (x0 : (Option (Nat × Nat))) (x1_0_0 : Bool) (h : Hp) (m : Nat) : ∀ (v0_12_i : Nat) (v0_12_o : Nat) (v0_13 : Int) (v0_14 : Int) (v0_h : Hp), loopN (deck_Deck_Turn_cell_g_cx @unfold_flip_1 @slices_Reverse_cell @deck_Deck_list_cell) noY n Tryz.f108 (finH (An.tup .unit)) [1, 1, 1, 0] m (deck_Deck_Turn_cell_g_e0 x0 x1_0_0 h v0_12_i v0_12_o v0_13 v0_14 v0_h) = deck_Deck_Turn_cell_g_l0 n @unfold_flip_1 @slices_Reverse_cell @deck_Deck_list_cell x0 x1_0_0 h m v0_12_i v0_12_o v0_13 v0_14 v0_h := by
  induction m with
  | zero => intro v0_12_i v0_12_o v0_13 v0_14 v0_h; rfl
  | succ m ih =>
    intro v0_12_i v0_12_o v0_13 v0_14 v0_h
    rw [deck_Deck_Turn_cell_g_s0]
    have hs : (fun v0_12_i v0_12_o v0_13 v0_14 v0_h => loopN (deck_Deck_Turn_cell_g_cx @unfold_flip_1 @slices_Reverse_cell @deck_Deck_list_cell) noY n Tryz.f108 (finH (An.tup .unit)) [1, 1, 1, 0] m (deck_Deck_Turn_cell_g_e0 x0 x1_0_0 h v0_12_i v0_12_o v0_13 v0_14 v0_h)) = deck_Deck_Turn_cell_g_l0 n @unfold_flip_1 @slices_Reverse_cell @deck_Deck_list_cell x0 x1_0_0 h m := by
      funext v0_12_i v0_12_o v0_13 v0_14 v0_h; exact ih v0_12_i v0_12_o v0_13 v0_14 v0_h
    rw [hs]
    rfl
theorem deck_Deck_Turn_cell_g_r (n : Nat) (unfold_flip_1 : unfold_flip_1_T) (slices_Reverse_cell : slices_Reverse_cell_T) (deck_Deck_list_cell : deck_Deck_list_cell_T) (x0 : (Option (Nat × Nat))) (x1_0_0 : Bool) (h : Hp) : run (deck_Deck_Turn_cell_g_cx @unfold_flip_1 @slices_Reverse_cell @deck_Deck_list_cell) noY n Tryz.f108 [.p x0, .clo 122 [.ac [.b x1_0_0] 0]] h (finH (An.tup .unit)) = deck_Deck_Turn_cell_g_t @unfold_flip_1 @slices_Reverse_cell @deck_Deck_list_cell x0 x1_0_0 h (fun v0_12_i v0_12_o v0_13 v0_14 v0_h => loopN (deck_Deck_Turn_cell_g_cx @unfold_flip_1 @slices_Reverse_cell @deck_Deck_list_cell) noY n Tryz.f108 (finH (An.tup .unit)) [1, 1, 1, 0] n (deck_Deck_Turn_cell_g_e0 x0 x1_0_0 h v0_12_i v0_12_o v0_13 v0_14 v0_h)) := by kernel_rfl
theorem deck_Deck_Turn_cell_g_run (n : Nat) (unfold_flip_1 : unfold_flip_1_T) (slices_Reverse_cell : slices_Reverse_cell_T) (deck_Deck_list_cell : deck_Deck_list_cell_T) (x0 : (Option (Nat × Nat))) (x1_0_0 : Bool) (h : Hp) : run (deck_Deck_Turn_cell_g_cx @unfold_flip_1 @slices_Reverse_cell @deck_Deck_list_cell) noY n Tryz.f108 [.p x0, .clo 122 [.ac [.b x1_0_0] 0]] h (finH (An.tup .unit)) = deck_Deck_Turn_cell_g_at n @unfold_flip_1 @slices_Reverse_cell @deck_Deck_list_cell x0 x1_0_0 h := by
  rw [deck_Deck_Turn_cell_g_r]
  have h0' : (fun v0_12_i v0_12_o v0_13 v0_14 v0_h => loopN (deck_Deck_Turn_cell_g_cx @unfold_flip_1 @slices_Reverse_cell @deck_Deck_list_cell) noY n Tryz.f108 (finH (An.tup .unit)) [1, 1, 1, 0] n (deck_Deck_Turn_cell_g_e0 x0 x1_0_0 h v0_12_i v0_12_o v0_13 v0_14 v0_h)) = deck_Deck_Turn_cell_g_l0 n @unfold_flip_1 @slices_Reverse_cell @deck_Deck_list_cell x0 x1_0_0 h n := by funext v0_12_i v0_12_o v0_13 v0_14 v0_h; exact deck_Deck_Turn_cell_g_q0 n @unfold_flip_1 @slices_Reverse_cell @deck_Deck_list_cell x0 x1_0_0 h n v0_12_i v0_12_o v0_13 v0_14 v0_h
  rw [h0']
  rfl
def deck_Deck_Turn_cell_sp (F : deck_Deck_Turn_cell_T) : HF := hSpec [(.a (.pl .ptr)), (.clo 122 [(.ac [.bool] 0)])] (An.tup .unit) (fun x h => F x.1 x.2.1.1.1 h)
def deck_Deck_Turn_cell_spec : HF := deck_Deck_Turn_cell_sp deck_Deck_Turn_cell
theorem deck_Deck_Turn_cell_tabok : TabOK Tryz.prog lay (deck_Deck_Turn_cell_g_tab @unfold_flip_1 @slices_Reverse_cell @deck_Deck_list_cell) := ⟨kds_ok, eqs_ok, (Good.cons unfold_flip_1_ok Good.nil), (GoodH.cons slices_Reverse_cell_ok GoodH.nil), (GoodR.cons deck_Deck_list_cell_ok GoodR.nil), GoodI.nil⟩
theorem deck_Deck_Turn_cell_ok : CallH Tryz.prog lay 108 deck_Deck_Turn_cell_spec :=
  hSpec_ok (T := deck_Deck_Turn_cell_g_tab @unfold_flip_1 @slices_Reverse_cell @deck_Deck_list_cell) (live := deck_Deck_Turn_cell_g_live) (o := ⟨[], [22], [8], [7, 12]⟩) (fn := Tryz.f108) deck_Deck_Turn_cell_tabok follows ⟨by kernel_rfl, by kernel_rfl, by kernel_rfl⟩ FUEL fun x h => deck_Deck_Turn_cell_g_run FUEL @unfold_flip_1 @slices_Reverse_cell @deck_Deck_list_cell x.1 x.2.1.1.1 h
def Grow_sp (F : Grow_T) : Spec := growSpec K.s10 F
def Grow_spec : Spec := Grow_sp Grow
theorem Grow_ok : CallOK Tryz.prog lay 131 Grow_spec.go := grow_ok Tryz.grow131 rfl ⟨Tryz.f131, Tryz.func131, by kernel_rfl, by kernel_rfl⟩ (by decide) (show fitsB _ _ _ = true by kernel_rfl)
def slices_Concat_cell_g_live : Nat → List Nat := fun b => match b with | 0 => [0, 3, 9, 10, 11] | 2 => [6, 25, 26, 27] | _ => []
def slices_Concat_cell_g_tab (Grow : Grow_T) : Tab := ⟨kds, eqs, [(131, Grow_sp Grow)], [], [], []⟩
def slices_Concat_cell_g_cx (Grow : Grow_T) : Cx := (slices_Concat_cell_g_tab @Grow).cx slices_Concat_cell_g_live ⟨[], [24], [], []⟩
def slices_Concat_cell_g_e0 (x0 : (List (List K.s10.den))) (v0_3 : Int) (v0_11 : Int) : Env :=
  ⟨[.l (.list K.s10) x0, .un, .un, .i .i64 v0_3, .un, .un, .un, .un, .un, .l (.list K.s10) x0, .i .i64 (x0.length : Int), .i .i64 v0_11] ++ List.replicate 24 .un, List.replicate 36 [], ([] : Hp)⟩
def slices_Concat_cell_g_e1 (x0 : (List (List K.s10.den))) (v1_6 : (List K.s10.den)) (v1_27 : Int) : Env :=
  ⟨[.un, .un, .un, .un, .un, .un, .o true K.s10 v1_6] ++ List.replicate 18 .un ++ [.l (.list K.s10) x0, .i .i64 (x0.length : Int), .i .i64 v1_27] ++ List.replicate 8 .un, List.replicate 36 [], ([] : Hp)⟩
theorem slices_Concat_cell_g_s1 (n : Nat) (m : Nat) (Grow : Grow_T) (x0 : (List (List K.s10.den))) (v1_6 : (List K.s10.den)) (v1_27 : Int) : loopN (slices_Concat_cell_g_cx @Grow) noY n Tryz.f123 (fun p _ => (ownD true K.s10) p) [1, 1, 1, 1, 0, 1, 0] (m + 1) (slices_Concat_cell_g_e1 x0 v1_6 v1_27) =
    slices_Concat_cell_g_b1 @Grow x0 (fun v1_6 v1_27 => loopN (slices_Concat_cell_g_cx @Grow) noY n Tryz.f123 (fun p _ => (ownD true K.s10) p) [1, 1, 1, 1, 0, 1, 0] m (slices_Concat_cell_g_e1 x0 v1_6 v1_27)) v1_6 v1_27 := by kernel_rfl
theorem slices_Concat_cell_g_q1 (n : Nat) (Grow : Grow_T) (x0 : (List (List K.s10.den))) (m : Nat) : ∀ (v1_6 : (List K.s10.den)) (v1_27 : Int), loopN (slices_Concat_cell_g_cx @Grow) noY n Tryz.f123 (fun p _ => (ownD true K.s10) p) [1, 1, 1, 1, 0, 1, 0] m (slices_Concat_cell_g_e1 x0 v1_6 v1_27) = slices_Concat_cell_g_l1 n @Grow x0 m v1_6 v1_27 := by
  induction m with
  | zero => intro v1_6 v1_27; rfl
  | succ m ih =>
    intro v1_6 v1_27
    rw [slices_Concat_cell_g_s1]
    have hs : (fun v1_6 v1_27 => loopN (slices_Concat_cell_g_cx @Grow) noY n Tryz.f123 (fun p _ => (ownD true K.s10) p) [1, 1, 1, 1, 0, 1, 0] m (slices_Concat_cell_g_e1 x0 v1_6 v1_27)) = slices_Concat_cell_g_l1 n @Grow x0 m := by
      funext v1_6 v1_27; exact ih v1_6 v1_27
    rw [hs]
    rfl
theorem slices_Concat_cell_g_s0 (n : Nat) (m : Nat) (Grow : Grow_T) (x0 : (List (List K.s10.den))) (v0_3 : Int) (v0_11 : Int) : loopN (slices_Concat_cell_g_cx @Grow) noY n Tryz.f123 (fun p _ => (ownD true K.s10) p) [1, 1, 0, 1, 0] (m + 1) (slices_Concat_cell_g_e0 x0 v0_3 v0_11) =
    slices_Concat_cell_g_b0 @Grow x0 (fun v0_3 v0_11 => loopN (slices_Concat_cell_g_cx @Grow) noY n Tryz.f123 (fun p _ => (ownD true K.s10) p) [1, 1, 0, 1, 0] m (slices_Concat_cell_g_e0 x0 v0_3 v0_11)) (fun v1_6 v1_27 => loopN (slices_Concat_cell_g_cx @Grow) noY n Tryz.f123 (fun p _ => (ownD true K.s10) p) [1, 1, 1, 1, 0, 1, 0] n (slices_Concat_cell_g_e1 x0 v1_6 v1_27)) v0_3 v0_11 := by kernel_rfl
theorem slices_Concat_cell_g_q0 (n : Nat) (Grow : Grow_T) (x0 : (List (List K.s10.den))) (m : Nat) : ∀ (v0_3 : Int) (v0_11 : Int), loopN (slices_Concat_cell_g_cx @Grow) noY n Tryz.f123 (fun p _ => (ownD true K.s10) p) [1, 1, 0, 1, 0] m (slices_Concat_cell_g_e0 x0 v0_3 v0_11) = slices_Concat_cell_g_l0 n @Grow x0 m v0_3 v0_11 := by
  induction m with
  | zero => intro v0_3 v0_11; rfl
  | succ m ih =>
    intro v0_3 v0_11
    rw [slices_Concat_cell_g_s0]
    have hs : (fun v0_3 v0_11 => loopN (slices_Concat_cell_g_cx @Grow) noY n Tryz.f123 (fun p _ => (ownD true K.s10) p) [1, 1, 0, 1, 0] m (slices_Concat_cell_g_e0 x0 v0_3 v0_11)) = slices_Concat_cell_g_l0 n @Grow x0 m := by
      funext v0_3 v0_11; exact ih v0_3 v0_11
    have h1' : (fun v1_6 v1_27 => loopN (slices_Concat_cell_g_cx @Grow) noY n Tryz.f123 (fun p _ => (ownD true K.s10) p) [1, 1, 1, 1, 0, 1, 0] n (slices_Concat_cell_g_e1 x0 v1_6 v1_27)) = slices_Concat_cell_g_l1 n @Grow x0 n := by
      funext v1_6 v1_27; exact slices_Concat_cell_g_q1 n @Grow x0 n v1_6 v1_27
    rw [hs, h1']
    rfl
theorem slices_Concat_cell_g_r (n : Nat) (Grow : Grow_T) (x0 : (List (List K.s10.den))) : run (slices_Concat_cell_g_cx @Grow) noY n Tryz.f123 [.l (.list K.s10) x0] [] (fun p _ => (ownD true K.s10) p) = slices_Concat_cell_g_t @Grow x0 (fun v0_3 v0_11 => loopN (slices_Concat_cell_g_cx @Grow) noY n Tryz.f123 (fun p _ => (ownD true K.s10) p) [1, 1, 0, 1, 0] n (slices_Concat_cell_g_e0 x0 v0_3 v0_11)) := by kernel_rfl
theorem slices_Concat_cell_g_run (n : Nat) (Grow : Grow_T) (x0 : (List (List K.s10.den))) : run (slices_Concat_cell_g_cx @Grow) noY n Tryz.f123 [.l (.list K.s10) x0] [] (fun p _ => (ownD true K.s10) p) = slices_Concat_cell_g_at n @Grow x0 := by
  rw [slices_Concat_cell_g_r]
  have h0' : (fun v0_3 v0_11 => loopN (slices_Concat_cell_g_cx @Grow) noY n Tryz.f123 (fun p _ => (ownD true K.s10) p) [1, 1, 0, 1, 0] n (slices_Concat_cell_g_e0 x0 v0_3 v0_11)) = slices_Concat_cell_g_l0 n @Grow x0 n := by funext v0_3 v0_11; exact slices_Concat_cell_g_q0 n @Grow x0 n v0_3 v0_11
  rw [h0']
  rfl
def slices_Concat_cell_sp (F : slices_Concat_cell_T) : Spec := Spec.of [(.list (.list K.s10))] (fun x => F x.1) (fun x => .o true K.s10 x)
def slices_Concat_cell_spec : Spec := slices_Concat_cell_sp slices_Concat_cell
theorem slices_Concat_cell_tabok : TabOK Tryz.prog lay (slices_Concat_cell_g_tab @Grow) := ⟨kds_ok, eqs_ok, (Good.cons Grow_ok Good.nil), GoodH.nil, GoodR.nil, GoodI.nil⟩
theorem slices_Concat_cell_ok : CallOK Tryz.prog lay 123 slices_Concat_cell_spec.go :=
  spec_ok (T := slices_Concat_cell_g_tab @Grow) (live := slices_Concat_cell_g_live) (o := ⟨[], [24], [], []⟩) (fn := Tryz.f123) lay_stays slices_Concat_cell_tabok follows ⟨by kernel_rfl, by kernel_rfl, by kernel_rfl⟩ (by kernel_rfl) (fun _ => rfl) (fun _ _ h => ownD_eq h) FUEL fun x => slices_Concat_cell_g_run FUEL @Grow x.1
def deck_Deck_Under_cell_g_live : Nat → List Nat := fun b => match b with | _ => []
def deck_Deck_Under_cell_g_tab (slices_Concat_cell : slices_Concat_cell_T) (deck_Deck_list_cell : deck_Deck_list_cell_T) : Tab := ⟨kds, eqs, [(123, slices_Concat_cell_sp slices_Concat_cell)], [], [(97, @deck_Deck_list_cell_sp @deck_Deck_list_cell)], []⟩
def deck_Deck_Under_cell_g_cx (slices_Concat_cell : slices_Concat_cell_T) (deck_Deck_list_cell : deck_Deck_list_cell_T) : Cx := (deck_Deck_Under_cell_g_tab @slices_Concat_cell @deck_Deck_list_cell).cx deck_Deck_Under_cell_g_live ⟨[], [10], [], [12]⟩
theorem deck_Deck_Under_cell_g_run (n : Nat) (slices_Concat_cell : slices_Concat_cell_T) (deck_Deck_list_cell : deck_Deck_list_cell_T) (x0 : (Option (Nat × Nat))) (x1 : (Option (Nat × Nat))) (h : Hp) : run (deck_Deck_Under_cell_g_cx @slices_Concat_cell @deck_Deck_list_cell) noY n Tryz.f110 [.p x0, .p x1] h (finH (An.tup .unit)) = deck_Deck_Under_cell_g @slices_Concat_cell @deck_Deck_list_cell x0 x1 h := by kernel_rfl
def deck_Deck_Under_cell_sp (F : deck_Deck_Under_cell_T) : HF := hSpec [(.a (.pl .ptr)), (.a (.pl .ptr))] (An.tup .unit) (fun x h => F x.1 x.2.1 h)
def deck_Deck_Under_cell_spec : HF := deck_Deck_Under_cell_sp deck_Deck_Under_cell
theorem deck_Deck_Under_cell_tabok : TabOK Tryz.prog lay (deck_Deck_Under_cell_g_tab @slices_Concat_cell @deck_Deck_list_cell) := ⟨kds_ok, eqs_ok, (Good.cons slices_Concat_cell_ok Good.nil), GoodH.nil, (GoodR.cons deck_Deck_list_cell_ok GoodR.nil), GoodI.nil⟩
theorem deck_Deck_Under_cell_ok : CallH Tryz.prog lay 110 deck_Deck_Under_cell_spec :=
  hSpec_ok (T := deck_Deck_Under_cell_g_tab @slices_Concat_cell @deck_Deck_list_cell) (live := deck_Deck_Under_cell_g_live) (o := ⟨[], [10], [], [12]⟩) (fn := Tryz.f110) deck_Deck_Under_cell_tabok follows ⟨by kernel_rfl, by kernel_rfl, by kernel_rfl⟩ FUEL fun x h => deck_Deck_Under_cell_g_run FUEL @slices_Concat_cell @deck_Deck_list_cell x.1 x.2.1 h
def deck_Deck_Over_cell_g_live : Nat → List Nat := fun b => match b with | _ => []
def deck_Deck_Over_cell_g_tab (slices_Concat_cell : slices_Concat_cell_T) (deck_Deck_list_cell : deck_Deck_list_cell_T) : Tab := ⟨kds, eqs, [(123, slices_Concat_cell_sp slices_Concat_cell)], [], [(97, @deck_Deck_list_cell_sp @deck_Deck_list_cell)], []⟩
def deck_Deck_Over_cell_g_cx (slices_Concat_cell : slices_Concat_cell_T) (deck_Deck_list_cell : deck_Deck_list_cell_T) : Cx := (deck_Deck_Over_cell_g_tab @slices_Concat_cell @deck_Deck_list_cell).cx deck_Deck_Over_cell_g_live ⟨[], [12], [], [8]⟩
theorem deck_Deck_Over_cell_g_run (n : Nat) (slices_Concat_cell : slices_Concat_cell_T) (deck_Deck_list_cell : deck_Deck_list_cell_T) (x0 : (Option (Nat × Nat))) (x1 : (Option (Nat × Nat))) (h : Hp) : run (deck_Deck_Over_cell_g_cx @slices_Concat_cell @deck_Deck_list_cell) noY n Tryz.f111 [.p x0, .p x1] h (finH (An.tup .unit)) = deck_Deck_Over_cell_g @slices_Concat_cell @deck_Deck_list_cell x0 x1 h := by kernel_rfl
def deck_Deck_Over_cell_sp (F : deck_Deck_Over_cell_T) : HF := hSpec [(.a (.pl .ptr)), (.a (.pl .ptr))] (An.tup .unit) (fun x h => F x.1 x.2.1 h)
def deck_Deck_Over_cell_spec : HF := deck_Deck_Over_cell_sp deck_Deck_Over_cell
theorem deck_Deck_Over_cell_tabok : TabOK Tryz.prog lay (deck_Deck_Over_cell_g_tab @slices_Concat_cell @deck_Deck_list_cell) := ⟨kds_ok, eqs_ok, (Good.cons slices_Concat_cell_ok Good.nil), GoodH.nil, (GoodR.cons deck_Deck_list_cell_ok GoodR.nil), GoodI.nil⟩
theorem deck_Deck_Over_cell_ok : CallH Tryz.prog lay 111 deck_Deck_Over_cell_spec :=
  hSpec_ok (T := deck_Deck_Over_cell_g_tab @slices_Concat_cell @deck_Deck_list_cell) (live := deck_Deck_Over_cell_g_live) (o := ⟨[], [12], [], [8]⟩) (fn := Tryz.f111) deck_Deck_Over_cell_tabok follows ⟨by kernel_rfl, by kernel_rfl, by kernel_rfl⟩ FUEL fun x h => deck_Deck_Over_cell_g_run FUEL @slices_Concat_cell @deck_Deck_list_cell x.1 x.2.1 h
def unfold_lay_1_g_live : Nat → List Nat := fun b => match b with | _ => []
def unfold_lay_1_g_tab (unfold_flip : unfold_flip_T) (deck_Deck_Turn_cell : deck_Deck_Turn_cell_T) (deck_Deck_Under_cell : deck_Deck_Under_cell_T) (deck_Deck_Over_cell : deck_Deck_Over_cell_T) (grid_Grid_At_cell : grid_Grid_At_cell_T) : Tab := ⟨kds, eqs, [(109, unfold_flip_sp unfold_flip)], [(108, @deck_Deck_Turn_cell_sp @deck_Deck_Turn_cell), (110, @deck_Deck_Under_cell_sp @deck_Deck_Under_cell), (111, @deck_Deck_Over_cell_sp @deck_Deck_Over_cell)], [(81, @grid_Grid_At_cell_sp @grid_Grid_At_cell)], []⟩
def unfold_lay_1_g_cx (unfold_flip : unfold_flip_T) (deck_Deck_Turn_cell : deck_Deck_Turn_cell_T) (deck_Deck_Under_cell : deck_Deck_Under_cell_T) (deck_Deck_Over_cell : deck_Deck_Over_cell_T) (grid_Grid_At_cell : grid_Grid_At_cell_T) : Cx := (unfold_lay_1_g_tab @unfold_flip @deck_Deck_Turn_cell @deck_Deck_Under_cell @deck_Deck_Over_cell @grid_Grid_At_cell).cx unfold_lay_1_g_live ⟨[], [], [49, 54, 57], [34, 43]⟩
theorem unfold_lay_1_g_run (n : Nat) (unfold_flip : unfold_flip_T) (deck_Deck_Turn_cell : deck_Deck_Turn_cell_T) (deck_Deck_Under_cell : deck_Deck_Under_cell_T) (deck_Deck_Over_cell : deck_Deck_Over_cell_T) (grid_Grid_At_cell : grid_Grid_At_cell_T) (x0 : Int) (x1 : Int) (x2_0 : Int) (x2_1 : Int) (x2_2 : Bool) (x3_0 : Bool) (x4_0 : (Option (Nat × Nat))) (h : Hp) : run (unfold_lay_1_g_cx @unfold_flip @deck_Deck_Turn_cell @deck_Deck_Under_cell @deck_Deck_Over_cell @grid_Grid_At_cell) noY n Tryz.f107 [.i .i64 x0, .i .i64 x1, .ac [.i .i64 x2_0, .i .i64 x2_1, .b x2_2] 0, .ac [.b x3_0] 0, .ac [.p x4_0] 0] h (finH (An.tup .unit)) = unfold_lay_1_g @unfold_flip @deck_Deck_Turn_cell @deck_Deck_Under_cell @deck_Deck_Over_cell @grid_Grid_At_cell x0 x1 x2_0 x2_1 x2_2 x3_0 x4_0 h := by kernel_rfl
def unfold_lay_1_sp (F : unfold_lay_1_T) : HF := hSpec [(.a (.pl (.int .i64))), (.a (.pl (.int .i64))), (.a (.ac [(.int .i64), (.int .i64), .bool] 0)), (.a (.ac [.bool] 0)), (.a (.ac [.ptr] 0))] (An.tup .unit) (fun x h => F x.1 x.2.1 x.2.2.1.1 x.2.2.1.2.1 x.2.2.1.2.2.1 x.2.2.2.1.1 x.2.2.2.2.1.1 h)
def unfold_lay_1_spec : HF := unfold_lay_1_sp unfold_lay_1
theorem unfold_lay_1_tabok : TabOK Tryz.prog lay (unfold_lay_1_g_tab @unfold_flip @deck_Deck_Turn_cell @deck_Deck_Under_cell @deck_Deck_Over_cell @grid_Grid_At_cell) := ⟨kds_ok, eqs_ok, (Good.cons unfold_flip_ok Good.nil), (GoodH.cons deck_Deck_Turn_cell_ok (GoodH.cons deck_Deck_Under_cell_ok (GoodH.cons deck_Deck_Over_cell_ok GoodH.nil))), (GoodR.cons grid_Grid_At_cell_ok GoodR.nil), GoodI.nil⟩
theorem unfold_lay_1_ok : CallH Tryz.prog lay 107 unfold_lay_1_spec :=
  hSpec_ok (T := unfold_lay_1_g_tab @unfold_flip @deck_Deck_Turn_cell @deck_Deck_Under_cell @deck_Deck_Over_cell @grid_Grid_At_cell) (live := unfold_lay_1_g_live) (o := ⟨[], [], [49, 54, 57], [34, 43]⟩) (fn := Tryz.f107) unfold_lay_1_tabok follows ⟨by kernel_rfl, by kernel_rfl, by kernel_rfl⟩ FUEL fun x h => unfold_lay_1_g_run FUEL @unfold_flip @deck_Deck_Turn_cell @deck_Deck_Under_cell @deck_Deck_Over_cell @grid_Grid_At_cell x.1 x.2.1 x.2.2.1.1 x.2.2.1.2.1 x.2.2.1.2.2.1 x.2.2.2.1.1 x.2.2.2.2.1.1 h
def unfold_lay_g_live : Nat → List Nat := fun b => match b with | _ => []
def unfold_lay_g_tab (unfold_lay_1 : unfold_lay_1_T) (grid_Grid_Part_cell : grid_Grid_Part_cell_T) (grid_Grid_All_cell : grid_Grid_All_cell_T) (grid_Grid_Cols_cell : grid_Grid_Cols_cell_T) (grid_Grid_Rows_cell : grid_Grid_Rows_cell_T) (grid_Grid_All_1_cell : grid_Grid_All_1_cell_T) : Tab := ⟨kds, eqs, [], [(107, @unfold_lay_1_sp @unfold_lay_1), (112, @grid_Grid_Part_cell_sp @grid_Grid_Part_cell)], [(77, @grid_Grid_All_cell_sp @grid_Grid_All_cell), (105, @grid_Grid_Cols_cell_sp @grid_Grid_Cols_cell), (106, @grid_Grid_Rows_cell_sp @grid_Grid_Rows_cell)], [(91, @grid_Grid_All_1_cell_sp @grid_Grid_All_1_cell)]⟩
def unfold_lay_g_cx (unfold_lay_1 : unfold_lay_1_T) (grid_Grid_Part_cell : grid_Grid_Part_cell_T) (grid_Grid_All_cell : grid_Grid_All_cell_T) (grid_Grid_Cols_cell : grid_Grid_Cols_cell_T) (grid_Grid_Rows_cell : grid_Grid_Rows_cell_T) (grid_Grid_All_1_cell : grid_Grid_All_1_cell_T) : Cx := (unfold_lay_g_tab @unfold_lay_1 @grid_Grid_Part_cell @grid_Grid_All_cell @grid_Grid_Cols_cell @grid_Grid_Rows_cell @grid_Grid_All_1_cell).cx unfold_lay_g_live ⟨[], [], [17, 26, 37, 43, 52, 63], [16, 18, 31, 36, 40, 44, 57, 59]⟩
theorem unfold_lay_g_run (n : Nat) (unfold_lay_1 : unfold_lay_1_T) (grid_Grid_Part_cell : grid_Grid_Part_cell_T) (grid_Grid_All_cell : grid_Grid_All_cell_T) (grid_Grid_Cols_cell : grid_Grid_Cols_cell_T) (grid_Grid_Rows_cell : grid_Grid_Rows_cell_T) (grid_Grid_All_1_cell : grid_Grid_All_1_cell_T) (x0 : (Option (Nat × Nat))) (x1 : K.s7.den) (x2 : Bool) (h : Hp) : run (unfold_lay_g_cx @unfold_lay_1 @grid_Grid_Part_cell @grid_Grid_All_cell @grid_Grid_Cols_cell @grid_Grid_Rows_cell @grid_Grid_All_1_cell) noY n Tryz.f95 [.p x0, .st K.s7 x1, .b x2] h (finH (An.v .ptr)) = unfold_lay_g @unfold_lay_1 @grid_Grid_Part_cell @grid_Grid_All_cell @grid_Grid_Cols_cell @grid_Grid_Rows_cell @grid_Grid_All_1_cell x0 x1 x2 h := by kernel_rfl
def unfold_lay_sp (F : unfold_lay_T) : HF := hSpec [(.a (.pl .ptr)), (.a (.pl K.s7)), (.a (.pl .bool))] (An.v .ptr) (fun x h => F x.1 x.2.1 x.2.2.1 h)
def unfold_lay_spec : HF := unfold_lay_sp unfold_lay
theorem unfold_lay_tabok : TabOK Tryz.prog lay (unfold_lay_g_tab @unfold_lay_1 @grid_Grid_Part_cell @grid_Grid_All_cell @grid_Grid_Cols_cell @grid_Grid_Rows_cell @grid_Grid_All_1_cell) := ⟨kds_ok, eqs_ok, Good.nil, (GoodH.cons unfold_lay_1_ok (GoodH.cons grid_Grid_Part_cell_ok GoodH.nil)), (GoodR.cons grid_Grid_All_cell_ok (GoodR.cons grid_Grid_Cols_cell_ok (GoodR.cons grid_Grid_Rows_cell_ok GoodR.nil))), (GoodI.cons grid_Grid_All_1_cell_ok GoodI.nil)⟩
theorem unfold_lay_ok : CallH Tryz.prog lay 95 unfold_lay_spec :=
  hSpec_ok (T := unfold_lay_g_tab @unfold_lay_1 @grid_Grid_Part_cell @grid_Grid_All_cell @grid_Grid_Cols_cell @grid_Grid_Rows_cell @grid_Grid_All_1_cell) (live := unfold_lay_g_live) (o := ⟨[], [], [17, 26, 37, 43, 52, 63], [16, 18, 31, 36, 40, 44, 57, 59]⟩) (fn := Tryz.f95) unfold_lay_tabok follows ⟨by kernel_rfl, by kernel_rfl, by kernel_rfl⟩ FUEL fun x h => unfold_lay_g_run FUEL @unfold_lay_1 @grid_Grid_Part_cell @grid_Grid_All_cell @grid_Grid_Cols_cell @grid_Grid_Rows_cell @grid_Grid_All_1_cell x.1 x.2.1 x.2.2.1 h
def grid_Grid_Mirror_cell_g_live : Nat → List Nat := fun b => match b with | _ => []
def grid_Grid_Mirror_cell_g_tab (grid_New_cell : grid_New_cell_T) (grid_Grid_Set_cell : grid_Grid_Set_cell_T) (grid_Grid_All_cell : grid_Grid_All_cell_T) (grid_Grid_All_1_cell : grid_Grid_All_1_cell_T) : Tab := ⟨kds, eqs, [], [(76, @grid_New_cell_sp @grid_New_cell), (78, @grid_Grid_Set_cell_sp @grid_Grid_Set_cell)], [(77, @grid_Grid_All_cell_sp @grid_Grid_All_cell)], [(91, @grid_Grid_All_1_cell_sp @grid_Grid_All_1_cell)]⟩
def grid_Grid_Mirror_cell_g_cx (grid_New_cell : grid_New_cell_T) (grid_Grid_Set_cell : grid_Grid_Set_cell_T) (grid_Grid_All_cell : grid_Grid_All_cell_T) (grid_Grid_All_1_cell : grid_Grid_All_1_cell_T) : Cx := (grid_Grid_Mirror_cell_g_tab @grid_New_cell @grid_Grid_Set_cell @grid_Grid_All_cell @grid_Grid_All_1_cell).cx grid_Grid_Mirror_cell_g_live ⟨[], [], [18, 48], [20]⟩
theorem grid_Grid_Mirror_cell_g_run (n : Nat) (grid_New_cell : grid_New_cell_T) (grid_Grid_Set_cell : grid_Grid_Set_cell_T) (grid_Grid_All_cell : grid_Grid_All_cell_T) (grid_Grid_All_1_cell : grid_Grid_All_1_cell_T) (x0 : (Option (Nat × Nat))) (x1 : Bool) (h : Hp) : run (grid_Grid_Mirror_cell_g_cx @grid_New_cell @grid_Grid_Set_cell @grid_Grid_All_cell @grid_Grid_All_1_cell) noY n Tryz.f96 [.p x0, .b x1] h (finH (An.v .ptr)) = grid_Grid_Mirror_cell_g @grid_New_cell @grid_Grid_Set_cell @grid_Grid_All_cell @grid_Grid_All_1_cell x0 x1 h := by kernel_rfl
def grid_Grid_Mirror_cell_sp (F : grid_Grid_Mirror_cell_T) : HF := hSpec [(.a (.pl .ptr)), (.a (.pl .bool))] (An.v .ptr) (fun x h => F x.1 x.2.1 h)
def grid_Grid_Mirror_cell_spec : HF := grid_Grid_Mirror_cell_sp grid_Grid_Mirror_cell
theorem grid_Grid_Mirror_cell_tabok : TabOK Tryz.prog lay (grid_Grid_Mirror_cell_g_tab @grid_New_cell @grid_Grid_Set_cell @grid_Grid_All_cell @grid_Grid_All_1_cell) := ⟨kds_ok, eqs_ok, Good.nil, (GoodH.cons grid_New_cell_ok (GoodH.cons grid_Grid_Set_cell_ok GoodH.nil)), (GoodR.cons grid_Grid_All_cell_ok GoodR.nil), (GoodI.cons grid_Grid_All_1_cell_ok GoodI.nil)⟩
theorem grid_Grid_Mirror_cell_ok : CallH Tryz.prog lay 96 grid_Grid_Mirror_cell_spec :=
  hSpec_ok (T := grid_Grid_Mirror_cell_g_tab @grid_New_cell @grid_Grid_Set_cell @grid_Grid_All_cell @grid_Grid_All_1_cell) (live := grid_Grid_Mirror_cell_g_live) (o := ⟨[], [], [18, 48], [20]⟩) (fn := Tryz.f96) grid_Grid_Mirror_cell_tabok follows ⟨by kernel_rfl, by kernel_rfl, by kernel_rfl⟩ FUEL fun x h => grid_Grid_Mirror_cell_g_run FUEL @grid_New_cell @grid_Grid_Set_cell @grid_Grid_All_cell @grid_Grid_All_1_cell x.1 x.2.1 h
def unfold_fold_g_live : Nat → List Nat := fun b => match b with | _ => []
def unfold_fold_g_tab (unfold_lay : unfold_lay_T) (grid_Grid_Mirror_cell : grid_Grid_Mirror_cell_T) : Tab := ⟨kds, eqs, [], [(95, @unfold_lay_sp @unfold_lay), (96, @grid_Grid_Mirror_cell_sp @grid_Grid_Mirror_cell)], [], []⟩
def unfold_fold_g_cx (unfold_lay : unfold_lay_T) (grid_Grid_Mirror_cell : grid_Grid_Mirror_cell_T) : Cx := (unfold_fold_g_tab @unfold_lay @grid_Grid_Mirror_cell).cx unfold_fold_g_live ⟨[], [], [25, 28, 31, 33], []⟩
theorem unfold_fold_g_run (n : Nat) (unfold_lay : unfold_lay_T) (grid_Grid_Mirror_cell : grid_Grid_Mirror_cell_T) (x0 : (Option (Nat × Nat))) (x1 : K.s7.den) (h : Hp) : run (unfold_fold_g_cx @unfold_lay @grid_Grid_Mirror_cell) noY n Tryz.f80 [.p x0, .st K.s7 x1] h (finH (An.v .ptr)) = unfold_fold_g @unfold_lay @grid_Grid_Mirror_cell x0 x1 h := by kernel_rfl
def unfold_fold_sp (F : unfold_fold_T) : HF := hSpec [(.a (.pl .ptr)), (.a (.pl K.s7))] (An.v .ptr) (fun x h => F x.1 x.2.1 h)
def unfold_fold_spec : HF := unfold_fold_sp unfold_fold
theorem unfold_fold_tabok : TabOK Tryz.prog lay (unfold_fold_g_tab @unfold_lay @grid_Grid_Mirror_cell) := ⟨kds_ok, eqs_ok, Good.nil, (GoodH.cons unfold_lay_ok (GoodH.cons grid_Grid_Mirror_cell_ok GoodH.nil)), GoodR.nil, GoodI.nil⟩
theorem unfold_fold_ok : CallH Tryz.prog lay 80 unfold_fold_spec :=
  hSpec_ok (T := unfold_fold_g_tab @unfold_lay @grid_Grid_Mirror_cell) (live := unfold_fold_g_live) (o := ⟨[], [], [25, 28, 31, 33], []⟩) (fn := Tryz.f80) unfold_fold_tabok follows ⟨by kernel_rfl, by kernel_rfl, by kernel_rfl⟩ FUEL fun x h => unfold_fold_g_run FUEL @unfold_lay @grid_Grid_Mirror_cell x.1 x.2.1 h
def CloneH__sp (F : CloneH__T) : HF := hSpec [.hr K.s10] (An.o true K.s10) (fun x h => F x.1.1 x.1.2 h)
def CloneH__spec : HF := CloneH__sp CloneH_
theorem CloneH__ok : CallH Tryz.prog lay 94 CloneH__spec := cloneH_ok Tryz.clone94 rfl ⟨Tryz.f94, Tryz.func94, by kernel_rfl, by kernel_rfl⟩ (by decide) (show fitsB _ _ _ = true by kernel_rfl)
def deck_Deck_List_cell_g_live : Nat → List Nat := fun b => match b with | _ => []
def deck_Deck_List_cell_g_tab (CloneH_ : CloneH__T) (deck_Deck_list_cell : deck_Deck_list_cell_T) : Tab := ⟨kds, eqs, [], [(94, @CloneH__sp @CloneH_)], [(97, @deck_Deck_list_cell_sp @deck_Deck_list_cell)], []⟩
def deck_Deck_List_cell_g_cx (CloneH_ : CloneH__T) (deck_Deck_list_cell : deck_Deck_list_cell_T) : Cx := (deck_Deck_List_cell_g_tab @CloneH_ @deck_Deck_list_cell).cx deck_Deck_List_cell_g_live ⟨[], [], [5], [4]⟩
theorem deck_Deck_List_cell_g_run (n : Nat) (CloneH_ : CloneH__T) (deck_Deck_list_cell : deck_Deck_list_cell_T) (x0 : (Option (Nat × Nat))) (h : Hp) : run (deck_Deck_List_cell_g_cx @CloneH_ @deck_Deck_list_cell) noY n Tryz.f82 [.p x0] h (finH (An.o true K.s10)) = deck_Deck_List_cell_g @CloneH_ @deck_Deck_list_cell x0 h := by kernel_rfl
def deck_Deck_List_cell_sp (F : deck_Deck_List_cell_T) : HF := hSpec [(.a (.pl .ptr))] (An.o true K.s10) (fun x h => F x.1 h)
def deck_Deck_List_cell_spec : HF := deck_Deck_List_cell_sp deck_Deck_List_cell
theorem deck_Deck_List_cell_tabok : TabOK Tryz.prog lay (deck_Deck_List_cell_g_tab @CloneH_ @deck_Deck_list_cell) := ⟨kds_ok, eqs_ok, Good.nil, (GoodH.cons CloneH__ok GoodH.nil), (GoodR.cons deck_Deck_list_cell_ok GoodR.nil), GoodI.nil⟩
theorem deck_Deck_List_cell_ok : CallH Tryz.prog lay 82 deck_Deck_List_cell_spec :=
  hSpec_ok (T := deck_Deck_List_cell_g_tab @CloneH_ @deck_Deck_list_cell) (live := deck_Deck_List_cell_g_live) (o := ⟨[], [], [5], [4]⟩) (fn := Tryz.f82) deck_Deck_List_cell_tabok follows ⟨by kernel_rfl, by kernel_rfl, by kernel_rfl⟩ FUEL fun x h => deck_Deck_List_cell_g_run FUEL @CloneH_ @deck_Deck_list_cell x.1 h
def unfold_done_g_live : Nat → List Nat := fun b => match b with | 2 => [3, 39, 40, 41] | _ => []
def unfold_done_g_tab (scheme_Right : scheme_Right_T) (grid_New_cell : grid_New_cell_T) (grid_Grid_Set_cell : grid_Grid_Set_cell_T) (deck_Of_cell : deck_Of_cell_T) (unfold_fold : unfold_fold_T) (deck_Deck_List_cell : deck_Deck_List_cell_T) (grid_Grid_All_cell : grid_Grid_All_cell_T) (grid_Grid_At_cell : grid_Grid_At_cell_T) (grid_Grid_All_1_cell : grid_Grid_All_1_cell_T) : Tab := ⟨kds, eqs, [(26, scheme_Right_sp scheme_Right)], [(76, @grid_New_cell_sp @grid_New_cell), (78, @grid_Grid_Set_cell_sp @grid_Grid_Set_cell), (79, @deck_Of_cell_sp @deck_Of_cell), (80, @unfold_fold_sp @unfold_fold), (82, @deck_Deck_List_cell_sp @deck_Deck_List_cell)], [(77, @grid_Grid_All_cell_sp @grid_Grid_All_cell), (81, @grid_Grid_At_cell_sp @grid_Grid_At_cell)], [(91, @grid_Grid_All_1_cell_sp @grid_Grid_All_1_cell)]⟩
def unfold_done_g_cx (scheme_Right : scheme_Right_T) (grid_New_cell : grid_New_cell_T) (grid_Grid_Set_cell : grid_Grid_Set_cell_T) (deck_Of_cell : deck_Of_cell_T) (unfold_fold : unfold_fold_T) (deck_Deck_List_cell : deck_Deck_List_cell_T) (grid_Grid_All_cell : grid_Grid_All_cell_T) (grid_Grid_At_cell : grid_Grid_At_cell_T) (grid_Grid_All_1_cell : grid_Grid_All_1_cell_T) : Cx := (unfold_done_g_tab @scheme_Right @grid_New_cell @grid_Grid_Set_cell @deck_Of_cell @unfold_fold @deck_Deck_List_cell @grid_Grid_All_cell @grid_Grid_At_cell @grid_Grid_All_1_cell).cx unfold_done_g_live ⟨[3], [], [16, 36, 37, 47, 55], [18, 51]⟩
def unfold_done_g_e0 (x0 : K.s4.den) (v0_3 : (Option (Nat × Nat))) (v0_41 : Int) (v0_h : Hp) : Env :=
  ⟨[.un, .un, .un, .p v0_3] ++ List.replicate 35 .un ++ [.l K.s7 x0.2.2.1, .i .i64 (x0.2.2.1.length : Int), .i .i64 v0_41] ++ List.replicate 14 .un, List.replicate 56 [], v0_h⟩
theorem unfold_done_g_s0 (n : Nat) (m : Nat) (scheme_Right : scheme_Right_T) (grid_New_cell : grid_New_cell_T) (grid_Grid_Set_cell : grid_Grid_Set_cell_T) (deck_Of_cell : deck_Of_cell_T) (unfold_fold : unfold_fold_T) (deck_Deck_List_cell : deck_Deck_List_cell_T) (grid_Grid_All_cell : grid_Grid_All_cell_T) (grid_Grid_At_cell : grid_Grid_At_cell_T) (grid_Grid_All_1_cell : grid_Grid_All_1_cell_T) (x0 : K.s4.den) (v0_3 : (Option (Nat × Nat))) (v0_41 : Int) (v0_h : Hp) : loopN (unfold_done_g_cx @scheme_Right @grid_New_cell @grid_Grid_Set_cell @deck_Of_cell @unfold_fold @deck_Deck_List_cell @grid_Grid_All_cell @grid_Grid_At_cell @grid_Grid_All_1_cell) noY n Tryz.f64 (fun p _ => (ownD true K.s10) p) [1, 1, 1, 1, 0, 1, 0] (m + 1) (unfold_done_g_e0 x0 v0_3 v0_41 v0_h) =
    unfold_done_g_b0 @scheme_Right @grid_New_cell @grid_Grid_Set_cell @deck_Of_cell @unfold_fold @deck_Deck_List_cell @grid_Grid_All_cell @grid_Grid_At_cell @grid_Grid_All_1_cell x0 (fun v0_3 v0_41 v0_h => loopN (unfold_done_g_cx @scheme_Right @grid_New_cell @grid_Grid_Set_cell @deck_Of_cell @unfold_fold @deck_Deck_List_cell @grid_Grid_All_cell @grid_Grid_At_cell @grid_Grid_All_1_cell) noY n Tryz.f64 (fun p _ => (ownD true K.s10) p) [1, 1, 1, 1, 0, 1, 0] m (unfold_done_g_e0 x0 v0_3 v0_41 v0_h)) v0_3 v0_41 v0_h := by kernel_rfl
theorem unfold_done_g_q0 (n : Nat) (scheme_Right : scheme_Right_T) (grid_New_cell : grid_New_cell_T) (grid_Grid_Set_cell : grid_Grid_Set_cell_T) (deck_Of_cell : deck_Of_cell_T) (unfold_fold : unfold_fold_T) (deck_Deck_List_cell : deck_Deck_List_cell_T) (grid_Grid_All_cell : grid_Grid_All_cell_T) (grid_Grid_At_cell : grid_Grid_At_cell_T) (grid_Grid_All_1_cell : grid_Grid_All_1_cell_T) (x0 : K.s4.den) (m : Nat) : ∀ (v0_3 : (Option (Nat × Nat))) (v0_41 : Int) (v0_h : Hp), loopN (unfold_done_g_cx @scheme_Right @grid_New_cell @grid_Grid_Set_cell @deck_Of_cell @unfold_fold @deck_Deck_List_cell @grid_Grid_All_cell @grid_Grid_At_cell @grid_Grid_All_1_cell) noY n Tryz.f64 (fun p _ => (ownD true K.s10) p) [1, 1, 1, 1, 0, 1, 0] m (unfold_done_g_e0 x0 v0_3 v0_41 v0_h) = unfold_done_g_l0 n @scheme_Right @grid_New_cell @grid_Grid_Set_cell @deck_Of_cell @unfold_fold @deck_Deck_List_cell @grid_Grid_All_cell @grid_Grid_At_cell @grid_Grid_All_1_cell x0 m v0_3 v0_41 v0_h := by
  induction m with
  | zero => intro v0_3 v0_41 v0_h; rfl
  | succ m ih =>
    intro v0_3 v0_41 v0_h
    rw [unfold_done_g_s0]
    have hs : (fun v0_3 v0_41 v0_h => loopN (unfold_done_g_cx @scheme_Right @grid_New_cell @grid_Grid_Set_cell @deck_Of_cell @unfold_fold @deck_Deck_List_cell @grid_Grid_All_cell @grid_Grid_At_cell @grid_Grid_All_1_cell) noY n Tryz.f64 (fun p _ => (ownD true K.s10) p) [1, 1, 1, 1, 0, 1, 0] m (unfold_done_g_e0 x0 v0_3 v0_41 v0_h)) = unfold_done_g_l0 n @scheme_Right @grid_New_cell @grid_Grid_Set_cell @deck_Of_cell @unfold_fold @deck_Deck_List_cell @grid_Grid_All_cell @grid_Grid_At_cell @grid_Grid_All_1_cell x0 m := by
      funext v0_3 v0_41 v0_h; exact ih v0_3 v0_41 v0_h
    rw [hs]
    rfl
theorem unfold_done_g_r (n : Nat) (scheme_Right : scheme_Right_T) (grid_New_cell : grid_New_cell_T) (grid_Grid_Set_cell : grid_Grid_Set_cell_T) (deck_Of_cell : deck_Of_cell_T) (unfold_fold : unfold_fold_T) (deck_Deck_List_cell : deck_Deck_List_cell_T) (grid_Grid_All_cell : grid_Grid_All_cell_T) (grid_Grid_At_cell : grid_Grid_At_cell_T) (grid_Grid_All_1_cell : grid_Grid_All_1_cell_T) (x0 : K.s4.den) : run (unfold_done_g_cx @scheme_Right @grid_New_cell @grid_Grid_Set_cell @deck_Of_cell @unfold_fold @deck_Deck_List_cell @grid_Grid_All_cell @grid_Grid_At_cell @grid_Grid_All_1_cell) noY n Tryz.f64 [.st K.s4 x0] [] (fun p _ => (ownD true K.s10) p) = unfold_done_g_t @scheme_Right @grid_New_cell @grid_Grid_Set_cell @deck_Of_cell @unfold_fold @deck_Deck_List_cell @grid_Grid_All_cell @grid_Grid_At_cell @grid_Grid_All_1_cell x0 (fun v0_3 v0_41 v0_h => loopN (unfold_done_g_cx @scheme_Right @grid_New_cell @grid_Grid_Set_cell @deck_Of_cell @unfold_fold @deck_Deck_List_cell @grid_Grid_All_cell @grid_Grid_At_cell @grid_Grid_All_1_cell) noY n Tryz.f64 (fun p _ => (ownD true K.s10) p) [1, 1, 1, 1, 0, 1, 0] n (unfold_done_g_e0 x0 v0_3 v0_41 v0_h)) := by kernel_rfl
theorem unfold_done_g_run (n : Nat) (scheme_Right : scheme_Right_T) (grid_New_cell : grid_New_cell_T) (grid_Grid_Set_cell : grid_Grid_Set_cell_T) (deck_Of_cell : deck_Of_cell_T) (unfold_fold : unfold_fold_T) (deck_Deck_List_cell : deck_Deck_List_cell_T) (grid_Grid_All_cell : grid_Grid_All_cell_T) (grid_Grid_At_cell : grid_Grid_At_cell_T) (grid_Grid_All_1_cell : grid_Grid_All_1_cell_T) (x0 : K.s4.den) : run (unfold_done_g_cx @scheme_Right @grid_New_cell @grid_Grid_Set_cell @deck_Of_cell @unfold_fold @deck_Deck_List_cell @grid_Grid_All_cell @grid_Grid_At_cell @grid_Grid_All_1_cell) noY n Tryz.f64 [.st K.s4 x0] [] (fun p _ => (ownD true K.s10) p) = unfold_done_g_at n @scheme_Right @grid_New_cell @grid_Grid_Set_cell @deck_Of_cell @unfold_fold @deck_Deck_List_cell @grid_Grid_All_cell @grid_Grid_At_cell @grid_Grid_All_1_cell x0 := by
  rw [unfold_done_g_r]
  have h0' : (fun v0_3 v0_41 v0_h => loopN (unfold_done_g_cx @scheme_Right @grid_New_cell @grid_Grid_Set_cell @deck_Of_cell @unfold_fold @deck_Deck_List_cell @grid_Grid_All_cell @grid_Grid_At_cell @grid_Grid_All_1_cell) noY n Tryz.f64 (fun p _ => (ownD true K.s10) p) [1, 1, 1, 1, 0, 1, 0] n (unfold_done_g_e0 x0 v0_3 v0_41 v0_h)) = unfold_done_g_l0 n @scheme_Right @grid_New_cell @grid_Grid_Set_cell @deck_Of_cell @unfold_fold @deck_Deck_List_cell @grid_Grid_All_cell @grid_Grid_At_cell @grid_Grid_All_1_cell x0 n := by funext v0_3 v0_41 v0_h; exact unfold_done_g_q0 n @scheme_Right @grid_New_cell @grid_Grid_Set_cell @deck_Of_cell @unfold_fold @deck_Deck_List_cell @grid_Grid_All_cell @grid_Grid_At_cell @grid_Grid_All_1_cell x0 n v0_3 v0_41 v0_h
  rw [h0']
  rfl
def unfold_done_sp (F : unfold_done_T) : Spec := Spec.of [K.s4] (fun x => F x.1) (fun x => .o true K.s10 x)
def unfold_done_spec : Spec := unfold_done_sp unfold_done
theorem unfold_done_tabok : TabOK Tryz.prog lay (unfold_done_g_tab @scheme_Right @grid_New_cell @grid_Grid_Set_cell @deck_Of_cell @unfold_fold @deck_Deck_List_cell @grid_Grid_All_cell @grid_Grid_At_cell @grid_Grid_All_1_cell) := ⟨kds_ok, eqs_ok, (Good.cons scheme_Right_ok Good.nil), (GoodH.cons grid_New_cell_ok (GoodH.cons grid_Grid_Set_cell_ok (GoodH.cons deck_Of_cell_ok (GoodH.cons unfold_fold_ok (GoodH.cons deck_Deck_List_cell_ok GoodH.nil))))), (GoodR.cons grid_Grid_All_cell_ok (GoodR.cons grid_Grid_At_cell_ok GoodR.nil)), (GoodI.cons grid_Grid_All_1_cell_ok GoodI.nil)⟩
theorem unfold_done_ok : CallOK Tryz.prog lay 64 unfold_done_spec.go :=
  spec_ok (T := unfold_done_g_tab @scheme_Right @grid_New_cell @grid_Grid_Set_cell @deck_Of_cell @unfold_fold @deck_Deck_List_cell @grid_Grid_All_cell @grid_Grid_At_cell @grid_Grid_All_1_cell) (live := unfold_done_g_live) (o := ⟨[3], [], [16, 36, 37, 47, 55], [18, 51]⟩) (fn := Tryz.f64) lay_stays unfold_done_tabok follows ⟨by kernel_rfl, by kernel_rfl, by kernel_rfl⟩ (by kernel_rfl) (fun _ => rfl) (fun _ _ h => ownD_eq h) FUEL fun x => unfold_done_g_run FUEL @scheme_Right @grid_New_cell @grid_Grid_Set_cell @deck_Of_cell @unfold_fold @deck_Deck_List_cell @grid_Grid_All_cell @grid_Grid_At_cell @grid_Grid_All_1_cell x.1
def unfold_Of_g_live : Nat → List Nat := fun b => match b with | 0 => [3, 4, 12, 13, 14] | _ => []
def unfold_Of_g_tab (unfold_done : unfold_done_T) : Tab := ⟨kds, eqs, [(64, unfold_done_sp unfold_done)], [], [], []⟩
def unfold_Of_g_cx (unfold_done : unfold_done_T) : Cx := (unfold_Of_g_tab @unfold_done).cx unfold_Of_g_live ⟨[], [], [], []⟩
def unfold_Of_g_e0 (x0 : K.s4.den) (v0_3 : (List K.s10.den)) (v0_4 : (List K.s10.den)) (v0_13 : Int) (v0_14 : Int) : Env :=
  ⟨[.un, .un, .un, .o true K.s10 v0_3, .o true K.s10 v0_4] ++ List.replicate 7 .un ++ [.r (.t 3), .i .i64 v0_13, .i .i64 v0_14] ++ List.replicate 16 .un, List.replicate 31 [], ([] : Hp)⟩
theorem unfold_Of_g_s0 (n : Nat) (m : Nat) (unfold_done : unfold_done_T) (x0 : K.s4.den) (v0_3 : (List K.s10.den)) (v0_4 : (List K.s10.den)) (v0_13 : Int) (v0_14 : Int) : loopN (unfold_Of_g_cx @unfold_done) noY n Tryz.f52 (fun p _ => (ownD true K.s10) p) [1, 1, 1, 0, 1, 0] (m + 1) (unfold_Of_g_e0 x0 v0_3 v0_4 v0_13 v0_14) =
    unfold_Of_g_b0 @unfold_done x0 (fun v0_3 v0_4 v0_13 v0_14 => loopN (unfold_Of_g_cx @unfold_done) noY n Tryz.f52 (fun p _ => (ownD true K.s10) p) [1, 1, 1, 0, 1, 0] m (unfold_Of_g_e0 x0 v0_3 v0_4 v0_13 v0_14)) v0_3 v0_4 v0_13 v0_14 := by kernel_rfl
theorem unfold_Of_g_q0 (n : Nat) (unfold_done : unfold_done_T) (x0 : K.s4.den) (m : Nat) : ∀ (v0_3 : (List K.s10.den)) (v0_4 : (List K.s10.den)) (v0_13 : Int) (v0_14 : Int), loopN (unfold_Of_g_cx @unfold_done) noY n Tryz.f52 (fun p _ => (ownD true K.s10) p) [1, 1, 1, 0, 1, 0] m (unfold_Of_g_e0 x0 v0_3 v0_4 v0_13 v0_14) = unfold_Of_g_l0 n @unfold_done x0 m v0_3 v0_4 v0_13 v0_14 := by
  induction m with
  | zero => intro v0_3 v0_4 v0_13 v0_14; rfl
  | succ m ih =>
    intro v0_3 v0_4 v0_13 v0_14
    rw [unfold_Of_g_s0]
    have hs : (fun v0_3 v0_4 v0_13 v0_14 => loopN (unfold_Of_g_cx @unfold_done) noY n Tryz.f52 (fun p _ => (ownD true K.s10) p) [1, 1, 1, 0, 1, 0] m (unfold_Of_g_e0 x0 v0_3 v0_4 v0_13 v0_14)) = unfold_Of_g_l0 n @unfold_done x0 m := by
      funext v0_3 v0_4 v0_13 v0_14; exact ih v0_3 v0_4 v0_13 v0_14
    rw [hs]
    rfl
theorem unfold_Of_g_r (n : Nat) (unfold_done : unfold_done_T) (x0 : K.s4.den) : run (unfold_Of_g_cx @unfold_done) noY n Tryz.f52 [.st K.s4 x0] [] (fun p _ => (ownD true K.s10) p) = unfold_Of_g_t @unfold_done x0 (fun v0_3 v0_4 v0_13 v0_14 => loopN (unfold_Of_g_cx @unfold_done) noY n Tryz.f52 (fun p _ => (ownD true K.s10) p) [1, 1, 1, 0, 1, 0] n (unfold_Of_g_e0 x0 v0_3 v0_4 v0_13 v0_14)) := by kernel_rfl
theorem unfold_Of_g_run (n : Nat) (unfold_done : unfold_done_T) (x0 : K.s4.den) : run (unfold_Of_g_cx @unfold_done) noY n Tryz.f52 [.st K.s4 x0] [] (fun p _ => (ownD true K.s10) p) = unfold_Of_g_at n @unfold_done x0 := by
  rw [unfold_Of_g_r]
  have h0' : (fun v0_3 v0_4 v0_13 v0_14 => loopN (unfold_Of_g_cx @unfold_done) noY n Tryz.f52 (fun p _ => (ownD true K.s10) p) [1, 1, 1, 0, 1, 0] n (unfold_Of_g_e0 x0 v0_3 v0_4 v0_13 v0_14)) = unfold_Of_g_l0 n @unfold_done x0 n := by funext v0_3 v0_4 v0_13 v0_14; exact unfold_Of_g_q0 n @unfold_done x0 n v0_3 v0_4 v0_13 v0_14
  rw [h0']
  rfl
def unfold_Of_sp (F : unfold_Of_T) : Spec := Spec.of [K.s4] (fun x => F x.1) (fun x => .o true K.s10 x)
def unfold_Of_spec : Spec := unfold_Of_sp unfold_Of
theorem unfold_Of_tabok : TabOK Tryz.prog lay (unfold_Of_g_tab @unfold_done) := ⟨kds_ok, eqs_ok, (Good.cons unfold_done_ok Good.nil), GoodH.nil, GoodR.nil, GoodI.nil⟩
theorem unfold_Of_ok : CallOK Tryz.prog lay 52 unfold_Of_spec.go :=
  spec_ok (T := unfold_Of_g_tab @unfold_done) (live := unfold_Of_g_live) (o := ⟨[], [], [], []⟩) (fn := Tryz.f52) lay_stays unfold_Of_tabok follows ⟨by kernel_rfl, by kernel_rfl, by kernel_rfl⟩ (by kernel_rfl) (fun _ => rfl) (fun _ _ h => ownD_eq h) FUEL fun x => unfold_Of_g_run FUEL @unfold_done x.1
def unfold_Order_g_live : Nat → List Nat := fun b => match b with | 0 => [3, 7, 8, 9] | _ => []
def unfold_Order_g_tab (unfold_done : unfold_done_T) : Tab := ⟨kds, eqs, [(64, unfold_done_sp unfold_done)], [], [], []⟩
def unfold_Order_g_cx (unfold_done : unfold_done_T) : Cx := (unfold_Order_g_tab @unfold_done).cx unfold_Order_g_live ⟨[], [], [], []⟩
def unfold_Order_g_e0 (x0 : K.s4.den) (v0_3 : (List Int)) (v0_7 : (List K.s10.den)) (v0_8 : Int) (v0_9 : Int) : Env :=
  ⟨[.un, .un, .un, .o true (.int .i64) v0_3, .un, .un, .un, .o true K.s10 v0_7, .i .i64 v0_8, .i .i64 v0_9] ++ List.replicate 10 .un, List.replicate 20 [], ([] : Hp)⟩
theorem unfold_Order_g_s0 (n : Nat) (m : Nat) (unfold_done : unfold_done_T) (x0 : K.s4.den) (v0_3 : (List Int)) (v0_7 : (List K.s10.den)) (v0_8 : Int) (v0_9 : Int) : loopN (unfold_Order_g_cx @unfold_done) noY n Tryz.f53 (fun p _ => (ownD true (.int .i64)) p) [1, 1, 0, 1, 0] (m + 1) (unfold_Order_g_e0 x0 v0_3 v0_7 v0_8 v0_9) =
    unfold_Order_g_b0 @unfold_done x0 (fun v0_3 v0_7 v0_8 v0_9 => loopN (unfold_Order_g_cx @unfold_done) noY n Tryz.f53 (fun p _ => (ownD true (.int .i64)) p) [1, 1, 0, 1, 0] m (unfold_Order_g_e0 x0 v0_3 v0_7 v0_8 v0_9)) v0_3 v0_7 v0_8 v0_9 := by kernel_rfl
theorem unfold_Order_g_q0 (n : Nat) (unfold_done : unfold_done_T) (x0 : K.s4.den) (m : Nat) : ∀ (v0_3 : (List Int)) (v0_7 : (List K.s10.den)) (v0_8 : Int) (v0_9 : Int), loopN (unfold_Order_g_cx @unfold_done) noY n Tryz.f53 (fun p _ => (ownD true (.int .i64)) p) [1, 1, 0, 1, 0] m (unfold_Order_g_e0 x0 v0_3 v0_7 v0_8 v0_9) = unfold_Order_g_l0 n @unfold_done x0 m v0_3 v0_7 v0_8 v0_9 := by
  induction m with
  | zero => intro v0_3 v0_7 v0_8 v0_9; rfl
  | succ m ih =>
    intro v0_3 v0_7 v0_8 v0_9
    rw [unfold_Order_g_s0]
    have hs : (fun v0_3 v0_7 v0_8 v0_9 => loopN (unfold_Order_g_cx @unfold_done) noY n Tryz.f53 (fun p _ => (ownD true (.int .i64)) p) [1, 1, 0, 1, 0] m (unfold_Order_g_e0 x0 v0_3 v0_7 v0_8 v0_9)) = unfold_Order_g_l0 n @unfold_done x0 m := by
      funext v0_3 v0_7 v0_8 v0_9; exact ih v0_3 v0_7 v0_8 v0_9
    rw [hs]
    rfl
theorem unfold_Order_g_r (n : Nat) (unfold_done : unfold_done_T) (x0 : K.s4.den) : run (unfold_Order_g_cx @unfold_done) noY n Tryz.f53 [.st K.s4 x0] [] (fun p _ => (ownD true (.int .i64)) p) = unfold_Order_g_t @unfold_done x0 (fun v0_3 v0_7 v0_8 v0_9 => loopN (unfold_Order_g_cx @unfold_done) noY n Tryz.f53 (fun p _ => (ownD true (.int .i64)) p) [1, 1, 0, 1, 0] n (unfold_Order_g_e0 x0 v0_3 v0_7 v0_8 v0_9)) := by kernel_rfl
theorem unfold_Order_g_run (n : Nat) (unfold_done : unfold_done_T) (x0 : K.s4.den) : run (unfold_Order_g_cx @unfold_done) noY n Tryz.f53 [.st K.s4 x0] [] (fun p _ => (ownD true (.int .i64)) p) = unfold_Order_g_at n @unfold_done x0 := by
  rw [unfold_Order_g_r]
  have h0' : (fun v0_3 v0_7 v0_8 v0_9 => loopN (unfold_Order_g_cx @unfold_done) noY n Tryz.f53 (fun p _ => (ownD true (.int .i64)) p) [1, 1, 0, 1, 0] n (unfold_Order_g_e0 x0 v0_3 v0_7 v0_8 v0_9)) = unfold_Order_g_l0 n @unfold_done x0 n := by funext v0_3 v0_7 v0_8 v0_9; exact unfold_Order_g_q0 n @unfold_done x0 n v0_3 v0_7 v0_8 v0_9
  rw [h0']
  rfl
def unfold_Order_sp (F : unfold_Order_T) : Spec := Spec.of [K.s4] (fun x => F x.1) (fun x => .o true (.int .i64) x)
def unfold_Order_spec : Spec := unfold_Order_sp unfold_Order
theorem unfold_Order_tabok : TabOK Tryz.prog lay (unfold_Order_g_tab @unfold_done) := ⟨kds_ok, eqs_ok, (Good.cons unfold_done_ok Good.nil), GoodH.nil, GoodR.nil, GoodI.nil⟩
theorem unfold_Order_ok : CallOK Tryz.prog lay 53 unfold_Order_spec.go :=
  spec_ok (T := unfold_Order_g_tab @unfold_done) (live := unfold_Order_g_live) (o := ⟨[], [], [], []⟩) (fn := Tryz.f53) lay_stays unfold_Order_tabok follows ⟨by kernel_rfl, by kernel_rfl, by kernel_rfl⟩ (by kernel_rfl) (fun _ => rfl) (fun _ _ h => ownD_eq h) FUEL fun x => unfold_Order_g_run FUEL @unfold_done x.1
def spine_of_g_live : Nat → List Nat := fun b => match b with | _ => []
def spine_of_g_tab (unfold_Of : unfold_Of_T) (unfold_Order : unfold_Order_T) : Tab := ⟨kds, eqs, [(52, unfold_Of_sp unfold_Of), (53, unfold_Order_sp unfold_Order)], [], [], []⟩
def spine_of_g_cx (unfold_Of : unfold_Of_T) (unfold_Order : unfold_Order_T) : Cx := (spine_of_g_tab @unfold_Of @unfold_Order).cx spine_of_g_live ⟨[], [], [], []⟩
theorem spine_of_g_run (n : Nat) (unfold_Of : unfold_Of_T) (unfold_Order : unfold_Order_T) (x0 : K.s4.den) : run (spine_of_g_cx @unfold_Of @unfold_Order) noY n Tryz.f39 [.st K.s4 x0] [] (fun p _ => (argD K.s8) p) = spine_of_g @unfold_Of @unfold_Order x0 := by kernel_rfl
def spine_of_sp (F : spine_of_T) : Spec := Spec.of [K.s4] (fun x => F x.1) (ofDen K.s8)
def spine_of_spec : Spec := spine_of_sp spine_of
theorem spine_of_tabok : TabOK Tryz.prog lay (spine_of_g_tab @unfold_Of @unfold_Order) := ⟨kds_ok, eqs_ok, (Good.cons unfold_Of_ok (Good.cons unfold_Order_ok Good.nil)), GoodH.nil, GoodR.nil, GoodI.nil⟩
theorem spine_of_ok : CallOK Tryz.prog lay 39 spine_of_spec.go :=
  spec_ok (T := spine_of_g_tab @unfold_Of @unfold_Order) (live := spine_of_g_live) (o := ⟨[], [], [], []⟩) (fn := Tryz.f39) lay_stays spine_of_tabok follows ⟨by kernel_rfl, by kernel_rfl, by kernel_rfl⟩ (by kernel_rfl) (fun r => freeP_ofDen (k := K.s8) rfl r) (fun _ _ h => argD_eq h) FUEL fun x => spine_of_g_run FUEL @unfold_Of @unfold_Order x.1
def spine_edges_between_g_live : Nat → List Nat := fun b => match b with | _ => []
def spine_edges_between_g_tab : Tab := ⟨kds, eqs, [], [], [], []⟩
def spine_edges_between_g_cx : Cx := (spine_edges_between_g_tab).cx spine_edges_between_g_live ⟨[], [], [], []⟩
theorem spine_edges_between_g_run (n : Nat) (x0 : K.s8.den) (x1 : Int) (x2 : Int) : run spine_edges_between_g_cx noY n Tryz.f54 [.st K.s8 x0, .i .i64 x1, .i .i64 x2] [] (fun p _ => (argD (.int .i64)) p) = spine_edges_between_g x0 x1 x2 := by kernel_rfl
def spine_edges_between_sp (F : spine_edges_between_T) : Spec := Spec.of [K.s8, (.int .i64), (.int .i64)] (fun x => F x.1 x.2.1 x.2.2.1) (ofDen (.int .i64))
def spine_edges_between_spec : Spec := spine_edges_between_sp spine_edges_between
theorem spine_edges_between_tabok : TabOK Tryz.prog lay (spine_edges_between_g_tab) := ⟨kds_ok, eqs_ok, Good.nil, GoodH.nil, GoodR.nil, GoodI.nil⟩
theorem spine_edges_between_ok : CallOK Tryz.prog lay 54 spine_edges_between_spec.go :=
  spec_ok (T := spine_edges_between_g_tab) (live := spine_edges_between_g_live) (o := ⟨[], [], [], []⟩) (fn := Tryz.f54) lay_stays spine_edges_between_tabok follows ⟨by kernel_rfl, by kernel_rfl, by kernel_rfl⟩ (by kernel_rfl) (fun r => freeP_ofDen (k := (.int .i64)) rfl r) (fun _ _ h => argD_eq h) FUEL fun x => spine_edges_between_g_run FUEL x.1 x.2.1 x.2.2.1
def spine_edges_leaves_g_live : Nat → List Nat := fun b => match b with | _ => []
def spine_edges_leaves_g_tab (spine_edges_between : spine_edges_between_T) : Tab := ⟨kds, eqs, [(54, spine_edges_between_sp spine_edges_between)], [], [], []⟩
def spine_edges_leaves_g_cx (spine_edges_between : spine_edges_between_T) : Cx := (spine_edges_leaves_g_tab @spine_edges_between).cx spine_edges_leaves_g_live ⟨[], [], [], []⟩
theorem spine_edges_leaves_g_run (n : Nat) (spine_edges_between : spine_edges_between_T) (x0 : K.s8.den) (x1 : Int) (x2 : Int) : run (spine_edges_leaves_g_cx @spine_edges_between) noY n Tryz.f40 [.st K.s8 x0, .i .i64 x1, .i .i64 x2] [] (fun p _ => (argD (.int .i64)) p) = spine_edges_leaves_g @spine_edges_between x0 x1 x2 := by kernel_rfl
def spine_edges_leaves_sp (F : spine_edges_leaves_T) : Spec := Spec.of [K.s8, (.int .i64), (.int .i64)] (fun x => F x.1 x.2.1 x.2.2.1) (ofDen (.int .i64))
def spine_edges_leaves_spec : Spec := spine_edges_leaves_sp spine_edges_leaves
theorem spine_edges_leaves_tabok : TabOK Tryz.prog lay (spine_edges_leaves_g_tab @spine_edges_between) := ⟨kds_ok, eqs_ok, (Good.cons spine_edges_between_ok Good.nil), GoodH.nil, GoodR.nil, GoodI.nil⟩
theorem spine_edges_leaves_ok : CallOK Tryz.prog lay 40 spine_edges_leaves_spec.go :=
  spec_ok (T := spine_edges_leaves_g_tab @spine_edges_between) (live := spine_edges_leaves_g_live) (o := ⟨[], [], [], []⟩) (fn := Tryz.f40) lay_stays spine_edges_leaves_tabok follows ⟨by kernel_rfl, by kernel_rfl, by kernel_rfl⟩ (by kernel_rfl) (fun r => freeP_ofDen (k := (.int .i64)) rfl r) (fun _ _ h => argD_eq h) FUEL fun x => spine_edges_leaves_g_run FUEL @spine_edges_between x.1 x.2.1 x.2.2.1
def spine_Nests_g_live : Nat → List Nat := fun b => match b with | 0 => [3, 4, 12, 13] | _ => []
def spine_Nests_g_tab (spine_of : spine_of_T) (spine_edges_leaves : spine_edges_leaves_T) : Tab := ⟨kds, eqs, [(39, spine_of_sp spine_of), (40, spine_edges_leaves_sp spine_edges_leaves)], [], [], []⟩
def spine_Nests_g_cx (spine_of : spine_of_T) (spine_edges_leaves : spine_edges_leaves_T) : Cx := (spine_Nests_g_tab @spine_of @spine_edges_leaves).cx spine_Nests_g_live ⟨[], [], [], []⟩
def spine_Nests_g_e0 (x0 : K.s4.den) (v0_4 : Int) (v0_12 : Int) (v0_13 : Int) (v0_3_0 : Int) (v0_3_1 : (List K.s10.den)) (v0_3_2 : (List Int)) : Env :=
  ⟨[.un, .un, .un, .bx 3 0, .i .i64 v0_4] ++ List.replicate 7 .un ++ [.i .i64 v0_12, .i .i64 v0_13] ++ List.replicate 18 .un, [[], [], [], [.i .i64 v0_3_0, .l K.s10 v0_3_1, .l (.int .i64) v0_3_2]] ++ List.replicate 28 [], ([] : Hp)⟩
theorem spine_Nests_g_s0 (n : Nat) (m : Nat) (spine_of : spine_of_T) (spine_edges_leaves : spine_edges_leaves_T) (x0 : K.s4.den) (v0_4 : Int) (v0_12 : Int) (v0_13 : Int) (v0_3_0 : Int) (v0_3_1 : (List K.s10.den)) (v0_3_2 : (List Int)) : loopN (spine_Nests_g_cx @spine_of @spine_edges_leaves) noY n Tryz.f30 (fun p _ => (argD .bool) p) [1, 1, 1, 0, 1, 0] (m + 1) (spine_Nests_g_e0 x0 v0_4 v0_12 v0_13 v0_3_0 v0_3_1 v0_3_2) =
    spine_Nests_g_b0 @spine_of @spine_edges_leaves x0 (fun v0_4 v0_12 v0_13 v0_3_0 v0_3_1 v0_3_2 => loopN (spine_Nests_g_cx @spine_of @spine_edges_leaves) noY n Tryz.f30 (fun p _ => (argD .bool) p) [1, 1, 1, 0, 1, 0] m (spine_Nests_g_e0 x0 v0_4 v0_12 v0_13 v0_3_0 v0_3_1 v0_3_2)) v0_4 v0_12 v0_13 v0_3_0 v0_3_1 v0_3_2 := by kernel_rfl
theorem spine_Nests_g_q0 (n : Nat) (spine_of : spine_of_T) (spine_edges_leaves : spine_edges_leaves_T) (x0 : K.s4.den) (m : Nat) : ∀ (v0_4 : Int) (v0_12 : Int) (v0_13 : Int) (v0_3_0 : Int) (v0_3_1 : (List K.s10.den)) (v0_3_2 : (List Int)), loopN (spine_Nests_g_cx @spine_of @spine_edges_leaves) noY n Tryz.f30 (fun p _ => (argD .bool) p) [1, 1, 1, 0, 1, 0] m (spine_Nests_g_e0 x0 v0_4 v0_12 v0_13 v0_3_0 v0_3_1 v0_3_2) = spine_Nests_g_l0 n @spine_of @spine_edges_leaves x0 m v0_4 v0_12 v0_13 v0_3_0 v0_3_1 v0_3_2 := by
  induction m with
  | zero => intro v0_4 v0_12 v0_13 v0_3_0 v0_3_1 v0_3_2; rfl
  | succ m ih =>
    intro v0_4 v0_12 v0_13 v0_3_0 v0_3_1 v0_3_2
    rw [spine_Nests_g_s0]
    have hs : (fun v0_4 v0_12 v0_13 v0_3_0 v0_3_1 v0_3_2 => loopN (spine_Nests_g_cx @spine_of @spine_edges_leaves) noY n Tryz.f30 (fun p _ => (argD .bool) p) [1, 1, 1, 0, 1, 0] m (spine_Nests_g_e0 x0 v0_4 v0_12 v0_13 v0_3_0 v0_3_1 v0_3_2)) = spine_Nests_g_l0 n @spine_of @spine_edges_leaves x0 m := by
      funext v0_4 v0_12 v0_13 v0_3_0 v0_3_1 v0_3_2; exact ih v0_4 v0_12 v0_13 v0_3_0 v0_3_1 v0_3_2
    rw [hs]
    rfl
theorem spine_Nests_g_r (n : Nat) (spine_of : spine_of_T) (spine_edges_leaves : spine_edges_leaves_T) (x0 : K.s4.den) : run (spine_Nests_g_cx @spine_of @spine_edges_leaves) noY n Tryz.f30 [.st K.s4 x0] [] (fun p _ => (argD .bool) p) = spine_Nests_g_t @spine_of @spine_edges_leaves x0 (fun v0_4 v0_12 v0_13 v0_3_0 v0_3_1 v0_3_2 => loopN (spine_Nests_g_cx @spine_of @spine_edges_leaves) noY n Tryz.f30 (fun p _ => (argD .bool) p) [1, 1, 1, 0, 1, 0] n (spine_Nests_g_e0 x0 v0_4 v0_12 v0_13 v0_3_0 v0_3_1 v0_3_2)) := by kernel_rfl
theorem spine_Nests_g_run (n : Nat) (spine_of : spine_of_T) (spine_edges_leaves : spine_edges_leaves_T) (x0 : K.s4.den) : run (spine_Nests_g_cx @spine_of @spine_edges_leaves) noY n Tryz.f30 [.st K.s4 x0] [] (fun p _ => (argD .bool) p) = spine_Nests_g_at n @spine_of @spine_edges_leaves x0 := by
  rw [spine_Nests_g_r]
  have h0' : (fun v0_4 v0_12 v0_13 v0_3_0 v0_3_1 v0_3_2 => loopN (spine_Nests_g_cx @spine_of @spine_edges_leaves) noY n Tryz.f30 (fun p _ => (argD .bool) p) [1, 1, 1, 0, 1, 0] n (spine_Nests_g_e0 x0 v0_4 v0_12 v0_13 v0_3_0 v0_3_1 v0_3_2)) = spine_Nests_g_l0 n @spine_of @spine_edges_leaves x0 n := by funext v0_4 v0_12 v0_13 v0_3_0 v0_3_1 v0_3_2; exact spine_Nests_g_q0 n @spine_of @spine_edges_leaves x0 n v0_4 v0_12 v0_13 v0_3_0 v0_3_1 v0_3_2
  rw [h0']
  rfl
def spine_Nests_sp (F : spine_Nests_T) : Spec := Spec.of [K.s4] (fun x => F x.1) (ofDen .bool)
def spine_Nests_spec : Spec := spine_Nests_sp spine_Nests
theorem spine_Nests_tabok : TabOK Tryz.prog lay (spine_Nests_g_tab @spine_of @spine_edges_leaves) := ⟨kds_ok, eqs_ok, (Good.cons spine_of_ok (Good.cons spine_edges_leaves_ok Good.nil)), GoodH.nil, GoodR.nil, GoodI.nil⟩
theorem spine_Nests_ok : CallOK Tryz.prog lay 30 spine_Nests_spec.go :=
  spec_ok (T := spine_Nests_g_tab @spine_of @spine_edges_leaves) (live := spine_Nests_g_live) (o := ⟨[], [], [], []⟩) (fn := Tryz.f30) lay_stays spine_Nests_tabok follows ⟨by kernel_rfl, by kernel_rfl, by kernel_rfl⟩ (by kernel_rfl) (fun r => freeP_ofDen (k := .bool) rfl r) (fun _ _ h => argD_eq h) FUEL fun x => spine_Nests_g_run FUEL @spine_of @spine_edges_leaves x.1
def split_Last_g_live : Nat → List Nat := fun b => match b with | 0 => [1, 28, 29, 30] | _ => []
def split_Last_g_tab (scheme_Panels : scheme_Panels_T) (scheme_Find : scheme_Find_T) (spine_Nests : spine_Nests_T) : Tab := ⟨kds, eqs, [(25, scheme_Panels_sp scheme_Panels), (29, scheme_Find_sp scheme_Find), (30, spine_Nests_sp spine_Nests)], [], [], []⟩
def split_Last_g_cx (scheme_Panels : scheme_Panels_T) (scheme_Find : scheme_Find_T) (spine_Nests : spine_Nests_T) : Cx := (split_Last_g_tab @scheme_Panels @scheme_Find @spine_Nests).cx split_Last_g_live ⟨[], [], [], []⟩
def split_Last_g_e0 (x0 : K.s5.den) (v0_30 : Int) : Env :=
  ⟨[.un, .bx 1 0] ++ List.replicate 26 .un ++ [.l .str x0.2.2.2.2.2.2.2.2.2.2.2.2.1, .i .i64 (x0.2.2.2.2.2.2.2.2.2.2.2.2.1.length : Int), .i .i64 v0_30] ++ List.replicate 29 .un, [[], [.s x0.1, .i .i64 x0.2.1, .i .i64 x0.2.2.1.1, .i .i64 x0.2.2.1.2.1, .i .i64 x0.2.2.2.1, .i .i64 x0.2.2.2.2.1, .i .i64 x0.2.2.2.2.2.1, .i .i64 x0.2.2.2.2.2.2.1, .i .i64 x0.2.2.2.2.2.2.2.1, .i .i64 x0.2.2.2.2.2.2.2.2.1, .i .i64 x0.2.2.2.2.2.2.2.2.2.1, .i .i64 x0.2.2.2.2.2.2.2.2.2.2.1, .i .i64 x0.2.2.2.2.2.2.2.2.2.2.2.1.1, .i .i64 x0.2.2.2.2.2.2.2.2.2.2.2.1.2.1, .l K.s7 x0.2.2.2.2.2.2.2.2.2.2.2.1.2.2.1, .l .str x0.2.2.2.2.2.2.2.2.2.2.2.2.1, .i .i64 x0.2.2.2.2.2.2.2.2.2.2.2.2.2.1, .i .i64 x0.2.2.2.2.2.2.2.2.2.2.2.2.2.2.1, .i .i64 x0.2.2.2.2.2.2.2.2.2.2.2.2.2.2.2.1, .i .i64 x0.2.2.2.2.2.2.2.2.2.2.2.2.2.2.2.2.1, .i .i64 x0.2.2.2.2.2.2.2.2.2.2.2.2.2.2.2.2.2.1, .i .i64 x0.2.2.2.2.2.2.2.2.2.2.2.2.2.2.2.2.2.2.1, .i .i64 x0.2.2.2.2.2.2.2.2.2.2.2.2.2.2.2.2.2.2.2.1, .i .i64 x0.2.2.2.2.2.2.2.2.2.2.2.2.2.2.2.2.2.2.2.2.1, .i .i64 x0.2.2.2.2.2.2.2.2.2.2.2.2.2.2.2.2.2.2.2.2.2.1, .i .i64 x0.2.2.2.2.2.2.2.2.2.2.2.2.2.2.2.2.2.2.2.2.2.2.1, .i .i64 x0.2.2.2.2.2.2.2.2.2.2.2.2.2.2.2.2.2.2.2.2.2.2.2.1, .i .i64 x0.2.2.2.2.2.2.2.2.2.2.2.2.2.2.2.2.2.2.2.2.2.2.2.2.1, .i .i64 x0.2.2.2.2.2.2.2.2.2.2.2.2.2.2.2.2.2.2.2.2.2.2.2.2.2.1, .i .i64 x0.2.2.2.2.2.2.2.2.2.2.2.2.2.2.2.2.2.2.2.2.2.2.2.2.2.2.1, .i .i64 x0.2.2.2.2.2.2.2.2.2.2.2.2.2.2.2.2.2.2.2.2.2.2.2.2.2.2.2.1, .i .i64 x0.2.2.2.2.2.2.2.2.2.2.2.2.2.2.2.2.2.2.2.2.2.2.2.2.2.2.2.2.1, .i .i64 x0.2.2.2.2.2.2.2.2.2.2.2.2.2.2.2.2.2.2.2.2.2.2.2.2.2.2.2.2.2.1]] ++ List.replicate 58 [], ([] : Hp)⟩
theorem split_Last_g_s0 (n : Nat) (m : Nat) (scheme_Panels : scheme_Panels_T) (scheme_Find : scheme_Find_T) (spine_Nests : spine_Nests_T) (x0 : K.s5.den) (v0_30 : Int) : loopN (split_Last_g_cx @scheme_Panels @scheme_Find @spine_Nests) noY n Tryz.f14 (fun p _ => (argD .bool) p) [1, 1, 0, 1, 0] (m + 1) (split_Last_g_e0 x0 v0_30) =
    split_Last_g_b0 @scheme_Panels @scheme_Find @spine_Nests x0 (fun v0_30 => loopN (split_Last_g_cx @scheme_Panels @scheme_Find @spine_Nests) noY n Tryz.f14 (fun p _ => (argD .bool) p) [1, 1, 0, 1, 0] m (split_Last_g_e0 x0 v0_30)) v0_30 := by kernel_rfl
theorem split_Last_g_q0 (n : Nat) (scheme_Panels : scheme_Panels_T) (scheme_Find : scheme_Find_T) (spine_Nests : spine_Nests_T) (x0 : K.s5.den) (m : Nat) : ∀ (v0_30 : Int), loopN (split_Last_g_cx @scheme_Panels @scheme_Find @spine_Nests) noY n Tryz.f14 (fun p _ => (argD .bool) p) [1, 1, 0, 1, 0] m (split_Last_g_e0 x0 v0_30) = split_Last_g_l0 n @scheme_Panels @scheme_Find @spine_Nests x0 m v0_30 := by
  induction m with
  | zero => intro v0_30; rfl
  | succ m ih =>
    intro v0_30
    rw [split_Last_g_s0]
    have hs : (fun v0_30 => loopN (split_Last_g_cx @scheme_Panels @scheme_Find @spine_Nests) noY n Tryz.f14 (fun p _ => (argD .bool) p) [1, 1, 0, 1, 0] m (split_Last_g_e0 x0 v0_30)) = split_Last_g_l0 n @scheme_Panels @scheme_Find @spine_Nests x0 m := by
      funext v0_30; exact ih v0_30
    rw [hs]
    rfl
theorem split_Last_g_r (n : Nat) (scheme_Panels : scheme_Panels_T) (scheme_Find : scheme_Find_T) (spine_Nests : spine_Nests_T) (x0 : K.s5.den) : run (split_Last_g_cx @scheme_Panels @scheme_Find @spine_Nests) noY n Tryz.f14 [.st K.s5 x0] [] (fun p _ => (argD .bool) p) = split_Last_g_t @scheme_Panels @scheme_Find @spine_Nests x0 (fun v0_30 => loopN (split_Last_g_cx @scheme_Panels @scheme_Find @spine_Nests) noY n Tryz.f14 (fun p _ => (argD .bool) p) [1, 1, 0, 1, 0] n (split_Last_g_e0 x0 v0_30)) := by kernel_rfl
theorem split_Last_g_run (n : Nat) (scheme_Panels : scheme_Panels_T) (scheme_Find : scheme_Find_T) (spine_Nests : spine_Nests_T) (x0 : K.s5.den) : run (split_Last_g_cx @scheme_Panels @scheme_Find @spine_Nests) noY n Tryz.f14 [.st K.s5 x0] [] (fun p _ => (argD .bool) p) = split_Last_g_at n @scheme_Panels @scheme_Find @spine_Nests x0 := by
  rw [split_Last_g_r]
  have h0' : (fun v0_30 => loopN (split_Last_g_cx @scheme_Panels @scheme_Find @spine_Nests) noY n Tryz.f14 (fun p _ => (argD .bool) p) [1, 1, 0, 1, 0] n (split_Last_g_e0 x0 v0_30)) = split_Last_g_l0 n @scheme_Panels @scheme_Find @spine_Nests x0 n := by funext v0_30; exact split_Last_g_q0 n @scheme_Panels @scheme_Find @spine_Nests x0 n v0_30
  rw [h0']
  rfl
def split_Last_sp (F : split_Last_T) : Spec := Spec.of [K.s5] (fun x => F x.1) (ofDen .bool)
def split_Last_spec : Spec := split_Last_sp split_Last
theorem split_Last_tabok : TabOK Tryz.prog lay (split_Last_g_tab @scheme_Panels @scheme_Find @spine_Nests) := ⟨kds_ok, eqs_ok, (Good.cons scheme_Panels_ok (Good.cons scheme_Find_ok (Good.cons spine_Nests_ok Good.nil))), GoodH.nil, GoodR.nil, GoodI.nil⟩
theorem split_Last_ok : CallOK Tryz.prog lay 14 split_Last_spec.go :=
  spec_ok (T := split_Last_g_tab @scheme_Panels @scheme_Find @spine_Nests) (live := split_Last_g_live) (o := ⟨[], [], [], []⟩) (fn := Tryz.f14) lay_stays split_Last_tabok follows ⟨by kernel_rfl, by kernel_rfl, by kernel_rfl⟩ (by kernel_rfl) (fun r => freeP_ofDen (k := .bool) rfl r) (fun _ _ h => argD_eq h) FUEL fun x => split_Last_g_run FUEL @scheme_Panels @scheme_Find @spine_Nests x.1
def split_of_g_live : Nat → List Nat := fun b => match b with | 0 => [2, 4, 5, 49, 50, 51] | _ => []
def split_of_g_tab (split_Folds : split_Folds_T) (split_Last : split_Last_T) (scheme_Panels : scheme_Panels_T) (num_In : num_In_T) (scheme_Find : scheme_Find_T) : Tab := ⟨kds, eqs, [(12, split_Folds_sp split_Folds), (14, split_Last_sp split_Last), (25, scheme_Panels_sp scheme_Panels), (27, num_In_sp num_In), (29, scheme_Find_sp scheme_Find)], [], [], []⟩
def split_of_g_cx (split_Folds : split_Folds_T) (split_Last : split_Last_T) (scheme_Panels : scheme_Panels_T) (num_In : num_In_T) (scheme_Find : scheme_Find_T) : Cx := (split_of_g_tab @split_Folds @split_Last @scheme_Panels @num_In @scheme_Find).cx split_of_g_live ⟨[], [], [], []⟩
def split_of_g_e0 (x0 : K.s5.den) (v0_5 : Int) (v0_51 : Int) (v0_4_0 : Int) (v0_4_1 : Int) (v0_4_2 : Int) (v0_4_3 : (List K.s7.den)) : Env :=
  ⟨[.un, .un, .bx 2 0, .un, .bx 4 0, .i .i64 v0_5] ++ List.replicate 43 .un ++ [.l .str x0.2.2.2.2.2.2.2.2.2.2.2.2.1, .i .i64 (x0.2.2.2.2.2.2.2.2.2.2.2.2.1.length : Int), .i .i64 v0_51] ++ List.replicate 25 .un, [[], [], [.i .i64 (0 : Int), .i .i64 (0 : Int), .i .i64 (0 : Int), .o false K.s7 ([] : List K.s7.den)], [], [.i .i64 v0_4_0, .i .i64 v0_4_1, .i .i64 v0_4_2, .l K.s7 v0_4_3]] ++ List.replicate 72 [], ([] : Hp)⟩
theorem split_of_g_s0 (n : Nat) (m : Nat) (split_Folds : split_Folds_T) (split_Last : split_Last_T) (scheme_Panels : scheme_Panels_T) (num_In : num_In_T) (scheme_Find : scheme_Find_T) (x0 : K.s5.den) (v0_5 : Int) (v0_51 : Int) (v0_4_0 : Int) (v0_4_1 : Int) (v0_4_2 : Int) (v0_4_3 : (List K.s7.den)) : loopN (split_of_g_cx @split_Folds @split_Last @scheme_Panels @num_In @scheme_Find) noY n Tryz.f24 (fun p _ => (argD K.s6) p) [1, 1, 1, 1, 1, 0, 1, 0] (m + 1) (split_of_g_e0 x0 v0_5 v0_51 v0_4_0 v0_4_1 v0_4_2 v0_4_3) =
    split_of_g_b0 @split_Folds @split_Last @scheme_Panels @num_In @scheme_Find x0 (fun v0_5 v0_51 v0_4_0 v0_4_1 v0_4_2 v0_4_3 => loopN (split_of_g_cx @split_Folds @split_Last @scheme_Panels @num_In @scheme_Find) noY n Tryz.f24 (fun p _ => (argD K.s6) p) [1, 1, 1, 1, 1, 0, 1, 0] m (split_of_g_e0 x0 v0_5 v0_51 v0_4_0 v0_4_1 v0_4_2 v0_4_3)) v0_5 v0_51 v0_4_0 v0_4_1 v0_4_2 v0_4_3 := by kernel_rfl
theorem split_of_g_q0 (n : Nat) (split_Folds : split_Folds_T) (split_Last : split_Last_T) (scheme_Panels : scheme_Panels_T) (num_In : num_In_T) (scheme_Find : scheme_Find_T) (x0 : K.s5.den) (m : Nat) : ∀ (v0_5 : Int) (v0_51 : Int) (v0_4_0 : Int) (v0_4_1 : Int) (v0_4_2 : Int) (v0_4_3 : (List K.s7.den)), loopN (split_of_g_cx @split_Folds @split_Last @scheme_Panels @num_In @scheme_Find) noY n Tryz.f24 (fun p _ => (argD K.s6) p) [1, 1, 1, 1, 1, 0, 1, 0] m (split_of_g_e0 x0 v0_5 v0_51 v0_4_0 v0_4_1 v0_4_2 v0_4_3) = split_of_g_l0 n @split_Folds @split_Last @scheme_Panels @num_In @scheme_Find x0 m v0_5 v0_51 v0_4_0 v0_4_1 v0_4_2 v0_4_3 := by
  induction m with
  | zero => intro v0_5 v0_51 v0_4_0 v0_4_1 v0_4_2 v0_4_3; rfl
  | succ m ih =>
    intro v0_5 v0_51 v0_4_0 v0_4_1 v0_4_2 v0_4_3
    rw [split_of_g_s0]
    have hs : (fun v0_5 v0_51 v0_4_0 v0_4_1 v0_4_2 v0_4_3 => loopN (split_of_g_cx @split_Folds @split_Last @scheme_Panels @num_In @scheme_Find) noY n Tryz.f24 (fun p _ => (argD K.s6) p) [1, 1, 1, 1, 1, 0, 1, 0] m (split_of_g_e0 x0 v0_5 v0_51 v0_4_0 v0_4_1 v0_4_2 v0_4_3)) = split_of_g_l0 n @split_Folds @split_Last @scheme_Panels @num_In @scheme_Find x0 m := by
      funext v0_5 v0_51 v0_4_0 v0_4_1 v0_4_2 v0_4_3; exact ih v0_5 v0_51 v0_4_0 v0_4_1 v0_4_2 v0_4_3
    rw [hs]
    rfl
theorem split_of_g_r (n : Nat) (split_Folds : split_Folds_T) (split_Last : split_Last_T) (scheme_Panels : scheme_Panels_T) (num_In : num_In_T) (scheme_Find : scheme_Find_T) (x0 : K.s5.den) : run (split_of_g_cx @split_Folds @split_Last @scheme_Panels @num_In @scheme_Find) noY n Tryz.f24 [.st K.s5 x0] [] (fun p _ => (argD K.s6) p) = split_of_g_t @split_Folds @split_Last @scheme_Panels @num_In @scheme_Find x0 (fun v0_5 v0_51 v0_4_0 v0_4_1 v0_4_2 v0_4_3 => loopN (split_of_g_cx @split_Folds @split_Last @scheme_Panels @num_In @scheme_Find) noY n Tryz.f24 (fun p _ => (argD K.s6) p) [1, 1, 1, 1, 1, 0, 1, 0] n (split_of_g_e0 x0 v0_5 v0_51 v0_4_0 v0_4_1 v0_4_2 v0_4_3)) := by kernel_rfl
theorem split_of_g_run (n : Nat) (split_Folds : split_Folds_T) (split_Last : split_Last_T) (scheme_Panels : scheme_Panels_T) (num_In : num_In_T) (scheme_Find : scheme_Find_T) (x0 : K.s5.den) : run (split_of_g_cx @split_Folds @split_Last @scheme_Panels @num_In @scheme_Find) noY n Tryz.f24 [.st K.s5 x0] [] (fun p _ => (argD K.s6) p) = split_of_g_at n @split_Folds @split_Last @scheme_Panels @num_In @scheme_Find x0 := by
  rw [split_of_g_r]
  have h0' : (fun v0_5 v0_51 v0_4_0 v0_4_1 v0_4_2 v0_4_3 => loopN (split_of_g_cx @split_Folds @split_Last @scheme_Panels @num_In @scheme_Find) noY n Tryz.f24 (fun p _ => (argD K.s6) p) [1, 1, 1, 1, 1, 0, 1, 0] n (split_of_g_e0 x0 v0_5 v0_51 v0_4_0 v0_4_1 v0_4_2 v0_4_3)) = split_of_g_l0 n @split_Folds @split_Last @scheme_Panels @num_In @scheme_Find x0 n := by funext v0_5 v0_51 v0_4_0 v0_4_1 v0_4_2 v0_4_3; exact split_of_g_q0 n @split_Folds @split_Last @scheme_Panels @num_In @scheme_Find x0 n v0_5 v0_51 v0_4_0 v0_4_1 v0_4_2 v0_4_3
  rw [h0']
  rfl
def split_of_sp (F : split_of_T) : Spec := Spec.of [K.s5] (fun x => F x.1) (ofDen K.s6)
def split_of_spec : Spec := split_of_sp split_of
theorem split_of_tabok : TabOK Tryz.prog lay (split_of_g_tab @split_Folds @split_Last @scheme_Panels @num_In @scheme_Find) := ⟨kds_ok, eqs_ok, (Good.cons split_Folds_ok (Good.cons split_Last_ok (Good.cons scheme_Panels_ok (Good.cons num_In_ok (Good.cons scheme_Find_ok Good.nil))))), GoodH.nil, GoodR.nil, GoodI.nil⟩
theorem split_of_ok : CallOK Tryz.prog lay 24 split_of_spec.go :=
  spec_ok (T := split_of_g_tab @split_Folds @split_Last @scheme_Panels @num_In @scheme_Find) (live := split_of_g_live) (o := ⟨[], [], [], []⟩) (fn := Tryz.f24) lay_stays split_of_tabok follows ⟨by kernel_rfl, by kernel_rfl, by kernel_rfl⟩ (by kernel_rfl) (fun r => freeP_ofDen (k := K.s6) rfl r) (fun _ _ h => argD_eq h) FUEL fun x => split_of_g_run FUEL @split_Folds @split_Last @scheme_Panels @num_In @scheme_Find x.1
def Clone__sp (F : Clone__T) : Spec := Spec.of [.list K.s7] (fun x => F x.1) (fun x => .o true K.s7 x)
def Clone__spec : Spec := Clone__sp Clone_
theorem Clone__ok : CallOK Tryz.prog lay 43 Clone__spec.go := clone_ok Tryz.clone43 rfl ⟨Tryz.f43, Tryz.func43, by kernel_rfl, by kernel_rfl⟩ (by decide) (show fitsB _ _ _ = true by kernel_rfl)
def split_own_g_live : Nat → List Nat := fun b => match b with | _ => []
def split_own_g_tab (Clone_ : Clone__T) : Tab := ⟨kds, eqs, [(43, Clone__sp Clone_)], [], [], []⟩
def split_own_g_cx (Clone_ : Clone__T) : Cx := (split_own_g_tab @Clone_).cx split_own_g_live ⟨[], [], [], []⟩
theorem split_own_g_run (n : Nat) (Clone_ : Clone__T) (x0 : K.s4.den) : run (split_own_g_cx @Clone_) noY n Tryz.f32 [.st K.s4 x0] [] (fun p _ => (argD K.s4) p) = split_own_g @Clone_ x0 := by kernel_rfl
def split_own_sp (F : split_own_T) : Spec := Spec.of [K.s4] (fun x => F x.1) (ofDen K.s4)
def split_own_spec : Spec := split_own_sp split_own
theorem split_own_tabok : TabOK Tryz.prog lay (split_own_g_tab @Clone_) := ⟨kds_ok, eqs_ok, (Good.cons Clone__ok Good.nil), GoodH.nil, GoodR.nil, GoodI.nil⟩
theorem split_own_ok : CallOK Tryz.prog lay 32 split_own_spec.go :=
  spec_ok (T := split_own_g_tab @Clone_) (live := split_own_g_live) (o := ⟨[], [], [], []⟩) (fn := Tryz.f32) lay_stays split_own_tabok follows ⟨by kernel_rfl, by kernel_rfl, by kernel_rfl⟩ (by kernel_rfl) (fun r => freeP_ofDen (k := K.s4) rfl r) (fun _ _ h => argD_eq h) FUEL fun x => split_own_g_run FUEL @Clone_ x.1
def split_Of_g_live : Nat → List Nat := fun b => match b with | 0 => [1, 3, 4, 9, 10] | _ => []
def split_Of_g_tab (split_of : split_of_T) (split_own : split_own_T) : Tab := ⟨kds, eqs, [(24, split_of_sp split_of), (32, split_own_sp split_own)], [], [], []⟩
def split_Of_g_cx (split_of : split_of_T) (split_own : split_own_T) : Cx := (split_Of_g_tab @split_of @split_own).cx split_Of_g_live ⟨[], [], [], []⟩
def split_Of_g_e0 (x0 : K.s5.den) (v0_3 : (List K.s4.den)) (v0_9 : Int) (v0_10 : Int) (v0_4_0 : Int) (v0_4_1 : Int) (v0_4_2 : Int) (v0_4_3 : (List K.s7.den)) : Env :=
  ⟨[.un, .bx 1 0, .un, .o true K.s4 v0_3, .bx 4 0, .un, .un, .un, .un, .i .i64 v0_9, .i .i64 v0_10] ++ List.replicate 21 .un, [[], [.s x0.1, .i .i64 x0.2.1, .i .i64 x0.2.2.1.1, .i .i64 x0.2.2.1.2.1, .i .i64 x0.2.2.2.1, .i .i64 x0.2.2.2.2.1, .i .i64 x0.2.2.2.2.2.1, .i .i64 x0.2.2.2.2.2.2.1, .i .i64 x0.2.2.2.2.2.2.2.1, .i .i64 x0.2.2.2.2.2.2.2.2.1, .i .i64 x0.2.2.2.2.2.2.2.2.2.1, .i .i64 x0.2.2.2.2.2.2.2.2.2.2.1, .i .i64 x0.2.2.2.2.2.2.2.2.2.2.2.1.1, .i .i64 x0.2.2.2.2.2.2.2.2.2.2.2.1.2.1, .l K.s7 x0.2.2.2.2.2.2.2.2.2.2.2.1.2.2.1, .l .str x0.2.2.2.2.2.2.2.2.2.2.2.2.1, .i .i64 x0.2.2.2.2.2.2.2.2.2.2.2.2.2.1, .i .i64 x0.2.2.2.2.2.2.2.2.2.2.2.2.2.2.1, .i .i64 x0.2.2.2.2.2.2.2.2.2.2.2.2.2.2.2.1, .i .i64 x0.2.2.2.2.2.2.2.2.2.2.2.2.2.2.2.2.1, .i .i64 x0.2.2.2.2.2.2.2.2.2.2.2.2.2.2.2.2.2.1, .i .i64 x0.2.2.2.2.2.2.2.2.2.2.2.2.2.2.2.2.2.2.1, .i .i64 x0.2.2.2.2.2.2.2.2.2.2.2.2.2.2.2.2.2.2.2.1, .i .i64 x0.2.2.2.2.2.2.2.2.2.2.2.2.2.2.2.2.2.2.2.2.1, .i .i64 x0.2.2.2.2.2.2.2.2.2.2.2.2.2.2.2.2.2.2.2.2.2.1, .i .i64 x0.2.2.2.2.2.2.2.2.2.2.2.2.2.2.2.2.2.2.2.2.2.2.1, .i .i64 x0.2.2.2.2.2.2.2.2.2.2.2.2.2.2.2.2.2.2.2.2.2.2.2.1, .i .i64 x0.2.2.2.2.2.2.2.2.2.2.2.2.2.2.2.2.2.2.2.2.2.2.2.2.1, .i .i64 x0.2.2.2.2.2.2.2.2.2.2.2.2.2.2.2.2.2.2.2.2.2.2.2.2.2.1, .i .i64 x0.2.2.2.2.2.2.2.2.2.2.2.2.2.2.2.2.2.2.2.2.2.2.2.2.2.2.1, .i .i64 x0.2.2.2.2.2.2.2.2.2.2.2.2.2.2.2.2.2.2.2.2.2.2.2.2.2.2.2.1, .i .i64 x0.2.2.2.2.2.2.2.2.2.2.2.2.2.2.2.2.2.2.2.2.2.2.2.2.2.2.2.2.1, .i .i64 x0.2.2.2.2.2.2.2.2.2.2.2.2.2.2.2.2.2.2.2.2.2.2.2.2.2.2.2.2.2.1], [], [], [.i .i64 v0_4_0, .i .i64 v0_4_1, .i .i64 v0_4_2, .l K.s7 v0_4_3]] ++ List.replicate 27 [], ([] : Hp)⟩
theorem split_Of_g_s0 (n : Nat) (m : Nat) (split_of : split_of_T) (split_own : split_own_T) (x0 : K.s5.den) (v0_3 : (List K.s4.den)) (v0_9 : Int) (v0_10 : Int) (v0_4_0 : Int) (v0_4_1 : Int) (v0_4_2 : Int) (v0_4_3 : (List K.s7.den)) : loopN (split_Of_g_cx @split_of @split_own) noY n Tryz.f16 (fun p _ => (ownD true K.s4) p) [1, 1, 1, 0, 1, 0] (m + 1) (split_Of_g_e0 x0 v0_3 v0_9 v0_10 v0_4_0 v0_4_1 v0_4_2 v0_4_3) =
    split_Of_g_b0 @split_of @split_own x0 (fun v0_3 v0_9 v0_10 v0_4_0 v0_4_1 v0_4_2 v0_4_3 => loopN (split_Of_g_cx @split_of @split_own) noY n Tryz.f16 (fun p _ => (ownD true K.s4) p) [1, 1, 1, 0, 1, 0] m (split_Of_g_e0 x0 v0_3 v0_9 v0_10 v0_4_0 v0_4_1 v0_4_2 v0_4_3)) v0_3 v0_9 v0_10 v0_4_0 v0_4_1 v0_4_2 v0_4_3 := by kernel_rfl
theorem split_Of_g_q0 (n : Nat) (split_of : split_of_T) (split_own : split_own_T) (x0 : K.s5.den) (m : Nat) : ∀ (v0_3 : (List K.s4.den)) (v0_9 : Int) (v0_10 : Int) (v0_4_0 : Int) (v0_4_1 : Int) (v0_4_2 : Int) (v0_4_3 : (List K.s7.den)), loopN (split_Of_g_cx @split_of @split_own) noY n Tryz.f16 (fun p _ => (ownD true K.s4) p) [1, 1, 1, 0, 1, 0] m (split_Of_g_e0 x0 v0_3 v0_9 v0_10 v0_4_0 v0_4_1 v0_4_2 v0_4_3) = split_Of_g_l0 n @split_of @split_own x0 m v0_3 v0_9 v0_10 v0_4_0 v0_4_1 v0_4_2 v0_4_3 := by
  induction m with
  | zero => intro v0_3 v0_9 v0_10 v0_4_0 v0_4_1 v0_4_2 v0_4_3; rfl
  | succ m ih =>
    intro v0_3 v0_9 v0_10 v0_4_0 v0_4_1 v0_4_2 v0_4_3
    rw [split_Of_g_s0]
    have hs : (fun v0_3 v0_9 v0_10 v0_4_0 v0_4_1 v0_4_2 v0_4_3 => loopN (split_Of_g_cx @split_of @split_own) noY n Tryz.f16 (fun p _ => (ownD true K.s4) p) [1, 1, 1, 0, 1, 0] m (split_Of_g_e0 x0 v0_3 v0_9 v0_10 v0_4_0 v0_4_1 v0_4_2 v0_4_3)) = split_Of_g_l0 n @split_of @split_own x0 m := by
      funext v0_3 v0_9 v0_10 v0_4_0 v0_4_1 v0_4_2 v0_4_3; exact ih v0_3 v0_9 v0_10 v0_4_0 v0_4_1 v0_4_2 v0_4_3
    rw [hs]
    rfl
theorem split_Of_g_r (n : Nat) (split_of : split_of_T) (split_own : split_own_T) (x0 : K.s5.den) : run (split_Of_g_cx @split_of @split_own) noY n Tryz.f16 [.st K.s5 x0] [] (fun p _ => (ownD true K.s4) p) = split_Of_g_t @split_of @split_own x0 (fun v0_3 v0_9 v0_10 v0_4_0 v0_4_1 v0_4_2 v0_4_3 => loopN (split_Of_g_cx @split_of @split_own) noY n Tryz.f16 (fun p _ => (ownD true K.s4) p) [1, 1, 1, 0, 1, 0] n (split_Of_g_e0 x0 v0_3 v0_9 v0_10 v0_4_0 v0_4_1 v0_4_2 v0_4_3)) := by kernel_rfl
theorem split_Of_g_run (n : Nat) (split_of : split_of_T) (split_own : split_own_T) (x0 : K.s5.den) : run (split_Of_g_cx @split_of @split_own) noY n Tryz.f16 [.st K.s5 x0] [] (fun p _ => (ownD true K.s4) p) = split_Of_g_at n @split_of @split_own x0 := by
  rw [split_Of_g_r]
  have h0' : (fun v0_3 v0_9 v0_10 v0_4_0 v0_4_1 v0_4_2 v0_4_3 => loopN (split_Of_g_cx @split_of @split_own) noY n Tryz.f16 (fun p _ => (ownD true K.s4) p) [1, 1, 1, 0, 1, 0] n (split_Of_g_e0 x0 v0_3 v0_9 v0_10 v0_4_0 v0_4_1 v0_4_2 v0_4_3)) = split_Of_g_l0 n @split_of @split_own x0 n := by funext v0_3 v0_9 v0_10 v0_4_0 v0_4_1 v0_4_2 v0_4_3; exact split_Of_g_q0 n @split_of @split_own x0 n v0_3 v0_9 v0_10 v0_4_0 v0_4_1 v0_4_2 v0_4_3
  rw [h0']
  rfl
def split_Of_sp (F : split_Of_T) : Spec := Spec.of [K.s5] (fun x => F x.1) (fun x => .o true K.s4 x)
def split_Of_spec : Spec := split_Of_sp split_Of
theorem split_Of_tabok : TabOK Tryz.prog lay (split_Of_g_tab @split_of @split_own) := ⟨kds_ok, eqs_ok, (Good.cons split_of_ok (Good.cons split_own_ok Good.nil)), GoodH.nil, GoodR.nil, GoodI.nil⟩
theorem split_Of_ok : CallOK Tryz.prog lay 16 split_Of_spec.go :=
  spec_ok (T := split_Of_g_tab @split_of @split_own) (live := split_Of_g_live) (o := ⟨[], [], [], []⟩) (fn := Tryz.f16) lay_stays split_Of_tabok follows ⟨by kernel_rfl, by kernel_rfl, by kernel_rfl⟩ (by kernel_rfl) (fun _ => rfl) (fun _ _ h => ownD_eq h) FUEL fun x => split_Of_g_run FUEL @split_of @split_own x.1
def split_Leaves_g_live : Nat → List Nat := fun b => match b with | _ => []
def split_Leaves_g_tab (split_of : split_of_T) (scheme_Panels : scheme_Panels_T) : Tab := ⟨kds, eqs, [(24, split_of_sp split_of), (25, scheme_Panels_sp scheme_Panels)], [], [], []⟩
def split_Leaves_g_cx (split_of : split_of_T) (scheme_Panels : scheme_Panels_T) : Cx := (split_Leaves_g_tab @split_of @scheme_Panels).cx split_Leaves_g_live ⟨[], [], [], []⟩
theorem split_Leaves_g_run (n : Nat) (split_of : split_of_T) (scheme_Panels : scheme_Panels_T) (x0 : K.s5.den) : run (split_Leaves_g_cx @split_of @scheme_Panels) noY n Tryz.f10 [.st K.s5 x0] [] (fun p _ => (argD (.int .i64)) p) = split_Leaves_g @split_of @scheme_Panels x0 := by kernel_rfl
def split_Leaves_sp (F : split_Leaves_T) : Spec := Spec.of [K.s5] (fun x => F x.1) (ofDen (.int .i64))
def split_Leaves_spec : Spec := split_Leaves_sp split_Leaves
theorem split_Leaves_tabok : TabOK Tryz.prog lay (split_Leaves_g_tab @split_of @scheme_Panels) := ⟨kds_ok, eqs_ok, (Good.cons split_of_ok (Good.cons scheme_Panels_ok Good.nil)), GoodH.nil, GoodR.nil, GoodI.nil⟩
theorem split_Leaves_ok : CallOK Tryz.prog lay 10 split_Leaves_spec.go :=
  spec_ok (T := split_Leaves_g_tab @split_of @scheme_Panels) (live := split_Leaves_g_live) (o := ⟨[], [], [], []⟩) (fn := Tryz.f10) lay_stays split_Leaves_tabok follows ⟨by kernel_rfl, by kernel_rfl, by kernel_rfl⟩ (by kernel_rfl) (fun r => freeP_ofDen (k := (.int .i64)) rfl r) (fun _ _ h => argD_eq h) FUEL fun x => split_Leaves_g_run FUEL @split_of @scheme_Panels x.1
def split_Blanks_g_live : Nat → List Nat := fun b => match b with | _ => []
def split_Blanks_g_tab (split_Leaves : split_Leaves_T) : Tab := ⟨kds, eqs, [(10, split_Leaves_sp split_Leaves)], [], [], []⟩
def split_Blanks_g_cx (split_Leaves : split_Leaves_T) : Cx := (split_Blanks_g_tab @split_Leaves).cx split_Blanks_g_live ⟨[], [], [], []⟩
theorem split_Blanks_g_run (n : Nat) (split_Leaves : split_Leaves_T) (x0 : K.s5.den) : run (split_Blanks_g_cx @split_Leaves) noY n Tryz.f7 [.st K.s5 x0] [] (fun p _ => (argD (.int .i64)) p) = split_Blanks_g @split_Leaves x0 := by kernel_rfl
def split_Blanks_sp (F : split_Blanks_T) : Spec := Spec.of [K.s5] (fun x => F x.1) (ofDen (.int .i64))
def split_Blanks_spec : Spec := split_Blanks_sp split_Blanks
theorem split_Blanks_tabok : TabOK Tryz.prog lay (split_Blanks_g_tab @split_Leaves) := ⟨kds_ok, eqs_ok, (Good.cons split_Leaves_ok Good.nil), GoodH.nil, GoodR.nil, GoodI.nil⟩
theorem split_Blanks_ok : CallOK Tryz.prog lay 7 split_Blanks_spec.go :=
  spec_ok (T := split_Blanks_g_tab @split_Leaves) (live := split_Blanks_g_live) (o := ⟨[], [], [], []⟩) (fn := Tryz.f7) lay_stays split_Blanks_tabok follows ⟨by kernel_rfl, by kernel_rfl, by kernel_rfl⟩ (by kernel_rfl) (fun r => freeP_ofDen (k := (.int .i64)) rfl r) (fun _ _ h => argD_eq h) FUEL fun x => split_Blanks_g_run FUEL @split_Leaves x.1
def law17_alive_g_live : Nat → List Nat := fun b => match b with | _ => []
def law17_alive_g_tab (split_Blanks : split_Blanks_T) (split_Leaves : split_Leaves_T) (split_Folds : split_Folds_T) (split_Last : split_Last_T) (split_Of : split_Of_T) (ref15_Usual : ref15_Usual_T) : Tab := ⟨kds, eqs, [(7, split_Blanks_sp split_Blanks), (10, split_Leaves_sp split_Leaves), (12, split_Folds_sp split_Folds), (14, split_Last_sp split_Last), (16, split_Of_sp split_Of), (22, ref15_Usual_sp ref15_Usual)], [], [], []⟩
def law17_alive_g_cx (split_Blanks : split_Blanks_T) (split_Leaves : split_Leaves_T) (split_Folds : split_Folds_T) (split_Last : split_Last_T) (split_Of : split_Of_T) (ref15_Usual : ref15_Usual_T) : Cx := (law17_alive_g_tab @split_Blanks @split_Leaves @split_Folds @split_Last @split_Of @ref15_Usual).cx law17_alive_g_live ⟨[], [], [], []⟩
theorem law17_alive_g_run (n : Nat) (split_Blanks : split_Blanks_T) (split_Leaves : split_Leaves_T) (split_Folds : split_Folds_T) (split_Last : split_Last_T) (split_Of : split_Of_T) (ref15_Usual : ref15_Usual_T) : run (law17_alive_g_cx @split_Blanks @split_Leaves @split_Folds @split_Last @split_Of @ref15_Usual) noY n Tryz.f6 [] [] (fun p _ => (argD .bool) p) = law17_alive_g @split_Blanks @split_Leaves @split_Folds @split_Last @split_Of @ref15_Usual := by kernel_rfl
def law17_alive_sp (F : law17_alive_T) : Spec := Spec.of [] (fun x => F) (ofDen .bool)
def law17_alive_spec : Spec := law17_alive_sp law17_alive
theorem law17_alive_tabok : TabOK Tryz.prog lay (law17_alive_g_tab @split_Blanks @split_Leaves @split_Folds @split_Last @split_Of @ref15_Usual) := ⟨kds_ok, eqs_ok, (Good.cons split_Blanks_ok (Good.cons split_Leaves_ok (Good.cons split_Folds_ok (Good.cons split_Last_ok (Good.cons split_Of_ok (Good.cons ref15_Usual_ok Good.nil)))))), GoodH.nil, GoodR.nil, GoodI.nil⟩
theorem law17_alive_ok : CallOK Tryz.prog lay 6 law17_alive_spec.go :=
  spec_ok (T := law17_alive_g_tab @split_Blanks @split_Leaves @split_Folds @split_Last @split_Of @ref15_Usual) (live := law17_alive_g_live) (o := ⟨[], [], [], []⟩) (fn := Tryz.f6) lay_stays law17_alive_tabok follows ⟨by kernel_rfl, by kernel_rfl, by kernel_rfl⟩ (by kernel_rfl) (fun r => freeP_ofDen (k := .bool) rfl r) (fun _ _ h => argD_eq h) FUEL fun x => law17_alive_g_run FUEL @split_Blanks @split_Leaves @split_Folds @split_Last @split_Of @ref15_Usual
def ref01_In_g_live : Nat → List Nat := fun b => match b with | _ => []
def ref01_In_g_tab : Tab := ⟨kds, eqs, [], [], [], []⟩
def ref01_In_g_cx : Cx := (ref01_In_g_tab).cx ref01_In_g_live ⟨[], [], [], []⟩
theorem ref01_In_g_run (n : Nat) (x0 : Int) (x1 : Int) (x2 : Int) : run ref01_In_g_cx noY n Tryz.f23 [.i .i64 x0, .i .i64 x1, .i .i64 x2] [] (fun p _ => (argD .bool) p) = ref01_In_g x0 x1 x2 := by kernel_rfl
def ref01_In_sp (F : ref01_In_T) : Spec := Spec.of [(.int .i64), (.int .i64), (.int .i64)] (fun x => F x.1 x.2.1 x.2.2.1) (ofDen .bool)
def ref01_In_spec : Spec := ref01_In_sp ref01_In
theorem ref01_In_tabok : TabOK Tryz.prog lay (ref01_In_g_tab) := ⟨kds_ok, eqs_ok, Good.nil, GoodH.nil, GoodR.nil, GoodI.nil⟩
theorem ref01_In_ok : CallOK Tryz.prog lay 23 ref01_In_spec.go :=
  spec_ok (T := ref01_In_g_tab) (live := ref01_In_g_live) (o := ⟨[], [], [], []⟩) (fn := Tryz.f23) lay_stays ref01_In_tabok follows ⟨by kernel_rfl, by kernel_rfl, by kernel_rfl⟩ (by kernel_rfl) (fun r => freeP_ofDen (k := .bool) rfl r) (fun _ _ h => argD_eq h) FUEL fun x => ref01_In_g_run FUEL x.1 x.2.1 x.2.2.1
def ref11_Panels_g_live : Nat → List Nat := fun b => match b with | _ => []
def ref11_Panels_g_tab (ref01_In : ref01_In_T) : Tab := ⟨kds, eqs, [(23, ref01_In_sp ref01_In)], [], [], []⟩
def ref11_Panels_g_cx (ref01_In : ref01_In_T) : Cx := (ref11_Panels_g_tab @ref01_In).cx ref11_Panels_g_live ⟨[], [], [], []⟩
theorem ref11_Panels_g_run (n : Nat) (ref01_In : ref01_In_T) (x0 : K.s4.den) : run (ref11_Panels_g_cx @ref01_In) noY n Tryz.f8 [.st K.s4 x0] [] (fun p _ => (argD (.int .i64)) p) = ref11_Panels_g @ref01_In x0 := by kernel_rfl
def ref11_Panels_sp (F : ref11_Panels_T) : Spec := Spec.of [K.s4] (fun x => F x.1) (ofDen (.int .i64))
def ref11_Panels_spec : Spec := ref11_Panels_sp ref11_Panels
theorem ref11_Panels_tabok : TabOK Tryz.prog lay (ref11_Panels_g_tab @ref01_In) := ⟨kds_ok, eqs_ok, (Good.cons ref01_In_ok Good.nil), GoodH.nil, GoodR.nil, GoodI.nil⟩
theorem ref11_Panels_ok : CallOK Tryz.prog lay 8 ref11_Panels_spec.go :=
  spec_ok (T := ref11_Panels_g_tab @ref01_In) (live := ref11_Panels_g_live) (o := ⟨[], [], [], []⟩) (fn := Tryz.f8) lay_stays ref11_Panels_tabok follows ⟨by kernel_rfl, by kernel_rfl, by kernel_rfl⟩ (by kernel_rfl) (fun r => freeP_ofDen (k := (.int .i64)) rfl r) (fun _ _ h => argD_eq h) FUEL fun x => ref11_Panels_g_run FUEL @ref01_In x.1
def split_Count_g_live : Nat → List Nat := fun b => match b with | _ => []
def split_Count_g_tab (split_of : split_of_T) : Tab := ⟨kds, eqs, [(24, split_of_sp split_of)], [], [], []⟩
def split_Count_g_cx (split_of : split_of_T) : Cx := (split_Count_g_tab @split_of).cx split_Count_g_live ⟨[], [], [], []⟩
theorem split_Count_g_run (n : Nat) (split_of : split_of_T) (x0 : K.s5.den) : run (split_Count_g_cx @split_of) noY n Tryz.f9 [.st K.s5 x0] [] (fun p _ => (argD (.int .i64)) p) = split_Count_g @split_of x0 := by kernel_rfl
def split_Count_sp (F : split_Count_T) : Spec := Spec.of [K.s5] (fun x => F x.1) (ofDen (.int .i64))
def split_Count_spec : Spec := split_Count_sp split_Count
theorem split_Count_tabok : TabOK Tryz.prog lay (split_Count_g_tab @split_of) := ⟨kds_ok, eqs_ok, (Good.cons split_of_ok Good.nil), GoodH.nil, GoodR.nil, GoodI.nil⟩
theorem split_Count_ok : CallOK Tryz.prog lay 9 split_Count_spec.go :=
  spec_ok (T := split_Count_g_tab @split_of) (live := split_Count_g_live) (o := ⟨[], [], [], []⟩) (fn := Tryz.f9) lay_stays split_Count_tabok follows ⟨by kernel_rfl, by kernel_rfl, by kernel_rfl⟩ (by kernel_rfl) (fun r => freeP_ofDen (k := (.int .i64)) rfl r) (fun _ _ h => argD_eq h) FUEL fun x => split_Count_g_run FUEL @split_of x.1
def law17_SplitBlanks_g_live : Nat → List Nat := fun b => match b with | _ => []
def law17_SplitBlanks_g_tab (law17_alive : law17_alive_T) (split_Blanks : split_Blanks_T) (ref11_Panels : ref11_Panels_T) (split_Count : split_Count_T) (split_Leaves : split_Leaves_T) : Tab := ⟨kds, eqs, [(6, law17_alive_sp law17_alive), (7, split_Blanks_sp split_Blanks), (8, ref11_Panels_sp ref11_Panels), (9, split_Count_sp split_Count), (10, split_Leaves_sp split_Leaves)], [], [], []⟩
def law17_SplitBlanks_g_cx (law17_alive : law17_alive_T) (split_Blanks : split_Blanks_T) (ref11_Panels : ref11_Panels_T) (split_Count : split_Count_T) (split_Leaves : split_Leaves_T) : Cx := (law17_SplitBlanks_g_tab @law17_alive @split_Blanks @ref11_Panels @split_Count @split_Leaves).cx law17_SplitBlanks_g_live ⟨[], [], [], []⟩
theorem law17_SplitBlanks_g_run (n : Nat) (law17_alive : law17_alive_T) (split_Blanks : split_Blanks_T) (ref11_Panels : ref11_Panels_T) (split_Count : split_Count_T) (split_Leaves : split_Leaves_T) (x0 : K.s5.den) : run (law17_SplitBlanks_g_cx @law17_alive @split_Blanks @ref11_Panels @split_Count @split_Leaves) noY n Tryz.f3 [.st K.s5 x0] [] (fun p _ => (argD .bool) p) = law17_SplitBlanks_g @law17_alive @split_Blanks @ref11_Panels @split_Count @split_Leaves x0 := by kernel_rfl
def law17_SplitBlanks_sp (F : law17_SplitBlanks_T) : Spec := Spec.of [K.s5] (fun x => F x.1) (ofDen .bool)
def law17_SplitBlanks_spec : Spec := law17_SplitBlanks_sp law17_SplitBlanks
theorem law17_SplitBlanks_tabok : TabOK Tryz.prog lay (law17_SplitBlanks_g_tab @law17_alive @split_Blanks @ref11_Panels @split_Count @split_Leaves) := ⟨kds_ok, eqs_ok, (Good.cons law17_alive_ok (Good.cons split_Blanks_ok (Good.cons ref11_Panels_ok (Good.cons split_Count_ok (Good.cons split_Leaves_ok Good.nil))))), GoodH.nil, GoodR.nil, GoodI.nil⟩
theorem law17_SplitBlanks_ok : CallOK Tryz.prog lay 3 law17_SplitBlanks_spec.go :=
  spec_ok (T := law17_SplitBlanks_g_tab @law17_alive @split_Blanks @ref11_Panels @split_Count @split_Leaves) (live := law17_SplitBlanks_g_live) (o := ⟨[], [], [], []⟩) (fn := Tryz.f3) lay_stays law17_SplitBlanks_tabok follows ⟨by kernel_rfl, by kernel_rfl, by kernel_rfl⟩ (by kernel_rfl) (fun r => freeP_ofDen (k := .bool) rfl r) (fun _ _ h => argD_eq h) FUEL fun x => law17_SplitBlanks_g_run FUEL @law17_alive @split_Blanks @ref11_Panels @split_Count @split_Leaves x.1
def ref15_Light_g_live : Nat → List Nat := fun b => match b with | 0 => [1, 3] | _ => []
def ref15_Light_g_tab : Tab := ⟨kds, eqs, [], [], [], []⟩
def ref15_Light_g_cx : Cx := (ref15_Light_g_tab).cx ref15_Light_g_live ⟨[], [], [], []⟩
def ref15_Light_g_e0 (x0 : K.s5.den) (v0_3 : Int) : Env :=
  ⟨[.un, .bx 1 0, .un, .i .i64 v0_3] ++ List.replicate 41 .un, [[], [.s x0.1, .i .i64 x0.2.1, .i .i64 x0.2.2.1.1, .i .i64 x0.2.2.1.2.1, .i .i64 x0.2.2.2.1, .i .i64 x0.2.2.2.2.1, .i .i64 x0.2.2.2.2.2.1, .i .i64 x0.2.2.2.2.2.2.1, .i .i64 x0.2.2.2.2.2.2.2.1, .i .i64 x0.2.2.2.2.2.2.2.2.1, .i .i64 x0.2.2.2.2.2.2.2.2.2.1, .i .i64 x0.2.2.2.2.2.2.2.2.2.2.1, .i .i64 x0.2.2.2.2.2.2.2.2.2.2.2.1.1, .i .i64 x0.2.2.2.2.2.2.2.2.2.2.2.1.2.1, .l K.s7 x0.2.2.2.2.2.2.2.2.2.2.2.1.2.2.1, .l .str x0.2.2.2.2.2.2.2.2.2.2.2.2.1, .i .i64 x0.2.2.2.2.2.2.2.2.2.2.2.2.2.1, .i .i64 x0.2.2.2.2.2.2.2.2.2.2.2.2.2.2.1, .i .i64 x0.2.2.2.2.2.2.2.2.2.2.2.2.2.2.2.1, .i .i64 x0.2.2.2.2.2.2.2.2.2.2.2.2.2.2.2.2.1, .i .i64 x0.2.2.2.2.2.2.2.2.2.2.2.2.2.2.2.2.2.1, .i .i64 x0.2.2.2.2.2.2.2.2.2.2.2.2.2.2.2.2.2.2.1, .i .i64 x0.2.2.2.2.2.2.2.2.2.2.2.2.2.2.2.2.2.2.2.1, .i .i64 x0.2.2.2.2.2.2.2.2.2.2.2.2.2.2.2.2.2.2.2.2.1, .i .i64 x0.2.2.2.2.2.2.2.2.2.2.2.2.2.2.2.2.2.2.2.2.2.1, .i .i64 x0.2.2.2.2.2.2.2.2.2.2.2.2.2.2.2.2.2.2.2.2.2.2.1, .i .i64 x0.2.2.2.2.2.2.2.2.2.2.2.2.2.2.2.2.2.2.2.2.2.2.2.1, .i .i64 x0.2.2.2.2.2.2.2.2.2.2.2.2.2.2.2.2.2.2.2.2.2.2.2.2.1, .i .i64 x0.2.2.2.2.2.2.2.2.2.2.2.2.2.2.2.2.2.2.2.2.2.2.2.2.2.1, .i .i64 x0.2.2.2.2.2.2.2.2.2.2.2.2.2.2.2.2.2.2.2.2.2.2.2.2.2.2.1, .i .i64 x0.2.2.2.2.2.2.2.2.2.2.2.2.2.2.2.2.2.2.2.2.2.2.2.2.2.2.2.1, .i .i64 x0.2.2.2.2.2.2.2.2.2.2.2.2.2.2.2.2.2.2.2.2.2.2.2.2.2.2.2.2.1, .i .i64 x0.2.2.2.2.2.2.2.2.2.2.2.2.2.2.2.2.2.2.2.2.2.2.2.2.2.2.2.2.2.1]] ++ List.replicate 43 [], ([] : Hp)⟩
theorem ref15_Light_g_s0 (n : Nat) (m : Nat) (x0 : K.s5.den) (v0_3 : Int) : loopN ref15_Light_g_cx noY n Tryz.f11 (fun p _ => (argD .bool) p) [1, 1, 0, 1, 0] (m + 1) (ref15_Light_g_e0 x0 v0_3) =
    ref15_Light_g_b0 x0 (fun v0_3 => loopN ref15_Light_g_cx noY n Tryz.f11 (fun p _ => (argD .bool) p) [1, 1, 0, 1, 0] m (ref15_Light_g_e0 x0 v0_3)) v0_3 := by kernel_rfl
theorem ref15_Light_g_q0 (n : Nat) (x0 : K.s5.den) (m : Nat) : ∀ (v0_3 : Int), loopN ref15_Light_g_cx noY n Tryz.f11 (fun p _ => (argD .bool) p) [1, 1, 0, 1, 0] m (ref15_Light_g_e0 x0 v0_3) = ref15_Light_g_l0 n x0 m v0_3 := by
  induction m with
  | zero => intro v0_3; rfl
  | succ m ih =>
    intro v0_3
    rw [ref15_Light_g_s0]
    have hs : (fun v0_3 => loopN ref15_Light_g_cx noY n Tryz.f11 (fun p _ => (argD .bool) p) [1, 1, 0, 1, 0] m (ref15_Light_g_e0 x0 v0_3)) = ref15_Light_g_l0 n x0 m := by
      funext v0_3; exact ih v0_3
    rw [hs]
    rfl
theorem ref15_Light_g_r (n : Nat) (x0 : K.s5.den) : run ref15_Light_g_cx noY n Tryz.f11 [.st K.s5 x0] [] (fun p _ => (argD .bool) p) = ref15_Light_g_t x0 (fun v0_3 => loopN ref15_Light_g_cx noY n Tryz.f11 (fun p _ => (argD .bool) p) [1, 1, 0, 1, 0] n (ref15_Light_g_e0 x0 v0_3)) := by kernel_rfl
theorem ref15_Light_g_run (n : Nat) (x0 : K.s5.den) : run ref15_Light_g_cx noY n Tryz.f11 [.st K.s5 x0] [] (fun p _ => (argD .bool) p) = ref15_Light_g_at n x0 := by
  rw [ref15_Light_g_r]
  have h0' : (fun v0_3 => loopN ref15_Light_g_cx noY n Tryz.f11 (fun p _ => (argD .bool) p) [1, 1, 0, 1, 0] n (ref15_Light_g_e0 x0 v0_3)) = ref15_Light_g_l0 n x0 n := by funext v0_3; exact ref15_Light_g_q0 n x0 n v0_3
  rw [h0']
  rfl
def ref15_Light_sp (F : ref15_Light_T) : Spec := Spec.of [K.s5] (fun x => F x.1) (ofDen .bool)
def ref15_Light_spec : Spec := ref15_Light_sp ref15_Light
theorem ref15_Light_tabok : TabOK Tryz.prog lay (ref15_Light_g_tab) := ⟨kds_ok, eqs_ok, Good.nil, GoodH.nil, GoodR.nil, GoodI.nil⟩
theorem ref15_Light_ok : CallOK Tryz.prog lay 11 ref15_Light_spec.go :=
  spec_ok (T := ref15_Light_g_tab) (live := ref15_Light_g_live) (o := ⟨[], [], [], []⟩) (fn := Tryz.f11) lay_stays ref15_Light_tabok follows ⟨by kernel_rfl, by kernel_rfl, by kernel_rfl⟩ (by kernel_rfl) (fun r => freeP_ofDen (k := .bool) rfl r) (fun _ _ h => argD_eq h) FUEL fun x => ref15_Light_g_run FUEL x.1
def ref11_Right_g_live : Nat → List Nat := fun b => match b with | _ => []
def ref11_Right_g_tab (ref01_In : ref01_In_T) : Tab := ⟨kds, eqs, [(23, ref01_In_sp ref01_In)], [], [], []⟩
def ref11_Right_g_cx (ref01_In : ref01_In_T) : Cx := (ref11_Right_g_tab @ref01_In).cx ref11_Right_g_live ⟨[], [], [], []⟩
theorem ref11_Right_g_run (n : Nat) (ref01_In : ref01_In_T) (x0 : K.s7.den) : run (ref11_Right_g_cx @ref01_In) noY n Tryz.f48 [.st K.s7 x0] [] (fun p _ => (argD .bool) p) = ref11_Right_g @ref01_In x0 := by kernel_rfl
def ref11_Right_sp (F : ref11_Right_T) : Spec := Spec.of [K.s7] (fun x => F x.1) (ofDen .bool)
def ref11_Right_spec : Spec := ref11_Right_sp ref11_Right
theorem ref11_Right_tabok : TabOK Tryz.prog lay (ref11_Right_g_tab @ref01_In) := ⟨kds_ok, eqs_ok, (Good.cons ref01_In_ok Good.nil), GoodH.nil, GoodR.nil, GoodI.nil⟩
theorem ref11_Right_ok : CallOK Tryz.prog lay 48 ref11_Right_spec.go :=
  spec_ok (T := ref11_Right_g_tab @ref01_In) (live := ref11_Right_g_live) (o := ⟨[], [], [], []⟩) (fn := Tryz.f48) lay_stays ref11_Right_tabok follows ⟨by kernel_rfl, by kernel_rfl, by kernel_rfl⟩ (by kernel_rfl) (fun r => freeP_ofDen (k := .bool) rfl r) (fun _ _ h => argD_eq h) FUEL fun x => ref11_Right_g_run FUEL @ref01_In x.1
def ref11_After_g_live : Nat → List Nat := fun b => match b with | 0 => [0, 1, 2, 9] | _ => []
def ref11_After_g_tab (ref11_Right : ref11_Right_T) : Tab := ⟨kds, eqs, [(48, ref11_Right_sp ref11_Right)], [], [], []⟩
def ref11_After_g_cx (ref11_Right : ref11_Right_T) : Cx := (ref11_After_g_tab @ref11_Right).cx ref11_After_g_live ⟨[], [], [], []⟩
def ref11_After_g_e0 (x0 : Int) (x1 : Int) (x2 : (List K.s7.den)) (v0_0 : Int) (v0_1 : Int) (v0_9 : Int) : Env :=
  ⟨[.i .i64 v0_0, .i .i64 v0_1, .l K.s7 x2, .un, .un, .un, .un, .un, .un, .i .i64 v0_9] ++ List.replicate 48 .un, List.replicate 58 [], ([] : Hp)⟩
theorem ref11_After_g_s0 (n : Nat) (m : Nat) (ref11_Right : ref11_Right_T) (x0 : Int) (x1 : Int) (x2 : (List K.s7.den)) (v0_0 : Int) (v0_1 : Int) (v0_9 : Int) : loopN (ref11_After_g_cx @ref11_Right) noY n Tryz.f37 (fun p _ => (tupsD K.s7) p) [1, 1, 0, 1, 0] (m + 1) (ref11_After_g_e0 x0 x1 x2 v0_0 v0_1 v0_9) =
    ref11_After_g_b0 @ref11_Right x0 x1 x2 (fun v0_0 v0_1 v0_9 => loopN (ref11_After_g_cx @ref11_Right) noY n Tryz.f37 (fun p _ => (tupsD K.s7) p) [1, 1, 0, 1, 0] m (ref11_After_g_e0 x0 x1 x2 v0_0 v0_1 v0_9)) v0_0 v0_1 v0_9 := by kernel_rfl
theorem ref11_After_g_q0 (n : Nat) (ref11_Right : ref11_Right_T) (x0 : Int) (x1 : Int) (x2 : (List K.s7.den)) (m : Nat) : ∀ (v0_0 : Int) (v0_1 : Int) (v0_9 : Int), loopN (ref11_After_g_cx @ref11_Right) noY n Tryz.f37 (fun p _ => (tupsD K.s7) p) [1, 1, 0, 1, 0] m (ref11_After_g_e0 x0 x1 x2 v0_0 v0_1 v0_9) = ref11_After_g_l0 n @ref11_Right x0 x1 x2 m v0_0 v0_1 v0_9 := by
  induction m with
  | zero => intro v0_0 v0_1 v0_9; rfl
  | succ m ih =>
    intro v0_0 v0_1 v0_9
    rw [ref11_After_g_s0]
    have hs : (fun v0_0 v0_1 v0_9 => loopN (ref11_After_g_cx @ref11_Right) noY n Tryz.f37 (fun p _ => (tupsD K.s7) p) [1, 1, 0, 1, 0] m (ref11_After_g_e0 x0 x1 x2 v0_0 v0_1 v0_9)) = ref11_After_g_l0 n @ref11_Right x0 x1 x2 m := by
      funext v0_0 v0_1 v0_9; exact ih v0_0 v0_1 v0_9
    rw [hs]
    rfl
theorem ref11_After_g_r (n : Nat) (ref11_Right : ref11_Right_T) (x0 : Int) (x1 : Int) (x2 : (List K.s7.den)) : run (ref11_After_g_cx @ref11_Right) noY n Tryz.f37 [.i .i64 x0, .i .i64 x1, .l K.s7 x2] [] (fun p _ => (tupsD K.s7) p) = ref11_After_g_t @ref11_Right x0 x1 x2 (fun v0_0 v0_1 v0_9 => loopN (ref11_After_g_cx @ref11_Right) noY n Tryz.f37 (fun p _ => (tupsD K.s7) p) [1, 1, 0, 1, 0] n (ref11_After_g_e0 x0 x1 x2 v0_0 v0_1 v0_9)) := by kernel_rfl
theorem ref11_After_g_run (n : Nat) (ref11_Right : ref11_Right_T) (x0 : Int) (x1 : Int) (x2 : (List K.s7.den)) : run (ref11_After_g_cx @ref11_Right) noY n Tryz.f37 [.i .i64 x0, .i .i64 x1, .l K.s7 x2] [] (fun p _ => (tupsD K.s7) p) = ref11_After_g_at n @ref11_Right x0 x1 x2 := by
  rw [ref11_After_g_r]
  have h0' : (fun v0_0 v0_1 v0_9 => loopN (ref11_After_g_cx @ref11_Right) noY n Tryz.f37 (fun p _ => (tupsD K.s7) p) [1, 1, 0, 1, 0] n (ref11_After_g_e0 x0 x1 x2 v0_0 v0_1 v0_9)) = ref11_After_g_l0 n @ref11_Right x0 x1 x2 n := by funext v0_0 v0_1 v0_9; exact ref11_After_g_q0 n @ref11_Right x0 x1 x2 n v0_0 v0_1 v0_9
  rw [h0']
  rfl
def ref11_After_sp (F : ref11_After_T) : Spec := Spec.of [(.int .i64), (.int .i64), (.list K.s7)] (fun x => F x.1 x.2.1 x.2.2.1) (fun x => .tup (tupL K.s7 x))
def ref11_After_spec : Spec := ref11_After_sp ref11_After
theorem ref11_After_tabok : TabOK Tryz.prog lay (ref11_After_g_tab @ref11_Right) := ⟨kds_ok, eqs_ok, (Good.cons ref11_Right_ok Good.nil), GoodH.nil, GoodR.nil, GoodI.nil⟩
theorem ref11_After_ok : CallOK Tryz.prog lay 37 ref11_After_spec.go :=
  spec_ok (T := ref11_After_g_tab @ref11_Right) (live := ref11_After_g_live) (o := ⟨[], [], [], []⟩) (fn := Tryz.f37) lay_stays ref11_After_tabok follows ⟨by kernel_rfl, by kernel_rfl, by kernel_rfl⟩ (by kernel_rfl) (fun r => freeP_tupL (k := K.s7) rfl r) (fun _ _ h => tupsD_eq h) FUEL fun x => ref11_After_g_run FUEL @ref11_Right x.1 x.2.1 x.2.2.1
def ref11_Fine_g_live : Nat → List Nat := fun b => match b with | _ => []
def ref11_Fine_g_tab (ref11_Panels : ref11_Panels_T) (ref01_In : ref01_In_T) (ref11_After : ref11_After_T) : Tab := ⟨kds, eqs, [(8, ref11_Panels_sp ref11_Panels), (23, ref01_In_sp ref01_In), (37, ref11_After_sp ref11_After)], [], [], []⟩
def ref11_Fine_g_cx (ref11_Panels : ref11_Panels_T) (ref01_In : ref01_In_T) (ref11_After : ref11_After_T) : Cx := (ref11_Fine_g_tab @ref11_Panels @ref01_In @ref11_After).cx ref11_Fine_g_live ⟨[], [], [], []⟩
theorem ref11_Fine_g_run (n : Nat) (ref11_Panels : ref11_Panels_T) (ref01_In : ref01_In_T) (ref11_After : ref11_After_T) (x0 : K.s4.den) : run (ref11_Fine_g_cx @ref11_Panels @ref01_In @ref11_After) noY n Tryz.f28 [.st K.s4 x0] [] (fun p _ => (argD .bool) p) = ref11_Fine_g @ref11_Panels @ref01_In @ref11_After x0 := by kernel_rfl
def ref11_Fine_sp (F : ref11_Fine_T) : Spec := Spec.of [K.s4] (fun x => F x.1) (ofDen .bool)
def ref11_Fine_spec : Spec := ref11_Fine_sp ref11_Fine
theorem ref11_Fine_tabok : TabOK Tryz.prog lay (ref11_Fine_g_tab @ref11_Panels @ref01_In @ref11_After) := ⟨kds_ok, eqs_ok, (Good.cons ref11_Panels_ok (Good.cons ref01_In_ok (Good.cons ref11_After_ok Good.nil))), GoodH.nil, GoodR.nil, GoodI.nil⟩
theorem ref11_Fine_ok : CallOK Tryz.prog lay 28 ref11_Fine_spec.go :=
  spec_ok (T := ref11_Fine_g_tab @ref11_Panels @ref01_In @ref11_After) (live := ref11_Fine_g_live) (o := ⟨[], [], [], []⟩) (fn := Tryz.f28) lay_stays ref11_Fine_tabok follows ⟨by kernel_rfl, by kernel_rfl, by kernel_rfl⟩ (by kernel_rfl) (fun r => freeP_ofDen (k := .bool) rfl r) (fun _ _ h => argD_eq h) FUEL fun x => ref11_Fine_g_run FUEL @ref11_Panels @ref01_In @ref11_After x.1
def ref17_Folds_g_live : Nat → List Nat := fun b => match b with | _ => []
def ref17_Folds_g_tab (ref11_Panels : ref11_Panels_T) (ref01_In : ref01_In_T) (ref11_Fine : ref11_Fine_T) : Tab := ⟨kds, eqs, [(8, ref11_Panels_sp ref11_Panels), (23, ref01_In_sp ref01_In), (28, ref11_Fine_sp ref11_Fine)], [], [], []⟩
def ref17_Folds_g_cx (ref11_Panels : ref11_Panels_T) (ref01_In : ref01_In_T) (ref11_Fine : ref11_Fine_T) : Cx := (ref17_Folds_g_tab @ref11_Panels @ref01_In @ref11_Fine).cx ref17_Folds_g_live ⟨[], [], [], []⟩
theorem ref17_Folds_g_run (n : Nat) (ref11_Panels : ref11_Panels_T) (ref01_In : ref01_In_T) (ref11_Fine : ref11_Fine_T) (x0 : K.s5.den) : run (ref17_Folds_g_cx @ref11_Panels @ref01_In @ref11_Fine) noY n Tryz.f13 [.st K.s5 x0] [] (fun p _ => (argD .bool) p) = ref17_Folds_g @ref11_Panels @ref01_In @ref11_Fine x0 := by kernel_rfl
def ref17_Folds_sp (F : ref17_Folds_T) : Spec := Spec.of [K.s5] (fun x => F x.1) (ofDen .bool)
def ref17_Folds_spec : Spec := ref17_Folds_sp ref17_Folds
theorem ref17_Folds_tabok : TabOK Tryz.prog lay (ref17_Folds_g_tab @ref11_Panels @ref01_In @ref11_Fine) := ⟨kds_ok, eqs_ok, (Good.cons ref11_Panels_ok (Good.cons ref01_In_ok (Good.cons ref11_Fine_ok Good.nil))), GoodH.nil, GoodR.nil, GoodI.nil⟩
theorem ref17_Folds_ok : CallOK Tryz.prog lay 13 ref17_Folds_spec.go :=
  spec_ok (T := ref17_Folds_g_tab @ref11_Panels @ref01_In @ref11_Fine) (live := ref17_Folds_g_live) (o := ⟨[], [], [], []⟩) (fn := Tryz.f13) lay_stays ref17_Folds_tabok follows ⟨by kernel_rfl, by kernel_rfl, by kernel_rfl⟩ (by kernel_rfl) (fun r => freeP_ofDen (k := .bool) rfl r) (fun _ _ h => argD_eq h) FUEL fun x => ref17_Folds_g_run FUEL @ref11_Panels @ref01_In @ref11_Fine x.1
def ref11_Names_g_live : Nat → List Nat := fun b => match b with | _ => []
def ref11_Names_g_tab : Tab := ⟨kds, eqs, [], [], [], []⟩
def ref11_Names_g_cx : Cx := (ref11_Names_g_tab).cx ref11_Names_g_live ⟨[], [], [], []⟩
theorem ref11_Names_g_run (n : Nat) : run ref11_Names_g_cx noY n Tryz.f33 [] [] (fun p _ => (ownD true .str) p) = ref11_Names_g := by kernel_rfl
def ref11_Names_sp (F : ref11_Names_T) : Spec := Spec.of [] (fun x => F) (fun x => .o true .str x)
def ref11_Names_spec : Spec := ref11_Names_sp ref11_Names
theorem ref11_Names_tabok : TabOK Tryz.prog lay (ref11_Names_g_tab) := ⟨kds_ok, eqs_ok, Good.nil, GoodH.nil, GoodR.nil, GoodI.nil⟩
theorem ref11_Names_ok : CallOK Tryz.prog lay 33 ref11_Names_spec.go :=
  spec_ok (T := ref11_Names_g_tab) (live := ref11_Names_g_live) (o := ⟨[], [], [], []⟩) (fn := Tryz.f33) lay_stays ref11_Names_tabok follows ⟨by kernel_rfl, by kernel_rfl, by kernel_rfl⟩ (by kernel_rfl) (fun _ => rfl) (fun _ _ h => ownD_eq h) FUEL fun x => ref11_Names_g_run FUEL
def ref11_plans_g_live : Nat → List Nat := fun b => match b with | _ => []
def ref11_plans_g_tab : Tab := ⟨kds, eqs, [], [], [], []⟩
def ref11_plans_g_cx : Cx := (ref11_plans_g_tab).cx ref11_plans_g_live ⟨[], [], [], []⟩
theorem ref11_plans_g_run (n : Nat) : run ref11_plans_g_cx noY n Tryz.f35 [] [] (fun p _ => (ownD true .str) p) = ref11_plans_g := by kernel_rfl
def ref11_plans_sp (F : ref11_plans_T) : Spec := Spec.of [] (fun x => F) (fun x => .o true .str x)
def ref11_plans_spec : Spec := ref11_plans_sp ref11_plans
theorem ref11_plans_tabok : TabOK Tryz.prog lay (ref11_plans_g_tab) := ⟨kds_ok, eqs_ok, Good.nil, GoodH.nil, GoodR.nil, GoodI.nil⟩
theorem ref11_plans_ok : CallOK Tryz.prog lay 35 ref11_plans_spec.go :=
  spec_ok (T := ref11_plans_g_tab) (live := ref11_plans_g_live) (o := ⟨[], [], [], []⟩) (fn := Tryz.f35) lay_stays ref11_plans_tabok follows ⟨by kernel_rfl, by kernel_rfl, by kernel_rfl⟩ (by kernel_rfl) (fun _ => rfl) (fun _ _ h => ownD_eq h) FUEL fun x => ref11_plans_g_run FUEL
def ref07_seen_g_live : Nat → List Nat := fun b => match b with | _ => []
def ref07_seen_g_tab : Tab := ⟨kds, eqs, [], [], [], []⟩
def ref07_seen_g_cx : Cx := (ref07_seen_g_tab).cx ref07_seen_g_live ⟨[], [], [], []⟩
theorem ref07_seen_g_run (n : Nat) (x0 : Int) : run ref07_seen_g_cx noY n Tryz.f67 [.i .u8 x0] [] (fun p _ => (argD .bool) p) = ref07_seen_g x0 := by kernel_rfl
def ref07_seen_sp (F : ref07_seen_T) : Spec := Spec.of [(.int .u8)] (fun x => F x.1) (ofDen .bool)
def ref07_seen_spec : Spec := ref07_seen_sp ref07_seen
theorem ref07_seen_tabok : TabOK Tryz.prog lay (ref07_seen_g_tab) := ⟨kds_ok, eqs_ok, Good.nil, GoodH.nil, GoodR.nil, GoodI.nil⟩
theorem ref07_seen_ok : CallOK Tryz.prog lay 67 ref07_seen_spec.go :=
  spec_ok (T := ref07_seen_g_tab) (live := ref07_seen_g_live) (o := ⟨[], [], [], []⟩) (fn := Tryz.f67) lay_stays ref07_seen_tabok follows ⟨by kernel_rfl, by kernel_rfl, by kernel_rfl⟩ (by kernel_rfl) (fun r => freeP_ofDen (k := .bool) rfl r) (fun _ _ h => argD_eq h) FUEL fun x => ref07_seen_g_run FUEL x.1
def ref07_Fields_g_live : Nat → List Nat := fun b => match b with | 0 => [0, 4, 5, 6, 7, 8] | _ => []
def ref07_Fields_g_tab (ref07_seen : ref07_seen_T) : Tab := ⟨kds, eqs, [(67, ref07_seen_sp ref07_seen)], [], [], []⟩
def ref07_Fields_g_cx (ref07_seen : ref07_seen_T) : Cx := (ref07_Fields_g_tab @ref07_seen).cx ref07_Fields_g_live ⟨[], [], [], []⟩
def ref07_Fields_g_e0 (x0 : ByteArray) (v0_4 : (List ByteArray)) (v0_5 : ByteArray) (v0_6 : Bool) (v0_7 : Bool) (v0_8 : Int) : Env :=
  ⟨[.s x0, .un, .un, .un, .o true .str v0_4, .s v0_5, .b v0_6, .b v0_7, .i .i64 v0_8] ++ List.replicate 81 .un, List.replicate 90 [], ([] : Hp)⟩
theorem ref07_Fields_g_s0 (n : Nat) (m : Nat) (ref07_seen : ref07_seen_T) (x0 : ByteArray) (v0_4 : (List ByteArray)) (v0_5 : ByteArray) (v0_6 : Bool) (v0_7 : Bool) (v0_8 : Int) : loopN (ref07_Fields_g_cx @ref07_seen) noY n Tryz.f56 (fun p _ => (tupsD (.pair (.list .str) (.pair .bool .unit))) p) [1, 1, 1, 1, 0, 1, 0] (m + 1) (ref07_Fields_g_e0 x0 v0_4 v0_5 v0_6 v0_7 v0_8) =
    ref07_Fields_g_b0 @ref07_seen x0 (fun v0_4 v0_5 v0_6 v0_7 v0_8 => loopN (ref07_Fields_g_cx @ref07_seen) noY n Tryz.f56 (fun p _ => (tupsD (.pair (.list .str) (.pair .bool .unit))) p) [1, 1, 1, 1, 0, 1, 0] m (ref07_Fields_g_e0 x0 v0_4 v0_5 v0_6 v0_7 v0_8)) v0_4 v0_5 v0_6 v0_7 v0_8 := by kernel_rfl
theorem ref07_Fields_g_q0 (n : Nat) (ref07_seen : ref07_seen_T) (x0 : ByteArray) (m : Nat) : ∀ (v0_4 : (List ByteArray)) (v0_5 : ByteArray) (v0_6 : Bool) (v0_7 : Bool) (v0_8 : Int), loopN (ref07_Fields_g_cx @ref07_seen) noY n Tryz.f56 (fun p _ => (tupsD (.pair (.list .str) (.pair .bool .unit))) p) [1, 1, 1, 1, 0, 1, 0] m (ref07_Fields_g_e0 x0 v0_4 v0_5 v0_6 v0_7 v0_8) = ref07_Fields_g_l0 n @ref07_seen x0 m v0_4 v0_5 v0_6 v0_7 v0_8 := by
  induction m with
  | zero => intro v0_4 v0_5 v0_6 v0_7 v0_8; rfl
  | succ m ih =>
    intro v0_4 v0_5 v0_6 v0_7 v0_8
    rw [ref07_Fields_g_s0]
    have hs : (fun v0_4 v0_5 v0_6 v0_7 v0_8 => loopN (ref07_Fields_g_cx @ref07_seen) noY n Tryz.f56 (fun p _ => (tupsD (.pair (.list .str) (.pair .bool .unit))) p) [1, 1, 1, 1, 0, 1, 0] m (ref07_Fields_g_e0 x0 v0_4 v0_5 v0_6 v0_7 v0_8)) = ref07_Fields_g_l0 n @ref07_seen x0 m := by
      funext v0_4 v0_5 v0_6 v0_7 v0_8; exact ih v0_4 v0_5 v0_6 v0_7 v0_8
    rw [hs]
    rfl
theorem ref07_Fields_g_r (n : Nat) (ref07_seen : ref07_seen_T) (x0 : ByteArray) : run (ref07_Fields_g_cx @ref07_seen) noY n Tryz.f56 [.s x0] [] (fun p _ => (tupsD (.pair (.list .str) (.pair .bool .unit))) p) = ref07_Fields_g_t @ref07_seen x0 (fun v0_4 v0_5 v0_6 v0_7 v0_8 => loopN (ref07_Fields_g_cx @ref07_seen) noY n Tryz.f56 (fun p _ => (tupsD (.pair (.list .str) (.pair .bool .unit))) p) [1, 1, 1, 1, 0, 1, 0] n (ref07_Fields_g_e0 x0 v0_4 v0_5 v0_6 v0_7 v0_8)) := by kernel_rfl
theorem ref07_Fields_g_run (n : Nat) (ref07_seen : ref07_seen_T) (x0 : ByteArray) : run (ref07_Fields_g_cx @ref07_seen) noY n Tryz.f56 [.s x0] [] (fun p _ => (tupsD (.pair (.list .str) (.pair .bool .unit))) p) = ref07_Fields_g_at n @ref07_seen x0 := by
  rw [ref07_Fields_g_r]
  have h0' : (fun v0_4 v0_5 v0_6 v0_7 v0_8 => loopN (ref07_Fields_g_cx @ref07_seen) noY n Tryz.f56 (fun p _ => (tupsD (.pair (.list .str) (.pair .bool .unit))) p) [1, 1, 1, 1, 0, 1, 0] n (ref07_Fields_g_e0 x0 v0_4 v0_5 v0_6 v0_7 v0_8)) = ref07_Fields_g_l0 n @ref07_seen x0 n := by funext v0_4 v0_5 v0_6 v0_7 v0_8; exact ref07_Fields_g_q0 n @ref07_seen x0 n v0_4 v0_5 v0_6 v0_7 v0_8
  rw [h0']
  rfl
def ref07_Fields_sp (F : ref07_Fields_T) : Spec := Spec.of [.str] (fun x => F x.1) (fun x => .tup (tupL (.pair (.list .str) (.pair .bool .unit)) x))
def ref07_Fields_spec : Spec := ref07_Fields_sp ref07_Fields
theorem ref07_Fields_tabok : TabOK Tryz.prog lay (ref07_Fields_g_tab @ref07_seen) := ⟨kds_ok, eqs_ok, (Good.cons ref07_seen_ok Good.nil), GoodH.nil, GoodR.nil, GoodI.nil⟩
theorem ref07_Fields_ok : CallOK Tryz.prog lay 56 ref07_Fields_spec.go :=
  spec_ok (T := ref07_Fields_g_tab @ref07_seen) (live := ref07_Fields_g_live) (o := ⟨[], [], [], []⟩) (fn := Tryz.f56) lay_stays ref07_Fields_tabok follows ⟨by kernel_rfl, by kernel_rfl, by kernel_rfl⟩ (by kernel_rfl) (fun r => freeP_tupL (k := (.pair (.list .str) (.pair .bool .unit))) rfl r) (fun _ _ h => tupsD_eq h) FUEL fun x => ref07_Fields_g_run FUEL @ref07_seen x.1
def ref11_words_g_live : Nat → List Nat := fun b => match b with | _ => []
def ref11_words_g_tab (ref07_Fields : ref07_Fields_T) : Tab := ⟨kds, eqs, [(56, ref07_Fields_sp ref07_Fields)], [], [], []⟩
def ref11_words_g_cx (ref07_Fields : ref07_Fields_T) : Cx := (ref11_words_g_tab @ref07_Fields).cx ref11_words_g_live ⟨[], [], [], []⟩
theorem ref11_words_g_run (n : Nat) (ref07_Fields : ref07_Fields_T) (x0 : ByteArray) : run (ref11_words_g_cx @ref07_Fields) noY n Tryz.f44 [.s x0] [] (fun p _ => (argD (.list .str)) p) = ref11_words_g @ref07_Fields x0 := by kernel_rfl
def ref11_words_sp (F : ref11_words_T) : Spec := Spec.of [.str] (fun x => F x.1) (ofDen (.list .str))
def ref11_words_spec : Spec := ref11_words_sp ref11_words
theorem ref11_words_tabok : TabOK Tryz.prog lay (ref11_words_g_tab @ref07_Fields) := ⟨kds_ok, eqs_ok, (Good.cons ref07_Fields_ok Good.nil), GoodH.nil, GoodR.nil, GoodI.nil⟩
theorem ref11_words_ok : CallOK Tryz.prog lay 44 ref11_words_spec.go :=
  spec_ok (T := ref11_words_g_tab @ref07_Fields) (live := ref11_words_g_live) (o := ⟨[], [], [], []⟩) (fn := Tryz.f44) lay_stays ref11_words_tabok follows ⟨by kernel_rfl, by kernel_rfl, by kernel_rfl⟩ (by kernel_rfl) (fun r => freeP_ofDen (k := (.list .str)) rfl r) (fun _ _ h => argD_eq h) FUEL fun x => ref11_words_g_run FUEL @ref07_Fields x.1
def ref02_Put_g_live : Nat → List Nat := fun b => match b with | 0 => [0, 3, 4] | _ => []
def ref02_Put_g_tab : Tab := ⟨kds, eqs, [], [], [], []⟩
def ref02_Put_g_cx : Cx := (ref02_Put_g_tab).cx ref02_Put_g_live ⟨[], [], [], []⟩
def ref02_Put_g_e0 (x0 : Int) (v0_3 : ByteArray) (v0_4 : Int) : Env :=
  ⟨[.i .i64 x0, .un, .un, .s v0_3, .i .i64 v0_4] ++ List.replicate 25 .un, List.replicate 30 [], ([] : Hp)⟩
theorem ref02_Put_g_s0 (n : Nat) (m : Nat) (x0 : Int) (v0_3 : ByteArray) (v0_4 : Int) : loopN ref02_Put_g_cx noY n Tryz.f57 (fun p _ => (argD .str) p) [1, 1, 1, 0, 1, 0] (m + 1) (ref02_Put_g_e0 x0 v0_3 v0_4) =
    ref02_Put_g_b0 x0 (fun v0_3 v0_4 => loopN ref02_Put_g_cx noY n Tryz.f57 (fun p _ => (argD .str) p) [1, 1, 1, 0, 1, 0] m (ref02_Put_g_e0 x0 v0_3 v0_4)) v0_3 v0_4 := by kernel_rfl
theorem ref02_Put_g_q0 (n : Nat) (x0 : Int) (m : Nat) : ∀ (v0_3 : ByteArray) (v0_4 : Int), loopN ref02_Put_g_cx noY n Tryz.f57 (fun p _ => (argD .str) p) [1, 1, 1, 0, 1, 0] m (ref02_Put_g_e0 x0 v0_3 v0_4) = ref02_Put_g_l0 n x0 m v0_3 v0_4 := by
  induction m with
  | zero => intro v0_3 v0_4; rfl
  | succ m ih =>
    intro v0_3 v0_4
    rw [ref02_Put_g_s0]
    have hs : (fun v0_3 v0_4 => loopN ref02_Put_g_cx noY n Tryz.f57 (fun p _ => (argD .str) p) [1, 1, 1, 0, 1, 0] m (ref02_Put_g_e0 x0 v0_3 v0_4)) = ref02_Put_g_l0 n x0 m := by
      funext v0_3 v0_4; exact ih v0_3 v0_4
    rw [hs]
    rfl
theorem ref02_Put_g_r (n : Nat) (x0 : Int) : run ref02_Put_g_cx noY n Tryz.f57 [.i .i64 x0] [] (fun p _ => (argD .str) p) = ref02_Put_g_t x0 (fun v0_3 v0_4 => loopN ref02_Put_g_cx noY n Tryz.f57 (fun p _ => (argD .str) p) [1, 1, 1, 0, 1, 0] n (ref02_Put_g_e0 x0 v0_3 v0_4)) := by kernel_rfl
theorem ref02_Put_g_run (n : Nat) (x0 : Int) : run ref02_Put_g_cx noY n Tryz.f57 [.i .i64 x0] [] (fun p _ => (argD .str) p) = ref02_Put_g_at n x0 := by
  rw [ref02_Put_g_r]
  have h0' : (fun v0_3 v0_4 => loopN ref02_Put_g_cx noY n Tryz.f57 (fun p _ => (argD .str) p) [1, 1, 1, 0, 1, 0] n (ref02_Put_g_e0 x0 v0_3 v0_4)) = ref02_Put_g_l0 n x0 n := by funext v0_3 v0_4; exact ref02_Put_g_q0 n x0 n v0_3 v0_4
  rw [h0']
  rfl
def ref02_Put_sp (F : ref02_Put_T) : Spec := Spec.of [(.int .i64)] (fun x => F x.1) (ofDen .str)
def ref02_Put_spec : Spec := ref02_Put_sp ref02_Put
theorem ref02_Put_tabok : TabOK Tryz.prog lay (ref02_Put_g_tab) := ⟨kds_ok, eqs_ok, Good.nil, GoodH.nil, GoodR.nil, GoodI.nil⟩
theorem ref02_Put_ok : CallOK Tryz.prog lay 57 ref02_Put_spec.go :=
  spec_ok (T := ref02_Put_g_tab) (live := ref02_Put_g_live) (o := ⟨[], [], [], []⟩) (fn := Tryz.f57) lay_stays ref02_Put_tabok follows ⟨by kernel_rfl, by kernel_rfl, by kernel_rfl⟩ (by kernel_rfl) (fun r => freeP_ofDen (k := .str) rfl r) (fun _ _ h => argD_eq h) FUEL fun x => ref02_Put_g_run FUEL x.1
def ref02_Get_g_live : Nat → List Nat := fun b => match b with | 0 => [0, 4, 5] | 1 => [0, 4, 5] | _ => []
def ref02_Get_g_tab (ref02_Put : ref02_Put_T) : Tab := ⟨kds, eqs, [(57, ref02_Put_sp ref02_Put)], [], [], []⟩
def ref02_Get_g_cx (ref02_Put : ref02_Put_T) : Cx := (ref02_Get_g_tab @ref02_Put).cx ref02_Get_g_live ⟨[], [], [], []⟩
def ref02_Get_g_e0 (x0 : ByteArray) (v0_4 : Int) (v0_5 : Int) : Env :=
  ⟨[.s x0, .un, .un, .un, .i .i64 v0_4, .i .i64 v0_5] ++ List.replicate 53 .un, List.replicate 59 [], ([] : Hp)⟩
theorem ref02_Get_g_s0 (n : Nat) (m : Nat) (ref02_Put : ref02_Put_T) (x0 : ByteArray) (v0_4 : Int) (v0_5 : Int) : loopN (ref02_Get_g_cx @ref02_Put) noY n Tryz.f45 (fun p _ => (tupsD (.pair (.int .i64) (.pair .bool .unit))) p) [1, 1, 1, 0, 1, 0] (m + 1) (ref02_Get_g_e0 x0 v0_4 v0_5) =
    ref02_Get_g_b0 @ref02_Put x0 (fun v0_4 v0_5 => loopN (ref02_Get_g_cx @ref02_Put) noY n Tryz.f45 (fun p _ => (tupsD (.pair (.int .i64) (.pair .bool .unit))) p) [1, 1, 1, 0, 1, 0] m (ref02_Get_g_e0 x0 v0_4 v0_5)) v0_4 v0_5 := by kernel_rfl
theorem ref02_Get_g_q0 (n : Nat) (ref02_Put : ref02_Put_T) (x0 : ByteArray) (m : Nat) : ∀ (v0_4 : Int) (v0_5 : Int), loopN (ref02_Get_g_cx @ref02_Put) noY n Tryz.f45 (fun p _ => (tupsD (.pair (.int .i64) (.pair .bool .unit))) p) [1, 1, 1, 0, 1, 0] m (ref02_Get_g_e0 x0 v0_4 v0_5) = ref02_Get_g_l0 n @ref02_Put x0 m v0_4 v0_5 := by
  induction m with
  | zero => intro v0_4 v0_5; rfl
  | succ m ih =>
    intro v0_4 v0_5
    rw [ref02_Get_g_s0]
    have hs : (fun v0_4 v0_5 => loopN (ref02_Get_g_cx @ref02_Put) noY n Tryz.f45 (fun p _ => (tupsD (.pair (.int .i64) (.pair .bool .unit))) p) [1, 1, 1, 0, 1, 0] m (ref02_Get_g_e0 x0 v0_4 v0_5)) = ref02_Get_g_l0 n @ref02_Put x0 m := by
      funext v0_4 v0_5; exact ih v0_4 v0_5
    rw [hs]
    rfl
theorem ref02_Get_g_r (n : Nat) (ref02_Put : ref02_Put_T) (x0 : ByteArray) : run (ref02_Get_g_cx @ref02_Put) noY n Tryz.f45 [.s x0] [] (fun p _ => (tupsD (.pair (.int .i64) (.pair .bool .unit))) p) = ref02_Get_g_t @ref02_Put x0 (fun v0_4 v0_5 => loopN (ref02_Get_g_cx @ref02_Put) noY n Tryz.f45 (fun p _ => (tupsD (.pair (.int .i64) (.pair .bool .unit))) p) [1, 1, 1, 0, 1, 0] n (ref02_Get_g_e0 x0 v0_4 v0_5)) := by kernel_rfl
theorem ref02_Get_g_run (n : Nat) (ref02_Put : ref02_Put_T) (x0 : ByteArray) : run (ref02_Get_g_cx @ref02_Put) noY n Tryz.f45 [.s x0] [] (fun p _ => (tupsD (.pair (.int .i64) (.pair .bool .unit))) p) = ref02_Get_g_at n @ref02_Put x0 := by
  rw [ref02_Get_g_r]
  have h0' : (fun v0_4 v0_5 => loopN (ref02_Get_g_cx @ref02_Put) noY n Tryz.f45 (fun p _ => (tupsD (.pair (.int .i64) (.pair .bool .unit))) p) [1, 1, 1, 0, 1, 0] n (ref02_Get_g_e0 x0 v0_4 v0_5)) = ref02_Get_g_l0 n @ref02_Put x0 n := by funext v0_4 v0_5; exact ref02_Get_g_q0 n @ref02_Put x0 n v0_4 v0_5
  rw [h0']
  rfl
def ref02_Get_sp (F : ref02_Get_T) : Spec := Spec.of [.str] (fun x => F x.1) (fun x => .tup (tupL (.pair (.int .i64) (.pair .bool .unit)) x))
def ref02_Get_spec : Spec := ref02_Get_sp ref02_Get
theorem ref02_Get_tabok : TabOK Tryz.prog lay (ref02_Get_g_tab @ref02_Put) := ⟨kds_ok, eqs_ok, (Good.cons ref02_Put_ok Good.nil), GoodH.nil, GoodR.nil, GoodI.nil⟩
theorem ref02_Get_ok : CallOK Tryz.prog lay 45 ref02_Get_spec.go :=
  spec_ok (T := ref02_Get_g_tab @ref02_Put) (live := ref02_Get_g_live) (o := ⟨[], [], [], []⟩) (fn := Tryz.f45) lay_stays ref02_Get_tabok follows ⟨by kernel_rfl, by kernel_rfl, by kernel_rfl⟩ (by kernel_rfl) (fun r => freeP_tupL (k := (.pair (.int .i64) (.pair .bool .unit))) rfl r) (fun _ _ h => tupsD_eq h) FUEL fun x => ref02_Get_g_run FUEL @ref02_Put x.1
def ref11_Step_g_live : Nat → List Nat := fun b => match b with | 0 => [0, 2, 4, 5] | _ => []
def ref11_Step_g_tab (ref02_Get : ref02_Get_T) (ref11_Right : ref11_Right_T) : Tab := ⟨kds, eqs, [(45, ref02_Get_sp ref02_Get), (48, ref11_Right_sp ref11_Right)], [], [], []⟩
def ref11_Step_g_cx (ref02_Get : ref02_Get_T) (ref11_Right : ref11_Right_T) : Cx := (ref11_Step_g_tab @ref02_Get @ref11_Right).cx ref11_Step_g_live ⟨[], [], [], []⟩
def ref11_Step_g_e0 (x0 : ByteArray) (v0_5 : Int) (v0_4_0 : Int) : Env :=
  ⟨[.s x0, .un, .bx 2 0, .un, .bx 4 0, .i .i64 v0_5] ++ List.replicate 49 .un, [[], [], [.i .i64 (0 : Int), .i .i64 (0 : Int), .b false], [], [.i .i64 v0_4_0, .i .i64 (0 : Int), .b false]] ++ List.replicate 50 [], ([] : Hp)⟩
theorem ref11_Step_g_s0 (n : Nat) (m : Nat) (ref02_Get : ref02_Get_T) (ref11_Right : ref11_Right_T) (x0 : ByteArray) (v0_5 : Int) (v0_4_0 : Int) : loopN (ref11_Step_g_cx @ref02_Get @ref11_Right) noY n Tryz.f46 (fun p _ => (tupsD (.pair K.s7 (.pair .bool .unit))) p) [1, 1, 1, 0, 1, 0] (m + 1) (ref11_Step_g_e0 x0 v0_5 v0_4_0) =
    ref11_Step_g_b0 @ref02_Get @ref11_Right x0 (fun v0_5 v0_4_0 => loopN (ref11_Step_g_cx @ref02_Get @ref11_Right) noY n Tryz.f46 (fun p _ => (tupsD (.pair K.s7 (.pair .bool .unit))) p) [1, 1, 1, 0, 1, 0] m (ref11_Step_g_e0 x0 v0_5 v0_4_0)) v0_5 v0_4_0 := by kernel_rfl
theorem ref11_Step_g_q0 (n : Nat) (ref02_Get : ref02_Get_T) (ref11_Right : ref11_Right_T) (x0 : ByteArray) (m : Nat) : ∀ (v0_5 : Int) (v0_4_0 : Int), loopN (ref11_Step_g_cx @ref02_Get @ref11_Right) noY n Tryz.f46 (fun p _ => (tupsD (.pair K.s7 (.pair .bool .unit))) p) [1, 1, 1, 0, 1, 0] m (ref11_Step_g_e0 x0 v0_5 v0_4_0) = ref11_Step_g_l0 n @ref02_Get @ref11_Right x0 m v0_5 v0_4_0 := by
  induction m with
  | zero => intro v0_5 v0_4_0; rfl
  | succ m ih =>
    intro v0_5 v0_4_0
    rw [ref11_Step_g_s0]
    have hs : (fun v0_5 v0_4_0 => loopN (ref11_Step_g_cx @ref02_Get @ref11_Right) noY n Tryz.f46 (fun p _ => (tupsD (.pair K.s7 (.pair .bool .unit))) p) [1, 1, 1, 0, 1, 0] m (ref11_Step_g_e0 x0 v0_5 v0_4_0)) = ref11_Step_g_l0 n @ref02_Get @ref11_Right x0 m := by
      funext v0_5 v0_4_0; exact ih v0_5 v0_4_0
    rw [hs]
    rfl
theorem ref11_Step_g_r (n : Nat) (ref02_Get : ref02_Get_T) (ref11_Right : ref11_Right_T) (x0 : ByteArray) : run (ref11_Step_g_cx @ref02_Get @ref11_Right) noY n Tryz.f46 [.s x0] [] (fun p _ => (tupsD (.pair K.s7 (.pair .bool .unit))) p) = ref11_Step_g_t @ref02_Get @ref11_Right x0 (fun v0_5 v0_4_0 => loopN (ref11_Step_g_cx @ref02_Get @ref11_Right) noY n Tryz.f46 (fun p _ => (tupsD (.pair K.s7 (.pair .bool .unit))) p) [1, 1, 1, 0, 1, 0] n (ref11_Step_g_e0 x0 v0_5 v0_4_0)) := by kernel_rfl
theorem ref11_Step_g_run (n : Nat) (ref02_Get : ref02_Get_T) (ref11_Right : ref11_Right_T) (x0 : ByteArray) : run (ref11_Step_g_cx @ref02_Get @ref11_Right) noY n Tryz.f46 [.s x0] [] (fun p _ => (tupsD (.pair K.s7 (.pair .bool .unit))) p) = ref11_Step_g_at n @ref02_Get @ref11_Right x0 := by
  rw [ref11_Step_g_r]
  have h0' : (fun v0_5 v0_4_0 => loopN (ref11_Step_g_cx @ref02_Get @ref11_Right) noY n Tryz.f46 (fun p _ => (tupsD (.pair K.s7 (.pair .bool .unit))) p) [1, 1, 1, 0, 1, 0] n (ref11_Step_g_e0 x0 v0_5 v0_4_0)) = ref11_Step_g_l0 n @ref02_Get @ref11_Right x0 n := by funext v0_5 v0_4_0; exact ref11_Step_g_q0 n @ref02_Get @ref11_Right x0 n v0_5 v0_4_0
  rw [h0']
  rfl
def ref11_Step_sp (F : ref11_Step_T) : Spec := Spec.of [.str] (fun x => F x.1) (fun x => .tup (tupL (.pair K.s7 (.pair .bool .unit)) x))
def ref11_Step_spec : Spec := ref11_Step_sp ref11_Step
theorem ref11_Step_tabok : TabOK Tryz.prog lay (ref11_Step_g_tab @ref02_Get @ref11_Right) := ⟨kds_ok, eqs_ok, (Good.cons ref02_Get_ok (Good.cons ref11_Right_ok Good.nil)), GoodH.nil, GoodR.nil, GoodI.nil⟩
theorem ref11_Step_ok : CallOK Tryz.prog lay 46 ref11_Step_spec.go :=
  spec_ok (T := ref11_Step_g_tab @ref02_Get @ref11_Right) (live := ref11_Step_g_live) (o := ⟨[], [], [], []⟩) (fn := Tryz.f46) lay_stays ref11_Step_tabok follows ⟨by kernel_rfl, by kernel_rfl, by kernel_rfl⟩ (by kernel_rfl) (fun r => freeP_tupL (k := (.pair K.s7 (.pair .bool .unit))) rfl r) (fun _ _ h => tupsD_eq h) FUEL fun x => ref11_Step_g_run FUEL @ref02_Get @ref11_Right x.1
def ref11_Plain_g_live : Nat → List Nat := fun b => match b with | 0 => [2, 4, 5, 6] | 2 => [2, 4, 5, 11] | _ => []
def ref11_Plain_g_tab (ref01_In : ref01_In_T) (ref11_words : ref11_words_T) (ref02_Get : ref02_Get_T) (ref11_Step : ref11_Step_T) : Tab := ⟨kds, eqs, [(23, ref01_In_sp ref01_In), (44, ref11_words_sp ref11_words), (45, ref02_Get_sp ref02_Get), (46, ref11_Step_sp ref11_Step)], [], [], []⟩
def ref11_Plain_g_cx (ref01_In : ref01_In_T) (ref11_words : ref11_words_T) (ref02_Get : ref02_Get_T) (ref11_Step : ref11_Step_T) : Cx := (ref11_Plain_g_tab @ref01_In @ref11_words @ref02_Get @ref11_Step).cx ref11_Plain_g_live ⟨[], [], [], []⟩
def ref11_Plain_g_e0 (x0 : ByteArray) (v0_4 : (List ByteArray)) (v0_6 : Int) : Env :=
  ⟨[.un, .un, .bx 2 0, .un, .l .str v0_4, .bx 5 0, .i .i64 v0_6] ++ List.replicate 105 .un, [[], [], [.i .i64 (0 : Int), .i .i64 (0 : Int), .o false K.s7 ([] : List K.s7.den)], [], [], [.i .i64 (0 : Int), .i .i64 (0 : Int), .o false K.s7 ([] : List K.s7.den)]] ++ List.replicate 106 [], ([] : Hp)⟩
def ref11_Plain_g_e1 (x0 : ByteArray) (v1_4 : (List ByteArray)) (v1_11 : Int) (v1_5_0 : Int) (v1_5_1 : Int) (v1_5_2 : (List K.s7.den)) : Env :=
  ⟨[.un, .un, .bx 2 0, .un, .l .str v1_4, .bx 5 0, .un, .un, .un, .un, .un, .i .i64 v1_11] ++ List.replicate 100 .un, [[], [], [.i .i64 (0 : Int), .i .i64 (0 : Int), .o false K.s7 ([] : List K.s7.den)], [], [], [.i .i64 v1_5_0, .i .i64 v1_5_1, .o false K.s7 v1_5_2]] ++ List.replicate 106 [], ([] : Hp)⟩
theorem ref11_Plain_g_s1 (n : Nat) (m : Nat) (ref01_In : ref01_In_T) (ref11_words : ref11_words_T) (ref02_Get : ref02_Get_T) (ref11_Step : ref11_Step_T) (x0 : ByteArray) (v1_4 : (List ByteArray)) (v1_11 : Int) (v1_5_0 : Int) (v1_5_1 : Int) (v1_5_2 : (List K.s7.den)) : loopN (ref11_Plain_g_cx @ref01_In @ref11_words @ref02_Get @ref11_Step) noY n Tryz.f34 (fun p _ => (tupsD (.pair K.s4 (.pair .bool .unit))) p) [1, 1, 1, 1, 1, 1, 1, 1, 1, 1, 1, 1, 0, 1, 0] (m + 1) (ref11_Plain_g_e1 x0 v1_4 v1_11 v1_5_0 v1_5_1 v1_5_2) =
    ref11_Plain_g_b1 @ref01_In @ref11_words @ref02_Get @ref11_Step x0 (fun v1_4 v1_11 v1_5_0 v1_5_1 v1_5_2 => loopN (ref11_Plain_g_cx @ref01_In @ref11_words @ref02_Get @ref11_Step) noY n Tryz.f34 (fun p _ => (tupsD (.pair K.s4 (.pair .bool .unit))) p) [1, 1, 1, 1, 1, 1, 1, 1, 1, 1, 1, 1, 0, 1, 0] m (ref11_Plain_g_e1 x0 v1_4 v1_11 v1_5_0 v1_5_1 v1_5_2)) v1_4 v1_11 v1_5_0 v1_5_1 v1_5_2 := by kernel_rfl
theorem ref11_Plain_g_q1 (n : Nat) (ref01_In : ref01_In_T) (ref11_words : ref11_words_T) (ref02_Get : ref02_Get_T) (ref11_Step : ref11_Step_T) (x0 : ByteArray) (m : Nat) : ∀ (v1_4 : (List ByteArray)) (v1_11 : Int) (v1_5_0 : Int) (v1_5_1 : Int) (v1_5_2 : (List K.s7.den)), loopN (ref11_Plain_g_cx @ref01_In @ref11_words @ref02_Get @ref11_Step) noY n Tryz.f34 (fun p _ => (tupsD (.pair K.s4 (.pair .bool .unit))) p) [1, 1, 1, 1, 1, 1, 1, 1, 1, 1, 1, 1, 0, 1, 0] m (ref11_Plain_g_e1 x0 v1_4 v1_11 v1_5_0 v1_5_1 v1_5_2) = ref11_Plain_g_l1 n @ref01_In @ref11_words @ref02_Get @ref11_Step x0 m v1_4 v1_11 v1_5_0 v1_5_1 v1_5_2 := by
  induction m with
  | zero => intro v1_4 v1_11 v1_5_0 v1_5_1 v1_5_2; rfl
  | succ m ih =>
    intro v1_4 v1_11 v1_5_0 v1_5_1 v1_5_2
    rw [ref11_Plain_g_s1]
    have hs : (fun v1_4 v1_11 v1_5_0 v1_5_1 v1_5_2 => loopN (ref11_Plain_g_cx @ref01_In @ref11_words @ref02_Get @ref11_Step) noY n Tryz.f34 (fun p _ => (tupsD (.pair K.s4 (.pair .bool .unit))) p) [1, 1, 1, 1, 1, 1, 1, 1, 1, 1, 1, 1, 0, 1, 0] m (ref11_Plain_g_e1 x0 v1_4 v1_11 v1_5_0 v1_5_1 v1_5_2)) = ref11_Plain_g_l1 n @ref01_In @ref11_words @ref02_Get @ref11_Step x0 m := by
      funext v1_4 v1_11 v1_5_0 v1_5_1 v1_5_2; exact ih v1_4 v1_11 v1_5_0 v1_5_1 v1_5_2
    rw [hs]
    rfl
theorem ref11_Plain_g_s0 (n : Nat) (m : Nat) (ref01_In : ref01_In_T) (ref11_words : ref11_words_T) (ref02_Get : ref02_Get_T) (ref11_Step : ref11_Step_T) (x0 : ByteArray) (v0_4 : (List ByteArray)) (v0_6 : Int) : loopN (ref11_Plain_g_cx @ref01_In @ref11_words @ref02_Get @ref11_Step) noY n Tryz.f34 (fun p _ => (tupsD (.pair K.s4 (.pair .bool .unit))) p) [1, 1, 1, 1, 1, 0, 0] (m + 1) (ref11_Plain_g_e0 x0 v0_4 v0_6) =
    ref11_Plain_g_b0 @ref01_In @ref11_words @ref02_Get @ref11_Step x0 (fun v0_4 v0_6 => loopN (ref11_Plain_g_cx @ref01_In @ref11_words @ref02_Get @ref11_Step) noY n Tryz.f34 (fun p _ => (tupsD (.pair K.s4 (.pair .bool .unit))) p) [1, 1, 1, 1, 1, 0, 0] m (ref11_Plain_g_e0 x0 v0_4 v0_6)) (fun v1_4 v1_11 v1_5_0 v1_5_1 v1_5_2 => loopN (ref11_Plain_g_cx @ref01_In @ref11_words @ref02_Get @ref11_Step) noY n Tryz.f34 (fun p _ => (tupsD (.pair K.s4 (.pair .bool .unit))) p) [1, 1, 1, 1, 1, 1, 1, 1, 1, 1, 1, 1, 0, 1, 0] n (ref11_Plain_g_e1 x0 v1_4 v1_11 v1_5_0 v1_5_1 v1_5_2)) v0_4 v0_6 := by kernel_rfl
theorem ref11_Plain_g_q0 (n : Nat) (ref01_In : ref01_In_T) (ref11_words : ref11_words_T) (ref02_Get : ref02_Get_T) (ref11_Step : ref11_Step_T) (x0 : ByteArray) (m : Nat) : ∀ (v0_4 : (List ByteArray)) (v0_6 : Int), loopN (ref11_Plain_g_cx @ref01_In @ref11_words @ref02_Get @ref11_Step) noY n Tryz.f34 (fun p _ => (tupsD (.pair K.s4 (.pair .bool .unit))) p) [1, 1, 1, 1, 1, 0, 0] m (ref11_Plain_g_e0 x0 v0_4 v0_6) = ref11_Plain_g_l0 n @ref01_In @ref11_words @ref02_Get @ref11_Step x0 m v0_4 v0_6 := by
  induction m with
  | zero => intro v0_4 v0_6; rfl
  | succ m ih =>
    intro v0_4 v0_6
    rw [ref11_Plain_g_s0]
    have hs : (fun v0_4 v0_6 => loopN (ref11_Plain_g_cx @ref01_In @ref11_words @ref02_Get @ref11_Step) noY n Tryz.f34 (fun p _ => (tupsD (.pair K.s4 (.pair .bool .unit))) p) [1, 1, 1, 1, 1, 0, 0] m (ref11_Plain_g_e0 x0 v0_4 v0_6)) = ref11_Plain_g_l0 n @ref01_In @ref11_words @ref02_Get @ref11_Step x0 m := by
      funext v0_4 v0_6; exact ih v0_4 v0_6
    have h1' : (fun v1_4 v1_11 v1_5_0 v1_5_1 v1_5_2 => loopN (ref11_Plain_g_cx @ref01_In @ref11_words @ref02_Get @ref11_Step) noY n Tryz.f34 (fun p _ => (tupsD (.pair K.s4 (.pair .bool .unit))) p) [1, 1, 1, 1, 1, 1, 1, 1, 1, 1, 1, 1, 0, 1, 0] n (ref11_Plain_g_e1 x0 v1_4 v1_11 v1_5_0 v1_5_1 v1_5_2)) = ref11_Plain_g_l1 n @ref01_In @ref11_words @ref02_Get @ref11_Step x0 n := by
      funext v1_4 v1_11 v1_5_0 v1_5_1 v1_5_2; exact ref11_Plain_g_q1 n @ref01_In @ref11_words @ref02_Get @ref11_Step x0 n v1_4 v1_11 v1_5_0 v1_5_1 v1_5_2
    rw [hs, h1']
    rfl
theorem ref11_Plain_g_r (n : Nat) (ref01_In : ref01_In_T) (ref11_words : ref11_words_T) (ref02_Get : ref02_Get_T) (ref11_Step : ref11_Step_T) (x0 : ByteArray) : run (ref11_Plain_g_cx @ref01_In @ref11_words @ref02_Get @ref11_Step) noY n Tryz.f34 [.s x0] [] (fun p _ => (tupsD (.pair K.s4 (.pair .bool .unit))) p) = ref11_Plain_g_t @ref01_In @ref11_words @ref02_Get @ref11_Step x0 (fun v0_4 v0_6 => loopN (ref11_Plain_g_cx @ref01_In @ref11_words @ref02_Get @ref11_Step) noY n Tryz.f34 (fun p _ => (tupsD (.pair K.s4 (.pair .bool .unit))) p) [1, 1, 1, 1, 1, 0, 0] n (ref11_Plain_g_e0 x0 v0_4 v0_6)) := by kernel_rfl
theorem ref11_Plain_g_run (n : Nat) (ref01_In : ref01_In_T) (ref11_words : ref11_words_T) (ref02_Get : ref02_Get_T) (ref11_Step : ref11_Step_T) (x0 : ByteArray) : run (ref11_Plain_g_cx @ref01_In @ref11_words @ref02_Get @ref11_Step) noY n Tryz.f34 [.s x0] [] (fun p _ => (tupsD (.pair K.s4 (.pair .bool .unit))) p) = ref11_Plain_g_at n @ref01_In @ref11_words @ref02_Get @ref11_Step x0 := by
  rw [ref11_Plain_g_r]
  have h0' : (fun v0_4 v0_6 => loopN (ref11_Plain_g_cx @ref01_In @ref11_words @ref02_Get @ref11_Step) noY n Tryz.f34 (fun p _ => (tupsD (.pair K.s4 (.pair .bool .unit))) p) [1, 1, 1, 1, 1, 0, 0] n (ref11_Plain_g_e0 x0 v0_4 v0_6)) = ref11_Plain_g_l0 n @ref01_In @ref11_words @ref02_Get @ref11_Step x0 n := by funext v0_4 v0_6; exact ref11_Plain_g_q0 n @ref01_In @ref11_words @ref02_Get @ref11_Step x0 n v0_4 v0_6
  rw [h0']
  rfl
def ref11_Plain_sp (F : ref11_Plain_T) : Spec := Spec.of [.str] (fun x => F x.1) (fun x => .tup (tupL (.pair K.s4 (.pair .bool .unit)) x))
def ref11_Plain_spec : Spec := ref11_Plain_sp ref11_Plain
theorem ref11_Plain_tabok : TabOK Tryz.prog lay (ref11_Plain_g_tab @ref01_In @ref11_words @ref02_Get @ref11_Step) := ⟨kds_ok, eqs_ok, (Good.cons ref01_In_ok (Good.cons ref11_words_ok (Good.cons ref02_Get_ok (Good.cons ref11_Step_ok Good.nil)))), GoodH.nil, GoodR.nil, GoodI.nil⟩
theorem ref11_Plain_ok : CallOK Tryz.prog lay 34 ref11_Plain_spec.go :=
  spec_ok (T := ref11_Plain_g_tab @ref01_In @ref11_words @ref02_Get @ref11_Step) (live := ref11_Plain_g_live) (o := ⟨[], [], [], []⟩) (fn := Tryz.f34) lay_stays ref11_Plain_tabok follows ⟨by kernel_rfl, by kernel_rfl, by kernel_rfl⟩ (by kernel_rfl) (fun r => freeP_tupL (k := (.pair K.s4 (.pair .bool .unit))) rfl r) (fun _ _ h => tupsD_eq h) FUEL fun x => ref11_Plain_g_run FUEL @ref01_In @ref11_words @ref02_Get @ref11_Step x.1
def ref11_Find_g_live : Nat → List Nat := fun b => match b with | 0 => [0, 2, 4, 5] | _ => []
def ref11_Find_g_tab (ref11_Names : ref11_Names_T) (ref11_Plain : ref11_Plain_T) (ref11_plans : ref11_plans_T) : Tab := ⟨kds, eqs, [(33, ref11_Names_sp ref11_Names), (34, ref11_Plain_sp ref11_Plain), (35, ref11_plans_sp ref11_plans)], [], [], []⟩
def ref11_Find_g_cx (ref11_Names : ref11_Names_T) (ref11_Plain : ref11_Plain_T) (ref11_plans : ref11_plans_T) : Cx := (ref11_Find_g_tab @ref11_Names @ref11_Plain @ref11_plans).cx ref11_Find_g_live ⟨[], [], [], []⟩
def ref11_Find_g_e0 (x0 : ByteArray) (v0_4 : (List ByteArray)) (v0_5 : Int) : Env :=
  ⟨[.s x0, .un, .bx 2 0, .un, .o true .str v0_4, .i .i64 v0_5] ++ List.replicate 21 .un, [[], [], [.i .i64 (0 : Int), .i .i64 (0 : Int), .o false K.s7 ([] : List K.s7.den)]] ++ List.replicate 24 [], ([] : Hp)⟩
theorem ref11_Find_g_s0 (n : Nat) (m : Nat) (ref11_Names : ref11_Names_T) (ref11_Plain : ref11_Plain_T) (ref11_plans : ref11_plans_T) (x0 : ByteArray) (v0_4 : (List ByteArray)) (v0_5 : Int) : loopN (ref11_Find_g_cx @ref11_Names @ref11_Plain @ref11_plans) noY n Tryz.f21 (fun p _ => (tupsD (.pair K.s4 (.pair .bool .unit))) p) [1, 1, 0, 1, 0] (m + 1) (ref11_Find_g_e0 x0 v0_4 v0_5) =
    ref11_Find_g_b0 @ref11_Names @ref11_Plain @ref11_plans x0 (fun v0_4 v0_5 => loopN (ref11_Find_g_cx @ref11_Names @ref11_Plain @ref11_plans) noY n Tryz.f21 (fun p _ => (tupsD (.pair K.s4 (.pair .bool .unit))) p) [1, 1, 0, 1, 0] m (ref11_Find_g_e0 x0 v0_4 v0_5)) v0_4 v0_5 := by kernel_rfl
theorem ref11_Find_g_q0 (n : Nat) (ref11_Names : ref11_Names_T) (ref11_Plain : ref11_Plain_T) (ref11_plans : ref11_plans_T) (x0 : ByteArray) (m : Nat) : ∀ (v0_4 : (List ByteArray)) (v0_5 : Int), loopN (ref11_Find_g_cx @ref11_Names @ref11_Plain @ref11_plans) noY n Tryz.f21 (fun p _ => (tupsD (.pair K.s4 (.pair .bool .unit))) p) [1, 1, 0, 1, 0] m (ref11_Find_g_e0 x0 v0_4 v0_5) = ref11_Find_g_l0 n @ref11_Names @ref11_Plain @ref11_plans x0 m v0_4 v0_5 := by
  induction m with
  | zero => intro v0_4 v0_5; rfl
  | succ m ih =>
    intro v0_4 v0_5
    rw [ref11_Find_g_s0]
    have hs : (fun v0_4 v0_5 => loopN (ref11_Find_g_cx @ref11_Names @ref11_Plain @ref11_plans) noY n Tryz.f21 (fun p _ => (tupsD (.pair K.s4 (.pair .bool .unit))) p) [1, 1, 0, 1, 0] m (ref11_Find_g_e0 x0 v0_4 v0_5)) = ref11_Find_g_l0 n @ref11_Names @ref11_Plain @ref11_plans x0 m := by
      funext v0_4 v0_5; exact ih v0_4 v0_5
    rw [hs]
    rfl
theorem ref11_Find_g_r (n : Nat) (ref11_Names : ref11_Names_T) (ref11_Plain : ref11_Plain_T) (ref11_plans : ref11_plans_T) (x0 : ByteArray) : run (ref11_Find_g_cx @ref11_Names @ref11_Plain @ref11_plans) noY n Tryz.f21 [.s x0] [] (fun p _ => (tupsD (.pair K.s4 (.pair .bool .unit))) p) = ref11_Find_g_t @ref11_Names @ref11_Plain @ref11_plans x0 (fun v0_4 v0_5 => loopN (ref11_Find_g_cx @ref11_Names @ref11_Plain @ref11_plans) noY n Tryz.f21 (fun p _ => (tupsD (.pair K.s4 (.pair .bool .unit))) p) [1, 1, 0, 1, 0] n (ref11_Find_g_e0 x0 v0_4 v0_5)) := by kernel_rfl
theorem ref11_Find_g_run (n : Nat) (ref11_Names : ref11_Names_T) (ref11_Plain : ref11_Plain_T) (ref11_plans : ref11_plans_T) (x0 : ByteArray) : run (ref11_Find_g_cx @ref11_Names @ref11_Plain @ref11_plans) noY n Tryz.f21 [.s x0] [] (fun p _ => (tupsD (.pair K.s4 (.pair .bool .unit))) p) = ref11_Find_g_at n @ref11_Names @ref11_Plain @ref11_plans x0 := by
  rw [ref11_Find_g_r]
  have h0' : (fun v0_4 v0_5 => loopN (ref11_Find_g_cx @ref11_Names @ref11_Plain @ref11_plans) noY n Tryz.f21 (fun p _ => (tupsD (.pair K.s4 (.pair .bool .unit))) p) [1, 1, 0, 1, 0] n (ref11_Find_g_e0 x0 v0_4 v0_5)) = ref11_Find_g_l0 n @ref11_Names @ref11_Plain @ref11_plans x0 n := by funext v0_4 v0_5; exact ref11_Find_g_q0 n @ref11_Names @ref11_Plain @ref11_plans x0 n v0_4 v0_5
  rw [h0']
  rfl
def ref11_Find_sp (F : ref11_Find_T) : Spec := Spec.of [.str] (fun x => F x.1) (fun x => .tup (tupL (.pair K.s4 (.pair .bool .unit)) x))
def ref11_Find_spec : Spec := ref11_Find_sp ref11_Find
theorem ref11_Find_tabok : TabOK Tryz.prog lay (ref11_Find_g_tab @ref11_Names @ref11_Plain @ref11_plans) := ⟨kds_ok, eqs_ok, (Good.cons ref11_Names_ok (Good.cons ref11_Plain_ok (Good.cons ref11_plans_ok Good.nil))), GoodH.nil, GoodR.nil, GoodI.nil⟩
theorem ref11_Find_ok : CallOK Tryz.prog lay 21 ref11_Find_spec.go :=
  spec_ok (T := ref11_Find_g_tab @ref11_Names @ref11_Plain @ref11_plans) (live := ref11_Find_g_live) (o := ⟨[], [], [], []⟩) (fn := Tryz.f21) lay_stays ref11_Find_tabok follows ⟨by kernel_rfl, by kernel_rfl, by kernel_rfl⟩ (by kernel_rfl) (fun r => freeP_tupL (k := (.pair K.s4 (.pair .bool .unit))) rfl r) (fun _ _ h => tupsD_eq h) FUEL fun x => ref11_Find_g_run FUEL @ref11_Names @ref11_Plain @ref11_plans x.1
def ref13_moved_g_live : Nat → List Nat := fun b => match b with | _ => []
def ref13_moved_g_tab : Tab := ⟨kds, eqs, [], [], [], []⟩
def ref13_moved_g_cx : Cx := (ref13_moved_g_tab).cx ref13_moved_g_live ⟨[], [], [], []⟩
theorem ref13_moved_g_run (n : Nat) (x0 : K.s9.den) (x1 : K.s7.den) (x2 : Int) (x3 : Int) : run ref13_moved_g_cx noY n Tryz.f65 [.st K.s9 x0, .st K.s7 x1, .i .i64 x2, .i .i64 x3] [] (fun p _ => (argD .bool) p) = ref13_moved_g x0 x1 x2 x3 := by kernel_rfl
def ref13_moved_sp (F : ref13_moved_T) : Spec := Spec.of [K.s9, K.s7, (.int .i64), (.int .i64)] (fun x => F x.1 x.2.1 x.2.2.1 x.2.2.2.1) (ofDen .bool)
def ref13_moved_spec : Spec := ref13_moved_sp ref13_moved
theorem ref13_moved_tabok : TabOK Tryz.prog lay (ref13_moved_g_tab) := ⟨kds_ok, eqs_ok, Good.nil, GoodH.nil, GoodR.nil, GoodI.nil⟩
theorem ref13_moved_ok : CallOK Tryz.prog lay 65 ref13_moved_spec.go :=
  spec_ok (T := ref13_moved_g_tab) (live := ref13_moved_g_live) (o := ⟨[], [], [], []⟩) (fn := Tryz.f65) lay_stays ref13_moved_tabok follows ⟨by kernel_rfl, by kernel_rfl, by kernel_rfl⟩ (by kernel_rfl) (fun r => freeP_ofDen (k := .bool) rfl r) (fun _ _ h => argD_eq h) FUEL fun x => ref13_moved_g_run FUEL x.1 x.2.1 x.2.2.1 x.2.2.2.1
def ref13_turned_g_live : Nat → List Nat := fun b => match b with | _ => []
def ref13_turned_g_tab : Tab := ⟨kds, eqs, [], [], [], []⟩
def ref13_turned_g_cx : Cx := (ref13_turned_g_tab).cx ref13_turned_g_live ⟨[], [], [], []⟩
theorem ref13_turned_g_run (n : Nat) (x0 : K.s9.den) (x1 : K.s7.den) (x2 : Int) (x3 : Int) : run ref13_turned_g_cx noY n Tryz.f66 [.st K.s9 x0, .st K.s7 x1, .i .i64 x2, .i .i64 x3] [] (fun p _ => (argD K.s9) p) = ref13_turned_g x0 x1 x2 x3 := by kernel_rfl
def ref13_turned_sp (F : ref13_turned_T) : Spec := Spec.of [K.s9, K.s7, (.int .i64), (.int .i64)] (fun x => F x.1 x.2.1 x.2.2.1 x.2.2.2.1) (ofDen K.s9)
def ref13_turned_spec : Spec := ref13_turned_sp ref13_turned
theorem ref13_turned_tabok : TabOK Tryz.prog lay (ref13_turned_g_tab) := ⟨kds_ok, eqs_ok, Good.nil, GoodH.nil, GoodR.nil, GoodI.nil⟩
theorem ref13_turned_ok : CallOK Tryz.prog lay 66 ref13_turned_spec.go :=
  spec_ok (T := ref13_turned_g_tab) (live := ref13_turned_g_live) (o := ⟨[], [], [], []⟩) (fn := Tryz.f66) lay_stays ref13_turned_tabok follows ⟨by kernel_rfl, by kernel_rfl, by kernel_rfl⟩ (by kernel_rfl) (fun r => freeP_ofDen (k := K.s9) rfl r) (fun _ _ h => argD_eq h) FUEL fun x => ref13_turned_g_run FUEL x.1 x.2.1 x.2.2.1 x.2.2.2.1
def ref13_step_g_live : Nat → List Nat := fun b => match b with | 0 => [0, 2, 3, 5, 9, 10, 11] | 2 => [5, 9, 10, 12, 13] | 4 => [5, 12, 14] | _ => []
def ref13_step_g_tab (ref13_moved : ref13_moved_T) (ref13_turned : ref13_turned_T) : Tab := ⟨kds, eqs, [(65, ref13_moved_sp ref13_moved), (66, ref13_turned_sp ref13_turned)], [], [], []⟩
def ref13_step_g_cx (ref13_moved : ref13_moved_T) (ref13_turned : ref13_turned_T) : Cx := (ref13_step_g_tab @ref13_moved @ref13_turned).cx ref13_step_g_live ⟨[], [], [], []⟩
def ref13_step_g_e0 (x0 : (List K.s9.den)) (x1 : K.s7.den) (x2 : Int) (x3 : Int) (v0_9 : (List K.s9.den)) (v0_10 : (List K.s9.den)) (v0_11 : Int) : Env :=
  ⟨[.l K.s9 x0, .un, .i .i64 x2, .i .i64 x3, .un, .bx 5 0, .un, .un, .un, .o true K.s9 v0_9, .o true K.s9 v0_10, .i .i64 v0_11] ++ List.replicate 97 .un, [[], [], [], [], [], [.i .i64 x1.1, .i .i64 x1.2.1, .b x1.2.2.1]] ++ List.replicate 103 [], ([] : Hp)⟩
def ref13_step_g_e1 (x0 : (List K.s9.den)) (x1 : K.s7.den) (x2 : Int) (x3 : Int) (v1_9 : (List K.s9.den)) (v1_10 : (List K.s9.den)) (v1_12 : (List K.s9.den)) (v1_13 : Int) : Env :=
  ⟨[.un, .un, .un, .un, .un, .bx 5 0, .un, .un, .un, .o true K.s9 v1_9, .o true K.s9 v1_10, .un, .o true K.s9 v1_12, .i .i64 v1_13] ++ List.replicate 95 .un, [[], [], [], [], [], [.i .i64 x1.1, .i .i64 x1.2.1, .b x1.2.2.1]] ++ List.replicate 103 [], ([] : Hp)⟩
def ref13_step_g_e2 (x0 : (List K.s9.den)) (x1 : K.s7.den) (x2 : Int) (x3 : Int) (v2_12 : (List K.s9.den)) (v2_14 : Int) : Env :=
  ⟨[.un, .un, .un, .un, .un, .bx 5 0, .un, .un, .un, .un, .un, .un, .o true K.s9 v2_12, .un, .i .i64 v2_14] ++ List.replicate 94 .un, [[], [], [], [], [], [.i .i64 x1.1, .i .i64 x1.2.1, .b x1.2.2.1]] ++ List.replicate 103 [], ([] : Hp)⟩
theorem ref13_step_g_s2 (n : Nat) (m : Nat) (ref13_moved : ref13_moved_T) (ref13_turned : ref13_turned_T) (x0 : (List K.s9.den)) (x1 : K.s7.den) (x2 : Int) (x3 : Int) (v2_12 : (List K.s9.den)) (v2_14 : Int) : loopN (ref13_step_g_cx @ref13_moved @ref13_turned) noY n Tryz.f55 (fun p _ => (ownD true K.s9) p) [1, 1, 1, 1, 1, 1, 1, 1, 0, 1, 0] (m + 1) (ref13_step_g_e2 x0 x1 x2 x3 v2_12 v2_14) =
    ref13_step_g_b2 @ref13_moved @ref13_turned x0 x1 x2 x3 (fun v2_12 v2_14 => loopN (ref13_step_g_cx @ref13_moved @ref13_turned) noY n Tryz.f55 (fun p _ => (ownD true K.s9) p) [1, 1, 1, 1, 1, 1, 1, 1, 0, 1, 0] m (ref13_step_g_e2 x0 x1 x2 x3 v2_12 v2_14)) v2_12 v2_14 := by kernel_rfl
theorem ref13_step_g_q2 (n : Nat) (ref13_moved : ref13_moved_T) (ref13_turned : ref13_turned_T) (x0 : (List K.s9.den)) (x1 : K.s7.den) (x2 : Int) (x3 : Int) (m : Nat) : ∀ (v2_12 : (List K.s9.den)) (v2_14 : Int), loopN (ref13_step_g_cx @ref13_moved @ref13_turned) noY n Tryz.f55 (fun p _ => (ownD true K.s9) p) [1, 1, 1, 1, 1, 1, 1, 1, 0, 1, 0] m (ref13_step_g_e2 x0 x1 x2 x3 v2_12 v2_14) = ref13_step_g_l2 n @ref13_moved @ref13_turned x0 x1 x2 x3 m v2_12 v2_14 := by
  induction m with
  | zero => intro v2_12 v2_14; rfl
  | succ m ih =>
    intro v2_12 v2_14
    rw [ref13_step_g_s2]
    have hs : (fun v2_12 v2_14 => loopN (ref13_step_g_cx @ref13_moved @ref13_turned) noY n Tryz.f55 (fun p _ => (ownD true K.s9) p) [1, 1, 1, 1, 1, 1, 1, 1, 0, 1, 0] m (ref13_step_g_e2 x0 x1 x2 x3 v2_12 v2_14)) = ref13_step_g_l2 n @ref13_moved @ref13_turned x0 x1 x2 x3 m := by
      funext v2_12 v2_14; exact ih v2_12 v2_14
    rw [hs]
    rfl
theorem ref13_step_g_s1 (n : Nat) (m : Nat) (ref13_moved : ref13_moved_T) (ref13_turned : ref13_turned_T) (x0 : (List K.s9.den)) (x1 : K.s7.den) (x2 : Int) (x3 : Int) (v1_9 : (List K.s9.den)) (v1_10 : (List K.s9.den)) (v1_12 : (List K.s9.den)) (v1_13 : Int) : loopN (ref13_step_g_cx @ref13_moved @ref13_turned) noY n Tryz.f55 (fun p _ => (ownD true K.s9) p) [1, 1, 1, 1, 1, 1, 0, 1, 0] (m + 1) (ref13_step_g_e1 x0 x1 x2 x3 v1_9 v1_10 v1_12 v1_13) =
    ref13_step_g_b1 @ref13_moved @ref13_turned x0 x1 x2 x3 (fun v1_9 v1_10 v1_12 v1_13 => loopN (ref13_step_g_cx @ref13_moved @ref13_turned) noY n Tryz.f55 (fun p _ => (ownD true K.s9) p) [1, 1, 1, 1, 1, 1, 0, 1, 0] m (ref13_step_g_e1 x0 x1 x2 x3 v1_9 v1_10 v1_12 v1_13)) (fun v2_12 v2_14 => loopN (ref13_step_g_cx @ref13_moved @ref13_turned) noY n Tryz.f55 (fun p _ => (ownD true K.s9) p) [1, 1, 1, 1, 1, 1, 1, 1, 0, 1, 0] n (ref13_step_g_e2 x0 x1 x2 x3 v2_12 v2_14)) v1_9 v1_10 v1_12 v1_13 := by kernel_rfl
theorem ref13_step_g_q1 (n : Nat) (ref13_moved : ref13_moved_T) (ref13_turned : ref13_turned_T) (x0 : (List K.s9.den)) (x1 : K.s7.den) (x2 : Int) (x3 : Int) (m : Nat) : ∀ (v1_9 : (List K.s9.den)) (v1_10 : (List K.s9.den)) (v1_12 : (List K.s9.den)) (v1_13 : Int), loopN (ref13_step_g_cx @ref13_moved @ref13_turned) noY n Tryz.f55 (fun p _ => (ownD true K.s9) p) [1, 1, 1, 1, 1, 1, 0, 1, 0] m (ref13_step_g_e1 x0 x1 x2 x3 v1_9 v1_10 v1_12 v1_13) = ref13_step_g_l1 n @ref13_moved @ref13_turned x0 x1 x2 x3 m v1_9 v1_10 v1_12 v1_13 := by
  induction m with
  | zero => intro v1_9 v1_10 v1_12 v1_13; rfl
  | succ m ih =>
    intro v1_9 v1_10 v1_12 v1_13
    rw [ref13_step_g_s1]
    have hs : (fun v1_9 v1_10 v1_12 v1_13 => loopN (ref13_step_g_cx @ref13_moved @ref13_turned) noY n Tryz.f55 (fun p _ => (ownD true K.s9) p) [1, 1, 1, 1, 1, 1, 0, 1, 0] m (ref13_step_g_e1 x0 x1 x2 x3 v1_9 v1_10 v1_12 v1_13)) = ref13_step_g_l1 n @ref13_moved @ref13_turned x0 x1 x2 x3 m := by
      funext v1_9 v1_10 v1_12 v1_13; exact ih v1_9 v1_10 v1_12 v1_13
    have h2' : (fun v2_12 v2_14 => loopN (ref13_step_g_cx @ref13_moved @ref13_turned) noY n Tryz.f55 (fun p _ => (ownD true K.s9) p) [1, 1, 1, 1, 1, 1, 1, 1, 0, 1, 0] n (ref13_step_g_e2 x0 x1 x2 x3 v2_12 v2_14)) = ref13_step_g_l2 n @ref13_moved @ref13_turned x0 x1 x2 x3 n := by
      funext v2_12 v2_14; exact ref13_step_g_q2 n @ref13_moved @ref13_turned x0 x1 x2 x3 n v2_12 v2_14
    rw [hs, h2']
    rfl
theorem ref13_step_g_s0 (n : Nat) (m : Nat) (ref13_moved : ref13_moved_T) (ref13_turned : ref13_turned_T) (x0 : (List K.s9.den)) (x1 : K.s7.den) (x2 : Int) (x3 : Int) (v0_9 : (List K.s9.den)) (v0_10 : (List K.s9.den)) (v0_11 : Int) : loopN (ref13_step_g_cx @ref13_moved @ref13_turned) noY n Tryz.f55 (fun p _ => (ownD true K.s9) p) [1, 1, 1, 0, 1, 0] (m + 1) (ref13_step_g_e0 x0 x1 x2 x3 v0_9 v0_10 v0_11) =
    ref13_step_g_b0 @ref13_moved @ref13_turned x0 x1 x2 x3 (fun v0_9 v0_10 v0_11 => loopN (ref13_step_g_cx @ref13_moved @ref13_turned) noY n Tryz.f55 (fun p _ => (ownD true K.s9) p) [1, 1, 1, 0, 1, 0] m (ref13_step_g_e0 x0 x1 x2 x3 v0_9 v0_10 v0_11)) (fun v1_9 v1_10 v1_12 v1_13 => loopN (ref13_step_g_cx @ref13_moved @ref13_turned) noY n Tryz.f55 (fun p _ => (ownD true K.s9) p) [1, 1, 1, 1, 1, 1, 0, 1, 0] n (ref13_step_g_e1 x0 x1 x2 x3 v1_9 v1_10 v1_12 v1_13)) v0_9 v0_10 v0_11 := by kernel_rfl
theorem ref13_step_g_q0 (n : Nat) (ref13_moved : ref13_moved_T) (ref13_turned : ref13_turned_T) (x0 : (List K.s9.den)) (x1 : K.s7.den) (x2 : Int) (x3 : Int) (m : Nat) : ∀ (v0_9 : (List K.s9.den)) (v0_10 : (List K.s9.den)) (v0_11 : Int), loopN (ref13_step_g_cx @ref13_moved @ref13_turned) noY n Tryz.f55 (fun p _ => (ownD true K.s9) p) [1, 1, 1, 0, 1, 0] m (ref13_step_g_e0 x0 x1 x2 x3 v0_9 v0_10 v0_11) = ref13_step_g_l0 n @ref13_moved @ref13_turned x0 x1 x2 x3 m v0_9 v0_10 v0_11 := by
  induction m with
  | zero => intro v0_9 v0_10 v0_11; rfl
  | succ m ih =>
    intro v0_9 v0_10 v0_11
    rw [ref13_step_g_s0]
    have hs : (fun v0_9 v0_10 v0_11 => loopN (ref13_step_g_cx @ref13_moved @ref13_turned) noY n Tryz.f55 (fun p _ => (ownD true K.s9) p) [1, 1, 1, 0, 1, 0] m (ref13_step_g_e0 x0 x1 x2 x3 v0_9 v0_10 v0_11)) = ref13_step_g_l0 n @ref13_moved @ref13_turned x0 x1 x2 x3 m := by
      funext v0_9 v0_10 v0_11; exact ih v0_9 v0_10 v0_11
    have h1' : (fun v1_9 v1_10 v1_12 v1_13 => loopN (ref13_step_g_cx @ref13_moved @ref13_turned) noY n Tryz.f55 (fun p _ => (ownD true K.s9) p) [1, 1, 1, 1, 1, 1, 0, 1, 0] n (ref13_step_g_e1 x0 x1 x2 x3 v1_9 v1_10 v1_12 v1_13)) = ref13_step_g_l1 n @ref13_moved @ref13_turned x0 x1 x2 x3 n := by
      funext v1_9 v1_10 v1_12 v1_13; exact ref13_step_g_q1 n @ref13_moved @ref13_turned x0 x1 x2 x3 n v1_9 v1_10 v1_12 v1_13
    rw [hs, h1']
    rfl
theorem ref13_step_g_r (n : Nat) (ref13_moved : ref13_moved_T) (ref13_turned : ref13_turned_T) (x0 : (List K.s9.den)) (x1 : K.s7.den) (x2 : Int) (x3 : Int) : run (ref13_step_g_cx @ref13_moved @ref13_turned) noY n Tryz.f55 [.l K.s9 x0, .st K.s7 x1, .i .i64 x2, .i .i64 x3] [] (fun p _ => (ownD true K.s9) p) = ref13_step_g_t @ref13_moved @ref13_turned x0 x1 x2 x3 (fun v0_9 v0_10 v0_11 => loopN (ref13_step_g_cx @ref13_moved @ref13_turned) noY n Tryz.f55 (fun p _ => (ownD true K.s9) p) [1, 1, 1, 0, 1, 0] n (ref13_step_g_e0 x0 x1 x2 x3 v0_9 v0_10 v0_11)) := by kernel_rfl
theorem ref13_step_g_run (n : Nat) (ref13_moved : ref13_moved_T) (ref13_turned : ref13_turned_T) (x0 : (List K.s9.den)) (x1 : K.s7.den) (x2 : Int) (x3 : Int) : run (ref13_step_g_cx @ref13_moved @ref13_turned) noY n Tryz.f55 [.l K.s9 x0, .st K.s7 x1, .i .i64 x2, .i .i64 x3] [] (fun p _ => (ownD true K.s9) p) = ref13_step_g_at n @ref13_moved @ref13_turned x0 x1 x2 x3 := by
  rw [ref13_step_g_r]
  have h0' : (fun v0_9 v0_10 v0_11 => loopN (ref13_step_g_cx @ref13_moved @ref13_turned) noY n Tryz.f55 (fun p _ => (ownD true K.s9) p) [1, 1, 1, 0, 1, 0] n (ref13_step_g_e0 x0 x1 x2 x3 v0_9 v0_10 v0_11)) = ref13_step_g_l0 n @ref13_moved @ref13_turned x0 x1 x2 x3 n := by funext v0_9 v0_10 v0_11; exact ref13_step_g_q0 n @ref13_moved @ref13_turned x0 x1 x2 x3 n v0_9 v0_10 v0_11
  rw [h0']
  rfl
def ref13_step_sp (F : ref13_step_T) : Spec := Spec.of [(.list K.s9), K.s7, (.int .i64), (.int .i64)] (fun x => F x.1 x.2.1 x.2.2.1 x.2.2.2.1) (fun x => .o true K.s9 x)
def ref13_step_spec : Spec := ref13_step_sp ref13_step
theorem ref13_step_tabok : TabOK Tryz.prog lay (ref13_step_g_tab @ref13_moved @ref13_turned) := ⟨kds_ok, eqs_ok, (Good.cons ref13_moved_ok (Good.cons ref13_turned_ok Good.nil)), GoodH.nil, GoodR.nil, GoodI.nil⟩
theorem ref13_step_ok : CallOK Tryz.prog lay 55 ref13_step_spec.go :=
  spec_ok (T := ref13_step_g_tab @ref13_moved @ref13_turned) (live := ref13_step_g_live) (o := ⟨[], [], [], []⟩) (fn := Tryz.f55) lay_stays ref13_step_tabok follows ⟨by kernel_rfl, by kernel_rfl, by kernel_rfl⟩ (by kernel_rfl) (fun _ => rfl) (fun _ _ h => ownD_eq h) FUEL fun x => ref13_step_g_run FUEL @ref13_moved @ref13_turned x.1 x.2.1 x.2.2.1 x.2.2.2.1
def ref13_Fold_g_live : Nat → List Nat := fun b => match b with | 0 => [1, 3, 4] | 2 => [1, 3, 5, 6, 7] | _ => []
def ref13_Fold_g_tab (ref11_Fine : ref11_Fine_T) (ref13_step : ref13_step_T) : Tab := ⟨kds, eqs, [(28, ref11_Fine_sp ref11_Fine), (55, ref13_step_sp ref13_step)], [], [], []⟩
def ref13_Fold_g_cx (ref11_Fine : ref11_Fine_T) (ref13_step : ref13_step_T) : Cx := (ref13_Fold_g_tab @ref11_Fine @ref13_step).cx ref13_Fold_g_live ⟨[], [], [], []⟩
def ref13_Fold_g_e0 (x0 : K.s4.den) (v0_3 : (List K.s9.den)) (v0_4 : Int) : Env :=
  ⟨[.un, .bx 1 0, .un, .o true K.s9 v0_3, .i .i64 v0_4] ++ List.replicate 72 .un, [[], [.i .i64 x0.1, .i .i64 x0.2.1, .l K.s7 x0.2.2.1]] ++ List.replicate 75 [], ([] : Hp)⟩
def ref13_Fold_g_e1 (x0 : K.s4.den) (v1_3 : (List K.s9.den)) (v1_5 : Int) (v1_6 : Int) (v1_7 : Int) : Env :=
  ⟨[.un, .bx 1 0, .un, .o true K.s9 v1_3, .un, .i .i64 v1_5, .i .i64 v1_6, .i .i64 v1_7] ++ List.replicate 69 .un, [[], [.i .i64 x0.1, .i .i64 x0.2.1, .l K.s7 x0.2.2.1]] ++ List.replicate 75 [], ([] : Hp)⟩
theorem ref13_Fold_g_s1 (n : Nat) (m : Nat) (ref11_Fine : ref11_Fine_T) (ref13_step : ref13_step_T) (x0 : K.s4.den) (v1_3 : (List K.s9.den)) (v1_5 : Int) (v1_6 : Int) (v1_7 : Int) : loopN (ref13_Fold_g_cx @ref11_Fine @ref13_step) noY n Tryz.f41 (fun p _ => (ownD true K.s9) p) [1, 1, 1, 1, 1, 0, 1, 0] (m + 1) (ref13_Fold_g_e1 x0 v1_3 v1_5 v1_6 v1_7) =
    ref13_Fold_g_b1 @ref11_Fine @ref13_step x0 (fun v1_3 v1_5 v1_6 v1_7 => loopN (ref13_Fold_g_cx @ref11_Fine @ref13_step) noY n Tryz.f41 (fun p _ => (ownD true K.s9) p) [1, 1, 1, 1, 1, 0, 1, 0] m (ref13_Fold_g_e1 x0 v1_3 v1_5 v1_6 v1_7)) v1_3 v1_5 v1_6 v1_7 := by kernel_rfl
theorem ref13_Fold_g_q1 (n : Nat) (ref11_Fine : ref11_Fine_T) (ref13_step : ref13_step_T) (x0 : K.s4.den) (m : Nat) : ∀ (v1_3 : (List K.s9.den)) (v1_5 : Int) (v1_6 : Int) (v1_7 : Int), loopN (ref13_Fold_g_cx @ref11_Fine @ref13_step) noY n Tryz.f41 (fun p _ => (ownD true K.s9) p) [1, 1, 1, 1, 1, 0, 1, 0] m (ref13_Fold_g_e1 x0 v1_3 v1_5 v1_6 v1_7) = ref13_Fold_g_l1 n @ref11_Fine @ref13_step x0 m v1_3 v1_5 v1_6 v1_7 := by
  induction m with
  | zero => intro v1_3 v1_5 v1_6 v1_7; rfl
  | succ m ih =>
    intro v1_3 v1_5 v1_6 v1_7
    rw [ref13_Fold_g_s1]
    have hs : (fun v1_3 v1_5 v1_6 v1_7 => loopN (ref13_Fold_g_cx @ref11_Fine @ref13_step) noY n Tryz.f41 (fun p _ => (ownD true K.s9) p) [1, 1, 1, 1, 1, 0, 1, 0] m (ref13_Fold_g_e1 x0 v1_3 v1_5 v1_6 v1_7)) = ref13_Fold_g_l1 n @ref11_Fine @ref13_step x0 m := by
      funext v1_3 v1_5 v1_6 v1_7; exact ih v1_3 v1_5 v1_6 v1_7
    rw [hs]
    rfl
theorem ref13_Fold_g_s0 (n : Nat) (m : Nat) (ref11_Fine : ref11_Fine_T) (ref13_step : ref13_step_T) (x0 : K.s4.den) (v0_3 : (List K.s9.den)) (v0_4 : Int) : loopN (ref13_Fold_g_cx @ref11_Fine @ref13_step) noY n Tryz.f41 (fun p _ => (ownD true K.s9) p) [1, 1, 1, 0, 1, 0] (m + 1) (ref13_Fold_g_e0 x0 v0_3 v0_4) =
    ref13_Fold_g_b0 @ref11_Fine @ref13_step x0 (fun v0_3 v0_4 => loopN (ref13_Fold_g_cx @ref11_Fine @ref13_step) noY n Tryz.f41 (fun p _ => (ownD true K.s9) p) [1, 1, 1, 0, 1, 0] m (ref13_Fold_g_e0 x0 v0_3 v0_4)) (fun v1_3 v1_5 v1_6 v1_7 => loopN (ref13_Fold_g_cx @ref11_Fine @ref13_step) noY n Tryz.f41 (fun p _ => (ownD true K.s9) p) [1, 1, 1, 1, 1, 0, 1, 0] n (ref13_Fold_g_e1 x0 v1_3 v1_5 v1_6 v1_7)) v0_3 v0_4 := by kernel_rfl
theorem ref13_Fold_g_q0 (n : Nat) (ref11_Fine : ref11_Fine_T) (ref13_step : ref13_step_T) (x0 : K.s4.den) (m : Nat) : ∀ (v0_3 : (List K.s9.den)) (v0_4 : Int), loopN (ref13_Fold_g_cx @ref11_Fine @ref13_step) noY n Tryz.f41 (fun p _ => (ownD true K.s9) p) [1, 1, 1, 0, 1, 0] m (ref13_Fold_g_e0 x0 v0_3 v0_4) = ref13_Fold_g_l0 n @ref11_Fine @ref13_step x0 m v0_3 v0_4 := by
  induction m with
  | zero => intro v0_3 v0_4; rfl
  | succ m ih =>
    intro v0_3 v0_4
    rw [ref13_Fold_g_s0]
    have hs : (fun v0_3 v0_4 => loopN (ref13_Fold_g_cx @ref11_Fine @ref13_step) noY n Tryz.f41 (fun p _ => (ownD true K.s9) p) [1, 1, 1, 0, 1, 0] m (ref13_Fold_g_e0 x0 v0_3 v0_4)) = ref13_Fold_g_l0 n @ref11_Fine @ref13_step x0 m := by
      funext v0_3 v0_4; exact ih v0_3 v0_4
    have h1' : (fun v1_3 v1_5 v1_6 v1_7 => loopN (ref13_Fold_g_cx @ref11_Fine @ref13_step) noY n Tryz.f41 (fun p _ => (ownD true K.s9) p) [1, 1, 1, 1, 1, 0, 1, 0] n (ref13_Fold_g_e1 x0 v1_3 v1_5 v1_6 v1_7)) = ref13_Fold_g_l1 n @ref11_Fine @ref13_step x0 n := by
      funext v1_3 v1_5 v1_6 v1_7; exact ref13_Fold_g_q1 n @ref11_Fine @ref13_step x0 n v1_3 v1_5 v1_6 v1_7
    rw [hs, h1']
    rfl
theorem ref13_Fold_g_r (n : Nat) (ref11_Fine : ref11_Fine_T) (ref13_step : ref13_step_T) (x0 : K.s4.den) : run (ref13_Fold_g_cx @ref11_Fine @ref13_step) noY n Tryz.f41 [.st K.s4 x0] [] (fun p _ => (ownD true K.s9) p) = ref13_Fold_g_t @ref11_Fine @ref13_step x0 (fun v0_3 v0_4 => loopN (ref13_Fold_g_cx @ref11_Fine @ref13_step) noY n Tryz.f41 (fun p _ => (ownD true K.s9) p) [1, 1, 1, 0, 1, 0] n (ref13_Fold_g_e0 x0 v0_3 v0_4)) := by kernel_rfl
theorem ref13_Fold_g_run (n : Nat) (ref11_Fine : ref11_Fine_T) (ref13_step : ref13_step_T) (x0 : K.s4.den) : run (ref13_Fold_g_cx @ref11_Fine @ref13_step) noY n Tryz.f41 [.st K.s4 x0] [] (fun p _ => (ownD true K.s9) p) = ref13_Fold_g_at n @ref11_Fine @ref13_step x0 := by
  rw [ref13_Fold_g_r]
  have h0' : (fun v0_3 v0_4 => loopN (ref13_Fold_g_cx @ref11_Fine @ref13_step) noY n Tryz.f41 (fun p _ => (ownD true K.s9) p) [1, 1, 1, 0, 1, 0] n (ref13_Fold_g_e0 x0 v0_3 v0_4)) = ref13_Fold_g_l0 n @ref11_Fine @ref13_step x0 n := by funext v0_3 v0_4; exact ref13_Fold_g_q0 n @ref11_Fine @ref13_step x0 n v0_3 v0_4
  rw [h0']
  rfl
def ref13_Fold_sp (F : ref13_Fold_T) : Spec := Spec.of [K.s4] (fun x => F x.1) (fun x => .o true K.s9 x)
def ref13_Fold_spec : Spec := ref13_Fold_sp ref13_Fold
theorem ref13_Fold_tabok : TabOK Tryz.prog lay (ref13_Fold_g_tab @ref11_Fine @ref13_step) := ⟨kds_ok, eqs_ok, (Good.cons ref11_Fine_ok (Good.cons ref13_step_ok Good.nil)), GoodH.nil, GoodR.nil, GoodI.nil⟩
theorem ref13_Fold_ok : CallOK Tryz.prog lay 41 ref13_Fold_spec.go :=
  spec_ok (T := ref13_Fold_g_tab @ref11_Fine @ref13_step) (live := ref13_Fold_g_live) (o := ⟨[], [], [], []⟩) (fn := Tryz.f41) lay_stays ref13_Fold_tabok follows ⟨by kernel_rfl, by kernel_rfl, by kernel_rfl⟩ (by kernel_rfl) (fun _ => rfl) (fun _ _ h => ownD_eq h) FUEL fun x => ref13_Fold_g_run FUEL @ref11_Fine @ref13_step x.1
def ref13_Edge_g_live : Nat → List Nat := fun b => match b with | _ => []
def ref13_Edge_g_tab (ref13_Fold : ref13_Fold_T) : Tab := ⟨kds, eqs, [(41, ref13_Fold_sp ref13_Fold)], [], [], []⟩
def ref13_Edge_g_cx (ref13_Fold : ref13_Fold_T) : Cx := (ref13_Edge_g_tab @ref13_Fold).cx ref13_Edge_g_live ⟨[], [], [], []⟩
theorem ref13_Edge_g_run (n : Nat) (ref13_Fold : ref13_Fold_T) (x0 : K.s4.den) (x1 : Int) (x2 : Int) : run (ref13_Edge_g_cx @ref13_Fold) noY n Tryz.f42 [.st K.s4 x0, .i .i64 x1, .i .i64 x2] [] (fun p _ => (argD (.int .i64)) p) = ref13_Edge_g @ref13_Fold x0 x1 x2 := by kernel_rfl
def ref13_Edge_sp (F : ref13_Edge_T) : Spec := Spec.of [K.s4, (.int .i64), (.int .i64)] (fun x => F x.1 x.2.1 x.2.2.1) (ofDen (.int .i64))
def ref13_Edge_spec : Spec := ref13_Edge_sp ref13_Edge
theorem ref13_Edge_tabok : TabOK Tryz.prog lay (ref13_Edge_g_tab @ref13_Fold) := ⟨kds_ok, eqs_ok, (Good.cons ref13_Fold_ok Good.nil), GoodH.nil, GoodR.nil, GoodI.nil⟩
theorem ref13_Edge_ok : CallOK Tryz.prog lay 42 ref13_Edge_spec.go :=
  spec_ok (T := ref13_Edge_g_tab @ref13_Fold) (live := ref13_Edge_g_live) (o := ⟨[], [], [], []⟩) (fn := Tryz.f42) lay_stays ref13_Edge_tabok follows ⟨by kernel_rfl, by kernel_rfl, by kernel_rfl⟩ (by kernel_rfl) (fun r => freeP_ofDen (k := (.int .i64)) rfl r) (fun _ _ h => argD_eq h) FUEL fun x => ref13_Edge_g_run FUEL @ref13_Fold x.1 x.2.1 x.2.2.1
def ref13_Nests_g_live : Nat → List Nat := fun b => match b with | 0 => [1, 3, 4] | _ => []
def ref13_Nests_g_tab (ref13_Fold : ref13_Fold_T) (ref13_Edge : ref13_Edge_T) : Tab := ⟨kds, eqs, [(41, ref13_Fold_sp ref13_Fold), (42, ref13_Edge_sp ref13_Edge)], [], [], []⟩
def ref13_Nests_g_cx (ref13_Fold : ref13_Fold_T) (ref13_Edge : ref13_Edge_T) : Cx := (ref13_Nests_g_tab @ref13_Fold @ref13_Edge).cx ref13_Nests_g_live ⟨[], [], [], []⟩
def ref13_Nests_g_e0 (x0 : K.s4.den) (v0_3 : Int) (v0_4 : Int) : Env :=
  ⟨[.un, .bx 1 0, .un, .i .i64 v0_3, .i .i64 v0_4] ++ List.replicate 24 .un, [[], [.i .i64 x0.1, .i .i64 x0.2.1, .l K.s7 x0.2.2.1]] ++ List.replicate 27 [], ([] : Hp)⟩
theorem ref13_Nests_g_s0 (n : Nat) (m : Nat) (ref13_Fold : ref13_Fold_T) (ref13_Edge : ref13_Edge_T) (x0 : K.s4.den) (v0_3 : Int) (v0_4 : Int) : loopN (ref13_Nests_g_cx @ref13_Fold @ref13_Edge) noY n Tryz.f31 (fun p _ => (argD .bool) p) [1, 1, 0, 1, 0] (m + 1) (ref13_Nests_g_e0 x0 v0_3 v0_4) =
    ref13_Nests_g_b0 @ref13_Fold @ref13_Edge x0 (fun v0_3 v0_4 => loopN (ref13_Nests_g_cx @ref13_Fold @ref13_Edge) noY n Tryz.f31 (fun p _ => (argD .bool) p) [1, 1, 0, 1, 0] m (ref13_Nests_g_e0 x0 v0_3 v0_4)) v0_3 v0_4 := by kernel_rfl
theorem ref13_Nests_g_q0 (n : Nat) (ref13_Fold : ref13_Fold_T) (ref13_Edge : ref13_Edge_T) (x0 : K.s4.den) (m : Nat) : ∀ (v0_3 : Int) (v0_4 : Int), loopN (ref13_Nests_g_cx @ref13_Fold @ref13_Edge) noY n Tryz.f31 (fun p _ => (argD .bool) p) [1, 1, 0, 1, 0] m (ref13_Nests_g_e0 x0 v0_3 v0_4) = ref13_Nests_g_l0 n @ref13_Fold @ref13_Edge x0 m v0_3 v0_4 := by
  induction m with
  | zero => intro v0_3 v0_4; rfl
  | succ m ih =>
    intro v0_3 v0_4
    rw [ref13_Nests_g_s0]
    have hs : (fun v0_3 v0_4 => loopN (ref13_Nests_g_cx @ref13_Fold @ref13_Edge) noY n Tryz.f31 (fun p _ => (argD .bool) p) [1, 1, 0, 1, 0] m (ref13_Nests_g_e0 x0 v0_3 v0_4)) = ref13_Nests_g_l0 n @ref13_Fold @ref13_Edge x0 m := by
      funext v0_3 v0_4; exact ih v0_3 v0_4
    rw [hs]
    rfl
theorem ref13_Nests_g_r (n : Nat) (ref13_Fold : ref13_Fold_T) (ref13_Edge : ref13_Edge_T) (x0 : K.s4.den) : run (ref13_Nests_g_cx @ref13_Fold @ref13_Edge) noY n Tryz.f31 [.st K.s4 x0] [] (fun p _ => (argD .bool) p) = ref13_Nests_g_t @ref13_Fold @ref13_Edge x0 (fun v0_3 v0_4 => loopN (ref13_Nests_g_cx @ref13_Fold @ref13_Edge) noY n Tryz.f31 (fun p _ => (argD .bool) p) [1, 1, 0, 1, 0] n (ref13_Nests_g_e0 x0 v0_3 v0_4)) := by kernel_rfl
theorem ref13_Nests_g_run (n : Nat) (ref13_Fold : ref13_Fold_T) (ref13_Edge : ref13_Edge_T) (x0 : K.s4.den) : run (ref13_Nests_g_cx @ref13_Fold @ref13_Edge) noY n Tryz.f31 [.st K.s4 x0] [] (fun p _ => (argD .bool) p) = ref13_Nests_g_at n @ref13_Fold @ref13_Edge x0 := by
  rw [ref13_Nests_g_r]
  have h0' : (fun v0_3 v0_4 => loopN (ref13_Nests_g_cx @ref13_Fold @ref13_Edge) noY n Tryz.f31 (fun p _ => (argD .bool) p) [1, 1, 0, 1, 0] n (ref13_Nests_g_e0 x0 v0_3 v0_4)) = ref13_Nests_g_l0 n @ref13_Fold @ref13_Edge x0 n := by funext v0_3 v0_4; exact ref13_Nests_g_q0 n @ref13_Fold @ref13_Edge x0 n v0_3 v0_4
  rw [h0']
  rfl
def ref13_Nests_sp (F : ref13_Nests_T) : Spec := Spec.of [K.s4] (fun x => F x.1) (ofDen .bool)
def ref13_Nests_spec : Spec := ref13_Nests_sp ref13_Nests
theorem ref13_Nests_tabok : TabOK Tryz.prog lay (ref13_Nests_g_tab @ref13_Fold @ref13_Edge) := ⟨kds_ok, eqs_ok, (Good.cons ref13_Fold_ok (Good.cons ref13_Edge_ok Good.nil)), GoodH.nil, GoodR.nil, GoodI.nil⟩
theorem ref13_Nests_ok : CallOK Tryz.prog lay 31 ref13_Nests_spec.go :=
  spec_ok (T := ref13_Nests_g_tab @ref13_Fold @ref13_Edge) (live := ref13_Nests_g_live) (o := ⟨[], [], [], []⟩) (fn := Tryz.f31) lay_stays ref13_Nests_tabok follows ⟨by kernel_rfl, by kernel_rfl, by kernel_rfl⟩ (by kernel_rfl) (fun r => freeP_ofDen (k := .bool) rfl r) (fun _ _ h => argD_eq h) FUEL fun x => ref13_Nests_g_run FUEL @ref13_Fold @ref13_Edge x.1
def ref17_Last_g_live : Nat → List Nat := fun b => match b with | 0 => [1, 3] | _ => []
def ref17_Last_g_tab (ref11_Panels : ref11_Panels_T) (ref11_Find : ref11_Find_T) (ref13_Nests : ref13_Nests_T) : Tab := ⟨kds, eqs, [(8, ref11_Panels_sp ref11_Panels), (21, ref11_Find_sp ref11_Find), (31, ref13_Nests_sp ref13_Nests)], [], [], []⟩
def ref17_Last_g_cx (ref11_Panels : ref11_Panels_T) (ref11_Find : ref11_Find_T) (ref13_Nests : ref13_Nests_T) : Cx := (ref17_Last_g_tab @ref11_Panels @ref11_Find @ref13_Nests).cx ref17_Last_g_live ⟨[], [], [], []⟩
def ref17_Last_g_e0 (x0 : K.s5.den) (v0_3 : Int) : Env :=
  ⟨[.un, .bx 1 0, .un, .i .i64 v0_3] ++ List.replicate 58 .un, [[], [.s x0.1, .i .i64 x0.2.1, .i .i64 x0.2.2.1.1, .i .i64 x0.2.2.1.2.1, .i .i64 x0.2.2.2.1, .i .i64 x0.2.2.2.2.1, .i .i64 x0.2.2.2.2.2.1, .i .i64 x0.2.2.2.2.2.2.1, .i .i64 x0.2.2.2.2.2.2.2.1, .i .i64 x0.2.2.2.2.2.2.2.2.1, .i .i64 x0.2.2.2.2.2.2.2.2.2.1, .i .i64 x0.2.2.2.2.2.2.2.2.2.2.1, .i .i64 x0.2.2.2.2.2.2.2.2.2.2.2.1.1, .i .i64 x0.2.2.2.2.2.2.2.2.2.2.2.1.2.1, .l K.s7 x0.2.2.2.2.2.2.2.2.2.2.2.1.2.2.1, .l .str x0.2.2.2.2.2.2.2.2.2.2.2.2.1, .i .i64 x0.2.2.2.2.2.2.2.2.2.2.2.2.2.1, .i .i64 x0.2.2.2.2.2.2.2.2.2.2.2.2.2.2.1, .i .i64 x0.2.2.2.2.2.2.2.2.2.2.2.2.2.2.2.1, .i .i64 x0.2.2.2.2.2.2.2.2.2.2.2.2.2.2.2.2.1, .i .i64 x0.2.2.2.2.2.2.2.2.2.2.2.2.2.2.2.2.2.1, .i .i64 x0.2.2.2.2.2.2.2.2.2.2.2.2.2.2.2.2.2.2.1, .i .i64 x0.2.2.2.2.2.2.2.2.2.2.2.2.2.2.2.2.2.2.2.1, .i .i64 x0.2.2.2.2.2.2.2.2.2.2.2.2.2.2.2.2.2.2.2.2.1, .i .i64 x0.2.2.2.2.2.2.2.2.2.2.2.2.2.2.2.2.2.2.2.2.2.1, .i .i64 x0.2.2.2.2.2.2.2.2.2.2.2.2.2.2.2.2.2.2.2.2.2.2.1, .i .i64 x0.2.2.2.2.2.2.2.2.2.2.2.2.2.2.2.2.2.2.2.2.2.2.2.1, .i .i64 x0.2.2.2.2.2.2.2.2.2.2.2.2.2.2.2.2.2.2.2.2.2.2.2.2.1, .i .i64 x0.2.2.2.2.2.2.2.2.2.2.2.2.2.2.2.2.2.2.2.2.2.2.2.2.2.1, .i .i64 x0.2.2.2.2.2.2.2.2.2.2.2.2.2.2.2.2.2.2.2.2.2.2.2.2.2.2.1, .i .i64 x0.2.2.2.2.2.2.2.2.2.2.2.2.2.2.2.2.2.2.2.2.2.2.2.2.2.2.2.1, .i .i64 x0.2.2.2.2.2.2.2.2.2.2.2.2.2.2.2.2.2.2.2.2.2.2.2.2.2.2.2.2.1, .i .i64 x0.2.2.2.2.2.2.2.2.2.2.2.2.2.2.2.2.2.2.2.2.2.2.2.2.2.2.2.2.2.1]] ++ List.replicate 60 [], ([] : Hp)⟩
theorem ref17_Last_g_s0 (n : Nat) (m : Nat) (ref11_Panels : ref11_Panels_T) (ref11_Find : ref11_Find_T) (ref13_Nests : ref13_Nests_T) (x0 : K.s5.den) (v0_3 : Int) : loopN (ref17_Last_g_cx @ref11_Panels @ref11_Find @ref13_Nests) noY n Tryz.f15 (fun p _ => (argD .bool) p) [1, 1, 0, 1, 0] (m + 1) (ref17_Last_g_e0 x0 v0_3) =
    ref17_Last_g_b0 @ref11_Panels @ref11_Find @ref13_Nests x0 (fun v0_3 => loopN (ref17_Last_g_cx @ref11_Panels @ref11_Find @ref13_Nests) noY n Tryz.f15 (fun p _ => (argD .bool) p) [1, 1, 0, 1, 0] m (ref17_Last_g_e0 x0 v0_3)) v0_3 := by kernel_rfl
theorem ref17_Last_g_q0 (n : Nat) (ref11_Panels : ref11_Panels_T) (ref11_Find : ref11_Find_T) (ref13_Nests : ref13_Nests_T) (x0 : K.s5.den) (m : Nat) : ∀ (v0_3 : Int), loopN (ref17_Last_g_cx @ref11_Panels @ref11_Find @ref13_Nests) noY n Tryz.f15 (fun p _ => (argD .bool) p) [1, 1, 0, 1, 0] m (ref17_Last_g_e0 x0 v0_3) = ref17_Last_g_l0 n @ref11_Panels @ref11_Find @ref13_Nests x0 m v0_3 := by
  induction m with
  | zero => intro v0_3; rfl
  | succ m ih =>
    intro v0_3
    rw [ref17_Last_g_s0]
    have hs : (fun v0_3 => loopN (ref17_Last_g_cx @ref11_Panels @ref11_Find @ref13_Nests) noY n Tryz.f15 (fun p _ => (argD .bool) p) [1, 1, 0, 1, 0] m (ref17_Last_g_e0 x0 v0_3)) = ref17_Last_g_l0 n @ref11_Panels @ref11_Find @ref13_Nests x0 m := by
      funext v0_3; exact ih v0_3
    rw [hs]
    rfl
theorem ref17_Last_g_r (n : Nat) (ref11_Panels : ref11_Panels_T) (ref11_Find : ref11_Find_T) (ref13_Nests : ref13_Nests_T) (x0 : K.s5.den) : run (ref17_Last_g_cx @ref11_Panels @ref11_Find @ref13_Nests) noY n Tryz.f15 [.st K.s5 x0] [] (fun p _ => (argD .bool) p) = ref17_Last_g_t @ref11_Panels @ref11_Find @ref13_Nests x0 (fun v0_3 => loopN (ref17_Last_g_cx @ref11_Panels @ref11_Find @ref13_Nests) noY n Tryz.f15 (fun p _ => (argD .bool) p) [1, 1, 0, 1, 0] n (ref17_Last_g_e0 x0 v0_3)) := by kernel_rfl
theorem ref17_Last_g_run (n : Nat) (ref11_Panels : ref11_Panels_T) (ref11_Find : ref11_Find_T) (ref13_Nests : ref13_Nests_T) (x0 : K.s5.den) : run (ref17_Last_g_cx @ref11_Panels @ref11_Find @ref13_Nests) noY n Tryz.f15 [.st K.s5 x0] [] (fun p _ => (argD .bool) p) = ref17_Last_g_at n @ref11_Panels @ref11_Find @ref13_Nests x0 := by
  rw [ref17_Last_g_r]
  have h0' : (fun v0_3 => loopN (ref17_Last_g_cx @ref11_Panels @ref11_Find @ref13_Nests) noY n Tryz.f15 (fun p _ => (argD .bool) p) [1, 1, 0, 1, 0] n (ref17_Last_g_e0 x0 v0_3)) = ref17_Last_g_l0 n @ref11_Panels @ref11_Find @ref13_Nests x0 n := by funext v0_3; exact ref17_Last_g_q0 n @ref11_Panels @ref11_Find @ref13_Nests x0 n v0_3
  rw [h0']
  rfl
def ref17_Last_sp (F : ref17_Last_T) : Spec := Spec.of [K.s5] (fun x => F x.1) (ofDen .bool)
def ref17_Last_spec : Spec := ref17_Last_sp ref17_Last
theorem ref17_Last_tabok : TabOK Tryz.prog lay (ref17_Last_g_tab @ref11_Panels @ref11_Find @ref13_Nests) := ⟨kds_ok, eqs_ok, (Good.cons ref11_Panels_ok (Good.cons ref11_Find_ok (Good.cons ref13_Nests_ok Good.nil))), GoodH.nil, GoodR.nil, GoodI.nil⟩
theorem ref17_Last_ok : CallOK Tryz.prog lay 15 ref17_Last_spec.go :=
  spec_ok (T := ref17_Last_g_tab @ref11_Panels @ref11_Find @ref13_Nests) (live := ref17_Last_g_live) (o := ⟨[], [], [], []⟩) (fn := Tryz.f15) lay_stays ref17_Last_tabok follows ⟨by kernel_rfl, by kernel_rfl, by kernel_rfl⟩ (by kernel_rfl) (fun r => freeP_ofDen (k := .bool) rfl r) (fun _ _ h => argD_eq h) FUEL fun x => ref17_Last_g_run FUEL @ref11_Panels @ref11_Find @ref13_Nests x.1
def ref17_Of_g_live : Nat → List Nat := fun b => match b with | 0 => [1, 3, 4] | 2 => [1, 3, 4, 5, 6] | _ => []
def ref17_Of_g_tab (ref11_Panels : ref11_Panels_T) (ref17_Folds : ref17_Folds_T) (ref17_Last : ref17_Last_T) (ref11_Find : ref11_Find_T) (ref01_In : ref01_In_T) : Tab := ⟨kds, eqs, [(8, ref11_Panels_sp ref11_Panels), (13, ref17_Folds_sp ref17_Folds), (15, ref17_Last_sp ref17_Last), (21, ref11_Find_sp ref11_Find), (23, ref01_In_sp ref01_In)], [], [], []⟩
def ref17_Of_g_cx (ref11_Panels : ref11_Panels_T) (ref17_Folds : ref17_Folds_T) (ref17_Last : ref17_Last_T) (ref11_Find : ref11_Find_T) (ref01_In : ref01_In_T) : Cx := (ref17_Of_g_tab @ref11_Panels @ref17_Folds @ref17_Last @ref11_Find @ref01_In).cx ref17_Of_g_live ⟨[], [], [], []⟩
def ref17_Of_g_e0 (x0 : K.s5.den) (v0_3 : (List K.s4.den)) (v0_4 : Int) : Env :=
  ⟨[.un, .bx 1 0, .un, .o true K.s4 v0_3, .i .i64 v0_4] ++ List.replicate 72 .un, [[], [.s x0.1, .i .i64 x0.2.1, .i .i64 x0.2.2.1.1, .i .i64 x0.2.2.1.2.1, .i .i64 x0.2.2.2.1, .i .i64 x0.2.2.2.2.1, .i .i64 x0.2.2.2.2.2.1, .i .i64 x0.2.2.2.2.2.2.1, .i .i64 x0.2.2.2.2.2.2.2.1, .i .i64 x0.2.2.2.2.2.2.2.2.1, .i .i64 x0.2.2.2.2.2.2.2.2.2.1, .i .i64 x0.2.2.2.2.2.2.2.2.2.2.1, .i .i64 x0.2.2.2.2.2.2.2.2.2.2.2.1.1, .i .i64 x0.2.2.2.2.2.2.2.2.2.2.2.1.2.1, .l K.s7 x0.2.2.2.2.2.2.2.2.2.2.2.1.2.2.1, .l .str x0.2.2.2.2.2.2.2.2.2.2.2.2.1, .i .i64 x0.2.2.2.2.2.2.2.2.2.2.2.2.2.1, .i .i64 x0.2.2.2.2.2.2.2.2.2.2.2.2.2.2.1, .i .i64 x0.2.2.2.2.2.2.2.2.2.2.2.2.2.2.2.1, .i .i64 x0.2.2.2.2.2.2.2.2.2.2.2.2.2.2.2.2.1, .i .i64 x0.2.2.2.2.2.2.2.2.2.2.2.2.2.2.2.2.2.1, .i .i64 x0.2.2.2.2.2.2.2.2.2.2.2.2.2.2.2.2.2.2.1, .i .i64 x0.2.2.2.2.2.2.2.2.2.2.2.2.2.2.2.2.2.2.2.1, .i .i64 x0.2.2.2.2.2.2.2.2.2.2.2.2.2.2.2.2.2.2.2.2.1, .i .i64 x0.2.2.2.2.2.2.2.2.2.2.2.2.2.2.2.2.2.2.2.2.2.1, .i .i64 x0.2.2.2.2.2.2.2.2.2.2.2.2.2.2.2.2.2.2.2.2.2.2.1, .i .i64 x0.2.2.2.2.2.2.2.2.2.2.2.2.2.2.2.2.2.2.2.2.2.2.2.1, .i .i64 x0.2.2.2.2.2.2.2.2.2.2.2.2.2.2.2.2.2.2.2.2.2.2.2.2.1, .i .i64 x0.2.2.2.2.2.2.2.2.2.2.2.2.2.2.2.2.2.2.2.2.2.2.2.2.2.1, .i .i64 x0.2.2.2.2.2.2.2.2.2.2.2.2.2.2.2.2.2.2.2.2.2.2.2.2.2.2.1, .i .i64 x0.2.2.2.2.2.2.2.2.2.2.2.2.2.2.2.2.2.2.2.2.2.2.2.2.2.2.2.1, .i .i64 x0.2.2.2.2.2.2.2.2.2.2.2.2.2.2.2.2.2.2.2.2.2.2.2.2.2.2.2.2.1, .i .i64 x0.2.2.2.2.2.2.2.2.2.2.2.2.2.2.2.2.2.2.2.2.2.2.2.2.2.2.2.2.2.1]] ++ List.replicate 75 [], ([] : Hp)⟩
def ref17_Of_g_e1 (x0 : K.s5.den) (v1_3 : (List K.s4.den)) (v1_4 : Int) (v1_6 : Int) (v1_5_0 : Int) (v1_5_1 : Int) (v1_5_2 : (List K.s7.den)) : Env :=
  ⟨[.un, .bx 1 0, .un, .o true K.s4 v1_3, .i .i64 v1_4, .bx 5 0, .i .i64 v1_6] ++ List.replicate 70 .un, [[], [.s x0.1, .i .i64 x0.2.1, .i .i64 x0.2.2.1.1, .i .i64 x0.2.2.1.2.1, .i .i64 x0.2.2.2.1, .i .i64 x0.2.2.2.2.1, .i .i64 x0.2.2.2.2.2.1, .i .i64 x0.2.2.2.2.2.2.1, .i .i64 x0.2.2.2.2.2.2.2.1, .i .i64 x0.2.2.2.2.2.2.2.2.1, .i .i64 x0.2.2.2.2.2.2.2.2.2.1, .i .i64 x0.2.2.2.2.2.2.2.2.2.2.1, .i .i64 x0.2.2.2.2.2.2.2.2.2.2.2.1.1, .i .i64 x0.2.2.2.2.2.2.2.2.2.2.2.1.2.1, .l K.s7 x0.2.2.2.2.2.2.2.2.2.2.2.1.2.2.1, .l .str x0.2.2.2.2.2.2.2.2.2.2.2.2.1, .i .i64 x0.2.2.2.2.2.2.2.2.2.2.2.2.2.1, .i .i64 x0.2.2.2.2.2.2.2.2.2.2.2.2.2.2.1, .i .i64 x0.2.2.2.2.2.2.2.2.2.2.2.2.2.2.2.1, .i .i64 x0.2.2.2.2.2.2.2.2.2.2.2.2.2.2.2.2.1, .i .i64 x0.2.2.2.2.2.2.2.2.2.2.2.2.2.2.2.2.2.1, .i .i64 x0.2.2.2.2.2.2.2.2.2.2.2.2.2.2.2.2.2.2.1, .i .i64 x0.2.2.2.2.2.2.2.2.2.2.2.2.2.2.2.2.2.2.2.1, .i .i64 x0.2.2.2.2.2.2.2.2.2.2.2.2.2.2.2.2.2.2.2.2.1, .i .i64 x0.2.2.2.2.2.2.2.2.2.2.2.2.2.2.2.2.2.2.2.2.2.1, .i .i64 x0.2.2.2.2.2.2.2.2.2.2.2.2.2.2.2.2.2.2.2.2.2.2.1, .i .i64 x0.2.2.2.2.2.2.2.2.2.2.2.2.2.2.2.2.2.2.2.2.2.2.2.1, .i .i64 x0.2.2.2.2.2.2.2.2.2.2.2.2.2.2.2.2.2.2.2.2.2.2.2.2.1, .i .i64 x0.2.2.2.2.2.2.2.2.2.2.2.2.2.2.2.2.2.2.2.2.2.2.2.2.2.1, .i .i64 x0.2.2.2.2.2.2.2.2.2.2.2.2.2.2.2.2.2.2.2.2.2.2.2.2.2.2.1, .i .i64 x0.2.2.2.2.2.2.2.2.2.2.2.2.2.2.2.2.2.2.2.2.2.2.2.2.2.2.2.1, .i .i64 x0.2.2.2.2.2.2.2.2.2.2.2.2.2.2.2.2.2.2.2.2.2.2.2.2.2.2.2.2.1, .i .i64 x0.2.2.2.2.2.2.2.2.2.2.2.2.2.2.2.2.2.2.2.2.2.2.2.2.2.2.2.2.2.1], [], [], [], [.i .i64 v1_5_0, .i .i64 v1_5_1, .l K.s7 v1_5_2]] ++ List.replicate 71 [], ([] : Hp)⟩
theorem ref17_Of_g_s1 (n : Nat) (m : Nat) (ref11_Panels : ref11_Panels_T) (ref17_Folds : ref17_Folds_T) (ref17_Last : ref17_Last_T) (ref11_Find : ref11_Find_T) (ref01_In : ref01_In_T) (x0 : K.s5.den) (v1_3 : (List K.s4.den)) (v1_4 : Int) (v1_6 : Int) (v1_5_0 : Int) (v1_5_1 : Int) (v1_5_2 : (List K.s7.den)) : loopN (ref17_Of_g_cx @ref11_Panels @ref17_Folds @ref17_Last @ref11_Find @ref01_In) noY n Tryz.f17 (fun p _ => (ownD true K.s4) p) [1, 1, 1, 1, 1, 1, 0, 1, 0] (m + 1) (ref17_Of_g_e1 x0 v1_3 v1_4 v1_6 v1_5_0 v1_5_1 v1_5_2) =
    ref17_Of_g_b1 @ref11_Panels @ref17_Folds @ref17_Last @ref11_Find @ref01_In x0 (fun v1_3 v1_4 v1_6 v1_5_0 v1_5_1 v1_5_2 => loopN (ref17_Of_g_cx @ref11_Panels @ref17_Folds @ref17_Last @ref11_Find @ref01_In) noY n Tryz.f17 (fun p _ => (ownD true K.s4) p) [1, 1, 1, 1, 1, 1, 0, 1, 0] m (ref17_Of_g_e1 x0 v1_3 v1_4 v1_6 v1_5_0 v1_5_1 v1_5_2)) v1_3 v1_4 v1_6 v1_5_0 v1_5_1 v1_5_2 := by kernel_rfl
theorem ref17_Of_g_q1 (n : Nat) (ref11_Panels : ref11_Panels_T) (ref17_Folds : ref17_Folds_T) (ref17_Last : ref17_Last_T) (ref11_Find : ref11_Find_T) (ref01_In : ref01_In_T) (x0 : K.s5.den) (m : Nat) : ∀ (v1_3 : (List K.s4.den)) (v1_4 : Int) (v1_6 : Int) (v1_5_0 : Int) (v1_5_1 : Int) (v1_5_2 : (List K.s7.den)), loopN (ref17_Of_g_cx @ref11_Panels @ref17_Folds @ref17_Last @ref11_Find @ref01_In) noY n Tryz.f17 (fun p _ => (ownD true K.s4) p) [1, 1, 1, 1, 1, 1, 0, 1, 0] m (ref17_Of_g_e1 x0 v1_3 v1_4 v1_6 v1_5_0 v1_5_1 v1_5_2) = ref17_Of_g_l1 n @ref11_Panels @ref17_Folds @ref17_Last @ref11_Find @ref01_In x0 m v1_3 v1_4 v1_6 v1_5_0 v1_5_1 v1_5_2 := by
  induction m with
  | zero => intro v1_3 v1_4 v1_6 v1_5_0 v1_5_1 v1_5_2; rfl
  | succ m ih =>
    intro v1_3 v1_4 v1_6 v1_5_0 v1_5_1 v1_5_2
    rw [ref17_Of_g_s1]
    have hs : (fun v1_3 v1_4 v1_6 v1_5_0 v1_5_1 v1_5_2 => loopN (ref17_Of_g_cx @ref11_Panels @ref17_Folds @ref17_Last @ref11_Find @ref01_In) noY n Tryz.f17 (fun p _ => (ownD true K.s4) p) [1, 1, 1, 1, 1, 1, 0, 1, 0] m (ref17_Of_g_e1 x0 v1_3 v1_4 v1_6 v1_5_0 v1_5_1 v1_5_2)) = ref17_Of_g_l1 n @ref11_Panels @ref17_Folds @ref17_Last @ref11_Find @ref01_In x0 m := by
      funext v1_3 v1_4 v1_6 v1_5_0 v1_5_1 v1_5_2; exact ih v1_3 v1_4 v1_6 v1_5_0 v1_5_1 v1_5_2
    rw [hs]
    rfl
theorem ref17_Of_g_s0 (n : Nat) (m : Nat) (ref11_Panels : ref11_Panels_T) (ref17_Folds : ref17_Folds_T) (ref17_Last : ref17_Last_T) (ref11_Find : ref11_Find_T) (ref01_In : ref01_In_T) (x0 : K.s5.den) (v0_3 : (List K.s4.den)) (v0_4 : Int) : loopN (ref17_Of_g_cx @ref11_Panels @ref17_Folds @ref17_Last @ref11_Find @ref01_In) noY n Tryz.f17 (fun p _ => (ownD true K.s4) p) [1, 1, 1, 1, 0, 0] (m + 1) (ref17_Of_g_e0 x0 v0_3 v0_4) =
    ref17_Of_g_b0 @ref11_Panels @ref17_Folds @ref17_Last @ref11_Find @ref01_In x0 (fun v0_3 v0_4 => loopN (ref17_Of_g_cx @ref11_Panels @ref17_Folds @ref17_Last @ref11_Find @ref01_In) noY n Tryz.f17 (fun p _ => (ownD true K.s4) p) [1, 1, 1, 1, 0, 0] m (ref17_Of_g_e0 x0 v0_3 v0_4)) (fun v1_3 v1_4 v1_6 v1_5_0 v1_5_1 v1_5_2 => loopN (ref17_Of_g_cx @ref11_Panels @ref17_Folds @ref17_Last @ref11_Find @ref01_In) noY n Tryz.f17 (fun p _ => (ownD true K.s4) p) [1, 1, 1, 1, 1, 1, 0, 1, 0] n (ref17_Of_g_e1 x0 v1_3 v1_4 v1_6 v1_5_0 v1_5_1 v1_5_2)) v0_3 v0_4 := by kernel_rfl
theorem ref17_Of_g_q0 (n : Nat) (ref11_Panels : ref11_Panels_T) (ref17_Folds : ref17_Folds_T) (ref17_Last : ref17_Last_T) (ref11_Find : ref11_Find_T) (ref01_In : ref01_In_T) (x0 : K.s5.den) (m : Nat) : ∀ (v0_3 : (List K.s4.den)) (v0_4 : Int), loopN (ref17_Of_g_cx @ref11_Panels @ref17_Folds @ref17_Last @ref11_Find @ref01_In) noY n Tryz.f17 (fun p _ => (ownD true K.s4) p) [1, 1, 1, 1, 0, 0] m (ref17_Of_g_e0 x0 v0_3 v0_4) = ref17_Of_g_l0 n @ref11_Panels @ref17_Folds @ref17_Last @ref11_Find @ref01_In x0 m v0_3 v0_4 := by
  induction m with
  | zero => intro v0_3 v0_4; rfl
  | succ m ih =>
    intro v0_3 v0_4
    rw [ref17_Of_g_s0]
    have hs : (fun v0_3 v0_4 => loopN (ref17_Of_g_cx @ref11_Panels @ref17_Folds @ref17_Last @ref11_Find @ref01_In) noY n Tryz.f17 (fun p _ => (ownD true K.s4) p) [1, 1, 1, 1, 0, 0] m (ref17_Of_g_e0 x0 v0_3 v0_4)) = ref17_Of_g_l0 n @ref11_Panels @ref17_Folds @ref17_Last @ref11_Find @ref01_In x0 m := by
      funext v0_3 v0_4; exact ih v0_3 v0_4
    have h1' : (fun v1_3 v1_4 v1_6 v1_5_0 v1_5_1 v1_5_2 => loopN (ref17_Of_g_cx @ref11_Panels @ref17_Folds @ref17_Last @ref11_Find @ref01_In) noY n Tryz.f17 (fun p _ => (ownD true K.s4) p) [1, 1, 1, 1, 1, 1, 0, 1, 0] n (ref17_Of_g_e1 x0 v1_3 v1_4 v1_6 v1_5_0 v1_5_1 v1_5_2)) = ref17_Of_g_l1 n @ref11_Panels @ref17_Folds @ref17_Last @ref11_Find @ref01_In x0 n := by
      funext v1_3 v1_4 v1_6 v1_5_0 v1_5_1 v1_5_2; exact ref17_Of_g_q1 n @ref11_Panels @ref17_Folds @ref17_Last @ref11_Find @ref01_In x0 n v1_3 v1_4 v1_6 v1_5_0 v1_5_1 v1_5_2
    rw [hs, h1']
    rfl
theorem ref17_Of_g_r (n : Nat) (ref11_Panels : ref11_Panels_T) (ref17_Folds : ref17_Folds_T) (ref17_Last : ref17_Last_T) (ref11_Find : ref11_Find_T) (ref01_In : ref01_In_T) (x0 : K.s5.den) : run (ref17_Of_g_cx @ref11_Panels @ref17_Folds @ref17_Last @ref11_Find @ref01_In) noY n Tryz.f17 [.st K.s5 x0] [] (fun p _ => (ownD true K.s4) p) = ref17_Of_g_t @ref11_Panels @ref17_Folds @ref17_Last @ref11_Find @ref01_In x0 (fun v0_3 v0_4 => loopN (ref17_Of_g_cx @ref11_Panels @ref17_Folds @ref17_Last @ref11_Find @ref01_In) noY n Tryz.f17 (fun p _ => (ownD true K.s4) p) [1, 1, 1, 1, 0, 0] n (ref17_Of_g_e0 x0 v0_3 v0_4)) := by kernel_rfl
theorem ref17_Of_g_run (n : Nat) (ref11_Panels : ref11_Panels_T) (ref17_Folds : ref17_Folds_T) (ref17_Last : ref17_Last_T) (ref11_Find : ref11_Find_T) (ref01_In : ref01_In_T) (x0 : K.s5.den) : run (ref17_Of_g_cx @ref11_Panels @ref17_Folds @ref17_Last @ref11_Find @ref01_In) noY n Tryz.f17 [.st K.s5 x0] [] (fun p _ => (ownD true K.s4) p) = ref17_Of_g_at n @ref11_Panels @ref17_Folds @ref17_Last @ref11_Find @ref01_In x0 := by
  rw [ref17_Of_g_r]
  have h0' : (fun v0_3 v0_4 => loopN (ref17_Of_g_cx @ref11_Panels @ref17_Folds @ref17_Last @ref11_Find @ref01_In) noY n Tryz.f17 (fun p _ => (ownD true K.s4) p) [1, 1, 1, 1, 0, 0] n (ref17_Of_g_e0 x0 v0_3 v0_4)) = ref17_Of_g_l0 n @ref11_Panels @ref17_Folds @ref17_Last @ref11_Find @ref01_In x0 n := by funext v0_3 v0_4; exact ref17_Of_g_q0 n @ref11_Panels @ref17_Folds @ref17_Last @ref11_Find @ref01_In x0 n v0_3 v0_4
  rw [h0']
  rfl
def ref17_Of_sp (F : ref17_Of_T) : Spec := Spec.of [K.s5] (fun x => F x.1) (fun x => .o true K.s4 x)
def ref17_Of_spec : Spec := ref17_Of_sp ref17_Of
theorem ref17_Of_tabok : TabOK Tryz.prog lay (ref17_Of_g_tab @ref11_Panels @ref17_Folds @ref17_Last @ref11_Find @ref01_In) := ⟨kds_ok, eqs_ok, (Good.cons ref11_Panels_ok (Good.cons ref17_Folds_ok (Good.cons ref17_Last_ok (Good.cons ref11_Find_ok (Good.cons ref01_In_ok Good.nil))))), GoodH.nil, GoodR.nil, GoodI.nil⟩
theorem ref17_Of_ok : CallOK Tryz.prog lay 17 ref17_Of_spec.go :=
  spec_ok (T := ref17_Of_g_tab @ref11_Panels @ref17_Folds @ref17_Last @ref11_Find @ref01_In) (live := ref17_Of_g_live) (o := ⟨[], [], [], []⟩) (fn := Tryz.f17) lay_stays ref17_Of_tabok follows ⟨by kernel_rfl, by kernel_rfl, by kernel_rfl⟩ (by kernel_rfl) (fun _ => rfl) (fun _ _ h => ownD_eq h) FUEL fun x => ref17_Of_g_run FUEL @ref11_Panels @ref17_Folds @ref17_Last @ref11_Find @ref01_In x.1
def ref17_Leaves_g_live : Nat → List Nat := fun b => match b with | 0 => [0, 3, 4] | _ => []
def ref17_Leaves_g_tab (ref11_Panels : ref11_Panels_T) : Tab := ⟨kds, eqs, [(8, ref11_Panels_sp ref11_Panels)], [], [], []⟩
def ref17_Leaves_g_cx (ref11_Panels : ref11_Panels_T) : Cx := (ref17_Leaves_g_tab @ref11_Panels).cx ref17_Leaves_g_live ⟨[], [], [], []⟩
def ref17_Leaves_g_e0 (x0 : (List K.s4.den)) (v0_3 : Int) (v0_4 : Int) : Env :=
  ⟨[.l K.s4 x0, .un, .un, .i .i64 v0_3, .i .i64 v0_4] ++ List.replicate 14 .un, List.replicate 19 [], ([] : Hp)⟩
theorem ref17_Leaves_g_s0 (n : Nat) (m : Nat) (ref11_Panels : ref11_Panels_T) (x0 : (List K.s4.den)) (v0_3 : Int) (v0_4 : Int) : loopN (ref17_Leaves_g_cx @ref11_Panels) noY n Tryz.f18 (fun p _ => (argD (.int .i64)) p) [1, 1, 0, 1, 0] (m + 1) (ref17_Leaves_g_e0 x0 v0_3 v0_4) =
    ref17_Leaves_g_b0 @ref11_Panels x0 (fun v0_3 v0_4 => loopN (ref17_Leaves_g_cx @ref11_Panels) noY n Tryz.f18 (fun p _ => (argD (.int .i64)) p) [1, 1, 0, 1, 0] m (ref17_Leaves_g_e0 x0 v0_3 v0_4)) v0_3 v0_4 := by kernel_rfl
theorem ref17_Leaves_g_q0 (n : Nat) (ref11_Panels : ref11_Panels_T) (x0 : (List K.s4.den)) (m : Nat) : ∀ (v0_3 : Int) (v0_4 : Int), loopN (ref17_Leaves_g_cx @ref11_Panels) noY n Tryz.f18 (fun p _ => (argD (.int .i64)) p) [1, 1, 0, 1, 0] m (ref17_Leaves_g_e0 x0 v0_3 v0_4) = ref17_Leaves_g_l0 n @ref11_Panels x0 m v0_3 v0_4 := by
  induction m with
  | zero => intro v0_3 v0_4; rfl
  | succ m ih =>
    intro v0_3 v0_4
    rw [ref17_Leaves_g_s0]
    have hs : (fun v0_3 v0_4 => loopN (ref17_Leaves_g_cx @ref11_Panels) noY n Tryz.f18 (fun p _ => (argD (.int .i64)) p) [1, 1, 0, 1, 0] m (ref17_Leaves_g_e0 x0 v0_3 v0_4)) = ref17_Leaves_g_l0 n @ref11_Panels x0 m := by
      funext v0_3 v0_4; exact ih v0_3 v0_4
    rw [hs]
    rfl
theorem ref17_Leaves_g_r (n : Nat) (ref11_Panels : ref11_Panels_T) (x0 : (List K.s4.den)) : run (ref17_Leaves_g_cx @ref11_Panels) noY n Tryz.f18 [.l K.s4 x0] [] (fun p _ => (argD (.int .i64)) p) = ref17_Leaves_g_t @ref11_Panels x0 (fun v0_3 v0_4 => loopN (ref17_Leaves_g_cx @ref11_Panels) noY n Tryz.f18 (fun p _ => (argD (.int .i64)) p) [1, 1, 0, 1, 0] n (ref17_Leaves_g_e0 x0 v0_3 v0_4)) := by kernel_rfl
theorem ref17_Leaves_g_run (n : Nat) (ref11_Panels : ref11_Panels_T) (x0 : (List K.s4.den)) : run (ref17_Leaves_g_cx @ref11_Panels) noY n Tryz.f18 [.l K.s4 x0] [] (fun p _ => (argD (.int .i64)) p) = ref17_Leaves_g_at n @ref11_Panels x0 := by
  rw [ref17_Leaves_g_r]
  have h0' : (fun v0_3 v0_4 => loopN (ref17_Leaves_g_cx @ref11_Panels) noY n Tryz.f18 (fun p _ => (argD (.int .i64)) p) [1, 1, 0, 1, 0] n (ref17_Leaves_g_e0 x0 v0_3 v0_4)) = ref17_Leaves_g_l0 n @ref11_Panels x0 n := by funext v0_3 v0_4; exact ref17_Leaves_g_q0 n @ref11_Panels x0 n v0_3 v0_4
  rw [h0']
  rfl
def ref17_Leaves_sp (F : ref17_Leaves_T) : Spec := Spec.of [(.list K.s4)] (fun x => F x.1) (ofDen (.int .i64))
def ref17_Leaves_spec : Spec := ref17_Leaves_sp ref17_Leaves
theorem ref17_Leaves_tabok : TabOK Tryz.prog lay (ref17_Leaves_g_tab @ref11_Panels) := ⟨kds_ok, eqs_ok, (Good.cons ref11_Panels_ok Good.nil), GoodH.nil, GoodR.nil, GoodI.nil⟩
theorem ref17_Leaves_ok : CallOK Tryz.prog lay 18 ref17_Leaves_spec.go :=
  spec_ok (T := ref17_Leaves_g_tab @ref11_Panels) (live := ref17_Leaves_g_live) (o := ⟨[], [], [], []⟩) (fn := Tryz.f18) lay_stays ref17_Leaves_tabok follows ⟨by kernel_rfl, by kernel_rfl, by kernel_rfl⟩ (by kernel_rfl) (fun r => freeP_ofDen (k := (.int .i64)) rfl r) (fun _ _ h => argD_eq h) FUEL fun x => ref17_Leaves_g_run FUEL @ref11_Panels x.1
def split_At_g_live : Nat → List Nat := fun b => match b with | _ => []
def split_At_g_tab (split_of : split_of_T) (num_In : num_In_T) (split_own : split_own_T) : Tab := ⟨kds, eqs, [(24, split_of_sp split_of), (27, num_In_sp num_In), (32, split_own_sp split_own)], [], [], []⟩
def split_At_g_cx (split_of : split_of_T) (num_In : num_In_T) (split_own : split_own_T) : Cx := (split_At_g_tab @split_of @num_In @split_own).cx split_At_g_live ⟨[], [], [], []⟩
theorem split_At_g_run (n : Nat) (split_of : split_of_T) (num_In : num_In_T) (split_own : split_own_T) (x0 : K.s5.den) (x1 : Int) : run (split_At_g_cx @split_of @num_In @split_own) noY n Tryz.f19 [.st K.s5 x0, .i .i64 x1] [] (fun p _ => (tupsD (.pair K.s4 (.pair .bool .unit))) p) = split_At_g @split_of @num_In @split_own x0 x1 := by kernel_rfl
def split_At_sp (F : split_At_T) : Spec := Spec.of [K.s5, (.int .i64)] (fun x => F x.1 x.2.1) (fun x => .tup (tupL (.pair K.s4 (.pair .bool .unit)) x))
def split_At_spec : Spec := split_At_sp split_At
theorem split_At_tabok : TabOK Tryz.prog lay (split_At_g_tab @split_of @num_In @split_own) := ⟨kds_ok, eqs_ok, (Good.cons split_of_ok (Good.cons num_In_ok (Good.cons split_own_ok Good.nil))), GoodH.nil, GoodR.nil, GoodI.nil⟩
theorem split_At_ok : CallOK Tryz.prog lay 19 split_At_spec.go :=
  spec_ok (T := split_At_g_tab @split_of @num_In @split_own) (live := split_At_g_live) (o := ⟨[], [], [], []⟩) (fn := Tryz.f19) lay_stays split_At_tabok follows ⟨by kernel_rfl, by kernel_rfl, by kernel_rfl⟩ (by kernel_rfl) (fun r => freeP_tupL (k := (.pair K.s4 (.pair .bool .unit))) rfl r) (fun _ _ h => tupsD_eq h) FUEL fun x => split_At_g_run FUEL @split_of @num_In @split_own x.1 x.2.1
def ref11_Same_g_live : Nat → List Nat := fun b => match b with | 0 => [2, 3, 5] | _ => []
def ref11_Same_g_tab : Tab := ⟨kds, eqs, [], [], [], []⟩
def ref11_Same_g_cx : Cx := (ref11_Same_g_tab).cx ref11_Same_g_live ⟨[], [], [], []⟩
def ref11_Same_g_e0 (x0 : K.s4.den) (x1 : K.s4.den) (v0_5 : Int) : Env :=
  ⟨[.un, .un, .bx 2 0, .bx 3 0, .un, .i .i64 v0_5] ++ List.replicate 39 .un, [[], [], [.i .i64 x0.1, .i .i64 x0.2.1, .l K.s7 x0.2.2.1], [.i .i64 x1.1, .i .i64 x1.2.1, .l K.s7 x1.2.2.1]] ++ List.replicate 41 [], ([] : Hp)⟩
theorem ref11_Same_g_s0 (n : Nat) (m : Nat) (x0 : K.s4.den) (x1 : K.s4.den) (v0_5 : Int) : loopN ref11_Same_g_cx noY n Tryz.f20 (fun p _ => (argD .bool) p) [1, 1, 0, 1, 0] (m + 1) (ref11_Same_g_e0 x0 x1 v0_5) =
    ref11_Same_g_b0 x0 x1 (fun v0_5 => loopN ref11_Same_g_cx noY n Tryz.f20 (fun p _ => (argD .bool) p) [1, 1, 0, 1, 0] m (ref11_Same_g_e0 x0 x1 v0_5)) v0_5 := by kernel_rfl
theorem ref11_Same_g_q0 (n : Nat) (x0 : K.s4.den) (x1 : K.s4.den) (m : Nat) : ∀ (v0_5 : Int), loopN ref11_Same_g_cx noY n Tryz.f20 (fun p _ => (argD .bool) p) [1, 1, 0, 1, 0] m (ref11_Same_g_e0 x0 x1 v0_5) = ref11_Same_g_l0 n x0 x1 m v0_5 := by
  induction m with
  | zero => intro v0_5; rfl
  | succ m ih =>
    intro v0_5
    rw [ref11_Same_g_s0]
    have hs : (fun v0_5 => loopN ref11_Same_g_cx noY n Tryz.f20 (fun p _ => (argD .bool) p) [1, 1, 0, 1, 0] m (ref11_Same_g_e0 x0 x1 v0_5)) = ref11_Same_g_l0 n x0 x1 m := by
      funext v0_5; exact ih v0_5
    rw [hs]
    rfl
theorem ref11_Same_g_r (n : Nat) (x0 : K.s4.den) (x1 : K.s4.den) : run ref11_Same_g_cx noY n Tryz.f20 [.st K.s4 x0, .st K.s4 x1] [] (fun p _ => (argD .bool) p) = ref11_Same_g_t x0 x1 (fun v0_5 => loopN ref11_Same_g_cx noY n Tryz.f20 (fun p _ => (argD .bool) p) [1, 1, 0, 1, 0] n (ref11_Same_g_e0 x0 x1 v0_5)) := by kernel_rfl
theorem ref11_Same_g_run (n : Nat) (x0 : K.s4.den) (x1 : K.s4.den) : run ref11_Same_g_cx noY n Tryz.f20 [.st K.s4 x0, .st K.s4 x1] [] (fun p _ => (argD .bool) p) = ref11_Same_g_at n x0 x1 := by
  rw [ref11_Same_g_r]
  have h0' : (fun v0_5 => loopN ref11_Same_g_cx noY n Tryz.f20 (fun p _ => (argD .bool) p) [1, 1, 0, 1, 0] n (ref11_Same_g_e0 x0 x1 v0_5)) = ref11_Same_g_l0 n x0 x1 n := by funext v0_5; exact ref11_Same_g_q0 n x0 x1 n v0_5
  rw [h0']
  rfl
def ref11_Same_sp (F : ref11_Same_T) : Spec := Spec.of [K.s4, K.s4] (fun x => F x.1 x.2.1) (ofDen .bool)
def ref11_Same_spec : Spec := ref11_Same_sp ref11_Same
theorem ref11_Same_tabok : TabOK Tryz.prog lay (ref11_Same_g_tab) := ⟨kds_ok, eqs_ok, Good.nil, GoodH.nil, GoodR.nil, GoodI.nil⟩
theorem ref11_Same_ok : CallOK Tryz.prog lay 20 ref11_Same_spec.go :=
  spec_ok (T := ref11_Same_g_tab) (live := ref11_Same_g_live) (o := ⟨[], [], [], []⟩) (fn := Tryz.f20) lay_stays ref11_Same_tabok follows ⟨by kernel_rfl, by kernel_rfl, by kernel_rfl⟩ (by kernel_rfl) (fun r => freeP_ofDen (k := .bool) rfl r) (fun _ _ h => argD_eq h) FUEL fun x => ref11_Same_g_run FUEL x.1 x.2.1
def law17_SplitTells_g_live : Nat → List Nat := fun b => match b with | 0 => [1, 2, 5, 6, 7] | _ => []
def law17_SplitTells_g_tab (law17_alive : law17_alive_T) (split_Count : split_Count_T) (split_Leaves : split_Leaves_T) (ref15_Light : ref15_Light_T) (split_Folds : split_Folds_T) (ref17_Folds : ref17_Folds_T) (split_Last : split_Last_T) (ref17_Last : ref17_Last_T) (split_Of : split_Of_T) (ref17_Of : ref17_Of_T) (ref17_Leaves : ref17_Leaves_T) (split_At : split_At_T) (ref11_Same : ref11_Same_T) : Tab := ⟨kds, eqs, [(6, law17_alive_sp law17_alive), (9, split_Count_sp split_Count), (10, split_Leaves_sp split_Leaves), (11, ref15_Light_sp ref15_Light), (12, split_Folds_sp split_Folds), (13, ref17_Folds_sp ref17_Folds), (14, split_Last_sp split_Last), (15, ref17_Last_sp ref17_Last), (16, split_Of_sp split_Of), (17, ref17_Of_sp ref17_Of), (18, ref17_Leaves_sp ref17_Leaves), (19, split_At_sp split_At), (20, ref11_Same_sp ref11_Same)], [], [], []⟩
def law17_SplitTells_g_cx (law17_alive : law17_alive_T) (split_Count : split_Count_T) (split_Leaves : split_Leaves_T) (ref15_Light : ref15_Light_T) (split_Folds : split_Folds_T) (ref17_Folds : ref17_Folds_T) (split_Last : split_Last_T) (ref17_Last : ref17_Last_T) (split_Of : split_Of_T) (ref17_Of : ref17_Of_T) (ref17_Leaves : ref17_Leaves_T) (split_At : split_At_T) (ref11_Same : ref11_Same_T) : Cx := (law17_SplitTells_g_tab @law17_alive @split_Count @split_Leaves @ref15_Light @split_Folds @ref17_Folds @split_Last @ref17_Last @split_Of @ref17_Of @ref17_Leaves @split_At @ref11_Same).cx law17_SplitTells_g_live ⟨[], [], [], []⟩
def law17_SplitTells_g_e0 (x0 : K.s5.den) (x1 : Int) (v0_5 : (List K.s4.den)) (v0_6 : (List K.s4.den)) (v0_7 : Int) : Env :=
  ⟨[.un, .i .i64 x1, .bx 2 0, .un, .un, .o true K.s4 v0_5, .o false K.s4 v0_6, .i .i64 v0_7] ++ List.replicate 107 .un, [[], [], [.s x0.1, .i .i64 x0.2.1, .i .i64 x0.2.2.1.1, .i .i64 x0.2.2.1.2.1, .i .i64 x0.2.2.2.1, .i .i64 x0.2.2.2.2.1, .i .i64 x0.2.2.2.2.2.1, .i .i64 x0.2.2.2.2.2.2.1, .i .i64 x0.2.2.2.2.2.2.2.1, .i .i64 x0.2.2.2.2.2.2.2.2.1, .i .i64 x0.2.2.2.2.2.2.2.2.2.1, .i .i64 x0.2.2.2.2.2.2.2.2.2.2.1, .i .i64 x0.2.2.2.2.2.2.2.2.2.2.2.1.1, .i .i64 x0.2.2.2.2.2.2.2.2.2.2.2.1.2.1, .l K.s7 x0.2.2.2.2.2.2.2.2.2.2.2.1.2.2.1, .l .str x0.2.2.2.2.2.2.2.2.2.2.2.2.1, .i .i64 x0.2.2.2.2.2.2.2.2.2.2.2.2.2.1, .i .i64 x0.2.2.2.2.2.2.2.2.2.2.2.2.2.2.1, .i .i64 x0.2.2.2.2.2.2.2.2.2.2.2.2.2.2.2.1, .i .i64 x0.2.2.2.2.2.2.2.2.2.2.2.2.2.2.2.2.1, .i .i64 x0.2.2.2.2.2.2.2.2.2.2.2.2.2.2.2.2.2.1, .i .i64 x0.2.2.2.2.2.2.2.2.2.2.2.2.2.2.2.2.2.2.1, .i .i64 x0.2.2.2.2.2.2.2.2.2.2.2.2.2.2.2.2.2.2.2.1, .i .i64 x0.2.2.2.2.2.2.2.2.2.2.2.2.2.2.2.2.2.2.2.2.1, .i .i64 x0.2.2.2.2.2.2.2.2.2.2.2.2.2.2.2.2.2.2.2.2.2.1, .i .i64 x0.2.2.2.2.2.2.2.2.2.2.2.2.2.2.2.2.2.2.2.2.2.2.1, .i .i64 x0.2.2.2.2.2.2.2.2.2.2.2.2.2.2.2.2.2.2.2.2.2.2.2.1, .i .i64 x0.2.2.2.2.2.2.2.2.2.2.2.2.2.2.2.2.2.2.2.2.2.2.2.2.1, .i .i64 x0.2.2.2.2.2.2.2.2.2.2.2.2.2.2.2.2.2.2.2.2.2.2.2.2.2.1, .i .i64 x0.2.2.2.2.2.2.2.2.2.2.2.2.2.2.2.2.2.2.2.2.2.2.2.2.2.2.1, .i .i64 x0.2.2.2.2.2.2.2.2.2.2.2.2.2.2.2.2.2.2.2.2.2.2.2.2.2.2.2.1, .i .i64 x0.2.2.2.2.2.2.2.2.2.2.2.2.2.2.2.2.2.2.2.2.2.2.2.2.2.2.2.2.1, .i .i64 x0.2.2.2.2.2.2.2.2.2.2.2.2.2.2.2.2.2.2.2.2.2.2.2.2.2.2.2.2.2.1]] ++ List.replicate 112 [], ([] : Hp)⟩
theorem law17_SplitTells_g_s0 (n : Nat) (m : Nat) (law17_alive : law17_alive_T) (split_Count : split_Count_T) (split_Leaves : split_Leaves_T) (ref15_Light : ref15_Light_T) (split_Folds : split_Folds_T) (ref17_Folds : ref17_Folds_T) (split_Last : split_Last_T) (ref17_Last : ref17_Last_T) (split_Of : split_Of_T) (ref17_Of : ref17_Of_T) (ref17_Leaves : ref17_Leaves_T) (split_At : split_At_T) (ref11_Same : ref11_Same_T) (x0 : K.s5.den) (x1 : Int) (v0_5 : (List K.s4.den)) (v0_6 : (List K.s4.den)) (v0_7 : Int) : loopN (law17_SplitTells_g_cx @law17_alive @split_Count @split_Leaves @ref15_Light @split_Folds @ref17_Folds @split_Last @ref17_Last @split_Of @ref17_Of @ref17_Leaves @split_At @ref11_Same) noY n Tryz.f4 (fun p _ => (argD .bool) p) [1, 1, 1, 1, 1, 1, 0, 1, 0] (m + 1) (law17_SplitTells_g_e0 x0 x1 v0_5 v0_6 v0_7) =
    law17_SplitTells_g_b0 @law17_alive @split_Count @split_Leaves @ref15_Light @split_Folds @ref17_Folds @split_Last @ref17_Last @split_Of @ref17_Of @ref17_Leaves @split_At @ref11_Same x0 x1 (fun v0_5 v0_6 v0_7 => loopN (law17_SplitTells_g_cx @law17_alive @split_Count @split_Leaves @ref15_Light @split_Folds @ref17_Folds @split_Last @ref17_Last @split_Of @ref17_Of @ref17_Leaves @split_At @ref11_Same) noY n Tryz.f4 (fun p _ => (argD .bool) p) [1, 1, 1, 1, 1, 1, 0, 1, 0] m (law17_SplitTells_g_e0 x0 x1 v0_5 v0_6 v0_7)) v0_5 v0_6 v0_7 := by kernel_rfl
theorem law17_SplitTells_g_q0 (n : Nat) (law17_alive : law17_alive_T) (split_Count : split_Count_T) (split_Leaves : split_Leaves_T) (ref15_Light : ref15_Light_T) (split_Folds : split_Folds_T) (ref17_Folds : ref17_Folds_T) (split_Last : split_Last_T) (ref17_Last : ref17_Last_T) (split_Of : split_Of_T) (ref17_Of : ref17_Of_T) (ref17_Leaves : ref17_Leaves_T) (split_At : split_At_T) (ref11_Same : ref11_Same_T) (x0 : K.s5.den) (x1 : Int) (m : Nat) : ∀ (v0_5 : (List K.s4.den)) (v0_6 : (List K.s4.den)) (v0_7 : Int), loopN (law17_SplitTells_g_cx @law17_alive @split_Count @split_Leaves @ref15_Light @split_Folds @ref17_Folds @split_Last @ref17_Last @split_Of @ref17_Of @ref17_Leaves @split_At @ref11_Same) noY n Tryz.f4 (fun p _ => (argD .bool) p) [1, 1, 1, 1, 1, 1, 0, 1, 0] m (law17_SplitTells_g_e0 x0 x1 v0_5 v0_6 v0_7) = law17_SplitTells_g_l0 n @law17_alive @split_Count @split_Leaves @ref15_Light @split_Folds @ref17_Folds @split_Last @ref17_Last @split_Of @ref17_Of @ref17_Leaves @split_At @ref11_Same x0 x1 m v0_5 v0_6 v0_7 := by
  induction m with
  | zero => intro v0_5 v0_6 v0_7; rfl
  | succ m ih =>
    intro v0_5 v0_6 v0_7
    rw [law17_SplitTells_g_s0]
    have hs : (fun v0_5 v0_6 v0_7 => loopN (law17_SplitTells_g_cx @law17_alive @split_Count @split_Leaves @ref15_Light @split_Folds @ref17_Folds @split_Last @ref17_Last @split_Of @ref17_Of @ref17_Leaves @split_At @ref11_Same) noY n Tryz.f4 (fun p _ => (argD .bool) p) [1, 1, 1, 1, 1, 1, 0, 1, 0] m (law17_SplitTells_g_e0 x0 x1 v0_5 v0_6 v0_7)) = law17_SplitTells_g_l0 n @law17_alive @split_Count @split_Leaves @ref15_Light @split_Folds @ref17_Folds @split_Last @ref17_Last @split_Of @ref17_Of @ref17_Leaves @split_At @ref11_Same x0 x1 m := by
      funext v0_5 v0_6 v0_7; exact ih v0_5 v0_6 v0_7
    rw [hs]
    rfl
theorem law17_SplitTells_g_r (n : Nat) (law17_alive : law17_alive_T) (split_Count : split_Count_T) (split_Leaves : split_Leaves_T) (ref15_Light : ref15_Light_T) (split_Folds : split_Folds_T) (ref17_Folds : ref17_Folds_T) (split_Last : split_Last_T) (ref17_Last : ref17_Last_T) (split_Of : split_Of_T) (ref17_Of : ref17_Of_T) (ref17_Leaves : ref17_Leaves_T) (split_At : split_At_T) (ref11_Same : ref11_Same_T) (x0 : K.s5.den) (x1 : Int) : run (law17_SplitTells_g_cx @law17_alive @split_Count @split_Leaves @ref15_Light @split_Folds @ref17_Folds @split_Last @ref17_Last @split_Of @ref17_Of @ref17_Leaves @split_At @ref11_Same) noY n Tryz.f4 [.st K.s5 x0, .i .i64 x1] [] (fun p _ => (argD .bool) p) = law17_SplitTells_g_t @law17_alive @split_Count @split_Leaves @ref15_Light @split_Folds @ref17_Folds @split_Last @ref17_Last @split_Of @ref17_Of @ref17_Leaves @split_At @ref11_Same x0 x1 (fun v0_5 v0_6 v0_7 => loopN (law17_SplitTells_g_cx @law17_alive @split_Count @split_Leaves @ref15_Light @split_Folds @ref17_Folds @split_Last @ref17_Last @split_Of @ref17_Of @ref17_Leaves @split_At @ref11_Same) noY n Tryz.f4 (fun p _ => (argD .bool) p) [1, 1, 1, 1, 1, 1, 0, 1, 0] n (law17_SplitTells_g_e0 x0 x1 v0_5 v0_6 v0_7)) := by kernel_rfl
theorem law17_SplitTells_g_run (n : Nat) (law17_alive : law17_alive_T) (split_Count : split_Count_T) (split_Leaves : split_Leaves_T) (ref15_Light : ref15_Light_T) (split_Folds : split_Folds_T) (ref17_Folds : ref17_Folds_T) (split_Last : split_Last_T) (ref17_Last : ref17_Last_T) (split_Of : split_Of_T) (ref17_Of : ref17_Of_T) (ref17_Leaves : ref17_Leaves_T) (split_At : split_At_T) (ref11_Same : ref11_Same_T) (x0 : K.s5.den) (x1 : Int) : run (law17_SplitTells_g_cx @law17_alive @split_Count @split_Leaves @ref15_Light @split_Folds @ref17_Folds @split_Last @ref17_Last @split_Of @ref17_Of @ref17_Leaves @split_At @ref11_Same) noY n Tryz.f4 [.st K.s5 x0, .i .i64 x1] [] (fun p _ => (argD .bool) p) = law17_SplitTells_g_at n @law17_alive @split_Count @split_Leaves @ref15_Light @split_Folds @ref17_Folds @split_Last @ref17_Last @split_Of @ref17_Of @ref17_Leaves @split_At @ref11_Same x0 x1 := by
  rw [law17_SplitTells_g_r]
  have h0' : (fun v0_5 v0_6 v0_7 => loopN (law17_SplitTells_g_cx @law17_alive @split_Count @split_Leaves @ref15_Light @split_Folds @ref17_Folds @split_Last @ref17_Last @split_Of @ref17_Of @ref17_Leaves @split_At @ref11_Same) noY n Tryz.f4 (fun p _ => (argD .bool) p) [1, 1, 1, 1, 1, 1, 0, 1, 0] n (law17_SplitTells_g_e0 x0 x1 v0_5 v0_6 v0_7)) = law17_SplitTells_g_l0 n @law17_alive @split_Count @split_Leaves @ref15_Light @split_Folds @ref17_Folds @split_Last @ref17_Last @split_Of @ref17_Of @ref17_Leaves @split_At @ref11_Same x0 x1 n := by funext v0_5 v0_6 v0_7; exact law17_SplitTells_g_q0 n @law17_alive @split_Count @split_Leaves @ref15_Light @split_Folds @ref17_Folds @split_Last @ref17_Last @split_Of @ref17_Of @ref17_Leaves @split_At @ref11_Same x0 x1 n v0_5 v0_6 v0_7
  rw [h0']
  rfl
def law17_SplitTells_sp (F : law17_SplitTells_T) : Spec := Spec.of [K.s5, (.int .i64)] (fun x => F x.1 x.2.1) (ofDen .bool)
def law17_SplitTells_spec : Spec := law17_SplitTells_sp law17_SplitTells
theorem law17_SplitTells_tabok : TabOK Tryz.prog lay (law17_SplitTells_g_tab @law17_alive @split_Count @split_Leaves @ref15_Light @split_Folds @ref17_Folds @split_Last @ref17_Last @split_Of @ref17_Of @ref17_Leaves @split_At @ref11_Same) := ⟨kds_ok, eqs_ok, (Good.cons law17_alive_ok (Good.cons split_Count_ok (Good.cons split_Leaves_ok (Good.cons ref15_Light_ok (Good.cons split_Folds_ok (Good.cons ref17_Folds_ok (Good.cons split_Last_ok (Good.cons ref17_Last_ok (Good.cons split_Of_ok (Good.cons ref17_Of_ok (Good.cons ref17_Leaves_ok (Good.cons split_At_ok (Good.cons ref11_Same_ok Good.nil))))))))))))), GoodH.nil, GoodR.nil, GoodI.nil⟩
theorem law17_SplitTells_ok : CallOK Tryz.prog lay 4 law17_SplitTells_spec.go :=
  spec_ok (T := law17_SplitTells_g_tab @law17_alive @split_Count @split_Leaves @ref15_Light @split_Folds @ref17_Folds @split_Last @ref17_Last @split_Of @ref17_Of @ref17_Leaves @split_At @ref11_Same) (live := law17_SplitTells_g_live) (o := ⟨[], [], [], []⟩) (fn := Tryz.f4) lay_stays law17_SplitTells_tabok follows ⟨by kernel_rfl, by kernel_rfl, by kernel_rfl⟩ (by kernel_rfl) (fun r => freeP_ofDen (k := .bool) rfl r) (fun _ _ h => argD_eq h) FUEL fun x => law17_SplitTells_g_run FUEL @law17_alive @split_Count @split_Leaves @ref15_Light @split_Folds @ref17_Folds @split_Last @ref17_Last @split_Of @ref17_Of @ref17_Leaves @split_At @ref11_Same x.1 x.2.1
def law17_SplitLast_g_live : Nat → List Nat := fun b => match b with | 0 => [1, 4, 6, 7] | _ => []
def law17_SplitLast_g_tab (law17_alive : law17_alive_T) (ref11_Panels : ref11_Panels_T) (split_Count : split_Count_T) (ref15_Light : ref15_Light_T) (split_At : split_At_T) (ref11_Find : ref11_Find_T) : Tab := ⟨kds, eqs, [(6, law17_alive_sp law17_alive), (8, ref11_Panels_sp ref11_Panels), (9, split_Count_sp split_Count), (11, ref15_Light_sp ref15_Light), (19, split_At_sp split_At), (21, ref11_Find_sp ref11_Find)], [], [], []⟩
def law17_SplitLast_g_cx (law17_alive : law17_alive_T) (ref11_Panels : ref11_Panels_T) (split_Count : split_Count_T) (ref15_Light : ref15_Light_T) (split_At : split_At_T) (ref11_Find : ref11_Find_T) : Cx := (law17_SplitLast_g_tab @law17_alive @ref11_Panels @split_Count @ref15_Light @split_At @ref11_Find).cx law17_SplitLast_g_live ⟨[], [], [], []⟩
def law17_SplitLast_g_e0 (x0 : K.s5.den) (v0_6 : Int) (v0_7 : Int) (v0_4_0 : Int) (v0_4_1 : Int) (v0_4_2 : (List K.s7.den)) : Env :=
  ⟨[.un, .bx 1 0, .un, .un, .bx 4 0, .un, .i .i64 v0_6, .i .i64 v0_7] ++ List.replicate 63 .un, [[], [.s x0.1, .i .i64 x0.2.1, .i .i64 x0.2.2.1.1, .i .i64 x0.2.2.1.2.1, .i .i64 x0.2.2.2.1, .i .i64 x0.2.2.2.2.1, .i .i64 x0.2.2.2.2.2.1, .i .i64 x0.2.2.2.2.2.2.1, .i .i64 x0.2.2.2.2.2.2.2.1, .i .i64 x0.2.2.2.2.2.2.2.2.1, .i .i64 x0.2.2.2.2.2.2.2.2.2.1, .i .i64 x0.2.2.2.2.2.2.2.2.2.2.1, .i .i64 x0.2.2.2.2.2.2.2.2.2.2.2.1.1, .i .i64 x0.2.2.2.2.2.2.2.2.2.2.2.1.2.1, .l K.s7 x0.2.2.2.2.2.2.2.2.2.2.2.1.2.2.1, .l .str x0.2.2.2.2.2.2.2.2.2.2.2.2.1, .i .i64 x0.2.2.2.2.2.2.2.2.2.2.2.2.2.1, .i .i64 x0.2.2.2.2.2.2.2.2.2.2.2.2.2.2.1, .i .i64 x0.2.2.2.2.2.2.2.2.2.2.2.2.2.2.2.1, .i .i64 x0.2.2.2.2.2.2.2.2.2.2.2.2.2.2.2.2.1, .i .i64 x0.2.2.2.2.2.2.2.2.2.2.2.2.2.2.2.2.2.1, .i .i64 x0.2.2.2.2.2.2.2.2.2.2.2.2.2.2.2.2.2.2.1, .i .i64 x0.2.2.2.2.2.2.2.2.2.2.2.2.2.2.2.2.2.2.2.1, .i .i64 x0.2.2.2.2.2.2.2.2.2.2.2.2.2.2.2.2.2.2.2.2.1, .i .i64 x0.2.2.2.2.2.2.2.2.2.2.2.2.2.2.2.2.2.2.2.2.2.1, .i .i64 x0.2.2.2.2.2.2.2.2.2.2.2.2.2.2.2.2.2.2.2.2.2.2.1, .i .i64 x0.2.2.2.2.2.2.2.2.2.2.2.2.2.2.2.2.2.2.2.2.2.2.2.1, .i .i64 x0.2.2.2.2.2.2.2.2.2.2.2.2.2.2.2.2.2.2.2.2.2.2.2.2.1, .i .i64 x0.2.2.2.2.2.2.2.2.2.2.2.2.2.2.2.2.2.2.2.2.2.2.2.2.2.1, .i .i64 x0.2.2.2.2.2.2.2.2.2.2.2.2.2.2.2.2.2.2.2.2.2.2.2.2.2.2.1, .i .i64 x0.2.2.2.2.2.2.2.2.2.2.2.2.2.2.2.2.2.2.2.2.2.2.2.2.2.2.2.1, .i .i64 x0.2.2.2.2.2.2.2.2.2.2.2.2.2.2.2.2.2.2.2.2.2.2.2.2.2.2.2.2.1, .i .i64 x0.2.2.2.2.2.2.2.2.2.2.2.2.2.2.2.2.2.2.2.2.2.2.2.2.2.2.2.2.2.1], [], [], [.i .i64 v0_4_0, .i .i64 v0_4_1, .l K.s7 v0_4_2]] ++ List.replicate 66 [], ([] : Hp)⟩
theorem law17_SplitLast_g_s0 (n : Nat) (m : Nat) (law17_alive : law17_alive_T) (ref11_Panels : ref11_Panels_T) (split_Count : split_Count_T) (ref15_Light : ref15_Light_T) (split_At : split_At_T) (ref11_Find : ref11_Find_T) (x0 : K.s5.den) (v0_6 : Int) (v0_7 : Int) (v0_4_0 : Int) (v0_4_1 : Int) (v0_4_2 : (List K.s7.den)) : loopN (law17_SplitLast_g_cx @law17_alive @ref11_Panels @split_Count @ref15_Light @split_At @ref11_Find) noY n Tryz.f5 (fun p _ => (argD .bool) p) [1, 1, 1, 1, 1, 1, 1, 0, 1, 0] (m + 1) (law17_SplitLast_g_e0 x0 v0_6 v0_7 v0_4_0 v0_4_1 v0_4_2) =
    law17_SplitLast_g_b0 @law17_alive @ref11_Panels @split_Count @ref15_Light @split_At @ref11_Find x0 (fun v0_6 v0_7 v0_4_0 v0_4_1 v0_4_2 => loopN (law17_SplitLast_g_cx @law17_alive @ref11_Panels @split_Count @ref15_Light @split_At @ref11_Find) noY n Tryz.f5 (fun p _ => (argD .bool) p) [1, 1, 1, 1, 1, 1, 1, 0, 1, 0] m (law17_SplitLast_g_e0 x0 v0_6 v0_7 v0_4_0 v0_4_1 v0_4_2)) v0_6 v0_7 v0_4_0 v0_4_1 v0_4_2 := by kernel_rfl
theorem law17_SplitLast_g_q0 (n : Nat) (law17_alive : law17_alive_T) (ref11_Panels : ref11_Panels_T) (split_Count : split_Count_T) (ref15_Light : ref15_Light_T) (split_At : split_At_T) (ref11_Find : ref11_Find_T) (x0 : K.s5.den) (m : Nat) : ∀ (v0_6 : Int) (v0_7 : Int) (v0_4_0 : Int) (v0_4_1 : Int) (v0_4_2 : (List K.s7.den)), loopN (law17_SplitLast_g_cx @law17_alive @ref11_Panels @split_Count @ref15_Light @split_At @ref11_Find) noY n Tryz.f5 (fun p _ => (argD .bool) p) [1, 1, 1, 1, 1, 1, 1, 0, 1, 0] m (law17_SplitLast_g_e0 x0 v0_6 v0_7 v0_4_0 v0_4_1 v0_4_2) = law17_SplitLast_g_l0 n @law17_alive @ref11_Panels @split_Count @ref15_Light @split_At @ref11_Find x0 m v0_6 v0_7 v0_4_0 v0_4_1 v0_4_2 := by
  induction m with
  | zero => intro v0_6 v0_7 v0_4_0 v0_4_1 v0_4_2; rfl
  | succ m ih =>
    intro v0_6 v0_7 v0_4_0 v0_4_1 v0_4_2
    rw [law17_SplitLast_g_s0]
    have hs : (fun v0_6 v0_7 v0_4_0 v0_4_1 v0_4_2 => loopN (law17_SplitLast_g_cx @law17_alive @ref11_Panels @split_Count @ref15_Light @split_At @ref11_Find) noY n Tryz.f5 (fun p _ => (argD .bool) p) [1, 1, 1, 1, 1, 1, 1, 0, 1, 0] m (law17_SplitLast_g_e0 x0 v0_6 v0_7 v0_4_0 v0_4_1 v0_4_2)) = law17_SplitLast_g_l0 n @law17_alive @ref11_Panels @split_Count @ref15_Light @split_At @ref11_Find x0 m := by
      funext v0_6 v0_7 v0_4_0 v0_4_1 v0_4_2; exact ih v0_6 v0_7 v0_4_0 v0_4_1 v0_4_2
    rw [hs]
    rfl
theorem law17_SplitLast_g_r (n : Nat) (law17_alive : law17_alive_T) (ref11_Panels : ref11_Panels_T) (split_Count : split_Count_T) (ref15_Light : ref15_Light_T) (split_At : split_At_T) (ref11_Find : ref11_Find_T) (x0 : K.s5.den) : run (law17_SplitLast_g_cx @law17_alive @ref11_Panels @split_Count @ref15_Light @split_At @ref11_Find) noY n Tryz.f5 [.st K.s5 x0] [] (fun p _ => (argD .bool) p) = law17_SplitLast_g_t @law17_alive @ref11_Panels @split_Count @ref15_Light @split_At @ref11_Find x0 (fun v0_6 v0_7 v0_4_0 v0_4_1 v0_4_2 => loopN (law17_SplitLast_g_cx @law17_alive @ref11_Panels @split_Count @ref15_Light @split_At @ref11_Find) noY n Tryz.f5 (fun p _ => (argD .bool) p) [1, 1, 1, 1, 1, 1, 1, 0, 1, 0] n (law17_SplitLast_g_e0 x0 v0_6 v0_7 v0_4_0 v0_4_1 v0_4_2)) := by kernel_rfl
theorem law17_SplitLast_g_run (n : Nat) (law17_alive : law17_alive_T) (ref11_Panels : ref11_Panels_T) (split_Count : split_Count_T) (ref15_Light : ref15_Light_T) (split_At : split_At_T) (ref11_Find : ref11_Find_T) (x0 : K.s5.den) : run (law17_SplitLast_g_cx @law17_alive @ref11_Panels @split_Count @ref15_Light @split_At @ref11_Find) noY n Tryz.f5 [.st K.s5 x0] [] (fun p _ => (argD .bool) p) = law17_SplitLast_g_at n @law17_alive @ref11_Panels @split_Count @ref15_Light @split_At @ref11_Find x0 := by
  rw [law17_SplitLast_g_r]
  have h0' : (fun v0_6 v0_7 v0_4_0 v0_4_1 v0_4_2 => loopN (law17_SplitLast_g_cx @law17_alive @ref11_Panels @split_Count @ref15_Light @split_At @ref11_Find) noY n Tryz.f5 (fun p _ => (argD .bool) p) [1, 1, 1, 1, 1, 1, 1, 0, 1, 0] n (law17_SplitLast_g_e0 x0 v0_6 v0_7 v0_4_0 v0_4_1 v0_4_2)) = law17_SplitLast_g_l0 n @law17_alive @ref11_Panels @split_Count @ref15_Light @split_At @ref11_Find x0 n := by funext v0_6 v0_7 v0_4_0 v0_4_1 v0_4_2; exact law17_SplitLast_g_q0 n @law17_alive @ref11_Panels @split_Count @ref15_Light @split_At @ref11_Find x0 n v0_6 v0_7 v0_4_0 v0_4_1 v0_4_2
  rw [h0']
  rfl
def law17_SplitLast_sp (F : law17_SplitLast_T) : Spec := Spec.of [K.s5] (fun x => F x.1) (ofDen .bool)
def law17_SplitLast_spec : Spec := law17_SplitLast_sp law17_SplitLast
theorem law17_SplitLast_tabok : TabOK Tryz.prog lay (law17_SplitLast_g_tab @law17_alive @ref11_Panels @split_Count @ref15_Light @split_At @ref11_Find) := ⟨kds_ok, eqs_ok, (Good.cons law17_alive_ok (Good.cons ref11_Panels_ok (Good.cons split_Count_ok (Good.cons ref15_Light_ok (Good.cons split_At_ok (Good.cons ref11_Find_ok Good.nil)))))), GoodH.nil, GoodR.nil, GoodI.nil⟩
theorem law17_SplitLast_ok : CallOK Tryz.prog lay 5 law17_SplitLast_spec.go :=
  spec_ok (T := law17_SplitLast_g_tab @law17_alive @ref11_Panels @split_Count @ref15_Light @split_At @ref11_Find) (live := law17_SplitLast_g_live) (o := ⟨[], [], [], []⟩) (fn := Tryz.f5) lay_stays law17_SplitLast_tabok follows ⟨by kernel_rfl, by kernel_rfl, by kernel_rfl⟩ (by kernel_rfl) (fun r => freeP_ofDen (k := .bool) rfl r) (fun _ _ h => argD_eq h) FUEL fun x => law17_SplitLast_g_run FUEL @law17_alive @ref11_Panels @split_Count @ref15_Light @split_At @ref11_Find x.1
end Go.Pv.X
