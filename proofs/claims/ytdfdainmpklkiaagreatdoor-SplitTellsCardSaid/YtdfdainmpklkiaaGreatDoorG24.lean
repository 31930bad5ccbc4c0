/- Whole functions: what the evaluator comes to is what a call comes to. -/
import Derived.Test.YtdfdainmpklkiaaGreatDoorG23
set_option linter.unusedVariables false
set_option linter.unusedSimpArgs false
namespace Go.Pv
open Go.RowKit
section
variable {P : Program} {c : Cx} {M : Mem} {e : Env} {a : Act} {w : World} {ρ : Type} {r : ρ} {Y : Yd ρ}
/-- How a body ends. -/
def BodyEnds (b : Bool) (M : Mem) (w : World) {ρ : Type} (fin : PV → Hp → Option ρ) (r : ρ) : Ending → World → Prop
  | .returned v, w' => ∃ p M' e' a', M.Le M' ∧ St M' e' a' w' ∧ Bel M w w' ∧ DoneR M' e' a' w' p v ∧ fin p e'.h = some r ∧ (b = true → Ext w w')
  | _, _ => False
theorem leaves_marks (hc : ∀ t k, c.kd t = some k → Fits P k t) {b : Bool} {M0 : Mem} {w0 : World} (hb0 : M0.base = w0.heap.size) {fn : Func} {fin : PV → Hp → Option ρ} {p : PV} : ∀ (ds : List Nat) {M : Mem} {a : Act} {w : World}, M.dfs = ds → M0.Le M → Bel M0 w0 w → (b = true → Ext w0 w) → St M e a w → doneK c fn e = some p → fin p e.h = some r →
    LeavesInM (FW none) 0 P fn a.tmps (BodyEnds b M0 w0 fin r) a.defers .returning w
  | [], M, a, w, hd, hM, hb, hx, h, hk, hf => by
    have h1 := h.df.1
    rw [hd] at h1
    rw [h1]
    obtain ⟨G', e1, v, d1, d1', d2, dh, d3, d4⟩ := doneK_spec hc h hk
    exact ⟨v, d3, p, { M with G := G' }, e1, a, ⟨hM.1, hM.2.trans d1⟩, d2, hb, d4, by rw [dh]; exact hf, hx⟩
  | D :: ds, M, a, w, hd, hM, hb, hx, h, hk, hf => by
    have h1 := h.df.1
    rw [hd] at h1
    rw [h1]
    obtain ⟨hu, hbu⟩ := h.unmark hd
    refine ⟨(fun hh => by cases hh), .inl ⟨D, _, rfl, run_takeDeferred (h.df.2 D (by rw [hd]; exact List.mem_cons_self ..)), ?_⟩⟩
    exact leaves_marks hc hb0 ds (M := { M with dfs := ds }) (a := { a with defers := ds.map Pv.mark }) rfl ⟨hM.1, hM.2⟩ (hb.trans (Bel.key hM.1 hbu)) (fun hh g hg => by
      have hD : M.base ≤ D := h.nd.2 D (by rw [hd]; exact List.mem_cons_self ..)
      rw [show M.base = M0.base from congrArg Prod.fst hM.1, hb0] at hD
      rw [World.putObj_heap_other (by omega)]
      exact hx hh g hg) hu hk hf
theorem body_calls {f : FuncId} {fn : Func} {L J : World → Prop} {G0 : Com} (hc : CxOK P L c) (hY : YieldOK P L J G0 Y r) (hm : P.follows .mixedOrders = true) (hf : P.funcs[f]? = some fn) (hb : fn.body.isSome = true)
    {h : Hp} {args : List PV} {vs : Array Value} {fin : PV → Hp → Option ρ} {n : Nat} (hG0 : G0.le M.G) (hs : HS M h w) (hdf : M.dfs = []) (ha : ArgsH M h w args vs.toList) (hJ : LW J M w) (hL : LW L M w)
    (hbs : M.base = w.heap.size) (hrun : run c Y n fn args h fin = some r) : Calls P f vs w (BodyEnds (calmC c (Func.code fn)) M w fin r) := by
  obtain ⟨cd, hcd⟩ := Option.isSome_iff_exists.1 hb
  have hcode : Func.code fn = cd := by unfold Func.code; rw [hcd]; rfl
  have hl : args.length = vs.size := by have := ha.len; simpa using this.symm
  unfold run at hrun
  rw [hcode] at hrun ⊢
  refine callsIn_wide.1 (callsIn_of_wp_marks (F := FW none) (n := 0) hf hcd trivial ?_ : CallsIn Fence.wide 0 P f vs w _)
  have hst := St.start (w := w) (fn.ntmps - args.length) hs hdf ha
  rw [hl] at hst hrun
  obtain ⟨w0, hw0⟩ : ∃ w0, w0 = w := ⟨w, rfl⟩
  have key : cd.wpIn (FW none) 0 P (fun x a w => (∀ ch, x ≠ .panic ch) ∧ bodyPostM (FW none) 0 P fn (BodyEnds (calmC c cd) M w0 fin r) x a w) { tmps := vs ++ Array.replicate (fn.ntmps - vs.size) undef, defers := [] } w := by
    refine code_wp hc hY hm cd 0 none (.inl rfl) hG0 hJ hst hL hrun (fun x M' e' a' w' q1 q2 q3 qx q4 => ⟨fun ch hh => (by cases x <;> cases hh), ?_⟩) (fun ch a w hh => hh.1 ch rfl)
    have hdone : (doneK c fn e').bind (fun p => fin p e'.h) = some r → LeavesInM (FW none) 0 P fn a'.tmps (BodyEnds (calmC c cd) M w0 fin r) a'.defers .returning w' := fun hd => by
      obtain ⟨p, hd, hfin⟩ := Option.bind_eq_some_iff.1 hd
      exact leaves_marks hc.kd (by rw [hw0]; exact hbs) M'.dfs rfl q1 (by rw [hw0]; exact q3) (by rw [hw0]; exact qx) q2 hd hfin
    cases x with
    | normal => exact hdone ((doneC_eq _ _ _).symm.trans q4)
    | ret => exact hdone ((doneC_eq _ _ _).symm.trans q4)
    | exit i => cases q4
  rw [hw0] at key
  exact wpIn_mono key fun x a w hh => hh.2
/-! ### Functions that turn the heap -/
theorem DoneR.resH {p : PV} {v : Value} (h : St M e a w) (hd : DoneR M e a w p v) : ResH { M with dfs := [] } e.h w p v := by
  have plain : ∀ {p : PV}, okArg p = true → PR M w e.at_ (pv M a w) (.t 0) p v → ArgH { M with dfs := [] } e.h w p v := fun {p} ho hp => by
    refine ⟨ho, ?_⟩
    cases p with
    | r m => cases m with
      | t n => cases ho
      | b d o => cases d with
        | s d => cases ho
        | h i => exact hp
    | _ => first | exact hp | cases ho
  cases p with
  | o m k xs =>
    obtain ⟨n, h1, h2⟩ := hd
    refine ⟨n, h1, fun g hg hl => h2 g hg ?_⟩
    rcases hl with ⟨n', z1, z2⟩ | ⟨d, z1, z2⟩
    · cases n' with
      | t n' => cases z1
      | b d o => cases d with
        | s d => cases z1
        | h i => exact .inl ⟨.b (.h i) o, z1, z2⟩
    · cases d with
      | s d => exact absurd rfl z1
      | h i => exact .inr ⟨.h i, z1, z2⟩
  | tup ps => exact hd
  | _ => exact plain hd.1 hd.2
theorem noY_ok {L J : World → Prop} {G0 : Com} : YieldOK P L J G0 (fun _ _ _ => none : Yd ρ) r := fun _ _ _ h => by cases h
theorem fn_okH {f : FuncId} {fn : Func} {F : {ρ : Type} → List PV → Hp → (PV → Hp → Option ρ) → Option ρ} {L : World → Prop} (hc : CxOK P L c) (hm : P.follows .mixedOrders = true) (hf : P.funcs[f]? = some fn) (hn : (fn.name == "runtime.NumGoroutine") = false) (hb : fn.body.isSome = true)
    (hF : ∀ (ρ : Type) args h (K : PV → Hp → Option ρ) r, F args h K = some r → ∃ (σ : Type) (fin : PV → Hp → Option σ) (s : σ) (n : Nat), run c (fun _ _ _ => none) n fn args h fin = some s ∧ ∀ p h', fin p h' = some s → K p h' = some r) : CallH P L f F := by
  intro ρ args h K r hr
  obtain ⟨σ, fin, s, n, h2, h3⟩ := hF ρ args h K r hr
  refine ⟨⟨fn, hf, hn, hb⟩, fun M w vs hB hargs => ?_⟩
  refine Calls.mono (body_calls (J := fun _ => True) (G0 := M.G) hc noY_ok hm hf hb (Com.le.refl _) hB.hs hB.df hargs (fun _ _ => trivial) hB.lw hB.base h2) fun en w' hen => ?_
  cases en with
  | panicked ch => exact hen.elim
  | outgrown => exact hen.elim
  | returned v =>
    obtain ⟨q, M', e', a', d1, d2, d3, d4, d5, _⟩ := hen
    exact ⟨q, e'.h, { M' with dfs := [] }, h3 _ _ d5, d1, d2.heap M'.G.yl, d3, DoneR.resH d2 d4⟩
/-- A function that reads the heap, and leaves it. -/
theorem fn_okR {f : FuncId} {fn : Func} {F : {ρ : Type} → List PV → Hp → (PV → Option ρ) → Option ρ} {L : World → Prop} (hc : CxOK P L c) (hm : P.follows .mixedOrders = true) (hf : P.funcs[f]? = some fn) (hn : (fn.name == "runtime.NumGoroutine") = false) (hb : fn.body.isSome = true) (hcalm : calmC c (Func.code fn) = true)
    (hF : ∀ (ρ : Type) args h (K : PV → Option ρ) r, F args h K = some r → ∃ (σ : Type) (fin : PV → Hp → Option σ) (s : σ) (n : Nat), run c (fun _ _ _ => none) n fn args h fin = some s ∧ ∀ p h', fin p h' = some s → K p = some r ∧ isO p = false ∧ h' = h) : CallR P L f F := by
  intro ρ args h K r hr
  obtain ⟨σ, fin, s, n, h2, h3⟩ := hF ρ args h K r hr
  refine ⟨⟨fn, hf, hn, hb⟩, fun M w vs hB hargs => ?_⟩
  refine Calls.mono (body_calls (J := fun _ => True) (G0 := M.G) hc noY_ok hm hf hb (Com.le.refl _) hB.hs hB.df hargs (fun _ _ => trivial) hB.lw hB.base h2) fun en w' hen => ?_
  cases en with
  | panicked ch => exact hen.elim
  | outgrown => exact hen.elim
  | returned v =>
    obtain ⟨q, M', e', a', d1, d2, d3, d4, d5, d6⟩ := hen
    obtain ⟨e1, e2, e3⟩ := h3 _ _ d5
    refine ⟨q, { M' with dfs := [] }, e1, e2, d1, ?_, d3, d6 hcalm, ?_⟩
    · rw [← e3]; exact d2.heap M'.G.yl
    · rw [← e3]; exact DoneR.resH d2 d4
/-- A function that a loop goes over. -/
theorem fn_okI {f : FuncId} {fn : Func} {I : {ρ : Type} → List PV → Hp → Yd ρ → (Hp → Option ρ) → Option ρ} {L : World → Prop} (hc : CxOK P L c) (hm : P.follows .mixedOrders = true) (hf : P.funcs[f]? = some fn) (hn : (fn.name == "runtime.NumGoroutine") = false) (hb : fn.body.isSome = true)
    (hI : ∀ (ρ : Type) args h (Y : Yd ρ) fin r, I args h Y fin = some r → ∃ n, run c Y n fn (.yl :: args) h (fun _ h => fin h) = some r) : IterOK P L f I := by
  intro ρ args h Y fin r hr
  obtain ⟨n, hn'⟩ := hI ρ args h Y fin r hr
  refine ⟨⟨fn, hf, hn, hb⟩, fun M w vs J hB hargs hJ hY => ?_⟩
  refine Calls.mono (body_calls (G0 := M.G) hc hY hm hf hb (Com.le.refl _) hB.hs hB.df ?_ hJ hB.lw hB.base hn') fun en w' hen => ?_
  · rw [Array.toList_append]
    refine ⟨⟨rfl, ?_⟩, hargs⟩
    show CR M.G w .yl _
    rw [CR]
  cases en with
  | panicked ch => exact hen.elim
  | outgrown => exact hen.elim
  | returned v =>
    obtain ⟨q, M', e', a', d1, d2, d3, d4, d5, _⟩ := hen
    exact ⟨{ M' with dfs := [] }, e'.h, d5, d1, d2.heap M'.G.yl, d3⟩
/-! ### Functions of plain values -/
def Kd.free : Kd → Bool
  | .ptr => false
  | .list e => e.free
  | .pair a b => a.free && b.free
  | _ => true
def free0 : PV → Bool
  | .i _ _ => true
  | .b _ => true
  | .s _ => true
  | .l k _ => k.free
  | .st k _ => k.free
  | .nil => true
  | .e _ => true
  | .nilf => true
  | .fn _ => true
  | .at_ k _ => k.free
  | _ => false
def free1 : PV → Bool
  | .ac ps _ => ps.all free0
  | p => free0 p
def freeP : PV → Bool
  | .i _ _ => true
  | .b _ => true
  | .s _ => true
  | .l k _ => k.free
  | .st k _ => k.free
  | .o _ k _ => k.free
  | .nil => true
  | .e _ => true
  | .nilf => true
  | .fn _ => true
  | .at_ k _ => k.free
  | .ac ps _ => ps.all free0
  | .clo _ cs => cs.all free1
  | .tup ps => ps.all fun q => q.1.free
  | _ => false
theorem Rep.free {G G' : Com} (hG : ∀ g o, G g o → G' g o) : ∀ {k : Kd} {x : k.den} {cs : List Value}, k.free = true → Rep G w k x cs → Rep G' w k x cs
  | .int _, _, _, _, h => h
  | .bool, _, _, _, h => h
  | .str, _, _, _, h => h
  | .unit, _, _, _, h => h
  | .pair a b, x, cs, hk, h => by
    rw [Kd.free, Bool.and_eq_true] at hk
    obtain ⟨c1, c2, h0, h1, h2⟩ := h
    exact ⟨c1, c2, h0, Rep.free hG hk.1 h1, Rep.free hG hk.2 h2⟩
  | .ptr, _, _, hk, h => by cases hk
  | .fn, _, _, _, h => h
  | .err, _, _, _, h => h
  | .list e, xs, cs, hk, h => by
    obtain ⟨A, c, h0, h1, h2⟩ := h
    refine ⟨A, c, h0, h1, fun hne => ?_⟩
    obtain ⟨g, o, h3, h4⟩ := h2 hne
    refine ⟨g, o, h3, fun i hi => ?_⟩
    obtain ⟨ds, h5, h6⟩ := h4 i hi
    exact ⟨ds, fun j hj => ⟨hG _ _ (h5 j hj).1, (h5 j hj).2⟩, Rep.free hG hk h6⟩
theorem RepV.free {G G' : Com} (hG : ∀ g o, G g o → G' g o) {k : Kd} {x : k.den} {v : Value} (hk : k.free = true) (h : RepV G w k x v) : RepV G' w k x v := by
  obtain ⟨cs, h1, h2⟩ := h
  exact ⟨cs, h1.free hG hk, h2⟩
theorem Elems.free {G G' : Com} (hG : ∀ g o, G g o → G' g o) {k : Kd} (hk : k.free = true) : ∀ {xs : List k.den} {cs : List (List Value)}, Elems G w k xs cs → Elems G' w k xs cs
  | [], [], _ => trivial
  | _ :: _, _ :: _, h => ⟨h.1.free hG hk, Elems.free hG hk h.2⟩
theorem CR.free0 {G G' : Com} (hG : ∀ g o, G g o → G' g o) {p : PV} {v : Value} (hp : Pv.free0 p = true) (h : CR G w p v) : CR G' w p v := by
  cases p with
  | l e xs => rw [CR] at h ⊢; exact RepV.free (k := .list e) hG hp h
  | st k x => rw [CR] at h ⊢; exact h.free hG hp
  | e x => rw [CR] at h ⊢; exact RepV.free hG rfl h
  | at_ k x => rw [CR] at h ⊢; obtain ⟨g, o, cs, hv, h1, h2⟩ := h; exact ⟨g, o, cs, hv, fun j hj => ⟨hG _ _ (h1 j hj).1, (h1 j hj).2⟩, h2.free hG hp⟩
  | _ => first | (cases hp; done) | (simp [CR] at h; done) | (rw [CR] at h ⊢; exact h)
theorem CRs.of_all {G G' : Com} {f : PV → Bool} (hf : ∀ {p : PV} {v : Value}, f p = true → CR G w p v → CR G' w p v) : ∀ {ps : List PV} {vs : List Value}, ps.all f = true → CRs G w ps vs → CRs G' w ps vs
  | [], [], _, _ => by rw [CRs]; trivial
  | p :: ps, v :: vs, hp, h => by
    rw [CRs] at h ⊢
    rw [List.all_cons, Bool.and_eq_true] at hp
    exact ⟨hf hp.1 h.1, CRs.of_all hf hp.2 h.2⟩
  | [], _ :: _, _, h => by simp [CRs] at h
  | _ :: _, [], _, h => by simp [CRs] at h
theorem CR.free_ac {G G' : Com} (hG : ∀ g o, G g o → G' g o) {ps : List PV} {off : Nat} {v : Value} (hp : ps.all Pv.free0 = true) (h : CR G w (.ac ps off) v) : CR G' w (.ac ps off) v := by
  rw [CR] at h ⊢
  obtain ⟨g, vs, hv, h1, h2⟩ := h
  exact ⟨g, vs, hv, fun j hj => ⟨hG _ _ (h1 j hj).1, (h1 j hj).2⟩, CRs.of_all (fun hp h => CR.free0 hG hp h) hp h2⟩
theorem CR.free1 {G G' : Com} (hG : ∀ g o, G g o → G' g o) {p : PV} {v : Value} (hp : Pv.free1 p = true) (h : CR G w p v) : CR G' w p v := by
  cases p with
  | ac ps off => exact CR.free_ac hG hp h
  | _ => exact CR.free0 hG hp h
theorem CR.free {G G' : Com} (hG : ∀ g o, G g o → G' g o) {p : PV} {v : Value} (hp : freeP p = true) (h : CR G w p v) : CR G' w p v := by
  cases p with
  | l e xs => rw [CR] at h ⊢; exact RepV.free (k := .list e) hG hp h
  | st k x => rw [CR] at h ⊢; exact h.free hG hp
  | e x => rw [CR] at h ⊢; exact RepV.free hG rfl h
  | at_ k x => rw [CR] at h ⊢; obtain ⟨g, o, cs, hv, h1, h2⟩ := h; exact ⟨g, o, cs, hv, fun j hj => ⟨hG _ _ (h1 j hj).1, (h1 j hj).2⟩, h2.free hG hp⟩
  | ac ps off => exact CR.free_ac hG hp h
  | clo f cs =>
    rw [CR] at h ⊢
    obtain ⟨vs, hv, h1⟩ := h
    exact ⟨vs, hv, CRs.of_all (fun hp h => CR.free1 hG hp h) hp h1⟩
  | _ => first | (cases hp; done) | (simp [CR] at h; done) | (rw [CR] at h ⊢; exact h)
theorem CRs.free {G G' : Com} (hG : ∀ g o, G g o → G' g o) : ∀ {ps : List PV} {vs : List Value}, ps.all freeP = true → CRs G w ps vs → CRs G' w ps vs
  | [], [], _, _ => by rw [CRs]; trivial
  | p :: ps, v :: vs, hp, h => by
    rw [CRs] at h ⊢
    rw [List.all_cons, Bool.and_eq_true] at hp
    exact ⟨CR.free hG hp.1 h.1, CRs.free hG hp.2 h.2⟩
  | [], _ :: _, _, h => by simp [CRs] at h
  | _ :: _, [], _, h => by simp [CRs] at h
theorem free_okC {G : Com} {p : PV} {v : Value} (hp : freeP p = true) (h : CR G w p v) : okC p = true := by
  cases p <;> first | rfl | (cases hp; done) | (simp [CR] at h)
theorem free_okCs {G : Com} : ∀ {ps : List PV} {vs : List Value}, ps.all freeP = true → CRs G w ps vs → ∀ p ∈ ps, okC p = true
  | [], _, _, _, p, hp => by cases hp
  | q :: ps, v :: vs, hf, h, p, hp => by
    rw [CRs] at h
    rw [List.all_cons, Bool.and_eq_true] at hf
    rcases List.mem_cons.1 hp with rfl | hp
    · exact free_okC hf.1 h.1
    · exact free_okCs hf.2 h.2 p hp
  | _ :: _, [], _, h, _, _ => by simp [CRs] at h
theorem Bel.below {w' : World} (h : Bel M w w') (hO : ∀ g, ¬ M.O0 g) (hb : M.base = w.heap.size) : Below w.heap.size w w' :=
  ⟨h.os, h.tape, h.output, h.size, fun k hk => h.block k (by omega) (hO k)⟩
theorem fn_ok {f : FuncId} {fn : Func} {F : {ρ : Type} → List PV → (PV → Option ρ) → Option ρ} {L : World → Prop} (hLs : Stays L) (hc : CxOK P L c) (hm : P.follows .mixedOrders = true) (hf : P.funcs[f]? = some fn) (hn : (fn.name == "runtime.NumGoroutine") = false) (hb : fn.body.isSome = true)
    (hF : ∀ (ρ : Type) args (K : PV → Option ρ) r, F args K = some r → args.all freeP = true ∧ ∃ (σ : Type) (fin : PV → Option σ) (s : σ) (n : Nat), run c (fun _ _ _ => none) n fn args [] (fun p _ => fin p) = some s ∧ ∀ q, fin q = some s → K q = some r ∧ freeP q = true) : CallOK P L f F := by
  intro ρ args K r hr
  obtain ⟨hfa, σ, fin, s, n, h2, h3⟩ := hF ρ args K r hr
  refine ⟨⟨fn, hf, hn, hb⟩, fun G w vs hLw hG hargs => ?_⟩
  let G0 : Com := { G with n := 0 }
  let M : Mem := ⟨w.heap.size, G0, G0, fun _ => 0, fun _ => none, fun _ => False, []⟩
  have hO : ∀ g, ¬ M.O0 g := fun _ h => h
  have hs : HS M [] w := {
    sz := rfl
    bz := rfl
    df := ⟨rfl, fun D hD => by cases hD⟩
    nd := ⟨List.nodup_nil, fun D hD => by cases hD⟩
    lo := Nat.le_refl _
    cb := hG
    fr := fun g o hg => .inl hg
    pr := fun n => by
      cases n with
      | t n => trivial
      | b d o => cases d <;> trivial
    bk := fun d hd => by cases d <;> exact absurd rfl hd
    lk := fun i n hi => by cases hi
    ha := ⟨rfl, fun i hi => absurd hi (Nat.not_lt_zero i)⟩
    hk := fun i o => rfl }
  have hL : LW L M w := fun w' hb => hLs w hLw w w' hLw (hb.below hO rfl)
  have ha : ArgsH M [] w args vs.toList := ArgsH.of_CRs (free_okCs hfa hargs) (CRs.free (G := G) (G' := G0) (fun _ _ h => h) hfa hargs)
  refine Calls.mono (body_calls (J := fun _ => True) (G0 := M.G) hc noY_ok hm hf hb (Com.le.refl _) hs rfl ha (fun _ _ => trivial) hL rfl h2) fun en w' hen => ?_
  cases en with
  | panicked ch => exact hen.elim
  | outgrown => exact hen.elim
  | returned v =>
    obtain ⟨q, M', e', a', d1, d2, d3, d4, d5, _⟩ := hen
    obtain ⟨hKq, hfp⟩ := h3 q d5
    have hbase : M'.base = w.heap.size := congrArg Prod.fst d1.1
    have hO' : M'.O0 = fun _ => False := congrArg (fun x => x.2.2) d1.1
    have hG0 : M'.G0 = G0 := congrArg (fun x => x.2.1) d1.1
    have hmine : ∀ g, M'.Mine g → w.heap.size ≤ g := fun g hg => hg.elim (fun hh => by rw [hO'] at hh; exact hh.elim) (fun hh => by rw [hbase] at hh; exact hh)
    let G2 : Com := { G with c := M'.G.c }
    have hfree : ∀ g o, M'.G g o → G2 g o := fun _ _ h => h
    refine ⟨q, G2, hKq, ⟨d1.2.c, Nat.le_refl _, fun _ _ => rfl, fun _ _ => rfl, rfl⟩, rfl, fun g o hg => ?_, d3.below hO rfl, ?_⟩
    · rcases d2.fr g o hg with hh | hh
      · left; rw [hG0] at hh; exact hh
      · right; exact ⟨hmine g hh, d2.cb g o hg⟩
    · cases q with
      | o m k xs =>
        obtain ⟨n, ⟨u, css, q1, q2, q3⟩, _⟩ := d4
        refine ⟨u, css, q1.free hfree hfp, ⟨q2.1, q2.2.imp id ?_⟩, fun g hg => (q3 g hg).2⟩
        rintro ⟨g, cap, cur, r1, r2, r3⟩
        exact ⟨g, cap, cur, r1, hmine g (q3 g (by rw [r1]; rfl)).1.2, r3⟩
      | tup ps =>
        obtain ⟨vs', hv, hr'⟩ := d4
        refine ⟨vs', hv, fun j z hz => ?_⟩
        obtain ⟨u, hu, hru⟩ := hr' j z hz
        exact ⟨u, hu, hru.free hfree (List.all_eq_true.1 hfp z (List.mem_of_getElem? hz))⟩
      | _ => first
        | (cases hfp; done)
        | exact CR.free hfree hfp (show CR M'.G w' _ v from by first | exact d4.2 | (rw [CR]; exact d4.2))
/-- Of a function that is not told nothing is asked. -/
theorem none_ok (L : World → Prop) (f : FuncId) : CallOK P L f fun _ _ => none := fun _ _ _ _ h => by cases h
theorem none_okH (L : World → Prop) (f : FuncId) : CallH P L f fun _ _ _ => none := fun _ _ _ _ _ h => by cases h
theorem none_okR (L : World → Prop) (f : FuncId) : CallR P L f fun _ _ _ => none := fun _ _ _ _ _ h => by cases h
theorem none_okI (L : World → Prop) (f : FuncId) : IterOK P L f fun _ _ _ _ => none := fun _ _ _ _ _ _ h => by cases h
end
end Go.Pv
