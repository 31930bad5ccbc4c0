/- Regions, in every order. -/
import Derived.Test.YtdfdainmpklkiaaGreatDoorG16f
import Derived.OrdersHeld
import Derived.OrdersIn
set_option linter.unusedVariables false
set_option linter.unusedSimpArgs false
namespace Go.Pv
open Go.RowKit
section
variable {P : Program} {c : Cx} {M : Mem} {e : Env} {a : Act} {w : World} {o : Oper} {ρ : Type} {K : Kt ρ} {r : ρ} {ops : Array Oper} {Q : Exit → Act → World → Prop} {Y : Yd ρ} {ro : Option Nat}
theorem Env.setT_self {e : Env} {d : Nat} {p : PV} (h : e.slot d = p) : e.setT d p = e := by
  unfold Env.setT
  have : e.t.set d p = e.t := by
    by_cases hd : d < e.t.length
    · have : e.t[d] = p := by rw [← h]; unfold Env.slot; rw [List.getD_eq_getElem?_getD, List.getElem?_eq_getElem hd]; rfl
      rw [← this]; exact List.set_getElem_self hd
    · exact List.set_eq_of_length_le (Nat.le_of_not_lt hd)
  rw [this]
theorem yielded_of (h : St M e a w) {j d : Nat} (hd : (ops[j]?).bind (·.dst) = some d) {x : Bool} (hx : e.slot d = .b x) : yielded ops a.tmps j = some x := by
  have hv : a.tmps.getD d undef = .bool x := by have := h.pr (.t d); rw [show e.at_ (.t d) = .b x from hx] at this; exact this
  have hlt : d < a.tmps.size := Nat.lt_of_not_le fun hle => by
    rw [h.sz] at hle
    have : e.slot d = .un := by unfold Env.slot; rw [List.getD_eq_getElem?_getD, List.getElem?_eq_none hle]; rfl
    rw [this] at hx; cases hx
  unfold yielded
  rw [hd]
  rw [Array.getD_eq_getD_getElem?, Array.getElem?_eq_getElem hlt] at hv
  simp only [Option.getD_some] at hv
  simp [Array.getElem?_eq_getElem hlt, hv]
theorem putD_tup (h : St M e a w) (d : Option Nat) : St M (e.putD d (.tup [])) (a.put d undef) w := h.putD d (n0 := .t 0) rfl ⟨#[], rfl, fun j q hj => by simp at hj⟩
/-- A guard: the operation is done, or is not wanted. -/
theorem guard_cases (h : St M e a w) {f : Env → Kt ρ → Option ρ} (hk : guardK ops o f e K = some r) :
    (Region.wanted o (yielded ops a.tmps) = true ∧ f e K = some r) ∨ (Region.wanted o (yielded ops a.tmps) = false ∧ K (e.putD o.dst (.tup [])) = some r) := by
  unfold guardK at hk
  split at hk
  · rename_i hg
    left
    exact ⟨by unfold Region.wanted; rw [hg], hk⟩
  · rename_i j want hg
    split at hk
    · rename_i d hd
      split at hk
      · rename_i x hx
        have hy := yielded_of h hd hx
        have hw : Region.wanted o (yielded ops a.tmps) = (x == want) := by unfold Region.wanted; rw [hg]; simp [hy]
        rw [hw]
        cases x <;> cases want <;> simp only [cond_true, cond_false, if_true, if_false, Bool.false_eq_true] at hk <;> rw [Env.setT_self hx] at hk <;> simp [hk]
      · rename_i ps hx
        right
        refine ⟨?_, hk⟩
        have hv := h.pr (.t d)
        rw [show e.at_ (.t d) = .tup ps from hx] at hv
        obtain ⟨vs, hv, _⟩ := hv
        have hv : a.tmps.getD d undef = .tuple vs := hv
        have hy : yielded ops a.tmps j = none := by
          unfold yielded
          rw [hd]
          rw [Array.getD_eq_getD_getElem?] at hv
          simp only [Option.bind_some]
          cases hq : a.tmps[d]? with
          | none => rfl
          | some v => rw [hq] at hv; simp only [Option.getD_some] at hv; subst hv; rfl
        unfold Region.wanted
        rw [hg]
        simp [hy]
      · cases hk
    · cases hk
theorem about_ok (f : FuncId) : (FW ro).fn f := trivial
theorem guard_wp {L J : World → Prop} {G0 : Com} (hc : CxOK P L c) (hY : YieldOK P L J G0 Y r) (hG0 : G0.le M.G) (hJ : LW J M w) (h : St M e a w) (hL : LW L M w) {i : Nat} (hi : ops[i]? = some o) (hk : guardK ops o (opK c Y o) e K = some r) {next : Act → World → Prop} (hn : Nexts c M o a w K r next) : wpOpIn (FW ro) 0 P ops Q i next a w := by
  unfold wpOpIn
  rw [hi]
  simp only
  rcases guard_cases h hk with ⟨hw, hk'⟩ | ⟨hw, hk'⟩
  · rw [if_pos hw]; exact op_wp hc hY hG0 hJ h hL hk' hn
  · rw [if_neg (by rw [hw]; exact Bool.false_ne_true)]
    exact ⟨fun _ _ => trivial, hn undef M _ w (Mem.Le.refl M) (putD_tup h o.dst) (Bel.refl _ _) ⟨fun _ => Ext.refl w, fun _ _ _ _ _ _ _ _ _ => rfl, fun t _ hg => absurd hw (by unfold Region.wanted; rw [hg]; exact fun hh => by cases hh), fun _ _ _ _ _ _ _ _ => rfl⟩ hk'⟩
/-- What comes behind a region. -/
def Then (b : Prop) (M : Mem) (w : World) {ρ : Type} (K : Kt ρ) (r : ρ) (Q : Exit → Act → World → Prop) : Prop := ∀ M' e' a' w', M.Le M' → St M' e' a' w' → Bel M w w' → (b → Ext w w') → K e' = some r → Q .normal a' w'
theorem Ext.trans' {w1 w2 w3 : World} (h : Ext w1 w2) (k : Ext w2 w3) : Ext w1 w3 := fun g hg => by
  have h1 := h g hg
  have hlt : g < w2.heap.size := by
    have : w1.heap[g]? = some w1.heap[g] := Array.getElem?_eq_getElem hg
    rw [this] at h1
    exact (Array.getElem?_eq_some_iff.1 h1).1
  exact (k g hlt).trans h1
theorem Then.step {b : Prop} {M' : Mem} {w' : World} (h : Then b M w K r Q) (hM : M.Le M') (hb : Bel M w w') (hx : b → Ext w w') : Then b M' w' K r Q :=
  fun M2 e2 a2 w2 h1 h2 h3 hx' h4 => h M2 e2 a2 w2 (hM.trans h1) h2 (hb.trans (Bel.key hM.1 h3)) (fun hh => (hx hh).trans' (hx' hh)) h4
/-- All operations leave what stood. -/
def Calm (c : Cx) (ops : Array Oper) : Prop := ∀ (i : Nat) (o : Oper), ops[i]? = some o → calm c o = true
/-! ### Operations under a guard, taken as one -/
theorem slot_keep {d t : Nat} {p : PV} (ht : t ≠ d) (ho : isO p = false) : (e.put t p).slot d = e.slot d := by
  unfold Env.put
  rw [ho]
  simp only [Bool.false_eq_true, if_false]
  unfold Env.slot Env.setT
  rw [List.getD_eq_getElem?_getD, List.getD_eq_getElem?_getD, List.getElem?_set_ne ht]
theorem slot_keepD {d : Nat} {t : Option Nat} {p : PV} (ht : t ≠ some d) (ho : isO p = false) : (e.putD t p).slot d = e.slot d := by
  cases t with
  | none => rfl
  | some t => exact slot_keep (fun hh => ht (by rw [hh])) ho
theorem rd_runs (hc : ∀ t k, c.kd t = some k → Fits P k t) (he : ∀ t k, c.eq t = true → c.kd t = some k → EqOK P k t) (h : St M e a w) {p : PV} (hk : rdK c o e some = some p) :
    ∃ v n0, isO p = false ∧ PR M w e.at_ (pv M a w) n0 p v ∧ (execOp a.eval o).run P w = .ok (.value v) w := by
  obtain ⟨v, q, n0, h1, h2, h3, h4⟩ := rd_sound hc he h hk
  injection h4 with h4
  subst h4
  exact ⟨v, n0, h1, h2, h3 w Sees.refl⟩
theorem op_value {K : Act → World → Prop} {i : Nat} {v : Value} (hi : ops[i]? = some o) (hw : Region.wanted o (yielded ops a.tmps) = true) (hr : (execOp a.eval o).run P w = .ok (.value v) w) (h : K (a.put o.dst v) w) : wpOpIn (FW ro) 0 P ops Q i K a w := by
  unfold wpOpIn
  simp only [hi]
  rw [if_pos hw]
  unfold Oper.wpIn
  refine ⟨fun _ _ => trivial, ?_⟩
  rw [show (FW ro).round = ro from rfl, semAt_of_ok (.inl hr), hr]
  exact h
theorem op_skip {K : Act → World → Prop} {i : Nat} (hi : ops[i]? = some o) (hw : Region.wanted o (yielded ops a.tmps) = false) (h : K (a.put o.dst undef) w) : wpOpIn (FW ro) 0 P ops Q i K a w := by
  unfold wpOpIn
  simp only [hi]
  rw [if_neg (by rw [hw]; exact Bool.false_ne_true)]
  exact ⟨fun _ _ => trivial, h⟩
theorem wanted_is (h : St M e a w) {g : Nat × Bool} {d : Nat} {x : Bool} (hg : o.guard = some g) (hd : (ops[g.1]?).bind (·.dst) = some d) (hx : e.slot d = .b x) : Region.wanted o (yielded ops a.tmps) = (x == g.2) := by
  have hy := yielded_of h hd hx
  obtain ⟨j, want⟩ := g
  unfold Region.wanted
  rw [hg]
  simp [hy]
theorem under_spec {g : Nat × Bool} {d i : Nat} (h : underB ops g d i = true) : ∃ o, ops[i]? = some o ∧ o.guard = some g ∧ o.dst ≠ some d := by
  unfold underB at h
  split at h
  · rename_i o ho
    simp only [Bool.and_eq_true, decide_eq_true_eq, bne_iff_ne, ne_eq] at h
    exact ⟨o, ho, h.1, h.2⟩
  · cases h
theorem seg_on (hc : ∀ t k, c.kd t = some k → Fits P k t) (he : ∀ t k, c.eq t = true → c.kd t = some k → EqOK P k t) {g : Nat × Bool} {d : Nat} (hd : (ops[g.1]?).bind (·.dst) = some d) {rest : List Nat} :
    ∀ (js : List Nat) {e e2 eT : Env} {a : Act}, St M e a w → St M e2 a w → e.slot d = .b g.2 → js.all (underB ops g d) = true → segE c ops js e = some eT →
      (∀ a', St M eT a' w → St M (wipeE ops js e2) a' w → eT.slot d = .b g.2 → wpOpsIn (FW ro) 0 P ops Q rest a' w) → wpOpsIn (FW ro) 0 P ops Q (js ++ rest) a w
  | [], e, e2, eT, a, h, h2, hx, hj, hk, hn => by
    simp only [segE, Option.some.injEq] at hk
    subst hk
    exact hn a h h2 hx
  | i :: js, e, e2, eT, a, h, h2, hx, hj, hk, hn => by
    rw [List.all_cons, Bool.and_eq_true] at hj
    obtain ⟨o, ho, hg, hdst⟩ := under_spec hj.1
    simp only [segE, ho] at hk
    simp only [wipeE, ho] at hn
    split at hk
    · obtain ⟨p, hp, hk⟩ := Option.bind_eq_some_iff.1 hk
      obtain ⟨v, n0, h3, h4, h5⟩ := rd_runs hc he h hp
      rw [List.cons_append, wpOpsIn_cons]
      refine op_value ho (by rw [wanted_is h hg hd hx]; exact beq_self_eq_true _) h5 ?_
      exact seg_on hc he hd js (h.putD o.dst h3 h4) (h2.putD o.dst (p := .un) (n0 := .t 0) rfl trivial) (by rw [slot_keepD hdst h3]; exact hx) hj.2 hk hn
    · cases hk
theorem seg_off {g : Nat × Bool} {d : Nat} {x : Bool} (hxg : x ≠ g.2) (hd : (ops[g.1]?).bind (·.dst) = some d) {rest : List Nat} :
    ∀ (js : List Nat) {e e2 : Env} {a : Act}, St M e a w → St M e2 a w → e.slot d = .b x → js.all (underB ops g d) = true →
      (∀ a', St M (skipE ops js e) a' w → St M (wipeE ops js e2) a' w → (skipE ops js e).slot d = .b x → wpOpsIn (FW ro) 0 P ops Q rest a' w) → wpOpsIn (FW ro) 0 P ops Q (js ++ rest) a w
  | [], e, e2, a, h, h2, hx, hj, hn => hn a h h2 hx
  | i :: js, e, e2, a, h, h2, hx, hj, hn => by
    rw [List.all_cons, Bool.and_eq_true] at hj
    obtain ⟨o, ho, hg, hdst⟩ := under_spec hj.1
    simp only [wipeE, skipE, ho] at hn
    rw [List.cons_append, wpOpsIn_cons]
    refine op_skip ho (by rw [wanted_is h hg hd hx]; exact beq_false_of_ne hxg) ?_
    exact seg_off hxg hd js (putD_tup h o.dst) (h2.putD o.dst (p := .un) (n0 := .t 0) rfl trivial) (by rw [slot_keepD hdst rfl]; exact hx) hj.2 hn
theorem cp_b {x : Operand} {b : Bool} (h : ev e x = .b b) : cp e x = .b b := by unfold cp; rw [h]
theorem pick_val {d : Nat} {x b : Bool} {y z : Operand} (hop : o.op = .pick (.tmp d) y z) (hx : e.slot d = .b x) (hb : ev e (if x then y else z) = .b b) : rdK c o e some = some (.b b) := by
  have h1 : ev e (.tmp d) = .b x := hx
  simp only [rdK, hop, h1]
  cases x with
  | true =>
    have hb : ev e y = .b b := hb
    rw [hb]
    split
    · rename_i u v hu hv; injection hu with hu; rw [← hu]; rfl
    · rw [cp_b hb]; rfl
  | false =>
    have hb : ev e z = .b b := hb
    rw [hb]
    split
    · rename_i u v hu hv; injection hv with hv; rw [← hv]; rfl
    · rw [cp_b hb]; rfl
theorem merge_wp (hc : ∀ t k, c.kd t = some k → Fits P k t) (he : ∀ t k, c.eq t = true → c.kd t = some k → EqOK P k t) {i : Nat} {l : List Nat} {q : Env × Nat} (hi : ops[i]? = some o) (hq : mergeAt c ops o i l e = some q) (h : St M e a w)
    (hn : ∀ a', St M q.1 a' w → wpOpsIn (FW ro) 0 P ops Q (l.drop q.2) a' w) : wpOpsIn (FW ro) 0 P ops Q (i :: l) a w := by
  unfold mergeAt at hq
  split at hq
  · cases hq
  · rename_i g hg
    split at hq
    · cases hq
    · rename_i d hd
      split at hq
      · rename_i x p r hx hl
        split at hq
        · rename_i hall
          split at hq
          · cases hq
          · rename_i op hop
            split at hq
            · rename_i d' y z hpk hgp
              split at hq
              · rename_i hdd
                subst hdd
                obtain ⟨eT, hT, hq⟩ := Option.bind_eq_some_iff.1 hq
                generalize hm : sameG ops g l = m at *
                have hdrop : l.drop (m + 1) = r := by
                  rw [← List.drop_drop, hl]; rfl
                have hsplit : i :: l = (i :: l.take m) ++ (p :: r) := by rw [List.cons_append, ← hl, List.take_append_drop]
                split at hq
                · rename_i u v hu hv
                  simp only [Option.some.injEq] at hq
                  subst hq
                  simp only at hn
                  rw [hdrop] at hn
                  have fin : ∀ {e' : Env} {a' : Act} {b : Bool}, St M e' a' w → St M (wipeE ops (i :: l.take m) e) a' w → e'.slot d' = .b x → ev e' (if x then y else z) = .b b → b = (bif x then u else v) → wpOpsIn (FW ro) 0 P ops Q (p :: r) a' w := fun {e' a' b} h1 h2 h3 h4 h5 => by
                    obtain ⟨v0, n0, h6, h7, h8⟩ := rd_runs (c := c) hc he h1 (pick_val hpk h3 h4)
                    rw [wpOpsIn_cons]
                    refine op_value hop (by unfold Region.wanted; rw [hgp]) h8 ?_
                    subst h5
                    exact hn _ (h2.putD op.dst (p := .b (bif x then u else v)) (n0 := .t 0) rfl h7)
                  rw [hsplit]
                  by_cases hxg : x = g.2
                  · subst hxg
                    refine seg_on hc he hd (i :: l.take m) h h hx hall hT fun a' h1 h2 h3 => ?_
                    cases hw : g.2 with
                    | true =>
                      rw [hw] at hu fin h3
                      exact fin h1 h2 h3 hu rfl
                    | false =>
                      rw [hw] at hv fin h3
                      exact fin h1 h2 h3 hv rfl
                  · refine seg_off hxg hd (i :: l.take m) h h hx hall fun a' h1 h2 h3 => ?_
                    cases hw : g.2 with
                    | true =>
                      have hx2 : x = false := by cases x with | true => exact absurd hw.symm hxg | false => rfl
                      subst hx2
                      rw [hw] at hv
                      exact fin h1 h2 h3 hv rfl
                    | false =>
                      have hx2 : x = true := by cases x with | false => exact absurd hw.symm hxg | true => rfl
                      subst hx2
                      rw [hw] at hu
                      exact fin h1 h2 h3 hu rfl
                · cases hq
              · cases hq
            · cases hq
        · cases hq
      · cases hq
theorem ops_wp {L J : World → Prop} {G0 : Com} (hc : CxOK P L c) (hY : YieldOK P L J G0 Y r) : ∀ (l : List Nat) (n : Nat) {M : Mem} {e : Env} {a : Act} {w : World}, G0.le M.G → LW J M w → St M e a w → LW L M w → opsK c Y ops n l e K = some r → Then (Calm c ops) M w K r Q → wpOpsIn (FW ro) 0 P ops Q (l.drop n) a w
  | [], n, M, e, a, w, hG0, hJ, h, hL, hk, hT => by
    rw [List.drop_nil]
    have hk : K e = some r := by cases n <;> exact hk
    exact hT M e a w (Mem.Le.refl M) h (Bel.refl _ _) (fun _ => Ext.refl w) hk
  | i :: l, n + 1, M, e, a, w, hG0, hJ, h, hL, hk, hT => ops_wp hc hY l n hG0 hJ h hL hk hT
  | i :: l, 0, M, e, a, w, hG0, hJ, h, hL, hk, hT => by
    rw [List.drop_zero]
    simp only [opsK] at hk
    cases hi : ops[i]? with
    | none => rw [hi] at hk; cases hk
    | some o =>
      rw [hi] at hk
      simp only at hk
      cases hq : mergeAt c ops o i l e with
      | some q =>
        rw [hq] at hk
        exact merge_wp hc.kd hc.eq hi hq h fun a' h' => ops_wp hc hY l q.2 hG0 hJ h' hL hk hT
      | none =>
        rw [hq] at hk
        rw [wpOpsIn_cons]
        exact guard_wp hc hY hG0 hJ h hL hi hk fun v M' e' w' h1 h2 h3 hx h5 => ops_wp hc hY l 0 (hG0.trans h1.2) (hJ.next h1 h3) h2 (hL.next h1 h3) h5 (hT.step h1 h3 fun hcm => hx.1 (hcm i o hi))
/-! ### Regions that draw -/
/-- One operation, apart from another: whether the other's value is already in its place makes no difference to it, and it makes none to the other (the kit's law, inside a fence). -/
theorem yieldsIf_wp {S : World → Prop} {i : Nat} {o : Oper} {v : Value} {a : Act} (hi : ops[i]? = some o) (hy : YieldsIf P ops S o v a)
    {K : Act → World → Prop} {w : World} (hS : S w) (h : K (a.put o.dst v) w) : wpOpIn (FW ro) 0 P ops Q i K a w := by
  unfold Go.wpOpIn
  simp only [hi]
  rcases hy with ⟨hw, hv⟩ | ⟨hw, rfl⟩
  · rw [if_pos hw]
    unfold Oper.wpIn
    refine ⟨fun _ _ => trivial, ?_⟩
    rw [show (FW ro).round = ro from rfl, semAt_of_ok (.inl (hv w hS)), hv w hS]
    exact h
  · rw [if_neg (by rw [hw]; exact Bool.false_ne_true)]; exact ⟨fun _ _ => trivial, h⟩
theorem wpOpIn_putIf {S : World → Prop} {j : Nat} {oi oj : Oper} {v : Value} (hj : ops[j]? = some oj) (hap : oi.apart ops oj = true)
    (hsi : ∀ cs b, oi.op ≠ .select cs b) (hsj : ∀ cs b, oj.op ≠ .select cs b) (hdj : ∀ q, oj.op ≠ .defer q)
    (hQ : ∀ c a w, Q (.panic c) (a.put oi.dst v) w → Q (.panic c) a w) {K : Act → World → Prop} {a : Act} {w : World}
    (hy : YieldsIf P ops S oi v a) (h : wpOpIn (FW ro) 0 P ops Q j K (a.put oi.dst v) w) :
    wpOpIn (FW ro) 0 P ops Q j (fun a' w' => YieldsIf P ops S oi v a' ∧ K (a'.put oi.dst v) w') a w := by
  obtain ⟨h1, h2, h3⟩ := Oper.apart_spec hap
  have keep : ∀ (a : Act), YieldsIf P ops S oi v a → ∀ u, YieldsIf P ops S oi v (a.put oj.dst u) := fun a hy u =>
    hy.of_same (execOp_put oi hsi a oj.dst u h3) (wanted_put oi a oj.dst u h3)
  have keepD : ∀ d, YieldsIf P ops S oi v { a with defers := d :: a.defers } := fun d => hy.of_same rfl rfl
  unfold wpOpIn at *
  simp only [hj] at *
  rw [wanted_put oj a oi.dst v h1] at h
  split
  · rename_i hw
    rw [if_pos hw] at h
    unfold Oper.wpIn at *
    refine ⟨fun _ _ => trivial, ?_⟩
    have h := h.2
    rw [show (FW ro).round = ro from rfl, Oper.semAt_eq ro _ _ hdj] at h ⊢
    rw [execOp_put oj hsj a oi.dst v h1] at h
    generalize (execOp a.eval oj).run P w = r at *
    cases r with
    | ok n w' =>
      cases n <;> simp only [Oper.uponIn] at h ⊢
      case value u => exact ⟨keep a hy u, by rw [← Act.put_comm a v u h2]; exact h⟩
      case skip => exact ⟨keep a hy _, by rw [← Act.put_comm a v undef h2]; exact h⟩
      case defer d =>
        refine ⟨keep _ (keepD d) _, ?_⟩
        rw [← Act.put_comm _ v undef h2, ← Act.put_defers]
        exact h
      case enter f args =>
        refine ⟨h.1, CallsIn.mono h.2 fun e w'' he => ?_⟩
        cases e with
        | returned u => exact ⟨keep a hy u, by rw [← Act.put_comm a v u h2]; exact he⟩
        | panicked c => exact hQ _ _ _ he
        | outgrown => exact he
      case row row args => exact ⟨h.1, RowsIn.mono h.2 fun u w'' he => ⟨keep a hy u, by rw [← Act.put_comm a v u h2]; exact he⟩⟩
      case round l f tmps assign body =>
        refine ⟨h.1, RoundIn.mono h.2 fun e w'' he => ?_⟩
        cases e with
        | returned u => exact ⟨keep a hy u, by rw [← Act.put_comm a v u h2]; exact he⟩
        | panicked c => exact hQ _ _ _ he
        | outgrown => exact he
    | halt x w' =>
      cases x <;> simp only [Oper.uponIn] at h ⊢
      case panic u => exact hQ _ _ _ h
  · rename_i hw
    rw [if_neg hw] at h
    exact ⟨fun _ _ => trivial, keep a hy _, by rw [← Act.put_comm a v undef h2]; exact h.2⟩
/-- What is known of an operation that has come up; Z: slots that are not spoken of. -/
def Recd (c : Cx) (Z : Nat → Prop) (X : List Ld) (o : Oper) (a : Act) (w : World) (a' : Act) (w' : World) : Prop :=
  (∀ q, o.dst ≠ some q → ¬ Z q → a'.tmps.getD q undef = a.tmps.getD q undef) ∧ a'.tmps.size = a.tmps.size ∧ (calm c o = true → Ext w w') ∧
  (∀ t q x g, o.op = .store t (.tmp q) x → ¬ Z q → blockOf (a.tmps.getD q undef) = some g → ∀ g', g' ≠ g → g' < w.heap.size → w'.heap[g']? = w.heap[g']?) ∧
  (∀ t d, o.op = .alloc t → o.guard = none → o.dst = some d → ¬ Z d → d < a.tmps.size → ∃ g, blockOf (a'.tmps.getD d undef) = some g ∧ w.heap.size ≤ g) ∧
  (∀ l ∈ X, l.m = false → ¬ Z l.q → ∀ g, blockOf (a.tmps.getD l.q undef) = some g → hotB c o = true → w'.heap[g]? = w.heap[g]?) ∧
  ∀ l ∈ X, l.m = true → ¬ Z l.q → ¬ Z l.d → ∀ g off, a.tmps.getD l.q undef = .pointer (some ⟨g, off, none⟩) → hotB c o = true → w'.cell? ⟨g, off, none⟩ = some (a'.tmps.getD l.d undef)
theorem put_getD (a : Act) (d : Option Nat) (v : Value) (q : Nat) (h : d ≠ some q) : (a.put d v).tmps.getD q undef = a.tmps.getD q undef := by
  cases d with
  | none => rfl
  | some d =>
    show (a.tmps.setIfInBounds d v).getD q undef = _
    rw [Array.getD_eq_getD_getElem?, Array.getD_eq_getD_getElem?, Array.getElem?_setIfInBounds, if_neg (fun hh => h (by rw [hh]))]
theorem put_size (a : Act) (d : Option Nat) (v : Value) : (a.put d v).tmps.size = a.tmps.size := by
  cases d with
  | none => rfl
  | some d => exact Array.size_setIfInBounds
theorem Recd.of_eff {Z : Nat → Prop} {X : List Ld} {v : Value} {w' : World} (h : Eff c M o a v w w') (h6 : hotB c o = true → ∀ l ∈ X, l.m = false → ∀ g, blockOf (a.tmps.getD l.q undef) = some g → w'.heap[g]? = w.heap[g]?)
    (h7 : hotB c o = true → ∀ l ∈ X, l.m = true → ∀ g off, a.tmps.getD l.q undef = .pointer (some ⟨g, off, none⟩) → w'.cell? ⟨g, off, none⟩ = some ((a.put o.dst v).tmps.getD l.d undef)) : Recd c Z X o a w (a.put o.dst v) w' := by
  refine ⟨fun q hq _ => put_getD a _ v q hq, put_size a _ v, h.1, fun t q x g ho _ hg => h.2.1 t (.tmp q) x g ho hg, fun t d ho hg hd _ hlt => ?_, fun l hl hm _ g hg hh => h6 hh l hl hm g hg, fun l hl hm _ _ g off hg hh => h7 hh l hl hm g off hg⟩
  obtain ⟨g, h1, h2⟩ := h.2.2.1 t ho hg
  refine ⟨g, ?_, h2⟩
  rw [hd]
  show blockOf ((a.tmps.setIfInBounds d v).getD d undef) = _
  rw [Array.getD_eq_getD_getElem?, Array.getElem?_setIfInBounds, if_pos rfl, if_pos hlt]
  exact h1
/-- .. beside a value that is already in its place. -/
theorem Recd.beside {Z Z' : Nat → Prop} {X : List Ld} {z : Option Nat} {v : Value} {a' : Act} {w' : World} (h : Recd c Z X o (a.put z v) w (a'.put z v) w') (hZ : ∀ q, Z q → Z' q) (hz : ∀ q, z = some q → Z' q) : Recd c Z' X o a w a' w' := by
  obtain ⟨h1, h2, h3, h4, h5, h6, h7⟩ := h
  rw [put_size, put_size] at h2
  have hne : ∀ q, ¬ Z' q → z ≠ some q := fun q hq hh => hq (hz q hh)
  refine ⟨fun q hq hzq => ?_, h2, h3, fun t q x g ho hzq hg => h4 t q x g ho (fun hh => hzq (hZ q hh)) (by rw [put_getD a z v q (hne q hzq)]; exact hg), fun t d ho hg hd hzd hlt => ?_, fun l hl hm hzq g hg hh => h6 l hl hm (fun hh => hzq (hZ _ hh)) g (by rw [put_getD a z v _ (hne _ hzq)]; exact hg) hh, fun l hl hm hzq hzd g off hg hh => ?_⟩
  · have := h1 q hq (fun hh => hzq (hZ q hh))
    rw [put_getD a z v q (hne q hzq), put_getD a' z v q (hne q hzq)] at this
    exact this
  · have := h5 t d ho hg hd (fun hh => hzd (hZ d hh)) (by rw [put_size]; exact hlt)
    rw [put_getD a' z v d (hne d hzd)] at this
    exact this
  · have := h7 l hl hm (fun hh => hzq (hZ _ hh)) (fun hh => hzd (hZ _ hh)) g off (by rw [put_getD a z v _ (hne _ hzq)]; exact hg) hh
    rw [put_getD a' z v _ (hne _ hzd)] at this
    exact this
/-- Slots that are yet to be written, by what is no new box. -/
def Zof (ops : Array Oper) (listed : Array Bool) (q : Nat) : Prop := ∃ k ok, ops[k]? = some ok ∧ listed.getD k false = false ∧ ok.dst = some q ∧ ∀ t, ok.op ≠ .alloc t
theorem Zof.less {listed : Array Bool} {j q : Nat} (h : Zof ops (listed.setIfInBounds j true) q) : Zof ops listed q := by
  obtain ⟨k, ok, h1, h2, h3, h4⟩ := h
  refine ⟨k, ok, h1, ?_, h3, h4⟩
  by_cases hjk : j = k
  · subst hjk
    by_cases hl : j < listed.size
    · rw [Array.getD_eq_getD_getElem?, Array.getElem?_setIfInBounds, if_pos rfl, if_pos hl] at h2; cases h2
    · rw [Array.getD_eq_getD_getElem?, Array.getElem?_eq_none (by omega)]; rfl
  · rwa [getD_set_ne false hjk] at h2
/-- Whatever order is picked; what is known of each. -/
def wpAnyE (ro : Option Nat) (c : Cx) (P : Program) (ops : Array Oper) (pr : Nat → List Ld) (Q : Exit → Act → World → Prop) : Nat → Array Bool → Act → World → Prop
  | 0, listed, a, w => Region.ready .any ops listed = [] ∧ Q .normal a w
  | n + 1, listed, a, w =>
    (Region.ready .any ops listed = [] → Q .normal a w) ∧
    ∀ i ∈ Region.ready .any ops listed, wpOpIn (FW ro) 0 P ops Q i (fun a' w' => ((∀ o, ops[i]? = some o → Recd c (Zof ops listed) (pr i) o a w a' w') ∧ wpAnyE ro c P ops pr Q n (listed.setIfInBounds i true) a' w')) a w
theorem wpAny_of_E {pr : Nat → List Ld} : ∀ (n : Nat) (listed : Array Bool) (a : Act) (w : World), wpAnyE ro c P ops pr Q n listed a w → wpAnyIn (FW ro) 0 P .any ops Q n listed a w
  | 0, _, _, _, h => h
  | n + 1, _, _, _, h => ⟨h.1, fun i hi => wpOpIn_mono (fun a' w' h' => wpAny_of_E n _ a' w' h'.2) (h.2 i hi)⟩
theorem Ext.trans {w1 w2 w3 : World} (h : Ext w1 w2) (k : Ext w2 w3) : Ext w1 w3 := fun g hg => by
  have h1 := h g hg
  have hlt : g < w2.heap.size := by
    have : w1.heap[g]? = some w1.heap[g] := Array.getElem?_eq_getElem hg
    rw [this] at h1
    exact (Array.getElem?_eq_some_iff.1 h1).1
  exact (k g hlt).trans h1
/-- Those who wait for one of them, but for the first one. -/
def Waits (ops : Array Oper) (i : Nat) (D : List Nat) : Prop := i ∈ D ∧ ∀ j ∈ D, j = i ∨ ∃ oj, ops[j]? = some oj ∧ ∃ e ∈ oj.after, binds e = true ∧ e.on ∈ D
theorem waits_spec (i : Nat) : Waits ops i (waits ops i) := by
  unfold waits
  have key : ∀ (l : List Nat) (D : List Nat), Waits ops i D → Waits ops i (l.foldl (fun D j => match ops[j]? with
    | some oj => if oj.after.toList.any (fun e => binds e && D.contains e.on) then j :: D else D
    | none => D) D) := by
    intro l
    induction l with
    | nil => intro D h; exact h
    | cons j l ih =>
      intro D h
      rw [List.foldl_cons]
      apply ih
      split
      · rename_i oj hoj
        split
        · rename_i hany
          obtain ⟨e, he, hb⟩ := List.any_eq_true.1 hany
          simp only [Bool.and_eq_true, List.contains_iff_mem] at hb
          refine ⟨List.mem_cons_of_mem _ h.1, fun k hk => ?_⟩
          rcases List.mem_cons.1 hk with rfl | hk
          · exact .inr ⟨oj, hoj, e, by simpa using he, hb.1, List.mem_cons_of_mem _ hb.2⟩
          · rcases h.2 k hk with h1 | ⟨ok, h1, e', h2, h3, h4⟩
            · exact .inl h1
            · exact .inr ⟨ok, h1, e', h2, h3, List.mem_cons_of_mem _ h4⟩
        · exact h
      · exact h
  exact key _ _ ⟨by simp, fun j hj => .inl (by simpa using hj)⟩
theorem binds_eq (e : Edge) : Region.binds .any e = binds e := by
  unfold Region.binds binds
  cases e.ground <;> rfl
theorem wpAnyE_first {pr : Nat → List Ld} {S : World → Prop} {Inv : Array Bool → Act → World → Prop} {i : Nat} {D : List Nat} (hD : Waits ops i D) {oi : Oper} {v : Value} (hi : ops[i]? = some oi) (hna : ∀ t, oi.op ≠ .alloc t) (hnh : hotB c oi = false) (hsel : ∀ (j : Nat) (o : Oper), ops[j]? = some o → (∀ cs b, o.op ≠ .select cs b) ∧ ∀ q, o.op ≠ .defer q)
    (hQ : ∀ ch a w, Q (.panic ch) (a.put oi.dst v) w → Q (.panic ch) a w) (hS : ∀ listed a w, Inv listed a w → S w)
    (hap : ∀ listed a w, Inv listed a w → ∀ j oj, ops[j]? = some oj → j ∉ D → j ∈ Region.ready .any ops listed → oi.apart ops oj = true)
    (hstep : ∀ listed a w j oj a' w', Inv listed a w → j ∉ D → j ≠ i → ops[j]? = some oj → j ∈ Region.ready .any ops listed → Recd c (Zof ops listed) (pr j) oj a w a' w' → Recd c (Zof ops (listed.setIfInBounds i true)) (pr j) oj (a.put oi.dst v) w (a'.put oi.dst v) w' → Inv (listed.setIfInBounds j true) a' w') :
    ∀ (fuel : Nat) (listed : Array Bool) (a : Act) (w : World), (∀ j ∈ D, listed.getD j false = false) →
      i ∈ Region.ready .any ops listed → YieldsIf P ops S oi v a → Inv listed a w →
      wpAnyE ro c P ops pr Q fuel (listed.setIfInBounds i true) (a.put oi.dst v) w → wpAnyE ro c P ops pr Q (fuel + 1) listed a w := by
  intro fuel
  have self : ∀ {Z : Nat → Prop} {X : List Ld} {a : Act} {w : World} (o : Oper), ops[i]? = some o → Recd c Z X o a w (a.put oi.dst v) w := fun {Z X a w} o ho => by
    rw [hi] at ho; injection ho with ho; subst ho
    exact ⟨fun q hq _ => put_getD a _ v q hq, put_size a _ v, fun _ => Ext.refl w, fun _ _ _ _ _ _ _ _ _ _ => rfl, fun t _ ht => absurd ht (hna t), fun _ _ _ _ _ _ _ => rfl, fun _ _ _ _ _ _ _ _ hh => absurd hh (by rw [hnh]; exact Bool.false_ne_true)⟩
  have un : ∀ {j : Nat} {listed : Array Bool}, j ∈ Region.ready .any ops listed → listed.getD j false = false := fun {j listed} hj => by
    obtain ⟨h1, _⟩ := mem_ready.1 hj
    by_cases hl : j < listed.size
    · rw [Array.getD_eq_getD_getElem?, Array.getElem?_eq_getElem hl] at h1 ⊢; exact h1
    · rw [Array.getD_eq_getD_getElem?, Array.getElem?_eq_none (by omega)]; rfl
  induction fuel with
  | zero =>
    intro listed a w _ hr hy hI H
    refine ⟨fun h => (by rw [h] at hr; cases hr), fun j hj => ?_⟩
    by_cases hji : j = i
    · subst hji; exact yieldsIf_wp hi hy (hS _ _ _ hI) ⟨self, H⟩
    · have := ready_mono hj hji
      rw [H.1] at this
      cases this
  | succ fuel ih =>
    intro listed a w hun0 hr hy hI H
    refine ⟨fun h => (by rw [h] at hr; cases hr), fun j hj => ?_⟩
    by_cases hji : j = i
    · subst hji; exact yieldsIf_wp hi hy (hS _ _ _ hI) ⟨self, H⟩
    · have h1 := H.2 j (ready_mono hj hji)
      obtain ⟨hjun, oj, hoj, hall⟩ := mem_ready.1 hj
      have hjD : j ∉ D := fun hjD => by
        rcases hD.2 j hjD with h1 | ⟨oj', h2, e, h3, h4, h5⟩
        · exact hji h1
        · rw [hoj] at h2; injection h2 with h2; subst h2
          have := hall e h3 (by rw [binds_eq]; exact h4)
          rw [hun0 _ h5] at this; cases this
      have hapj := hap _ _ _ hI j oj hoj hjD hj
      have h2 := wpOpIn_putIf hoj hapj (hsel i oi hi).1 (hsel j oj hoj).1 (hsel j oj hoj).2 hQ hy h1
      have hun0' : ∀ k ∈ D, (listed.setIfInBounds j true).getD k false = false := fun k hk => by
        rw [getD_set_ne (i := j) (j := k) false (fun hjk => hjD (by rw [hjk]; exact hk))]; exact hun0 k hk
      refine wpOpIn_mono (fun a' w' h3 => ?_) h2
      have hrec : Recd c (Zof ops listed) (pr j) oj a w a' w' := (h3.2.1 oj hoj).beside (fun q hq => hq.less) fun q hq => ⟨i, oi, hi, un hr, hq, hna⟩
      refine ⟨fun o ho => by rw [hoj] at ho; injection ho with ho; subst ho; exact hrec, ih (listed.setIfInBounds j true) a' w' hun0' (ready_mono hr (Ne.symm hji)) h3.1 (hstep _ _ _ _ _ _ _ hI hjD hji hoj hj hrec (h3.2.1 oj hoj)) ?_⟩
      rw [Array.setIfInBounds_comm _ _ hji]
      exact h3.2.2
/-! ### The order that stands for all -/
structure Lists (ops : Array Oper) (listed : Array Bool) (done : List Nat) : Prop where
  sz : listed.size = ops.size
  eq : ∀ j, j < ops.size → listed.getD j true = done.contains j
  lt : ∀ j ∈ done, j < ops.size
theorem apart_eq (x y : Oper) : x.apart ops y = apart ops x y := rfl
theorem Lists.getF {listed : Array Bool} {done : List Nat} (h : Lists ops listed done) (j : Nat) : listed.getD j false = done.contains j := by
  by_cases hj : j < ops.size
  · rw [← h.eq j hj, Array.getD_eq_getD_getElem?, Array.getD_eq_getD_getElem?, Array.getElem?_eq_getElem (by rw [h.sz]; exact hj)]; rfl
  · rw [Array.getD_eq_getD_getElem?, Array.getElem?_eq_none (by rw [h.sz]; omega)]
    have : done.contains j = false := by
      rw [Bool.eq_false_iff]; intro hc
      exact hj (h.lt j (by simpa using hc))
    rw [this]; rfl
theorem Lists.ready {listed : Array Bool} {done : List Nat} (h : Lists ops listed done) : Region.ready .any ops listed = ready ops done := by
  unfold Region.ready Pv.ready
  apply List.filter_congr
  intro i hi
  have hlt := List.mem_range.1 hi
  rw [h.eq i hlt, Array.getElem?_eq_getElem hlt]
  simp only [Option.map_some, Option.getD_some]
  congr 1
  rw [← Array.all_toList]
  congr 1
  funext e
  rw [binds_eq, h.getF]
theorem Lists.set {listed : Array Bool} {done : List Nat} (h : Lists ops listed done) {i : Nat} (hi : i < ops.size) : Lists ops (listed.setIfInBounds i true) (i :: done) where
  sz := by simp [h.sz]
  eq := fun j hj => by
    by_cases hij : i = j
    · subst hij; simp [h.sz, hi]
    · rw [getD_set_ne true hij, h.eq j hj, List.contains_cons]
      simp [Ne.symm hij]
  lt := fun j hj => by exact (List.mem_cons.1 hj).elim (fun hh => hh ▸ hi) (h.lt j)
theorem mem_ready' {i : Nat} {S : List Nat} : i ∈ ready ops S ↔ i ∉ S ∧ ∃ o, ops[i]? = some o ∧ ∀ e ∈ o.after, binds e = true → e.on ∈ S := by
  unfold ready
  rw [List.mem_filter, List.mem_range]
  constructor
  · rintro ⟨h1, h2⟩
    rw [Array.getElem?_eq_getElem h1] at h2 ⊢
    simp only [Bool.and_eq_true, Bool.not_eq_true', List.contains_eq_mem, decide_eq_false_iff_not, List.all_eq_true, Bool.or_eq_true, decide_eq_true_eq] at h2
    exact ⟨h2.1, _, rfl, fun e he hb => (h2.2 e (Array.mem_toList_iff.2 he)).elim (fun hh => by rw [hb] at hh; cases hh) id⟩
  · rintro ⟨h1, o, h2, h3⟩
    have hlt := (Array.getElem?_eq_some_iff.1 h2).1
    refine ⟨hlt, ?_⟩
    rw [h2]
    simp only [Bool.and_eq_true, Bool.not_eq_true', List.contains_eq_mem, decide_eq_false_iff_not, List.all_eq_true, Bool.or_eq_true, decide_eq_true_eq]
    refine ⟨h1, fun e he => ?_⟩
    cases hb : binds e with
    | false => exact .inl rfl
    | true => exact .inr (h3 e (Array.mem_toList_iff.1 he) hb)
theorem ready_more {i : Nat} {S S' : List Nat} (h : i ∈ ready ops S) (hs : ∀ j ∈ S, j ∈ S') (hi : i ∉ S') : i ∈ ready ops S' := by
  obtain ⟨_, o, h1, h2⟩ := mem_ready'.1 h
  exact mem_ready'.2 ⟨hi, o, h1, fun e he hb => hs _ (h2 e he hb)⟩
/-- What has come up, but for the boxes that were taken ahead. -/
def less (done : List Nat) (B : List Pb) : List Nat := done.filter fun j => !(B.map (·.i)).contains j
theorem mem_less {done : List Nat} {B : List Pb} {j : Nat} : j ∈ less done B ↔ j ∈ done ∧ ∀ q ∈ B, q.i ≠ j := by
  unfold less
  rw [List.mem_filter]
  simp
theorem Lists.congr {listed : Array Bool} {S S' : List Nat} (h : Lists ops listed S) (hs : ∀ j, j ∈ S' ↔ j ∈ S) : Lists ops listed S' where
  sz := h.sz
  eq := fun j hj => by
    rw [h.eq j hj, Bool.eq_iff_iff]
    simp only [List.contains_eq_mem, decide_eq_true_eq]
    exact (hs j).symm
  lt := fun j hj => h.lt j ((hs j).1 hj)
theorem dep_of {i x : Nat} {S : List Nat} (h : i ∈ ready ops S) (hx : x ∉ S) : dep ops i x = false := by
  obtain ⟨_, o, h1, h2⟩ := mem_ready'.1 h
  unfold dep
  rw [h1]
  rw [Bool.eq_false_iff]
  intro hh
  obtain ⟨e, he, hb⟩ := List.any_eq_true.1 hh
  simp only [Bool.and_eq_true, beq_iff_eq] at hb
  exact hx (hb.2 ▸ h2 e (Array.mem_toList_iff.1 he) hb.1)
theorem dep_false {i x : Nat} {o : Oper} (hi : ops[i]? = some o) (h : dep ops i x = false) {e : Edge} (he : e ∈ o.after) (hb : binds e = true) : e.on ≠ x := fun hh => by
  unfold dep at h
  rw [hi] at h
  have h : (o.after.toList.any fun e => binds e && e.on == x) = false := h
  rw [Bool.eq_false_iff] at h
  exact h (List.any_eq_true.2 ⟨e, Array.mem_toList_iff.2 he, by rw [hb, hh]; simp⟩)
/-- A box that was taken ahead comes up. -/
theorem pick_wp {pr : Nat → List Ld} {L J : World → Prop} {G0 : Com} (hc : CxOK P L c) (hY : YieldOK P L J G0 Y r) {B1 B2 : List Pb} {b : Pb} {listed : Array Bool} {N : Nat} {F : Env → Option ρ} (hB : Pend c ops e (B1 ++ b :: B2)) (hG0 : G0.le M.G) (hJ : LW J M w) (h : St M e a w) (hW : LW L M w)
    (hk : F (adds e (B1 ++ b :: B2)) = some r) (hT : Then (Calm c ops) M w K r Q)
    (ih : ∀ {M' : Mem} {e' : Env} {a' : Act} {w' : World}, Pend c ops e' (B1 ++ B2) → G0.le M'.G → LW J M' w' → St M' e' a' w' → LW L M' w' → F (adds e' (B1 ++ B2)) = some r → Then (Calm c ops) M' w' K r Q → wpAnyE ro c P ops pr Q N (listed.setIfInBounds b.i true) a' w') :
    wpOpIn (FW ro) 0 P ops Q b.i (fun a' w' => ((∀ o, ops[b.i]? = some o → Recd c (Zof ops listed) (pr b.i) o a w a' w') ∧ wpAnyE ro c P ops pr Q N (listed.setIfInBounds b.i true) a' w')) a w := by
  have hb : b ∈ B1 ++ b :: B2 := List.mem_append_right _ (List.mem_cons_self ..)
  obtain ⟨o, t, k, q1, q2, q3, q4, q5, q6, q7⟩ := hB.op b hb
  have hnd : (B1 ++ B2).Pairwise (fun a b => a.d ≠ b.d) ∧ ∀ q ∈ B1 ++ B2, q.d ≠ b.d := by
    have := hB.nd
    rw [List.pairwise_append] at this
    obtain ⟨h1, h2, h3⟩ := this
    have h2 := List.pairwise_cons.1 h2
    refine ⟨List.pairwise_append.2 ⟨h1, h2.2, fun x hx y hy => h3 x hx y (List.mem_cons_of_mem _ hy)⟩, fun q hq => ?_⟩
    rcases List.mem_append.1 hq with hq | hq
    · exact h3 q hq b (List.mem_cons_self ..)
    · exact (h2.1 q hq).symm
  have hsub : ∀ q ∈ B1 ++ B2, q ∈ B1 ++ b :: B2 := fun q hq => (List.mem_append.1 hq).elim (fun h => List.mem_append_left _ h) (fun h => List.mem_append_right _ (List.mem_cons_of_mem _ h))
  open Classical in
  have hk1 : guardK ops o (opK c Y o) e (fun e1 => if e1 = e.add b.d b.z then some r else none) = some r := by
    unfold guardK
    rw [q2]
    show opK c Y o e _ = _
    rw [alloc_eq q3 q4 q5 q6 (hB.cl b hb), ← q7, if_pos rfl]
  refine guard_wp hc hY hG0 hJ h hW q1 hk1 fun v M' e' w' h1 h2 h3 h4 h5 => ⟨fun o' ho' => ?_, ?_⟩
  · rw [q1] at ho'; injection ho' with ho'; subst ho'; exact Recd.of_eff h4 (fun hh => by unfold hotB at hh; rw [q3] at hh; cases hh) (fun hh => by unfold hotB at hh; rw [q3] at hh; cases hh)
  · dsimp only at h5
    split at h5
    · rename_i he
      subst he
      have hp : Pend c ops (e.add b.d b.z) (B1 ++ B2) := ⟨fun q hq => hB.op q (hsub q hq), fun q hq => (hB.cl q (hsub q hq)).add (hnd.2 q hq).symm (hB.bare b hb), hnd.1⟩
      refine ih hp (hG0.trans h1.2) (hJ.next h1 h3) h2 (hW.next h1 h3) ?_ (hT.step h1 h3 fun hcm => h4.1 (hcm b.i o q1))
      rw [← adds_mid hnd.2]; exact hk
    · cases h5
/-! ### A load beside stores to other boxes -/
/-- Where a store that has not come up yet goes: to a box that is yet to be made, or to one that is not block g. -/
def Tgt (ops : Array Oper) (listed : Array Bool) (a : Act) (g q j : Nat) : Prop :=
  q < a.tmps.size ∧ (∀ k ok, ops[k]? = some ok → listed.getD k false = false → ok.dst = some q → (∃ t, ok.op = .alloc t) ∧ ok.guard = none ∧ dep ops j k = true) ∧
    ((∀ k ok, ops[k]? = some ok → listed.getD k false = false → ok.dst ≠ some q) → ∃ g', blockOf (a.tmps.getD q undef) = some g' ∧ g' ≠ g)
def tmpOf : Operand → Nat
  | .tmp q => q
  | _ => 0
def InvL (c : Cx) (ops : Array Oper) (pr : Nat → List Ld) (oi : Oper) (D : List Nat) (g q0 : Nat) (H0 : Prop) (w0 : World) (listed : Array Bool) (a : Act) (w : World) : Prop :=
  g < w.heap.size ∧ w.heap[g]? = w0.heap[g]? ∧ (H0 → blockOf (a.tmps.getD q0 undef) = some g ∧ ∀ k ok, ops[k]? = some ok → listed.getD k false = false → ok.dst ≠ some q0) ∧
    ∀ j oj, ops[j]? = some oj → j ∉ D → listed.getD j false = false → oi.apart ops oj = true ∧ (calm c oj = true ∨ (∃ t q x, oj.op = .store t (.tmp q) x ∧ Tgt ops listed a g q j) ∨ (H0 ∧ hotB c oj = true ∧ ∃ l ∈ pr j, l.m = false ∧ l.q = q0))
theorem unset {listed : Array Bool} {j k : Nat} (h : (listed.setIfInBounds j true).getD k false = false) : listed.getD k false = false := by
  by_cases hjk : j = k
  · subst hjk
    by_cases hl : j < listed.size
    · rw [Array.getD_eq_getD_getElem?, Array.getElem?_setIfInBounds, if_pos rfl, if_pos hl] at h; cases h
    · rw [Array.getD_eq_getD_getElem?, Array.getElem?_eq_none (by omega)]; rfl
  · rwa [getD_set_ne false hjk] at h
theorem ready_un {listed : Array Bool} {j : Nat} (hj : j ∈ Region.ready .any ops listed) : listed.getD j false = false := by
  obtain ⟨h1, _⟩ := mem_ready.1 hj
  by_cases hl : j < listed.size
  · rw [Array.getD_eq_getD_getElem?, Array.getElem?_eq_getElem hl] at h1 ⊢; exact h1
  · rw [Array.getD_eq_getD_getElem?, Array.getElem?_eq_none (by omega)]; rfl
theorem InvL.step {pr : Nat → List Ld} {oi : Oper} {D : List Nat} {g q0 : Nat} {H0 : Prop} {w0 : World} {listed : Array Bool} {a : Act} {w : World} {j : Nat} {oj : Oper} {a' : Act} {w' : World} (h : InvL c ops pr oi D g q0 H0 w0 listed a w) (hjD : j ∉ D) (hoj : ops[j]? = some oj)
    (hj : j ∈ Region.ready .any ops listed) (hr : Recd c (Zof ops listed) (pr j) oj a w a' w') : InvL c ops pr oi D g q0 H0 w0 (listed.setIfInBounds j true) a' w' := by
  obtain ⟨h1, h2, h0, h3⟩ := h
  obtain ⟨r1, r2, r3, r4, r5, r6, _⟩ := hr
  have hun := ready_un hj
  have hz0 : H0 → ¬ Zof ops listed q0 := fun hh hz => by
    obtain ⟨k, ok, z1, z2, z3, _⟩ := hz
    exact (h0 hh).2 k ok z1 z2 z3
  obtain ⟨_, hcs⟩ := h3 j oj hoj hjD hun
  have hsame : w'.heap[g]? = w.heap[g]? := by
    rcases hcs with hc | ⟨t, q, x, hst, ht1, ht2, ht3⟩ | ⟨hH, hhot, l, hq0, hlm, rfl⟩
    · exact r3 hc g h1
    · have hno : ∀ k ok, ops[k]? = some ok → listed.getD k false = false → ok.dst ≠ some q := fun k ok hk hku hkd => by
        obtain ⟨_, _, hdep⟩ := ht2 k ok hk hku hkd
        unfold dep at hdep
        rw [hoj] at hdep
        obtain ⟨e, he, hb⟩ := List.any_eq_true.1 hdep
        simp only [Bool.and_eq_true, beq_iff_eq] at hb
        obtain ⟨_, oj', hoj', hall⟩ := mem_ready.1 hj
        rw [hoj] at hoj'; injection hoj' with hoj'; subst hoj'
        have := hall e (Array.mem_toList_iff.1 he) (by rw [binds_eq]; exact hb.1)
        rw [hb.2, hku] at this; cases this
      obtain ⟨g', hg', hne⟩ := ht3 hno
      exact r4 t q x g' hst (fun hz => by obtain ⟨k, ok, z1, z2, z3, _⟩ := hz; exact hno k ok z1 z2 z3) hg' g (Ne.symm hne) h1
    · exact r6 l hq0 hlm (hz0 hH) g (h0 hH).1 hhot
  have hlt : g < w'.heap.size := by
    have : w.heap[g]? = some w.heap[g] := Array.getElem?_eq_getElem h1
    rw [this] at hsame
    exact (Array.getElem?_eq_some_iff.1 hsame).1
  refine ⟨hlt, hsame.trans h2, fun hH => ⟨by rw [r1 q0 ((h0 hH).2 j oj hoj hun) (hz0 hH)]; exact (h0 hH).1, fun k ok hk hku => (h0 hH).2 k ok hk (unset hku)⟩, fun k ok hk hkD hku => ?_⟩
  obtain ⟨g1, g2⟩ := h3 k ok hk hkD (unset hku)
  refine ⟨g1, g2.imp id (Or.imp ?_ id)⟩
  rintro ⟨t, q, x, hst, ht1, ht2, ht3⟩
  refine ⟨t, q, x, hst, by rw [r2]; exact ht1, fun k' ok' hk' hku' hkd' => ht2 k' ok' hk' (unset hku') hkd', fun hno => ?_⟩
  have hnz : ¬ Zof ops listed q := fun hz => by
    obtain ⟨k', ok', z1, z2, z3, z4⟩ := hz
    obtain ⟨⟨t', ht'⟩, _⟩ := ht2 k' ok' z1 z2 z3
    exact z4 t' ht'
  by_cases hjq : oj.dst = some q
  · obtain ⟨⟨t', ht'⟩, hgd, _⟩ := ht2 j oj hoj hun hjq
    obtain ⟨g', hg', hge⟩ := r5 t' q ht' hgd hjq hnz ht1
    exact ⟨g', hg', by omega⟩
  · obtain ⟨g', hg', hne⟩ := ht3 fun k' ok' hk' hku' hkd' => by
      by_cases hkj : j = k'
      · subst hkj; rw [hoj] at hk'; injection hk' with hk'; subst hk'; exact hjq hkd'
      · exact hno k' ok' hk' (by rw [getD_set_ne false hkj]; exact hku') hkd'
    exact ⟨g', by rw [r1 q hjq hnz]; exact hg', hne⟩
/-- A cell of the heap's that was loaded, beside calls. -/
def InvC (c : Cx) (ops : Array Oper) (pr : Nat → List Ld) (i : Nat) (oi : Oper) (D : List Nat) (l : Ld) (g off : Nat) (v : Value) (listed : Array Bool) (a : Act) (w : World) : Prop :=
  w.cell? ⟨g, off, none⟩ = some v ∧ a.tmps.getD l.q undef = .pointer (some ⟨g, off, none⟩) ∧ l.d < a.tmps.size ∧ (∀ k ok, ops[k]? = some ok → listed.getD k false = false → ok.dst ≠ some l.q ∧ (k ≠ i → ok.dst ≠ some l.d)) ∧
    ∀ j oj, ops[j]? = some oj → j ∉ D → listed.getD j false = false → oi.apart ops oj = true ∧ (calm c oj = true ∨ (hotB c oj = true ∧ l ∈ pr j))
theorem InvC.step {pr : Nat → List Ld} {i : Nat} {oi : Oper} {D : List Nat} {l : Ld} {g off : Nat} {v : Value} {listed : Array Bool} {a : Act} {w : World} {j : Nat} {oj : Oper} {a' : Act} {w' : World} (h : InvC c ops pr i oi D l g off v listed a w) (hm : l.m = true) (hd : oi.dst = some l.d) (hqd : l.q ≠ l.d) (hil : i < listed.size)
    (hjD : j ∉ D) (hji : j ≠ i) (hoj : ops[j]? = some oj) (hj : j ∈ Region.ready .any ops listed) (hr : Recd c (Zof ops listed) (pr j) oj a w a' w') (hr2 : Recd c (Zof ops (listed.setIfInBounds i true)) (pr j) oj (a.put oi.dst v) w (a'.put oi.dst v) w') : InvC c ops pr i oi D l g off v (listed.setIfInBounds j true) a' w' := by
  obtain ⟨h1, h2, h3, h4, h5⟩ := h
  obtain ⟨r1, r2, r3, r4, r5, r6, _⟩ := hr
  obtain ⟨_, _, _, _, _, _, s7⟩ := hr2
  have hun := ready_un hj
  have hzq : ¬ Zof ops listed l.q := fun hz => by
    obtain ⟨k, ok, z1, z2, z3, _⟩ := hz
    exact (h4 k ok z1 z2).1 z3
  have hzd : ¬ Zof ops (listed.setIfInBounds i true) l.d := fun hz => by
    obtain ⟨k, ok, z1, z2, z3, _⟩ := hz
    by_cases hk : k = i
    · subst hk
      rw [Array.getD_eq_getD_getElem?, Array.getElem?_setIfInBounds, if_pos rfl, if_pos hil] at z2; cases z2
    · exact (h4 k ok z1 (unset z2)).2 hk z3
  have hq' : a'.tmps.getD l.q undef = .pointer (some ⟨g, off, none⟩) := by rw [r1 l.q (h4 j oj hoj hun).1 hzq]; exact h2
  have hcell : w'.cell? ⟨g, off, none⟩ = some v := by
    rcases (h5 j oj hoj hjD hun).2 with hc | ⟨hh, hl⟩
    · exact (r3 hc).cell h1
    · have := s7 l hl hm (fun hz => hzq hz.less) hzd g off (by rw [hd, put_getD a (some l.d) v l.q (fun hh => hqd (by injection hh with hh; exact hh.symm))]; exact h2) hh
      rw [this, hd]
      show some ((a'.tmps.setIfInBounds l.d v).getD l.d undef) = _
      rw [Array.getD_eq_getD_getElem?, Array.getElem?_setIfInBounds, if_pos rfl, if_pos (by rw [r2]; exact h3)]; rfl
  exact ⟨hcell, hq', by rw [r2]; exact h3, fun k ok hk hku => h4 k ok hk (unset hku), fun k ok hk hkD hku => h5 k ok hk hkD (unset hku)⟩
theorem ev_adds {x : Operand} : ∀ {B : List Pb}, (∀ b ∈ B, x ≠ .tmp b.d) → ev (adds e B) x = ev e x
  | [], _ => rfl
  | q :: B, h => (ev_add (h q (List.mem_cons_self ..))).trans (ev_adds fun b hb => h b (List.mem_cons_of_mem _ hb))
theorem slot_adds {n : Nat} : ∀ {B : List Pb}, (∀ b ∈ B, n ≠ b.d) → (adds e B).slot n = e.slot n
  | [], _ => rfl
  | q :: B, h => (slot_add (h q (List.mem_cons_self ..))).trans (slot_adds fun b hb => h b (List.mem_cons_of_mem _ hb))
theorem box_adds {n : Nat} : ∀ {B : List Pb}, (∀ b ∈ B, n ≠ b.d) → (adds e B).box (.s n) = e.box (.s n)
  | [], _ => rfl
  | q :: B, h => (box_add (fun hh => h q (List.mem_cons_self ..) (by injection hh))).trans (box_adds fun b hb => h b (List.mem_cons_of_mem _ hb))
theorem at_adds {n : Pl} : ∀ {B : List Pb}, (∀ b ∈ B, n ≠ .t b.d ∧ ∀ o, n ≠ .b (.s b.d) o) → (adds e B).at_ n = e.at_ n
  | [], _ => rfl
  | q :: B, h => (at_add (h q (List.mem_cons_self ..)).1 (h q (List.mem_cons_self ..)).2).trans (at_adds fun b hb => h b (List.mem_cons_of_mem _ hb))
theorem len_adds : ∀ (B : List Pb), (adds e B).t.length = e.t.length
  | [] => rfl
  | q :: B => (List.length_set ..).trans (len_adds B)
/-- A load's block, where stores to other boxes may come first. -/
theorem load_block (h : St M e a w) {x : Operand} {B : List Pb} (hP : Pend c ops e B) (hx : ∀ b ∈ B, x ≠ .tmp b.d) (hf : fixedB (adds e B) x = true) :
    ∃ g, blockOf (a.eval x) = some g ∧ g < w.heap.size ∧ ∀ q, (∀ b ∈ B, q ≠ b.d) → otherB (adds e B) x q = true → ∃ g', blockOf (a.tmps.getD q undef) = some g' ∧ g' ≠ g := by
  have nb : ∀ {p : PV} {d off : Nat}, (∀ b ∈ B, NoRef b.d p) → p = .bx d off → ∀ b ∈ B, d ≠ b.d := fun {p d off} hn hp b hb hh => (hn b hb).2 off (by rw [hp, hh])
  have hq : ∀ {q : Nat}, (∀ b ∈ B, q ≠ b.d) → otherB (adds e B) x q = true → ∃ d' off', e.slot q = .bx d' off' ∧ e.box (.s d') ≠ [] ∧ (match ev e x with | .bx d _ => !Nat.beq d d' | .at_ _ _ => true | .ac _ _ => true | .ra _ _ _ => true | _ => false) = true ∧ blockOf (a.tmps.getD q undef) = some (M.β (.s d')) := fun {q} hqB ho => by
    unfold otherB at ho
    rw [slot_adds hqB, ev_adds hx] at ho
    split at ho
    · rename_i d' off' hs
      have hd' : ∀ b ∈ B, d' ≠ b.d := nb (fun b hb => (hP.cl b hb).slot q) hs
      rw [box_adds hd', Bool.and_eq_true] at ho
      refine ⟨d', off', hs, fun h0 => by rw [h0] at ho; exact absurd ho.1 (by simp), ho.2, ?_⟩
      have hp := h.pr (.t q)
      rw [show e.at_ (.t q) = _ from hs] at hp
      rw [show a.tmps.getD q undef = _ from hp]; rfl
    · cases ho
  unfold fixedB at hf
  rw [ev_adds hx] at hf
  split at hf
  · rename_i d off hev
    have hd : ∀ b ∈ B, d ≠ b.d := nb (fun b hb => (hP.cl b hb).ev x) hev
    rw [box_adds hd] at hf
    have hne : e.box (.s d) ≠ [] := fun h0 => by rw [h0] at hf; cases hf
    obtain ⟨_, ⟨C, T, b2, _⟩, _⟩ := h.bk (.s d) hne
    obtain ⟨n0, hp⟩ := ev_pr h hev
    have hv : a.eval x = .pointer (some ⟨M.β (.s d), off, none⟩) := hp
    refine ⟨M.β (.s d), by rw [hv]; rfl, (Array.getElem?_eq_some_iff.1 b2).1, fun q hqB ho => ?_⟩
    obtain ⟨d', off', _, k2, k3, k4⟩ := hq hqB ho
    rw [hev] at k3
    refine ⟨_, k4, fun hh => ?_⟩
    have := h.box_inj k2 hne hh
    injection this with this
    subst this
    have k3 : (!Nat.beq d' d') = true := k3
    rw [Nat.beq_refl] at k3; cases k3
  · rename_i k y hev
    obtain ⟨n0, g, of, cs, hv, hh, hr⟩ := ev_pr h hev
    have hpos : 0 < cs.length := by rw [hr.len]; simpa using hf
    have hG := (hh 0 hpos).1
    refine ⟨g, by rw [hv]; rfl, h.cb _ _ hG, fun q hqB ho => ?_⟩
    obtain ⟨d', off', _, k2, _, k4⟩ := hq hqB ho
    refine ⟨_, k4, fun hh2 => ?_⟩
    exact (h.bk (.s d') k2).2.2.2 _ (hh2 ▸ hG)
  · rename_i ps of hev
    obtain ⟨n0, hp⟩ := ev_pr h hev
    have hp : CR M.G w (.ac ps of) (a.eval x) := hp
    rw [CR] at hp
    obtain ⟨g, vs, hv, hh, hcr⟩ := hp
    have hpos : 0 < vs.length := by
      have := hcr.len
      cases ps with
      | nil => cases hf
      | cons p ps => simp at this; omega
    have hG := (hh 0 hpos).1
    refine ⟨g, by rw [hv]; rfl, h.cb _ _ hG, fun q hqB ho => ?_⟩
    obtain ⟨d', off', _, k2, _, k4⟩ := hq hqB ho
    refine ⟨_, k4, fun hh2 => ?_⟩
    exact (h.bk (.s d') k2).2.2.2 _ (hh2 ▸ hG)
  · rename_i n j path hev
    have hn : ∀ b ∈ B, n ≠ .t b.d ∧ ∀ o, n ≠ .b (.s b.d) o := fun b hb => by
      have := (hP.cl b hb).ev x
      rw [hev] at this
      exact this.1 n rfl
    rw [at_adds hn] at hf
    split at hf
    · rename_i k xs hat
      obtain ⟨n0, hp⟩ := ev_pr h hev
      obtain ⟨j0, j1, g, cap, q, hpl, _, hv⟩ := hp.2 k xs hat
      have hown : OwnD M w n true k xs (pv M a w n) := by have := h.pr n; rw [hat] at this; exact this
      obtain ⟨u, css, _, how, hgi⟩ := hown
      have hgo : (pv M a w n).ownBlock = some g := by rw [hpl]; rfl
      refine ⟨g, by rw [hv]; rfl, (how.lt g hgo).2, fun q' hqB ho => ?_⟩
      obtain ⟨d', off', _, k2, _, k4⟩ := hq hqB ho
      refine ⟨_, k4, fun hh2 => ?_⟩
      have h1 := (hgi g hgo).1.1
      have h2 := (h.bk (.s d') k2).2.2.1
      rw [hh2, h1] at h2
      cases h2
    · cases hf
  · cases hf
def PlanOK (ro : Option Nat) (c : Cx) (P : Program) (ops : Array Oper) (pr : Nat → List Ld) (Q : Exit → Act → World → Prop) (L J : World → Prop) (G0 : Com) (K : Kt ρ) (r : ρ) (n m : Nat) : Prop :=
  ∀ (A done : List Nat) (B : List Pb) (listed : Array Bool) (M : Mem) (e : Env) (a : Act) (w : World) (Y : Yd ρ), YieldOK P L J G0 Y r → B.length = m → Lists ops listed (less done B) → (∀ q ∈ B, q.i ∈ A ∧ q.i ∈ done ∧ q.i ∈ ready ops (less done B)) → Pend c ops e B →
      ∀ l, plan c ops n A done = some l → G0.le M.G → LW J M w → St M e a w → LW L M w → stepsK c Y ops pr l (adds e B) K = some r → Then (Calm c ops) M w K r Q → wpAnyE ro c P ops pr Q (n + m) listed a w
theorem pickB {pr : Nat → List Ld} {L J : World → Prop} {G0 : Com} {n m : Nat} {A done : List Nat} {B : List Pb} {listed : Array Bool} (hc : CxOK P L c) (hY : YieldOK P L J G0 Y r) (ihm : PlanOK ro c P ops pr Q L J G0 K r n m) (hm : B.length = m + 1) (hL : Lists ops listed (less done B))
    (hB : ∀ q ∈ B, q.i ∈ A ∧ q.i ∈ done ∧ q.i ∈ ready ops (less done B)) (hP : Pend c ops e B) {l : List Stp} (hp : plan c ops n A done = some l) (hG0 : G0.le M.G) (hJ : LW J M w) (h : St M e a w) (hW : LW L M w) (hk : stepsK c Y ops pr l (adds e B) K = some r) (hT : Then (Calm c ops) M w K r Q)
    {b : Pb} (hb : b ∈ B) : wpOpIn (FW ro) 0 P ops Q b.i (fun a' w' => ((∀ o, ops[b.i]? = some o → Recd c (Zof ops listed) (pr b.i) o a w a' w') ∧ wpAnyE ro c P ops pr Q (n + m) (listed.setIfInBounds b.i true) a' w')) a w := by
  obtain ⟨B1, B2, rfl⟩ := List.append_of_mem hb
  have hbd := (hB b hb).2.1
  have hlt : b.i < ops.size := by
    obtain ⟨o, t, k, q1, _⟩ := hP.op b hb
    exact (Array.getElem?_eq_some_iff.1 q1).1
  have hsub : ∀ q ∈ B1 ++ B2, q ∈ B1 ++ b :: B2 := fun q hq => (List.mem_append.1 hq).elim (fun h => List.mem_append_left _ h) (fun h => List.mem_append_right _ (List.mem_cons_of_mem _ h))
  have hne : ∀ q ∈ B1 ++ B2, q.i ≠ b.i := by
    intro q hq hh
    have hd : q.d ≠ b.d := by
      have := hP.nd
      rw [List.pairwise_append] at this
      obtain ⟨h1, h2, h3⟩ := this
      have h2 := List.pairwise_cons.1 h2
      rcases List.mem_append.1 hq with hq | hq
      · exact h3 q hq b (List.mem_cons_self ..)
      · exact (h2.1 q hq).symm
    obtain ⟨o, _, _, q1, _, _, _, q5, _⟩ := hP.op b hb
    obtain ⟨o', _, _, q1', _, _, _, q5', _⟩ := hP.op q (hsub q hq)
    rw [hh, q1] at q1'
    injection q1' with q1'
    subst q1'
    rw [q5] at q5'
    injection q5' with q5'
    exact hd q5'.symm
  have hmem : ∀ j, j ∈ less done (B1 ++ B2) ↔ j ∈ b.i :: less done (B1 ++ b :: B2) := fun j => by
    rw [List.mem_cons, mem_less, mem_less]
    constructor
    · rintro ⟨h1, h2⟩
      by_cases hj : j = b.i
      · exact .inl hj
      · refine .inr ⟨h1, fun q hq => ?_⟩
        rcases List.mem_append.1 hq with hq | hq
        · exact h2 q (List.mem_append_left _ hq)
        · rcases List.mem_cons.1 hq with rfl | hq
          · exact fun hh => hj hh.symm
          · exact h2 q (List.mem_append_right _ hq)
    · rintro (rfl | ⟨h1, h2⟩)
      · exact ⟨hbd, hne⟩
      · exact ⟨h1, fun q hq => h2 q (hsub q hq)⟩
  refine pick_wp (F := fun e => stepsK c Y ops pr l e K) hc hY hP hG0 hJ h hW hk hT fun {M' e' a' w'} h1 h2 h3 h4 h5 h6 h7 => ?_
  refine ihm A done (B1 ++ B2) _ M' e' a' w' Y hY (by simp at hm ⊢; omega) ((hL.set hlt).congr hmem) (fun q hq => ?_) h1 l hp h2 h3 h4 h5 h6 h7
  obtain ⟨g1, g2, g3⟩ := hB q (hsub q hq)
  exact ⟨g1, g2, ready_more g3 (fun j hj => (hmem j).2 (List.mem_cons_of_mem _ hj)) (fun hh => (mem_less.1 hh).2 q hq rfl)⟩
/-- Whatever may come up: a box that was taken ahead, or what the plan may pick from. -/
theorem ready_less {done : List Nat} {B : List Pb} {j : Nat} (h : j ∈ ready ops (less done B)) : (∃ b ∈ B, b.i = j) ∨ j ∈ ready ops done := by
  by_cases hb : ∃ b ∈ B, b.i = j
  · exact .inl hb
  · refine .inr (ready_more h (fun x hx => (mem_less.1 hx).1) fun hh => (mem_ready'.1 h).1 (mem_less.2 ⟨hh, fun q hq hqj => hb ⟨q, hq, hqj⟩⟩))
theorem less_nil (done : List Nat) : less done [] = done := by unfold less; exact List.filter_eq_self.2 fun _ _ => rfl
theorem plan0 {A done : List Nat} {l : List Stp} (h : plan c ops 0 A done = some l) : ready ops done = [] ∧ l = [] := by
  simp only [plan] at h
  split at h
  · injection h with h; exact ⟨by assumption, h.symm⟩
  · cases h
/-- Nothing is left but boxes. -/
theorem plan_end {pr : Nat → List Ld} {L J : World → Prop} {G0 : Com} (hc : CxOK P L c) {n : Nat} (hn : ∀ done A l, plan c ops n A done = some l → ready ops done = [] → l = []) {m : Nat} (ihm : ∀ m', m = m' + 1 → PlanOK ro c P ops pr Q L J G0 K r n m')
    {A done : List Nat} {B : List Pb} {listed : Array Bool} (hY : YieldOK P L J G0 Y r) (hr : ready ops done = []) (hm : B.length = m) (hL : Lists ops listed (less done B)) (hB : ∀ q ∈ B, q.i ∈ A ∧ q.i ∈ done ∧ q.i ∈ ready ops (less done B)) (hP : Pend c ops e B)
    {l : List Stp} (hp : plan c ops n A done = some l) (hG0 : G0.le M.G) (hJ : LW J M w) (h : St M e a w) (hW : LW L M w) (hk : stepsK c Y ops pr l (adds e B) K = some r) (hT : Then (Calm c ops) M w K r Q) : wpAnyE ro c P ops pr Q (n + m) listed a w := by
  obtain rfl := hn done A l hp hr
  cases m with
  | zero =>
    obtain rfl := List.eq_nil_of_length_eq_zero hm
    rw [less_nil] at hL
    have hq : Q .normal a w := hT M e a w (Mem.Le.refl M) h (Bel.refl _ _) (fun _ => Ext.refl w) hk
    cases n with
    | zero => exact ⟨by rw [hL.ready]; exact hr, hq⟩
    | succ n => exact ⟨fun _ => hq, by rw [hL.ready, hr]; intro i hi; cases hi⟩
  | succ m =>
    refine ⟨fun h0 => ?_, fun j hj => ?_⟩
    · obtain ⟨b, hb⟩ := List.exists_mem_of_length_pos (l := B) (by omega)
      have := (hB b hb).2.2
      rw [← hL.ready, h0] at this; cases this
    · rw [hL.ready] at hj
      rcases ready_less hj with ⟨b, hb, rfl⟩ | hj
      · exact pickB hc hY (ihm m rfl) hm hL hB hP hp hG0 hJ h hW hk hT hb
      · rw [hr] at hj; cases hj
theorem tk_sound (hc : ∀ t k, c.kd t = some k → Fits P k t) (he : ∀ t k, c.eq t = true → c.kd t = some k → EqOK P k t) (h : St M e a w) (hr : reads o = true) (hk : tkK c o e K = some r) :
    ∃ M' e0 v p n0, M.Le M' ∧ St M' e0 a w ∧ isO p = false ∧ PR M' w e0.at_ (pv M' a w) n0 p v ∧ (∀ w2, Sees o a w w2 → (execOp a.eval o).run P w2 = .ok (.value v) w2) ∧ K (e0.putD o.dst p) = some r := by
  have plain : rdK c o e (fun p => K (e.putD o.dst p)) = some r → ∃ M' e0 v p n0, M.Le M' ∧ St M' e0 a w ∧ isO p = false ∧ PR M' w e0.at_ (pv M' a w) n0 p v ∧ (∀ w2, Sees o a w w2 → (execOp a.eval o).run P w2 = .ok (.value v) w2) ∧ K (e0.putD o.dst p) = some r := fun hh => by
    obtain ⟨v, p, n0, q1, q2, q3, q4⟩ := rd_sound hc he h hh
    exact ⟨M, e, v, p, n0, Mem.Le.refl M, h, q1, q2, q3, q4⟩
  unfold tkK at hk
  split at hk
  · rename_i t ht
    unfold reads at hr; rw [ht] at hr; cases hr
  · rename_i t x ho
    split at hk
    · rename_i k d off hkd hq
      split at hk
      · rename_i hag
        obtain ⟨y, hy, hk'⟩ := Option.bind_eq_some_iff.1 hk
        clear hk
        obtain ⟨G', cs, g1, _, g2, g3, g4⟩ := box_rep h hy
        obtain ⟨n0, hp⟩ := ev_pr h hq
        have hv : a.eval x = .pointer (some ⟨M.β (.s d), off, none⟩) := hp
        refine ⟨{ M with G := G' }, _, valOf k cs, _, .t 0, ⟨rfl, g1⟩, g2, isO_ofDen _ _, PR.ofDen ⟨cs, g3, rfl⟩, fun w2 hs => ?_, hk'⟩
        simp [execOp, ho, hv, Instr.loadAt, Instr.sureAddr, run_loadVar_rep (hc _ _ hkd) g3 fun j hj => hs.cell ho hv (g4 j hj)]
      · exact plain hk
    · exact plain hk
  · exact plain hk
theorem unwanted_adds {B : List Pb} (h : ∀ q ∈ B, Off ops o q.d) : unwanted ops (adds e B) o = unwanted ops e o := by
  unfold unwanted
  split
  · rename_i j want hg
    split
    · rename_i d hd
      rw [slot_adds fun b hb hh => (h b hb).2.2 j want hg (by rw [hd, hh])]
    · rfl
  · rfl
theorem unwanted_spec (h : St M e a w) (hu : unwanted ops e o = true) : Region.wanted o (yielded ops a.tmps) = false := by
  have hk : guardK ops o (fun _ _ => (none : Option Unit)) e (fun _ => some ()) = some () := by
    unfold unwanted at hu
    unfold guardK
    cases hg : o.guard with
    | none => rw [hg] at hu; cases hu
    | some q =>
      obtain ⟨j, want⟩ := q
      rw [hg] at hu
      simp only at hu ⊢
      cases hd : (ops[j]?).bind (·.dst) with
      | none => rw [hd] at hu; cases hu
      | some d =>
        rw [hd] at hu
        simp only at hu ⊢
        cases hx : e.slot d with
        | b x => rw [hx] at hu; cases x <;> cases want <;> first | rfl | cases hu
        | tup ps => rfl
        | _ => rw [hx] at hu; cases hu
  rcases guard_cases h hk with ⟨_, h2⟩ | ⟨h1, _⟩
  · cases h2
  · exact h1
theorem pick_spec {A done rs : List Nat} {s : Stp} (h : pick c ops A done rs = some s) :
    (∃ i js, s = ⟨i, 1, js, A, done⟩ ∧ i ∈ rs ∧ free c ops done i = some js ∧ (A.all fun a => !dep ops i a && apartI ops i a) = true) ∨
    ∃ i, s = ⟨i, 2, [], A, done⟩ ∧ i ∈ rs ∧ ahead c ops i = true ∧ (A.all fun a => !dep ops i a && apartI ops i a) = true := by
  have f : ∀ {g : List Nat → Bool} {i : Nat}, i ∈ rs → (match free c ops done i with
      | some js => if (g js && A.all fun a => !dep ops i a && apartI ops i a) = true then some (⟨i, 1, js, A, done⟩ : Stp) else none
      | none => none) = some s → ∃ i js, s = ⟨i, 1, js, A, done⟩ ∧ i ∈ rs ∧ free c ops done i = some js ∧ (A.all fun a => !dep ops i a && apartI ops i a) = true := fun {g i} hi hh => by
    split at hh
    · rename_i js hjs
      split at hh
      · rename_i hg
        injection hh with hh
        rw [Bool.and_eq_true] at hg
        exact ⟨i, js, hh.symm, hi, hjs, hg.2⟩
      · cases hh
    · cases hh
  have fs : ∀ {F : Nat → Option Stp}, rs.findSome? F = some s → ∃ i, i ∈ rs ∧ F i = some s := fun hh => by
    obtain ⟨i, hi, hF⟩ := List.exists_of_findSome?_eq_some hh
    exact ⟨i, hi, hF⟩
  unfold pick at h
  simp only at h
  rcases Option.or_eq_some_iff.1 h with h | ⟨_, h⟩
  · obtain ⟨i, hi, h⟩ := fs h; exact .inl (f hi h)
  rcases Option.or_eq_some_iff.1 h with h | ⟨_, h⟩
  · obtain ⟨i, hi, h⟩ := fs h; exact .inl (f hi h)
  rcases Option.or_eq_some_iff.1 h with h | ⟨_, h⟩
  · obtain ⟨i, hi, h⟩ := fs h
    split at h
    · rename_i hg
      injection h with h
      rw [Bool.and_eq_true] at hg
      exact .inr ⟨i, h.symm, hi, hg.1, hg.2⟩
    · cases h
  · obtain ⟨i, hi, h⟩ := fs h; exact .inl (f (g := fun _ => true) hi h)
theorem h_adds : ∀ (B : List Pb), (adds e B).h = e.h
  | [] => rfl
  | q :: B => h_adds B
theorem reads_nhot (hr : reads o = true) : hotB c o = false := by
  unfold hotB
  split
  · rename_i q hq
    split
    · rename_i f hf; unfold reads at hr; rw [hq] at hr; simp only [hf] at hr; cases hr
    · rfl
  · rfl
theorem ptr_det {G : Com} {x : Option (Nat × Nat)} {v v' : Value} (h : RepV G w .ptr x v) (h' : RepV G w .ptr x v') : v = v' := by
  obtain ⟨cs, h1, rfl⟩ := h
  obtain ⟨cs', h1', rfl⟩ := h'
  rcases h1 with ⟨rfl, rfl⟩ | ⟨i, off, rfl, _, rfl⟩ <;> rcases h1' with ⟨h2, rfl⟩ | ⟨i', off', h2, _, rfl⟩
  · rfl
  · cases h2
  · cases h2
  · injection h2 with h2; injection h2 with h2 h3; subst h2; subst h3; rfl
/-- What was loaded is still there. -/
theorem echo_cell {l : Ld} (h : St M e a w) (he : echoB c e l = true) {g off : Nat} (hq : a.tmps.getD l.q undef = .pointer (some ⟨g, off, none⟩)) : w.cell? ⟨g, off, none⟩ = some (a.tmps.getD l.d undef) := by
  have key : ∀ {k : Kd} {x : Option (Nat × Nat)} {y : k.den}, e.slot l.q = .p x → (x.bind fun z => hcell k e.h z.1 z.2) = some y → k.isAgg = false → ∃ v, w.cell? ⟨g, off, none⟩ = some v ∧ ∃ n, PR M w e.at_ (pv M a w) n (ofDen k y) v := fun {k x y} hx hy hag => by
    obtain ⟨⟨i, o'⟩, rfl, hy⟩ := Option.bind_eq_some_iff.1 hy
    have hp := h.pr (.t l.q)
    rw [show e.at_ (.t l.q) = _ from hx] at hp
    obtain ⟨hv, _⟩ := ptr_at h hp
    have hv : a.tmps.getD l.q undef = _ := hv
    rw [hq] at hv
    injection hv with hv; injection hv with hv; injection hv with hv1 hv2
    subst hv1; subst hv2
    have hat := hcell_at hy
    obtain ⟨v, hc, hpv⟩ := st_cell h (d := .h i) (off := off) (by
      show e.at_ (.b (.h i) off) ≠ _
      intro hh; rw [hh] at hat
      cases k <;> simp [toDen] at hat)
    have hpr := h.pr (.b (.h i) off)
    rw [hpv] at hpr
    exact ⟨v, hc, .t 0, PR.ofDen (hpr.toDen hat)⟩
  unfold echoB at he
  have hd := h.pr (.t l.d)
  split at he
  · rename_i x y hk hx hy
    obtain ⟨v, hc, n, hp⟩ := key (k := .ptr) hx (by simpa [sameP] using he) rfl
    rw [show e.at_ (.t l.d) = _ from hy] at hd
    rw [hc]; exact congrArg some (ptr_det hp hd)
  · rename_i k x k' y hk hx hy
    rw [Bool.and_eq_true] at he
    obtain ⟨v, hc, n, hp⟩ := key (k := .int k) hx (by simpa [sameI] using he.2) rfl
    have hkk : k' = k := by simpa using he.1
    subst hkk
    rw [show e.at_ (.t l.d) = _ from hy] at hd
    rw [hc, show v = _ from hp, show a.tmps.getD l.d undef = _ from hd]
  · rename_i x y hk hx hy
    obtain ⟨v, hc, n, hp⟩ := key (k := .bool) hx (by simpa [sameB] using he) rfl
    rw [show e.at_ (.t l.d) = _ from hy] at hd
    rw [hc, show v = _ from hp, show a.tmps.getD l.d undef = _ from hd]
  · cases he
/-- A load of one cell of the heap's. -/
theorem load_cell (hc : ∀ t k, c.kd t = some k → Fits P k t) (h : St M e a w) {t q : Nat} (ho : o.op = .load t (.tmp q)) (hp : ptrAt e q = true) (hk1 : oneK (c.kd t) = true) (hk : tkK c o e K = some r) :
    ∃ g off v, a.tmps.getD q undef = .pointer (some ⟨g, off, none⟩) ∧ w.cell? ⟨g, off, none⟩ = some v ∧ ∀ w2, w2.cell? ⟨g, off, none⟩ = some v → (execOp a.eval o).run P w2 = .ok (.value v) w2 := by
  unfold ptrAt at hp
  split at hp
  · rename_i x hx
    have hev : ev e (.tmp q) = .p x := hx
    cases hkd : c.kd t with
    | none => rw [hkd] at hk1; cases hk1
    | some k =>
      have hag : k.isAgg = false ∧ (∀ k0, k ≠ .list k0) := by rw [hkd] at hk1; cases k <;> simp [oneK, Kd.isAgg] at hk1 ⊢
      have hk' : rdK c o e (fun p => K (e.putD o.dst p)) = some r := by
        unfold tkK at hk
        rw [ho] at hk
        simp only [hkd, hev] at hk
        exact hk
      simp only [rdK, ho, hkd, hev] at hk'
      obtain ⟨⟨i, off⟩, hz, hk'⟩ := Option.bind_eq_some_iff.1 hk'
      subst hz
      obtain ⟨n0, hpr⟩ := ev_pr h hev
      obtain ⟨hv, _⟩ := ptr_at h hpr
      have hv : a.tmps.getD q undef = _ := hv
      have hun : e.cell (.h i) off ≠ .un := by
        have key : ∀ {k' : Kd} {f : k'.den → Option ρ}, (hcell k' e.h i off).bind f = some r → e.at_ (.b (.h i) off) ≠ .un := fun {k' f} hh => by
          obtain ⟨y, hy, _⟩ := Option.bind_eq_some_iff.1 hh
          have hat := hcell_at hy
          intro hh; rw [hh] at hat
          cases k' <;> simp [toDen] at hat
        cases k with
        | ptr => simp only [Kd.isAgg, Bool.false_eq_true, if_false] at hk'; split at hk'; cases hk'; exact key hk'
        | int k => simp only [Kd.isAgg, Bool.false_eq_true, if_false] at hk'; split at hk'; cases hk'; exact key hk'
        | bool => simp only [Kd.isAgg, Bool.false_eq_true, if_false] at hk'; split at hk'; cases hk'; exact key hk'
        | _ => rw [hkd] at hk1; cases hk1
      obtain ⟨v, hcl, _⟩ := st_cell h hun
      refine ⟨_, off, v, hv, hcl, fun w2 hw2 => ?_⟩
      have hv' : a.eval (.tmp q) = .pointer (some ⟨M.β (.h i), off, none⟩) := hv
      simp [execOp, ho, hv', Instr.loadAt, Instr.sureAddr, run_loadVar_one (hc _ _ hkd) hag.1 hw2]
  · cases hp
theorem any_wp {pr : Nat → List Ld} {L J : World → Prop} {G0 : Com} (hc : CxOK P L c) (hsel : ∀ (j : Nat) (o : Oper), ops[j]? = some o → (∀ cs b, o.op ≠ .select cs b) ∧ ∀ q, o.op ≠ .defer q) (hQ : ∀ ch a w, ¬ Q (.panic ch) a w) :
    ∀ (n m : Nat), PlanOK ro c P ops pr Q L J G0 K r n m := by
  intro n
  induction n with
  | zero =>
    have main : ∀ m, (∀ m', m = m' + 1 → PlanOK ro c P ops pr Q L J G0 K r 0 m') → PlanOK ro c P ops pr Q L J G0 K r 0 m := by
      intro m ihm A done B listed M e a w Y hY hm hL hB hP l hp hG0 hJ h hW hk hT
      exact plan_end hc (fun done A l hp _ => (plan0 hp).2) ihm hY (plan0 hp).1 hm hL hB hP hp hG0 hJ h hW hk hT
    intro m
    induction m with
    | zero => exact main 0 fun m' hm' => by cases hm'
    | succ m ihm => exact main (m + 1) fun m' hm' => by cases hm'; exact ihm
  | succ n ih =>
    have main : ∀ m, (∀ m', m = m' + 1 → PlanOK ro c P ops pr Q L J G0 K r (n + 1) m') → PlanOK ro c P ops pr Q L J G0 K r (n + 1) m := by
      intro m ihm A done B listed M e a w Y hY hm hL hB hP l hp hG0 hJ h hW hk hT
      by_cases hr0 : ready ops done = []
      · exact plan_end hc (fun done A l hp hr => by simp only [plan, hr] at hp; injection hp with hp; exact hp.symm) ihm hY hr0 hm hL hB hP hp hG0 hJ h hW hk hT
      have hrd := hL.ready
      have hpk : ∀ b ∈ B, ∃ m', m = m' + 1 := fun b hb => ⟨m - 1, by have := List.length_pos_of_mem hb; omega⟩
      have hS : ∀ {i : Nat}, i ∉ done → ∀ j, j ∈ less (i :: done) B ↔ j ∈ i :: less done B := fun {i} hi j => by
        rw [List.mem_cons, mem_less, mem_less, List.mem_cons]
        constructor
        · rintro ⟨h1 | h1, h2⟩
          · exact .inl h1
          · exact .inr ⟨h1, h2⟩
        · rintro (rfl | ⟨h1, h2⟩)
          · exact ⟨.inl rfl, fun q hq hh => hi (hh ▸ (hB q hq).2.1)⟩
          · exact ⟨.inr h1, h2⟩
      have hB' : ∀ {i : Nat}, i ∉ done → ∀ q ∈ B, q.i ∈ i :: done ∧ q.i ∈ ready ops (less (i :: done) B) := fun {i} hi q hq => by
        obtain ⟨g1, g2, g3⟩ := hB q hq
        exact ⟨List.mem_cons_of_mem _ g2, ready_more g3 (fun j hj => ((hS hi j).2 (List.mem_cons_of_mem _ hj))) fun hh => (mem_less.1 hh).2 q hq rfl⟩
      have hoff : ∀ {i : Nat} {o : Oper} {q : Pb}, q ∈ B → ops[i]? = some o → apartI ops i q.i = true → Off ops o q.d := fun {i o q} hq hi hap => by
        obtain ⟨oq, _, _, q1, _, _, _, q5, _⟩ := hP.op q hq
        unfold apartI at hap
        rw [hi, q1] at hap
        exact off_of_apart hap q5
      have hp0 := hp
      have hk0 := hk
      simp only [plan] at hp
      split at hp
      · rename_i hr; exact absurd hr hr0
      · rename_i i hr
        split at hp
        · rename_i hA
          obtain ⟨l', hl', rfl⟩ := Option.map_eq_some_iff.1 hp
          have hid : i ∉ done := (mem_ready'.1 (hr ▸ List.mem_singleton_self i : i ∈ ready ops done)).1
          rw [show n + 1 + m = (n + m) + 1 by omega]
          refine ⟨fun h0 => ?_, fun j hj => ?_⟩
          · rw [hrd] at h0
            cases B with
            | nil => rw [less_nil] at h0; exact absurd h0 hr0
            | cons b B => have := (hB b (List.mem_cons_self ..)).2.2; rw [h0] at this; cases this
          · rw [hrd] at hj
            by_cases hjb : ∃ b ∈ B, b.i = j
            · obtain ⟨b, hb, rfl⟩ := hjb
              obtain ⟨m', rfl⟩ := hpk b hb
              rw [show n + (m' + 1) = n + 1 + m' by omega]
              exact pickB hc hY (ihm m' rfl) hm hL hB hP hp0 hG0 hJ h hW hk0 hT hb
            have hjr : j ∈ ready ops done := (ready_less hj).resolve_left hjb
            rw [hr] at hjr
            obtain rfl : j = i := by simpa using hjr
            simp only [stepsK, someOp] at hk
            split at hk
            · rename_i o hi
              have hlt := (Array.getElem?_eq_some_iff.1 hi).1
              have hnd : ∀ q ∈ B, dep ops j q.i = false := fun q hq => dep_of hj fun hh => (mem_less.1 hh).2 q hq rfl
              have hap : ∀ q ∈ B, Off ops o q.d ∧ Bare q.z ∧ Cln q.d e := fun q hq => by
                have := List.all_eq_true.1 hA q.i (hB q hq).1
                rw [hnd q hq, Bool.false_or] at this
                exact ⟨hoff hq hi this, hP.bare q hq, hP.cl q hq⟩
              simp only [show Nat.beq 0 0 = true from rfl, if_true] at hk
              rw [guard_adds (fun h1 h2 h3 h4 => op_off h1 h2 h3 h4) B _ hap hP.nd] at hk
              refine guard_wp hc hY hG0 hJ h hW hi hk fun v M' e' w' h1 h2 h3 h4 h5 => ?_
              obtain ⟨hcl, hk'⟩ := Kadd_some B h5 hP.bare hP.nd
              cases hcond : (!hotB c o || (pr j).all (leftB c ops A o (adds e B) (adds e' B))) with
              | false => rw [hcond] at hk'; cases hk'
              | true =>
              rw [hcond] at hk'
              have hk' : stepsK c Y ops pr l' (adds e' B) K = some r := hk'
              have noB : ∀ {q : Nat}, (∀ k ∈ A, dstIs ops k q = false) → ∀ b ∈ B, q ≠ b.d := fun {q} p1 b hb hqb => by
                have := p1 b.i (hB b hb).1
                obtain ⟨ob, _, _, z1, _, _, _, z5, _⟩ := hP.op b hb
                unfold dstIs at this
                rw [z1] at this
                simp [z5, hqb] at this
              refine ⟨fun o' ho' => ?_, ?_⟩
              · rw [hi] at ho'; injection ho' with ho'; subst ho'
                refine Recd.of_eff h4 (fun hh l hl hlm g hg => ?_) fun hh l hl hlm g off hg => ?_
                · rw [hh] at hcond
                  simp only [Bool.not_true, Bool.false_or, List.all_eq_true] at hcond
                  have hlf := hcond l hl
                  unfold leftB at hlf
                  rw [hlm] at hlf
                  simp only [cond_false, Bool.and_eq_true, List.all_eq_true, Bool.not_eq_true'] at hlf
                  obtain ⟨p1, p2⟩ := hlf
                  have hqB := noB p1
                  have key : ∀ g, ((∃ d, e.box (.s d) ≠ [] ∧ M.β (.s d) = g) ∨ ∃ n, M.G g n) → w'.heap[g]? = w.heap[g]? := fun g hg => by
                    unfold hotB at hh
                    split at hh
                    · rename_i qq hqq
                      split at hh
                      · rename_i f hf
                        exact h4.2.2.2 qq f hqq hf e h g hg
                      · cases hh
                    · cases hh
                  unfold boxAt at p2
                  rw [slot_adds hqB] at p2
                  split at p2
                  · rename_i d off hs
                    have hd : ∀ b ∈ B, d ≠ b.d := fun b hb hh => ((hP.cl b hb).slot l.q).2 off (by rw [hs, hh])
                    rw [box_adds hd] at p2
                    have hne : e.box (.s d) ≠ [] := fun h0 => by rw [h0] at p2; cases p2
                    have hp := h.pr (.t l.q)
                    rw [show e.at_ (.t l.q) = _ from hs] at hp
                    rw [show a.tmps.getD l.q undef = _ from hp] at hg
                    injection hg with hg
                    exact key g (.inl ⟨d, hne, hg⟩)
                  · rename_i k y hs
                    have hp := h.pr (.t l.q)
                    rw [show e.at_ (.t l.q) = _ from hs] at hp
                    obtain ⟨g', of, cs, hv, hho, hr⟩ := hp
                    have hpos : 0 < cs.length := by rw [hr.len]; simpa using p2
                    rw [show a.tmps.getD l.q undef = _ from hv] at hg
                    injection hg with hg
                    exact key g (.inr ⟨_, hg ▸ (hho 0 hpos).1⟩)
                  · rename_i ps of hs
                    have hp := h.pr (.t l.q)
                    rw [show e.at_ (.t l.q) = _ from hs] at hp
                    have hp : CR M.G w (.ac ps of) (a.tmps.getD l.q undef) := hp
                    rw [CR] at hp
                    obtain ⟨g', vs, hv, hho, hcr⟩ := hp
                    have hpos : 0 < vs.length := by
                      have := hcr.len
                      cases ps with
                      | nil => cases p2
                      | cons p ps => simp at this; omega
                    rw [hv] at hg
                    injection hg with hg
                    exact key g (.inr ⟨_, hg ▸ (hho 0 hpos).1⟩)
                  · cases p2
                · rw [hh] at hcond
                  simp only [Bool.not_true, Bool.false_or, List.all_eq_true] at hcond
                  have hlf := hcond l hl
                  unfold leftB at hlf
                  rw [hlm] at hlf
                  simp only [cond_true, Bool.and_eq_true, List.all_eq_true, Bool.not_eq_true', bne_iff_ne, ne_eq] at hlf
                  obtain ⟨p1, ⟨p2, p3⟩, p4⟩ := hlf
                  have hec : echoB c e' l = true := by
                    unfold echoB at p4 ⊢
                    rw [slot_adds (noB p1), slot_adds (noB p2), h_adds] at p4
                    exact p4
                  exact echo_cell h2 hec (by rw [put_getD a _ v l.q p3]; exact hg)
              ·
                refine ih m _ (j :: done) B _ M' e' _ w' Y hY hm ((hL.set hlt).congr (hS hid)) (fun q hq => ⟨List.mem_filter.2 ⟨(hB q hq).1, by rw [hnd q hq]; rfl⟩, hB' hid q hq⟩) (hP.at hcl) l' hl' (hG0.trans h1.2) (hJ.next h1 h3) h2 (hW.next h1 h3) hk' (hT.step h1 h3 fun hcm => h4.1 (hcm j o hi))
            · cases hk
        · cases hp
      · rename_i rs hne1 hne2
        obtain ⟨s, hs, hp⟩ := Option.bind_eq_some_iff.1 hp
        obtain ⟨l', hl', rfl⟩ := Option.map_eq_some_iff.1 hp
        clear hp
        rcases pick_spec hs with ⟨i, js, rfl, hmem, hfree, hA⟩ | ⟨i, rfl, hmem, hah, hA⟩
        · have hl' : plan c ops n A (i :: done) = some l' := hl'
          have hid : i ∉ done := (mem_ready'.1 hmem).1
          simp only [stepsK, someOp] at hk
          split at hk
          · rename_i o hi
            have hlt := (Array.getElem?_eq_some_iff.1 hi).1
            simp only [show Nat.beq 1 0 = false from rfl, Bool.false_eq_true, if_false] at hk
            split at hk
            case isFalse => cases hk
            rename_i hdyn0
            unfold free at hfree
            rw [hi] at hfree
            simp only at hfree
            split at hfree
            case isFalse => cases hfree
            rename_i hfree1
            injection hfree with hjs
            have hfree := hfree1
            simp only [Bool.and_eq_true, List.all_eq_true, List.mem_range] at hfree
            have hA1 : ∀ q ∈ B, dep ops i q.i = false ∧ apartI ops i q.i = true := fun q hq => by
              have := List.all_eq_true.1 hA q.i (hB q hq).1
              simpa using this
            have hDun : ∀ j ∈ waits ops i, listed.getD j false = false := fun j hj => by
              rw [hL.getF]
              have := hfree.1.2 j hj
              simp only [Bool.not_eq_true', List.contains_eq_mem, decide_eq_false_iff_not] at this ⊢
              exact fun hh => this (mem_less.1 hh).1
            have hnl : ∀ j, listed.getD j false = false → j ∉ less done B := fun j hun hh => by
              rw [hL.getF] at hun
              simp only [List.contains_eq_mem, decide_eq_false_iff_not] at hun
              exact hun hh
            have hfr0 : ∀ j oj, ops[j]? = some oj → j ∉ waits ops i → listed.getD j false = false → o.apart ops oj = true ∧ (calm c oj = true ∨ isLoad o = false ∨ (j ∉ done ∧ j ∈ js)) := fun j oj hj hjD hun => by
              have hjl := (Array.getElem?_eq_some_iff.1 hj).1
              have hjn := hnl j hun
              by_cases hjd : j ∈ done
              · have : ∃ q ∈ B, q.i = j := Classical.byContradiction fun hh => hjn (mem_less.2 ⟨hjd, fun q hq hqj => hh ⟨q, hq, hqj⟩⟩)
                obtain ⟨q, hq, rfl⟩ := this
                obtain ⟨oq, _, _, q1, _, q3, _⟩ := hP.op q hq
                rw [hj] at q1; injection q1 with q1; subst q1
                have h1 := (hA1 q hq).2
                unfold apartI at h1
                rw [hi, hj] at h1
                exact ⟨h1, .inl (by unfold calm; rw [q3])⟩
              · have h1 := hfree.2 j hjl
                have hc : (waits ops i).contains j = false := by simpa using hjD
                have hdc : done.contains j = false := by simpa using hjd
                rw [hdc, hc, hj] at h1
                simp only [Bool.false_or] at h1
                rw [apart_eq]
                refine ⟨h1, ?_⟩
                cases hcj : calm c oj with
                | true => exact .inl rfl
                | false =>
                  cases hld : isLoad o with
                  | false => exact .inr (.inl rfl)
                  | true =>
                    rw [hld] at hjs
                    refine .inr (.inr ⟨hjd, ?_⟩)
                    rw [← hjs]
                    simp only [if_true]
                    refine List.mem_filter.2 ⟨List.mem_range.2 hjl, ?_⟩
                    rw [hdc, hc, hj]
                    simp only [hcj]; rfl
            have hready : i ∈ Region.ready .any ops listed := by
              rw [hrd]
              obtain ⟨_, o', g1, g2⟩ := mem_ready'.1 hmem
              refine mem_ready'.2 ⟨fun hh => hid (mem_less.1 hh).1, o', g1, fun e he hb => mem_less.2 ⟨g2 e he hb, fun q hq hqe => ?_⟩⟩
              exact dep_false g1 (hA1 q hq).1 he hb hqe.symm
            have hoffB : ∀ q ∈ B, Off ops o q.d := fun q hq => hoff hq hi (hA1 q hq).2
            have hap : ∀ q ∈ B, Off ops o q.d ∧ Bare q.z ∧ Cln q.d e := fun q hq => ⟨hoffB q hq, hP.bare q hq, hP.cl q hq⟩
            have hrds : reads o = true := hfree.1.1
            have hna : ∀ t, o.op ≠ .alloc t := fun t ht => by unfold reads at hrds; rw [ht] at hrds; cases hrds
            rw [guard_adds (fun h1 h2 h3 h4 => tk_off hrds h1 h2 h3 h4) B _ hap hP.nd] at hk
            rw [show n + 1 + m = (n + m) + 1 by omega]
            have next : ∀ {M' : Mem} {a' : Act} {e' : Env}, M.Le M' → St M' e' a' w → Kadd B (fun e => stepsK c Y ops pr l' e K) e' = some r → wpAnyE ro c P ops pr Q (n + m) (listed.setIfInBounds i true) a' w := fun {M' a' e'} hM g1 g2 => by
              obtain ⟨hcl, hk'⟩ := Kadd_some B g2 hP.bare hP.nd
              exact ih m _ (i :: done) B _ M' e' a' w Y hY hm ((hL.set hlt).congr (hS hid)) (fun q hq => ⟨(hB q hq).1, hB' hid q hq⟩) (hP.at hcl) l' hl' (hG0.trans hM.2) (hJ.next hM (Bel.refl _ _)) g1 (hW.next hM (Bel.refl _ _)) hk' (hT.step hM (Bel.refl _ _) fun _ => Ext.refl w)
            have hnh : hotB c o = false := reads_nhot hrds
            have dst_of : ∀ {k : Nat} {ok : Oper} {q : Nat}, ops[k]? = some ok → ok.dst = some q → dstIs ops k q = true := fun {k ok q} hk hd => by unfold dstIs; rw [hk]; simp [hd]
            by_cases hdA : js.all (dynOK c ops pr A done (adds e B) o) = true
            case neg =>
              have hdB : js.all (dynE c ops pr A done (adds e B) i o) = true := by
                rw [Bool.or_eq_true] at hdyn0
                exact hdyn0.resolve_left hdA
              cases hjs0 : js with
              | nil => rw [hjs0] at hdA; exact absurd rfl hdA
              | cons j0 js' =>
              have eS : ∀ j ∈ js, ∃ oj l, ops[j]? = some oj ∧ ldOf o true = some l ∧ hotB c oj = true ∧ l ∈ pr j ∧ (∀ k ∈ A, dstIs ops k l.q = false ∧ dstIs ops k l.d = false) ∧ (∀ k, k < ops.size → k ∉ done → dstIs ops k l.q = false) ∧ o.guard = none ∧ ptrAt (adds e B) l.q = true ∧ oneK (c.kd l.t) = true ∧ l.q ≠ l.d ∧ l.d < e.t.length ∧
                  ∀ k, k < ops.size → k ∉ done → k ≠ i → dstIs ops k l.d = false := fun j hj => by
                have hh := List.all_eq_true.1 hdB j hj
                unfold dynE at hh
                split at hh
                · rename_i oj hoj
                  unfold equiet at hh
                  split at hh
                  · rename_i l hl
                    simp only [Bool.and_eq_true, List.all_eq_true, Bool.or_eq_true, Bool.not_eq_true', List.mem_range, List.contains_eq_mem, decide_eq_true_eq] at hh
                    obtain ⟨⟨⟨⟨⟨⟨⟨⟨⟨c1, c2⟩, c3⟩, c4⟩, c5⟩, c6⟩, c7⟩, c8⟩, c9⟩, c10⟩ := hh
                    refine ⟨oj, l, hoj, hl, c1, c2, c3, fun k hk hkd => (c4 k hk).elim (fun hh => absurd hh hkd) id, by simpa using c5, c6, c7, fun hh => (by rw [hh, Nat.beq_refl] at c8; cases c8), (by rw [len_adds] at c9; exact c9), fun k hk hkd hki => ?_⟩
                    rcases c10 k hk with (hh | hh) | hh
                    · exact absurd hh hkd
                    · exact absurd (Nat.eq_of_beq_eq_true hh) hki
                    · exact hh
                  · cases hh
                · cases hh
              obtain ⟨oj0, l, _, hl, _, _, cA, cq, cg, cp, ck, cqd, cdl, cd⟩ := eS j0 (by rw [hjs0]; exact List.mem_cons_self ..)
              have hlo : ∃ t q d, o.op = .load t (.tmp q) ∧ o.dst = some d ∧ l = ⟨q, t, d, true⟩ := by
                unfold ldOf at hl
                split at hl
                · rename_i t q d h1 h2; injection hl with hl; exact ⟨t, q, d, h1, h2, hl.symm⟩
                · cases hl
              obtain ⟨t, q, d, ho1, ho2, rfl⟩ := hlo
              have hw : Region.wanted o (yielded ops a.tmps) = true := by unfold Region.wanted; rw [cg]
              rcases guard_cases h hk with ⟨_, hk'⟩ | ⟨hw', _⟩
              case inr => rw [hw] at hw'; cases hw'
              have hqB : ∀ b ∈ B, q ≠ b.d := fun b hb hqb => by
                obtain ⟨ob, _, _, z1, _, _, _, z5, _⟩ := hP.op b hb
                have := (cA b.i (hB b hb).1).1
                rw [dst_of z1 (by rw [z5, ← hqb])] at this; cases this
              have hpt : ptrAt e q = true := by unfold ptrAt at cp ⊢; rw [slot_adds hqB] at cp; exact cp
              obtain ⟨g, off, v0, g1, g2, g3⟩ := load_cell hc.kd h ho1 hpt ck hk'
              obtain ⟨M1, e0, v, p, n0, hM1, h1, q1, q2, q3, q4⟩ := tk_sound hc.kd hc.eq h hrds hk'
              have hvv : v = v0 := by
                have h5 := q3 w Sees.refl
                rw [g3 w g2] at h5
                injection h5 with h5; injection h5 with h5; exact h5.symm
              subst hvv
              have hnx := next hM1 (h1.putD o.dst q1 q2) q4
              refine wpAnyE_first (S := fun w2 => w2.cell? ⟨g, off, none⟩ = some v) (Inv := fun listed' a' w' => i < listed'.size ∧ InvC c ops pr i o (waits ops i) ⟨q, t, d, true⟩ g off v listed' a' w') (waits_spec i) hi hna hnh hsel (fun ch a w hh => absurd hh (hQ _ _ _)) (fun _ _ _ hI => hI.2.1)
                (fun listed' a' w' hI j oj hj hjD hr => (hI.2.2.2.2.2 j oj hj hjD (ready_un hr)).1)
                (fun listed' a1 w1 j oj a2 w2 hI hjD hji hoj hr hrec hrec2 => ⟨by rw [Array.size_setIfInBounds]; exact hI.1, hI.2.step rfl ho2 cqd hI.1 hjD hji hoj hr hrec hrec2⟩) (n + m) listed a w hDun hready (.inl ⟨hw, g3⟩)
                ⟨by rw [hL.sz]; exact hlt, g2, g1, by rw [h.sz]; exact cdl, fun k ok hk hku => ?_, fun j oj hj hjD hun => ?_⟩ hnx
              · have hkn := hnl k hku
                by_cases hkdn : k ∈ done
                · have : ∃ b ∈ B, b.i = k := Classical.byContradiction fun hh => hkn (mem_less.2 ⟨hkdn, fun b hb hbk => hh ⟨b, hb, hbk⟩⟩)
                  obtain ⟨b, hb, rfl⟩ := this
                  exact ⟨fun hkd => (by have := (cA b.i (hB b hb).1).1; rw [dst_of hk hkd] at this; cases this), fun _ hkd => (by have := (cA b.i (hB b hb).1).2; rw [dst_of hk hkd] at this; cases this)⟩
                · have hkl := (Array.getElem?_eq_some_iff.1 hk).1
                  exact ⟨fun hkd => (by have := cq k hkl hkdn; rw [dst_of hk hkd] at this; cases this), fun hki hkd => (by have := cd k hkl hkdn hki; rw [dst_of hk hkd] at this; cases this)⟩
              · refine ⟨(hfr0 j oj hj hjD hun).1, ?_⟩
                rcases (hfr0 j oj hj hjD hun).2 with h6 | h6 | ⟨_, h6⟩
                · exact .inl h6
                · unfold isLoad at h6; rw [ho1] at h6; cases h6
                · obtain ⟨oj', l', k1, k2, k3, k4, _⟩ := eS j h6
                  rw [hj] at k1; injection k1 with k1; subst k1
                  rw [hl] at k2; injection k2 with k2; subst k2
                  exact .inr ⟨k3, k4⟩
            have hfr : ∀ j oj, ops[j]? = some oj → j ∉ waits ops i → listed.getD j false = false → o.apart ops oj = true ∧ (calm c oj = true ∨ (isLoad o = false ∨ unwanted ops (adds e B) o = true) ∨ (j ∉ done ∧ (quiet ops A done (adds e B) o j oj = true ∨ hquiet c ops pr A done (adds e B) o j oj = true))) := fun j oj hj hjD hun => by
              obtain ⟨k1, k2⟩ := hfr0 j oj hj hjD hun
              refine ⟨k1, ?_⟩
              rcases k2 with k2 | k2 | ⟨hjd, hmj⟩
              · exact .inl k2
              · exact .inr (.inl (.inl k2))
              · have hd := List.all_eq_true.1 hdA j hmj
                unfold dynOK at hd
                rw [hj] at hd
                simp only [Bool.or_eq_true] at hd
                exact hd.elim (fun h2 => .inr (.inl (.inr h2))) fun h2 => .inr (.inr ⟨hjd, h2⟩)
            have plainInv : ∀ {S : World → Prop} {v : Value}, (∀ w w', S w → Ext w w' → S w') → (∀ j oj, ops[j]? = some oj → j ∉ waits ops i → listed.getD j false = false → calm c oj = true ∨ ∀ w, S w) → S w → YieldsIf P ops S o v a → wpAnyE ro c P ops pr Q (n + m) (listed.setIfInBounds i true) (a.put o.dst v) w → wpAnyE ro c P ops pr Q (n + m + 1) listed a w := fun {S v} hSx hcm hS hy hnx => by
              refine wpAnyE_first (S := S) (Inv := fun listed' a' w' => S w' ∧ ∀ j oj, ops[j]? = some oj → j ∉ waits ops i → listed'.getD j false = false → o.apart ops oj = true ∧ (calm c oj = true ∨ ∀ w, S w)) (waits_spec i) hi hna hnh hsel (fun ch a w hh => absurd hh (hQ _ _ _)) (fun _ _ _ hI => hI.1) (fun listed' a' w' hI j oj hj hjD hr => (hI.2 j oj hj hjD (ready_un hr)).1) (fun listed' a1 w1 j oj a2 w2 hI hjD hji hoj hr hrec _ => ⟨?_, fun k ok hk hkD hku => hI.2 k ok hk hkD (unset hku)⟩) (n + m) listed a w hDun hready hy ⟨hS, fun j oj hj hjD hun => ⟨(hfr j oj hj hjD hun).1, hcm j oj hj hjD hun⟩⟩ hnx
              rcases (hI.2 j oj hoj hjD (ready_un hr)).2 with hc | hall
              · exact hSx _ _ hI.1 (hrec.2.2.1 hc)
              · exact hall _
            rcases guard_cases h hk with ⟨hw, hk'⟩ | ⟨hw, hk'⟩
            · obtain ⟨M1, e0, v, p, n0, hM1, h1, q1, q2, q3, q4⟩ := tk_sound hc.kd hc.eq h hrds hk'
              have hnx := next hM1 (h1.putD o.dst q1 q2) q4
              by_cases hqt : ∃ j oj, ops[j]? = some oj ∧ j ∉ waits ops i ∧ listed.getD j false = false ∧ calm c oj = false ∧ isLoad o = true
              · obtain ⟨j0, oj0, k1, k2, k3, k4, k5⟩ := hqt
                have hq0 : ∃ t x, o.op = .load t x := by
                  unfold isLoad at k5
                  split at k5
                  · rename_i t x ht; exact ⟨t, x, ht⟩
                  · cases k5
                obtain ⟨t, x, hox⟩ := hq0
                have hnun : ¬ (isLoad o = false ∨ unwanted ops (adds e B) o = true) := fun hh => hh.elim (fun h1 => by rw [k5] at h1; cases h1) fun h1 => by
                  rw [unwanted_adds hoffB] at h1
                  have h2 := unwanted_spec h h1
                  rw [hw] at h2; cases h2
                have hxB : ∀ b ∈ B, x ≠ .tmp b.d := fun b hb => (hoffB b hb).2.1 x (by rw [hox]; simp [Op.operands])
                have quietS : ∀ j oj, quiet ops A done (adds e B) o j oj = true → fixedB (adds e B) x = true ∧ ∃ t' q y, oj.op = .store t' (.tmp q) y ∧ q < e.t.length ∧ (∀ k ∈ A, dstIs ops k q = true → dep ops j k = true) ∧
                    (∀ k, k < ops.size → k ∉ done → dstIs ops k q = true → isAllocB ops k = true ∧ dep ops j k = true) ∧ ((∀ k, k < ops.size → k ∉ done → dstIs ops k q = false) → otherB (adds e B) x q = true) := fun j oj hh => by
                  unfold quiet at hh
                  rw [hox] at hh
                  split at hh
                  · rename_i t1 x1 t2 q y hl hs
                    injection hl with _ hl
                    subst hl
                    simp only [Bool.and_eq_true, decide_eq_true_eq, List.all_eq_true, Bool.or_eq_true, Bool.not_eq_true', List.mem_range, List.contains_eq_mem, List.any_eq_true] at hh
                    obtain ⟨⟨⟨⟨c1, c2⟩, c3⟩, c4⟩, c5⟩ := hh
                    refine ⟨c1, t2, q, y, hs, by rw [len_adds] at c2; exact c2, fun k hk hd => (c3 k hk).elim (fun hh => by rw [hd] at hh; cases hh) id, fun k hk hkd hd => ?_, fun hno => ?_⟩
                    · rcases c4 k hk with (hh | hh) | hh
                      · exact absurd hh hkd
                      · rw [hd] at hh; cases hh
                      · exact hh
                    · rcases c5 with ⟨k, hk, hkd, hd⟩ | hh
                      · rw [hno k hk (by simpa using hkd)] at hd; cases hd
                      · exact hh
                  · cases hh
                have hquietS : ∀ j oj, hquiet c ops pr A done (adds e B) o j oj = true → fixedB (adds e B) x = true ∧ ∃ q, x = .tmp q ∧ hotB c oj = true ∧ (∃ l ∈ pr j, l.m = false ∧ l.q = q) ∧ (∀ k ∈ A, dstIs ops k q = false) ∧ ∀ k, k < ops.size → k ∉ done → dstIs ops k q = false := fun j oj hh => by
                  unfold hquiet at hh
                  split at hh
                  · rename_i l hl
                    unfold ldOf at hl
                    rw [hox] at hl
                    split at hl
                    · rename_i t1 q d h7 h8
                      injection h7 with _ h7
                      subst h7
                      injection hl with hl
                      subst hl
                      simp only [Bool.and_eq_true, List.all_eq_true, Bool.or_eq_true, Bool.not_eq_true', List.mem_range, List.contains_eq_mem, decide_eq_true_eq] at hh
                      obtain ⟨⟨⟨⟨c1, c2⟩, c3⟩, c4⟩, c5⟩ := hh
                      refine ⟨?_, q, rfl, c1, ⟨_, c2, rfl, rfl⟩, fun k hk => (c3 k hk).1, fun k hk hkd => (c4 k hk).elim (fun hh => absurd hh hkd) id⟩
                      unfold boxAt at c5
                      unfold fixedB
                      show (match (adds e B).slot q with | .bx d _ => _ | .at_ k _ => _ | .ac ps _ => _ | .ra n _ _ => _ | _ => _) = true
                      split at c5
                      · rename_i d off hs; rw [hs]; exact c5
                      · rename_i k y hs; rw [hs]; exact c5
                      · rename_i ps of hs; rw [hs]; exact c5
                      · cases c5
                    · cases hl
                  · cases hh
                have hf : fixedB (adds e B) x = true := by
                  rcases (hfr j0 oj0 k1 k2 k3).2 with hc | hc | ⟨_, hc⟩
                  · rw [k4] at hc; cases hc
                  · exact absurd hc hnun
                  · exact hc.elim (fun hc => (quietS j0 oj0 hc).1) fun hc => (hquietS j0 oj0 hc).1
                obtain ⟨g, hg1, hg2, hg3⟩ := load_block h hP hxB hf
                have of_dst : ∀ {k : Nat} {q : Nat}, dstIs ops k q = true → ∃ ok, ops[k]? = some ok ∧ ok.dst = some q := fun {k q} hd => by
                  unfold dstIs at hd
                  split at hd
                  · rename_i ok hok; exact ⟨ok, hok, by simpa using hd⟩
                  · cases hd
                have hinv : InvL c ops pr o (waits ops i) g (tmpOf x) (∃ q, x = .tmp q ∧ (∀ k ∈ A, dstIs ops k q = false) ∧ ∀ k, k < ops.size → k ∉ done → dstIs ops k q = false) w listed a w := by
                  refine ⟨hg2, rfl, ?_, fun j oj hj hjD hun => ⟨(hfr j oj hj hjD hun).1, ?_⟩⟩
                  · rintro ⟨q, rfl, hA2, hD2⟩
                    refine ⟨hg1, fun k ok hk hku hkd => ?_⟩
                    have hkn := hnl k hku
                    have hdd : dstIs ops k q = true := dst_of hk hkd
                    by_cases hkdn : k ∈ done
                    · have : ∃ b ∈ B, b.i = k := Classical.byContradiction fun hh => hkn (mem_less.2 ⟨hkdn, fun b hb hbk => hh ⟨b, hb, hbk⟩⟩)
                      obtain ⟨b, hb, rfl⟩ := this
                      rw [hA2 b.i (hB b hb).1] at hdd; cases hdd
                    · rw [hD2 k (Array.getElem?_eq_some_iff.1 hk).1 hkdn] at hdd; cases hdd
                  rcases (hfr j oj hj hjD hun).2 with hc | hc | ⟨hjd, hc⟩
                  · exact .inl hc
                  · exact absurd hc hnun
                  rcases hc with hc | hc
                  case inr =>
                    obtain ⟨_, q, rfl, k1, k2, k3, k4⟩ := hquietS j oj hc
                    exact .inr (.inr ⟨⟨q, rfl, k3, k4⟩, k1, k2⟩)
                  obtain ⟨_, t', q, y, hs, hql, hqA, hqd, hqo⟩ := quietS j oj hc
                  refine .inr (.inl ⟨t', q, y, hs, by rw [h.sz]; exact hql, fun k ok hk hku hkd => ?_, fun hno => ?_⟩)
                  · have hkn := hnl k hku
                    by_cases hkdn : k ∈ done
                    · have : ∃ b ∈ B, b.i = k := Classical.byContradiction fun hh => hkn (mem_less.2 ⟨hkdn, fun b hb hbk => hh ⟨b, hb, hbk⟩⟩)
                      obtain ⟨b, hb, rfl⟩ := this
                      obtain ⟨ob, tb, _, z1, z2, z3, _⟩ := hP.op b hb
                      rw [hk] at z1; injection z1 with z1; subst z1
                      exact ⟨⟨tb, z3⟩, z2, hqA b.i (hB b hb).1 (dst_of hk hkd)⟩
                    · obtain ⟨z1, z2⟩ := hqd k (Array.getElem?_eq_some_iff.1 hk).1 hkdn (dst_of hk hkd)
                      unfold isAllocB at z1
                      rw [hk] at z1
                      simp only [Bool.and_eq_true] at z1
                      refine ⟨?_, by simpa using z1.1, z2⟩
                      have := z1.2
                      split at this
                      · rename_i t2 ht2; exact ⟨t2, ht2⟩
                      · cases this
                  · have hqB : ∀ b ∈ B, q ≠ b.d := fun b hb hqb => by
                      obtain ⟨ob, tb, _, z1, z2, z3, _, z5, _⟩ := hP.op b hb
                      refine hno b.i ob z1 ?_ (by rw [z5, hqb])
                      rw [hL.getF]
                      simp only [List.contains_eq_mem, decide_eq_false_iff_not]
                      exact fun hh => (mem_less.1 hh).2 b hb rfl
                    refine hg3 q hqB (hqo fun k hk hkd => ?_)
                    rw [Bool.eq_false_iff]
                    intro hd
                    obtain ⟨ok, hok, hdd⟩ := of_dst hd
                    refine hno k ok hok ?_ hdd
                    rw [hL.getF]
                    simp only [List.contains_eq_mem, decide_eq_false_iff_not]
                    exact fun hh => hkd (mem_less.1 hh).1
                refine wpAnyE_first (S := fun w2 => w2.heap[g]? = w.heap[g]?) (Inv := InvL c ops pr o (waits ops i) g (tmpOf x) (∃ q, x = .tmp q ∧ (∀ k ∈ A, dstIs ops k q = false) ∧ ∀ k, k < ops.size → k ∉ done → dstIs ops k q = false) w) (waits_spec i) hi hna hnh hsel (fun ch a w hh => absurd hh (hQ _ _ _)) (fun _ _ _ hI => hI.2.1) (fun listed' a' w' hI j oj hj hjD hr => (hI.2.2.2 j oj hj hjD (ready_un hr)).1) (fun listed' a1 w1 j oj a2 w2 hI hjD hji hoj hr hrec _ => hI.step hjD hoj hr hrec) (n + m) listed a w hDun hready (.inl ⟨hw, fun w2 hw2 => q3 w2 fun t' x' g' ho' hg' _ => ?_⟩) hinv hnx
                rw [hox] at ho'
                injection ho' with _ ho'
                subst ho'
                rw [hg1] at hg'
                injection hg' with hg'
                subst hg'
                exact hw2
              · refine plainInv (S := fun w2 => isLoad o = true → Ext w w2) (fun w1 w2 h1 h2 hl => (h1 hl).trans h2) (fun j oj hj hjD hun => ?_) (fun _ => Ext.refl w) (.inl ⟨hw, fun w2 hw2 => q3 w2 (Sees.of hw2)⟩) hnx
                cases hcj : calm c oj with
                | true => exact .inl rfl
                | false => exact .inr fun w2 hl => absurd ⟨j, oj, hj, hjD, hun, hcj, hl⟩ hqt
            · exact plainInv (v := undef) (S := fun _ => True) (fun _ _ _ _ => trivial) (fun _ _ _ _ _ => .inr fun _ => trivial) trivial (.inr ⟨hw, rfl⟩) (next (Mem.Le.refl M) (putD_tup h o.dst) hk')
          · cases hk
        · have hl' : plan c ops n (i :: A) (i :: done) = some l' := hl'
          · have hid : i ∉ done := (mem_ready'.1 hmem).1
            have hA1 : ∀ q ∈ B, dep ops i q.i = false ∧ apartI ops i q.i = true := fun q hq => by
              have := List.all_eq_true.1 hA q.i (hB q hq).1
              simpa using this
            unfold ahead at hah
            split at hah
            · rename_i o hi
              rw [Bool.and_eq_true] at hah
              obtain ⟨hg, hah⟩ := hah
              have hg : o.guard = none := by simpa using hg
              split at hah
              · rename_i t d ho hd
                rw [Bool.and_eq_true] at hah
                have hesc : c.esc d = false := by simpa using hah.1
                obtain ⟨k, hkd⟩ := Option.isSome_iff_exists.1 hah.2
                simp only [stepsK, someOp, hi, show Nat.beq 2 0 = false from rfl, Bool.false_eq_true, if_false, List.all_nil, if_true] at hk
                unfold guardK at hk
                rw [hg] at hk
                simp only [tkK, ho, hkd, hd, hesc, Bool.false_eq_true, if_false] at hk
                have hdd : ∀ q ∈ B, q.d ≠ d := fun q hq hh => (hoff hq hi (hA1 q hq).2).1 (by rw [hd, hh])
                rw [adds_clean B fun q hq => ⟨hdd q hq, hP.bare q hq⟩] at hk
                rw [show n + 1 + m = n + (m + 1) by omega]
                have hnr : i ∈ ready ops (less (i :: done) (⟨i, d, zeros k⟩ :: B)) := by
                  obtain ⟨_, o', g1, g2⟩ := mem_ready'.1 hmem
                  refine mem_ready'.2 ⟨fun hh => (mem_less.1 hh).2 _ (List.mem_cons_self ..) rfl, o', g1, fun e he hb => mem_less.2 ⟨List.mem_cons_of_mem _ (g2 e he hb), fun q hq hqe => ?_⟩⟩
                  rcases List.mem_cons.1 hq with rfl | hq
                  · exact hid (by have := g2 e he hb; rw [← hqe] at this; exact this)
                  · exact dep_false g1 (hA1 q hq).1 he hb hqe.symm
                have hS2 : ∀ j, j ∈ less (i :: done) (⟨i, d, zeros k⟩ :: B) ↔ j ∈ less done B := fun j => by
                  rw [mem_less, mem_less, List.mem_cons]
                  constructor
                  · rintro ⟨h1 | h1, h2⟩
                    · exact absurd h1.symm (h2 _ (List.mem_cons_self ..))
                    · exact ⟨h1, fun q hq => h2 q (List.mem_cons_of_mem _ hq)⟩
                  · rintro ⟨h1, h2⟩
                    refine ⟨.inr h1, fun q hq => ?_⟩
                    rcases List.mem_cons.1 hq with rfl | hq
                    · exact fun hh => hid (by have hh : i = j := hh; rw [hh]; exact h1)
                    · exact h2 q hq
                refine ih (m + 1) (i :: A) (i :: done) (⟨i, d, zeros k⟩ :: B) listed M (e.clean d) a w Y hY (by simp [hm]) (hL.congr hS2) (fun q hq => ?_) ⟨fun q hq => ?_, fun q hq => ?_, List.pairwise_cons.2 ⟨fun q hq => (hdd q hq).symm, hP.nd⟩⟩ l' hl' hG0 hJ (h.clean d) hW hk hT
                · rcases List.mem_cons.1 hq with rfl | hq
                  · exact ⟨List.mem_cons_self .., List.mem_cons_self .., hnr⟩
                  · obtain ⟨g1, g2, g3⟩ := hB q hq
                    exact ⟨List.mem_cons_of_mem _ g1, List.mem_cons_of_mem _ g2, ready_more g3 (fun j hj => (hS2 j).2 hj) fun hh => (mem_less.1 hh).2 q (List.mem_cons_of_mem _ hq) rfl⟩
                · rcases List.mem_cons.1 hq with rfl | hq
                  · exact ⟨o, t, k, hi, hg, ho, hkd, hd, hesc, rfl⟩
                  · exact hP.op q hq
                · rcases List.mem_cons.1 hq with rfl | hq
                  · exact cln_clean e d
                  · exact (hP.cl q hq).clean (hdd q hq).symm
              · cases hah
            · cases hah
    intro m
    induction m with
    | zero => exact main 0 fun m' hm' => by cases hm'
    | succ m ihm => exact main (m + 1) fun m' hm' => by cases hm'; exact ihm
end
end Go.Pv
