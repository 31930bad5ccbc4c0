/- Calls: the law for all operations. -/
import Derived.Test.YtdfdainmpklkiaaGreatDoorG15
set_option linter.unusedVariables false
set_option linter.unusedSimpArgs false
namespace Go.Pv
open Go.RowKit
section
variable {P : Program} {c : Cx} {M : Mem} {e : Env} {a : Act} {w : World} {o : Oper} {ρ : Type} {K : Kt ρ} {r : ρ} {Y : Yd ρ}
/-! ### What is handed over -/
theorem pub_h {x : Operand} {p : PV} {e1 : Env} (hp : pub e x = some (p, e1)) : e1.h = e.h := by
  unfold pub at hp
  have hs : ∀ (n : Pl), (∀ i o, n ≠ .b (.h i) o) → (e.share n).h = e.h := fun n hn => by
    unfold Env.share
    split
    · cases n with
      | t n => rfl
      | b d o => cases d with
        | s d => rfl
        | h i => exact absurd rfl (hn i o)
    · rfl
  split at hp
  · cases hp
  · rename_i n hnh _
    split at hp
    · simp only [Option.some.injEq, Prod.mk.injEq] at hp; rw [← hp.2]; exact hs n (fun i o hh => hnh i o (by rw [hh]))
    · cases hp
  · simp only [Option.some.injEq, Prod.mk.injEq] at hp; rw [← hp.2]; exact hs _ (fun i o hh => by cases hh)
  all_goals first | (cases hp; done) | (simp only [Option.some.injEq, Prod.mk.injEq] at hp; rw [← hp.2])
theorem pub_ok {x : Operand} {p : PV} {e1 : Env} (hp : pub e x = some (p, e1)) : okC p = true := by
  unfold pub at hp
  split at hp
  · cases hp
  · split at hp
    · simp only [Option.some.injEq, Prod.mk.injEq] at hp; rw [← hp.1]; rfl
    · cases hp
  all_goals first | (cases hp; done) | (simp only [Option.some.injEq, Prod.mk.injEq] at hp; rw [← hp.1]; rfl)
theorem CR.of_ok {at_ : Pl → PV} {q : Pl → Value} {n : Pl} {p : PV} {v : Value} (h : okC p = true) (hp : PR M w at_ q n p v) : CR M.G w p v := by
  cases p with
  | o m k xs => cases h
  | r m => cases h
  | rh k i o j p => cases h
  | ra m i p => cases h
  | bx d off => cases h
  | tup ps => cases h
  | ag ps => cases h
  | un => cases h
  | _ => first | exact hp | (rw [CR]; exact hp)
theorem okC_arg {p : PV} (h : okC p = true) : okArg p = true := by cases p <;> first | rfl | exact h | cases h
theorem ArgH.closed {h : Hp} {p : PV} {v : Value} (ho : okC p = true) (hp : CR M.G w p v) : ArgH M h w p v := ⟨okC_arg ho, PR.of_CR hp⟩
/-- .. in memory that has grown. -/
theorem ArgH.more {M' : Mem} {h : Hp} {p : PV} {v : Value} (hp : ArgH M h w p v) (hG : M.G.le M'.G) (hβ : ∀ i, M'.β (.h i) = M.β (.h i)) : ArgH M' h w p v := by
  obtain ⟨ho, hp⟩ := hp
  refine ⟨ho, ?_⟩
  have hpv : ∀ i o, pv M' act0 w (.b (.h i) o) = pv M act0 w (.b (.h i) o) := fun i o => by show (w.cell? ⟨M'.β (.h i), o, none⟩).getD undef = _; rw [hβ]; rfl
  refine hp.keep (by cases p <;> first | rfl | cases ho) hG (Keeps.refl _ _) (fun d off hh => by subst hh; cases ho) (fun m hm => ?_)
  have : ∃ i o, m = .b (.h i) o := by
    cases p with
    | r m' => cases hm; cases m with
      | t n => cases ho
      | b d o => cases d with
        | s d => cases ho
        | h i => exact ⟨i, o, rfl⟩
    | rh k i o j q => cases hm; exact ⟨i, o, rfl⟩
    | ra m' i p => cases ho
    | ag ps => cases ho
    | _ => exact hm.elim
  obtain ⟨i, o, rfl⟩ := this
  exact fun hx => ⟨hx, hpv i o, fun k xs hq => ⟨xs, hq, rfl⟩⟩
theorem ArgsH.more {M' : Mem} {h : Hp} (hG : M.G.le M'.G) (hβ : ∀ i, M'.β (.h i) = M.β (.h i)) : ∀ {ps : List PV} {vs : List Value}, ArgsH M h w ps vs → ArgsH M' h w ps vs
  | [], [], _ => trivial
  | _ :: _, _ :: _, hp => ⟨hp.1.more hG hβ, ArgsH.more hG hβ hp.2⟩
theorem ArgsH.append {h : Hp} : ∀ {ps qs : List PV} {vs us : List Value}, ArgsH M h w ps vs → ArgsH M h w qs us → ArgsH M h w (ps ++ qs) (vs ++ us)
  | [], _, [], _, _, h => h
  | _ :: _, _, _ :: _, _, h, k => ⟨h.1, ArgsH.append h.2 k⟩
theorem ArgsH.of_CRs {h : Hp} : ∀ {ps : List PV} {vs : List Value}, (∀ p ∈ ps, okC p = true) → CRs M.G w ps vs → ArgsH M h w ps vs
  | [], [], _, _ => trivial
  | p :: ps, v :: vs, ho, hp => by rw [CRs] at hp; exact ⟨ArgH.closed (ho p (List.mem_cons_self ..)) hp.1, ArgsH.of_CRs (fun q hq => ho q (List.mem_cons_of_mem _ hq)) hp.2⟩
  | [], _ :: _, _, hp => by simp [CRs] at hp
  | _ :: _, [], _, hp => by simp [CRs] at hp
theorem CRs.append {G : Com} : ∀ {ps qs : List PV} {vs us : List Value}, CRs G w ps vs → CRs G w qs us → CRs G w (ps ++ qs) (vs ++ us)
  | [], _, [], _, _, h => h
  | _ :: _, _, _ :: _, _, h, k => by rw [CRs] at h; rw [List.cons_append, List.cons_append, CRs]; exact ⟨h.1, CRs.append h.2 k⟩
  | [], _, _ :: _, _, h, _ => by simp [CRs] at h
  | _ :: _, _, [], _, h, _ => by simp [CRs] at h
theorem roNil_spec (c : Cx) (t : Nat) {G : Com} {p : PV} {v : Value} (ho : okC p = true) (h : CR G w p v) : okC (roNil c t p) = true ∧ CR G w (roNil c t p) v := by
  unfold roNil
  split
  · split
    · rw [CR] at h
      rw [h]
      refine ⟨rfl, ?_⟩
      rw [CR]
      exact ⟨_, ⟨none, 0, rfl, Nat.le_refl _, fun hh => absurd rfl hh⟩, rfl⟩
    · exact ⟨ho, h⟩
  · exact ⟨ho, h⟩
theorem pubs_spec : ∀ (xs : List Operand) (ts : List Nat) {M : Mem} {e e1 : Env} {ps : List PV}, St M e a w → pubs c e xs ts = some (ps, e1) →
    ∃ G', M.G.le G' ∧ G'.n = M.G.n ∧ St { M with G := G' } e1 a w ∧ ArgsR G' w ps (xs.map a.eval)
  | [], ts, M, e, e1, ps, h, hp => by
    simp only [pubs, Option.some.injEq, Prod.mk.injEq] at hp
    obtain ⟨rfl, rfl⟩ := hp
    exact ⟨M.G, Com.le.refl _, rfl, h, by unfold ArgsR; rw [List.map_nil, CRs]; trivial⟩
  | x :: xs, ts, M, e, e1, ps, h, hp => by
    simp only [pubs] at hp
    obtain ⟨⟨p, e2⟩, h1, hp1⟩ := Option.bind_eq_some_iff.1 hp
    obtain ⟨⟨qs, e3⟩, h2, hp2⟩ := Option.bind_eq_some_iff.1 hp1
    simp only [Option.some.injEq, Prod.mk.injEq] at hp2
    obtain ⟨rfl, rfl⟩ := hp2
    obtain ⟨G1, a1, a1', a2, _, _, _, a3⟩ := pub_spec h h1
    obtain ⟨G2, b1, b1', b2, b3⟩ := pubs_spec xs ts.tail a2 h2
    refine ⟨G2, a1.trans b1, b1'.trans a1', b2, ?_⟩
    have hcr := CR.of_ok (pub_ok h1) (a3 { M with G := G1 } (fun _ => .un) (fun _ => undef) (.t 0) rfl)
    obtain ⟨_, q2⟩ := roNil_spec c (ts.headD 0) (pub_ok h1) hcr
    unfold ArgsR
    rw [List.map_cons, CRs]
    exact ⟨CR.mono b1 (Keeps.refl _ _) q2, b3⟩
theorem pubs_ok : ∀ (xs : List Operand) (ts : List Nat) {e e1 : Env} {ps : List PV}, pubs c e xs ts = some (ps, e1) → ∀ p ∈ ps, okC p = true
  | [], ts, e, e1, ps, hp => by
    simp only [pubs, Option.some.injEq, Prod.mk.injEq] at hp
    obtain ⟨rfl, rfl⟩ := hp
    intro p hp; cases hp
  | x :: xs, ts, e, e1, ps, hp => by
    simp only [pubs] at hp
    obtain ⟨⟨p, e2⟩, h1, hp1⟩ := Option.bind_eq_some_iff.1 hp
    obtain ⟨⟨qs, e3⟩, h2, hp2⟩ := Option.bind_eq_some_iff.1 hp1
    simp only [Option.some.injEq, Prod.mk.injEq] at hp2
    obtain ⟨rfl, rfl⟩ := hp2
    intro q hq
    rcases List.mem_cons.1 hq with rfl | hq
    · have := pub_ok h1
      show okC (roNil c (ts.headD 0) p) = true
      unfold roNil
      split
      · split <;> first | rfl | exact this
      · exact this
    · exact pubs_ok xs ts.tail h2 q hq
theorem pubH_spec (h : St M e a w) {x : Operand} {p : PV} {e1 : Env} (hp : pubH e x = some (p, e1)) :
    ∃ G', M.G.le G' ∧ G'.n = M.G.n ∧ St { M with G := G' } e1 a w ∧ e1.h = e.h ∧ ArgH { M with G := G' } e1.h w p (a.eval x) := by
  unfold pubH at hp
  split at hp
  · rename_i i of hx
    simp only [Option.some.injEq, Prod.mk.injEq] at hp
    obtain ⟨rfl, rfl⟩ := hp
    obtain ⟨n0, hpr⟩ := ev_pr h hx
    exact ⟨M.G, Com.le.refl _, rfl, h, rfl, rfl, hpr⟩
  · rename_i k i of j q hx
    simp only [Option.some.injEq, Prod.mk.injEq] at hp
    obtain ⟨rfl, rfl⟩ := hp
    obtain ⟨n0, hpr⟩ := ev_pr h hx
    exact ⟨M.G, Com.le.refl _, rfl, h, rfl, rfl, hpr⟩
  · obtain ⟨G1, a1, a1', a2, _, _, _, a3⟩ := pub_spec h hp
    exact ⟨G1, a1, a1', a2, pub_h hp, ArgH.closed (pub_ok hp) (CR.of_ok (pub_ok hp) (a3 { M with G := G1 } (fun _ => .un) (fun _ => undef) (.t 0) rfl))⟩
theorem roNilH (c : Cx) (t : Nat) {h : Hp} {p : PV} {v : Value} (hp : ArgH M h w p v) : ArgH M h w (roNil c t p) v := by
  unfold roNil
  split
  · split
    · obtain ⟨_, hp⟩ := hp
      refine ⟨rfl, ?_⟩
      rw [show v = _ from hp]
      exact ⟨_, ⟨none, 0, rfl, Nat.le_refl _, fun hh => absurd rfl hh⟩, rfl⟩
    · exact hp
  · exact hp
theorem pubsH_spec : ∀ (xs : List Operand) (ts : List Nat) {M : Mem} {e e1 : Env} {ps : List PV}, St M e a w → pubsH c e xs ts = some (ps, e1) →
    ∃ G', M.G.le G' ∧ G'.n = M.G.n ∧ St { M with G := G' } e1 a w ∧ e1.h = e.h ∧ ArgsH { M with G := G' } e1.h w ps (xs.map a.eval)
  | [], ts, M, e, e1, ps, h, hp => by
    simp only [pubsH, Option.some.injEq, Prod.mk.injEq] at hp
    obtain ⟨rfl, rfl⟩ := hp
    exact ⟨M.G, Com.le.refl _, rfl, h, rfl, trivial⟩
  | x :: xs, ts, M, e, e1, ps, h, hp => by
    simp only [pubsH] at hp
    obtain ⟨⟨p, e2⟩, h1, hp1⟩ := Option.bind_eq_some_iff.1 hp
    obtain ⟨⟨qs, e3⟩, h2, hp2⟩ := Option.bind_eq_some_iff.1 hp1
    simp only [Option.some.injEq, Prod.mk.injEq] at hp2
    obtain ⟨rfl, rfl⟩ := hp2
    obtain ⟨G1, a1, a1', a2, a3, a4⟩ := pubH_spec h h1
    obtain ⟨G2, b1, b1', b2, b3, b4⟩ := pubsH_spec xs ts.tail a2 h2
    refine ⟨G2, a1.trans b1, b1'.trans a1', b2, b3.trans a3, ?_, b4⟩
    rw [b3]
    exact roNilH c _ (a4.more b1 (fun _ => rfl))
/-! ### Operations -/
/-- What follows an operation. -/
def Nexts (c : Cx) (M : Mem) (o : Oper) (a : Act) (w : World) {ρ : Type} (K : Kt ρ) (r : ρ) (next : Act → World → Prop) : Prop :=
  ∀ v M' e' w', M.Le M' → St M' e' (a.put o.dst v) w' → Bel M w w' → Eff c M o a v w w' → K e' = some r → next (a.put o.dst v) w'
theorem semAt_of_ok {ro : Option Nat} {v : Value} {w' : World} (h : (execOp a.eval o).run P w = .ok (.value v) w' ∨ (execOp a.eval o).run P w = .ok .skip w') : o.semAt ro a.eval = execOp a.eval o := by
  refine Oper.semAt_eq ro _ _ fun cc hcc => ?_
  unfold execOp at h
  simp only [hcc, Sem.run_bind] at h
  cases hr : (resolve a.eval cc o.type).run P w <;> rw [hr] at h <;> simp [Result.andThen] at h
theorem Did.wp {ro : Option Nat} {next : Act → World → Prop} {Q : Exit → Act → World → Prop} (h : Did P c M o a w K r) (hn : Nexts c M o a w K r next) : o.wpIn (FW ro) 0 P a w next Q := by
  obtain ⟨v, M', e', w', h1, h2, h3, h4, h5, h6⟩ := h
  unfold Oper.wpIn
  refine ⟨fun _ _ => trivial, ?_⟩
  rw [show (FW ro).round = ro from rfl, semAt_of_ok (h1.imp id (·.1))]
  rcases h1 with h1 | ⟨h1, rfl⟩
  · rw [h1]; exact hn v M' e' w' h2 h3 h4 h5 h6
  · rw [h1]; exact hn undef M' e' w' h2 h3 h4 h5 h6
theorem Below.ext {w w' : World} (h : Below w.heap.size w w') : Ext w w' := fun g hg => h.block g hg
/-- A function value, called. -/
theorem call_run {q : Call} {f : Operand} {g : FuncId} {vs : List Value} (hq : q.callee = .value f) (hv : a.eval f = .func (.func g) #[] vs.toArray) (ho : o.op = .call q) (hf : fnOK P g) (w : World) : (execOp a.eval o).run P w = .ok (.enter g (q.args.map a.eval ++ vs.toArray)) w := by
  obtain ⟨fn, h1, h2, h3⟩ := hf
  unfold execOp
  simp only [ho, resolve, hq, hv, Deferred.ofValue, Sem.run_bind, Sem.run_pure, Result.andThen_ok, invoke, callFunc, run_program, Array.empty_append, h1]
  have h4 : fn.body.isNone = false := by simpa using h3
  simp [h2, h4]
theorem yield_run {q : Call} {f : Operand} {l : Nat} (hq : q.callee = .value f) (hv : a.eval f = .func (.yield l) #[] #[]) (ho : o.op = .call q) (w : World) : (execOp a.eval o).run P w = (Instr.yield l (q.args.map a.eval)).run P w := by
  unfold execOp
  simp only [ho, resolve, hq, hv, Deferred.ofValue, Sem.run_bind, Sem.run_pure, Result.andThen_ok, invoke, Array.empty_append]
theorem semAt_call {ro : Option Nat} {q : Call} (ho : o.op = .call q) : o.semAt ro a.eval = execOp a.eval o := Oper.semAt_eq ro _ _ fun cc hcc => by rw [ho] at hcc; cases hcc
theorem res_ok {p : PV} {x : Option ρ} (h : (if okRes p = true then x else none) = some r) : x = some r := by
  split at h
  · exact h
  · cases h
/-- A plain call. -/
theorem op_call {L : World → Prop} (hc : CxOK P L c) (h : St M e a w) (hL : LW L M w) {ro : Option Nat} {q : Call} {f : Operand} {g : FuncId} {cs : List PV} {vs : List Value} (hq : q.callee = .value f) (hv : a.eval f = .func (.func g) #[] vs.toArray) (hcs : CRs M.G w cs vs) (ho : o.op = .call q)
    {c' : Cx} (hk : ((pubs c' e q.args.toList q.argTypes.toList).bind fun a => c.call g (a.1 ++ cs) fun r => if okRes r = true then K (a.2.putD o.dst r) else none) = some r) {next : Act → World → Prop} {Q : Exit → Act → World → Prop} (hn : Nexts c M o a w K r next) : o.wpIn (FW ro) 0 P a w next Q := by
  obtain ⟨⟨ps, e1⟩, hp, hk'⟩ := Option.bind_eq_some_iff.1 hk
  clear hk
  obtain ⟨hf, hcall⟩ := hc.call g ρ (ps ++ cs) _ r hk'
  obtain ⟨G', g1, g1', g2, g3⟩ := pubs_spec q.args.toList q.argTypes.toList h hp
  have hcalls := hcall G' w (q.args.map a.eval ++ vs.toArray) hL.here g2.cb (by
    rw [Array.toList_append, Array.toList_map]
    exact CRs.append g3 (CRs.mono g1 (Keeps.refl _ _) hcs))
  unfold Oper.wpIn
  refine ⟨fun _ _ => trivial, ?_⟩
  rw [show (FW ro).round = ro from rfl, semAt_call ho, call_run hq hv ho hf w]
  refine ⟨fun hh => (by cases hh), ?_⟩
  refine CallsIn.mono (callsIn_wide.2 hcalls : CallsIn Fence.wide 0 P g _ w _) fun en w' hen => ?_
  cases en with
  | panicked ch => exact hen.elim
  | outgrown => exact hen.elim
  | returned v =>
    obtain ⟨p, G2, hKp, d1, d1', d2, d3, d4⟩ := hen
    have hKp := res_ok hKp
    have hext : Ext w w' := Below.ext d3
    have hkp : Keeps G' w w' := keeps_of_blocks fun g o hg => hext g (g2.cb g o hg)
    have hko : KO w w' := KO.of_blocks hext
    have hlt : ∀ g, Live { M with G := G' } e1 a w g → g < w.heap.size := fun g hl => Nat.lt_of_not_le fun hle => g2.fresh hle hl
    have hnew : ∀ g, g < w.heap.size → ∀ o, G2 g o ↔ G' g o := fun g hg o => ⟨fun hh => (d2 g o hh).elim id fun hh => by omega, d1.c g o⟩
    have hst := g2.grow (w' := w') (G' := G2) d3.size d1 d1' (fun g o hg => (d2 g o hg).imp id fun hh => ⟨.inr (Nat.le_trans h.lo hh.1), hh.2⟩) hkp hko (fun g hl => ⟨hext g (hlt g hl), hnew g (hlt g hl)⟩) (fun g hl o hg => by
      obtain ⟨r', hr'⟩ := g2.loopy_lt hl
      exact (hnew g (Array.getElem?_eq_some_iff.1 hr').1 o).1 hg)
    have hle : M.Le { M with G := G2 } := ⟨rfl, g1.trans d1⟩
    have hbel : Bel M w w' := Bel.of_below h.lo d3
    have plain : isO p = false → PR { M with G := G2 } w' e1.at_ (pv { M with G := G2 } a w') (.t 0) p v → next (a.put o.dst v) w' := fun h1 h2 =>
      hn v { M with G := G2 } _ w' hle (hst.putD o.dst h1 h2) hbel (Eff.of hext (by simp [ho])) hKp
    cases p with
    | o m k xs =>
      obtain ⟨u, css, r1, r2, r3⟩ := d4
      have hfresh : ∀ g, v.ownBlock = some g → w.heap.size ≤ g := fun g hg => (r2.lt g hg).1
      have hfree : Free { M with G := G2 } e1 a w' v := fun g hg hl => by
        have := live_grow g2 (fun g hl => hext g (hlt g hl)) hl
        exact absurd (hlt g this) (by have := hfresh g hg; omega)
      have hM2 := Mem.Alike.ren { M with G := G2 } v (.inl (.t 0))
      have hst2 := hst.ren hfree (hst.row_noloop r2) (.inl (.t 0))
      have hown : OwnD (({ M with G := G2 } : Mem).ren v (.inl (.t 0))) w' (.t 0) m k xs v := by
        refine ⟨u, css, by rw [hM2.2.1]; exact r1, ?_, fun g hg => ⟨⟨?_, (Mem.mine_key hM2.1 g).2 (.inr (Nat.le_trans h.lo (hfresh g hg)))⟩, by rw [hM2.2.1]; exact r3 g hg⟩⟩
        · refine ⟨r2.1, r2.2.imp id ?_⟩
          rintro ⟨g, cap, cur, q1, q2, q3⟩
          exact ⟨g, cap, cur, q1, Nat.zero_le _, q3⟩
        · unfold Mem.ren; rw [hg]; simp [Mem.own]
      obtain ⟨M', hM, hst3⟩ := hst2.putDo o.dst hown (fun g hg hl => hfree g hg (by
        rcases hl with ⟨n, z1, z2⟩ | ⟨d, z1, z2⟩
        · refine .inl ⟨n, z1, ?_⟩
          cases n with
          | t n => exact z2
          | b d o' => rw [show pv { M with G := G2 } a w' (.b d o') = pv (({ M with G := G2 } : Mem).ren v (.inl (.t 0))) a w' (.b d o') by show (w'.cell? ⟨M.β d, o', none⟩).getD undef = (w'.cell? ⟨(({ M with G := G2 } : Mem).ren v (.inl (.t 0))).β d, o', none⟩).getD undef; rw [hM2.2.2.1]]; exact z2
        · exact .inr ⟨d, z1, by rw [← z2, hM2.2.2.1]⟩))
      exact hn v M' _ w' ⟨hM.1.trans hM2.1, by rw [hM.2.1, hM2.2.1]; exact g1.trans d1⟩ hst3 hbel (Eff.of hext (by simp [ho])) hKp
    | tup ps => exact plain rfl d4
    | _ => first | exact plain rfl (PR.of_CR d4) | (exfalso; simp [Res, CR] at d4)
/-- Behind a call that has turned the heap. -/
theorem join_next {L : World → Prop} (h : St M e a w) {p : PV} {v : Value} {M' : Mem} {h' : Hp} {w' : World} (hM : (M.sub e a w).Le M') (hs : HS M' h' w') (hb : Bel (M.sub e a w) w w') (hp : ResH M' h' w' p v) (o : Oper) :
    ∃ M2, M.Le M2 ∧ St M2 ((e.withH h').putD o.dst p) (a.put o.dst v) w' := by
  have hst := h.join hM hs hb
  have hat : ∀ i o, (e.withH h').at_ (.b (.h i) o) = (hEnv h').at_ (.b (.h i) o) := fun i o => rfl
  have hpvh : ∀ i o, pv (M.join e a w M') a w' (.b (.h i) o) = pv M' act0 w' (.b (.h i) o) := fun i o => rfl
  have plain : ∀ {p : PV}, ArgH M' h' w' p v → PR (M.join e a w M') w' (e.withH h').at_ (pv (M.join e a w M') a w') (.t 0) p v := fun {p} hh => by
    obtain ⟨ho, hp⟩ := hh
    cases p with
    | r m => cases m with
      | t n => cases ho
      | b d o => cases d with
        | s d => cases ho
        | h i => exact hp
    | _ => first | exact hp | cases ho
  cases p with
  | o m k xs =>
    obtain ⟨n, ⟨u, css, q1, q2, q3⟩, hfr⟩ := hp
    have hmine : ∀ g, v.ownBlock = some g → M'.Mine g := fun g hg => (q3 g hg).1.2
    have hown : OwnD (M.join e a w M') w' n m k xs v := ⟨u, css, q1, q2, fun g hg => ⟨⟨by rw [(join_hl h hM.1 (hmine g hg)).1]; exact (q3 g hg).1.1, (join_hl h hM.1 (hmine g hg)).2⟩, (q3 g hg).2⟩⟩
    have hfree : Free (M.join e a w M') (e.withH h') a w' v := fun g hg hl => by
      have hmg := (Mem.mine_key hM.1 g).1 (hmine g hg)
      have hnh : ¬ NH M e a w g := fun hh => by
        obtain ⟨_, h2, h3⟩ := NH.spec h hh
        exact hmg.elim h3 (fun h4 => by have h4 : w.heap.size ≤ g := h4; omega)
      rcases hl with ⟨n', z1, z2⟩ | ⟨d, z1, z2⟩
      · by_cases hn : ∃ i o, n' = .b (.h i) o
        · obtain ⟨i, o', rfl⟩ := hn
          exact hfr g hg (.inl ⟨.b (.h i) o', z1, z2⟩)
        · have hn : ∀ i o, n' ≠ .b (.h i) o := fun i o hh => hn ⟨i, o, hh⟩
          have z1' : isO (e.scrubH.at_ n') = true := by
            cases n' with
            | t t => exact z1
            | b d o => cases d with
              | s d => exact z1
              | h i => exact absurd rfl (hn i o)
          rcases Env.at_map' e unheap unheap_spec n' with h1 | ⟨h1, _⟩
          · rw [show e.scrubH.at_ n' = _ from h1] at z1'
            refine hnh (.inl ⟨n', hn, z1', ?_⟩)
            rw [← z2]
            congr 1
            cases n' with
            | t t => rfl
            | b d o => cases d with
              | h i => exact absurd rfl (hn i o)
              | s d =>
                have hne : e.box (.s d) ≠ [] := fun h0 => by rw [at_of_empty h0] at z1'; cases z1'
                obtain ⟨_, h2, h3⟩ := NH.spec h (.inr ⟨d, hne, rfl⟩)
                show (w.cell? ⟨M.β (.s d), o, none⟩).getD undef = (w'.cell? ⟨M.β (.s d), o, none⟩).getD undef
                rw [World.cell?_of_block (a := ⟨M.β (.s d), o, none⟩) (hb.block _ h2 h3)]
          · rw [show e.scrubH.at_ n' = _ from h1] at z1'; cases z1'
      · cases d with
        | s d =>
          exact hnh (.inr ⟨d, fun h0 => z1 (List.eq_nil_of_length_eq_zero (by show ((e.map unheap).box (.s d)).length = 0; rw [map_box_len, h0]; rfl)), z2⟩)
        | h i => exact hfr g hg (.inr ⟨.h i, z1, z2⟩)
    obtain ⟨M2, hM2, hst2⟩ := hst.putDo o.dst hown hfree
    exact ⟨M2, (join_le hM).trans hM2.le, hst2⟩
  | tup ps => exact ⟨_, join_le hM, hst.putD o.dst (n0 := .t 0) rfl hp⟩
  | _ => first
    | exact ⟨_, join_le hM, hst.putD o.dst (n0 := .t 0) rfl (plain hp)⟩
    | (exfalso; have := hp.1; cases this)
/-- A call that turns the heap leaves the boxes. -/
theorem box_calm {e1 : Env} {G' : Com} (g1 : M.G.le G') (g2 : St { M with G := G' } e1 a w) {w' : World} (hb : Bel (({ M with G := G' } : Mem).sub e1 a w) w w') {e2 : Env} (he : St M e2 a w) {g : Nat} (hd : (∃ d, e2.box (.s d) ≠ [] ∧ M.β (.s d) = g) ∨ ∃ n, M.G g n) : w'.heap[g]? = w.heap[g]? := by
  rcases hd with ⟨d, hd, rfl⟩ | ⟨n, hn⟩
  · obtain ⟨_, ⟨C, T, b2, _⟩, b3, _⟩ := he.bk _ hd
    refine hb.block _ (Array.getElem?_eq_some_iff.1 b2).1 (fun hh => ?_)
    obtain ⟨_, _, _, i, h3 | ⟨o, h3⟩⟩ := HL.mine g2 hh
    · have h3 : M.ow (M.β (.s d)) = some (.inr (.h i)) := h3
      rw [b3] at h3; cases h3
    · have h3 : M.ow (M.β (.s d)) = some (.inl (.b (.h i) o)) := h3
      rw [b3] at h3; cases h3
  · exact hb.block _ (he.cb _ _ hn) fun hh => (HL.mine g2 hh).2.2.1 n (g1.c _ _ hn)
theorem op_callH {L : World → Prop} (hc : CxOK P L c) (h : St M e a w) (hL : LW L M w) {ro : Option Nat} {q : Call} {f : Operand} {g : FuncId} {cs : List PV} {vs : List Value} (hq : q.callee = .value f) (hv : a.eval f = .func (.func g) #[] vs.toArray) (hcs : CRs M.G w cs vs) (hok : ∀ p ∈ cs, okC p = true) (ho : o.op = .call q) (hcalm : calm c o = false)
    (hk : ((pubsH c e q.args.toList q.argTypes.toList).bind fun a => c.callH g (a.1 ++ cs) a.2.h fun r h => if okRes r = true then K ((a.2.withH h).putD o.dst r) else none) = some r) {next : Act → World → Prop} {Q : Exit → Act → World → Prop} (hn : Nexts c M o a w K r next) : o.wpIn (FW ro) 0 P a w next Q := by
  obtain ⟨⟨ps, e1⟩, hp, hk'⟩ := Option.bind_eq_some_iff.1 hk
  clear hk
  obtain ⟨hf, hcall⟩ := hc.callH g ρ (ps ++ cs) e1.h _ r hk'
  obtain ⟨G', g1, g1', g2, g3, g4⟩ := pubsH_spec q.args.toList q.argTypes.toList h hp
  have hL2 : LW L { M with G := G' } w := fun w2 h2 => hL w2 (Bel.key (M := M) (M' := { M with G := G' }) rfl h2)
  have hcalls := hcall (({ M with G := G' } : Mem).sub e1 a w) w (q.args.map a.eval ++ vs.toArray) (Begin.of g2 hL2) (by
    rw [Array.toList_append, Array.toList_map]
    refine ArgsH.append (ArgsH.more (M := { M with G := G' }) (M' := ({ M with G := G' } : Mem).sub e1 a w) (Com.le.refl _) (fun _ => rfl) g4) (ArgsH.of_CRs hok ?_)
    exact CRs.mono g1 (Keeps.refl _ _) hcs)
  unfold Oper.wpIn
  refine ⟨fun _ _ => trivial, ?_⟩
  rw [show (FW ro).round = ro from rfl, semAt_call ho, call_run hq hv ho hf w]
  refine ⟨fun hh => (by cases hh), ?_⟩
  refine CallsIn.mono (callsIn_wide.2 hcalls : CallsIn Fence.wide 0 P g _ w _) fun en w' hen => ?_
  cases en with
  | panicked ch => exact hen.elim
  | outgrown => exact hen.elim
  | returned v =>
    obtain ⟨p, h', M', hKp, d1, d2, d3, d4⟩ := hen
    have hKp := res_ok hKp
    obtain ⟨M2, hM2, hst⟩ := join_next (L := L) g2 d1 d2 d3 d4 o
    exact hn v M2 _ w' ⟨hM2.1, g1.trans hM2.2⟩ hst (Bel.key (M := M) (M' := { M with G := G' }) rfl (Bel.of_sub g2 d3)) (Eff.hot hcalm (by simp [ho]) (by simp [ho]) fun _ _ _ _ e2 he2 g hg => box_calm (M := M) (e1 := e1) (G' := G') g1 g2 d3 he2 hg) hKp
/-- A call that reads the heap, and leaves it. -/
theorem op_callR {L : World → Prop} (hc : CxOK P L c) (h : St M e a w) (hL : LW L M w) {ro : Option Nat} {q : Call} {f : Operand} {g : FuncId} {cs : List PV} {vs : List Value} (hq : q.callee = .value f) (hv : a.eval f = .func (.func g) #[] vs.toArray) (hcs : CRs M.G w cs vs) (hok : ∀ p ∈ cs, okC p = true) (ho : o.op = .call q)
    (hk : ((pubsH c e q.args.toList q.argTypes.toList).bind fun a => c.callR g (a.1 ++ cs) a.2.h fun r => if okRes r = true then K (a.2.putD o.dst r) else none) = some r) {next : Act → World → Prop} {Q : Exit → Act → World → Prop} (hn : Nexts c M o a w K r next) : o.wpIn (FW ro) 0 P a w next Q := by
  obtain ⟨⟨ps, e1⟩, hp, hk'⟩ := Option.bind_eq_some_iff.1 hk
  clear hk
  obtain ⟨hf, hcall⟩ := hc.callR g ρ (ps ++ cs) e1.h _ r hk'
  obtain ⟨G', g1, g1', g2, g3, g4⟩ := pubsH_spec q.args.toList q.argTypes.toList h hp
  have hL2 : LW L { M with G := G' } w := fun w2 h2 => hL w2 (Bel.key (M := M) (M' := { M with G := G' }) rfl h2)
  have hcalls := hcall (({ M with G := G' } : Mem).sub e1 a w) w (q.args.map a.eval ++ vs.toArray) (Begin.of g2 hL2) (by
    rw [Array.toList_append, Array.toList_map]
    refine ArgsH.append (ArgsH.more (M := { M with G := G' }) (M' := ({ M with G := G' } : Mem).sub e1 a w) (Com.le.refl _) (fun _ => rfl) g4) (ArgsH.of_CRs hok ?_)
    exact CRs.mono g1 (Keeps.refl _ _) hcs)
  unfold Oper.wpIn
  refine ⟨fun _ _ => trivial, ?_⟩
  rw [show (FW ro).round = ro from rfl, semAt_call ho, call_run hq hv ho hf w]
  refine ⟨fun hh => (by cases hh), ?_⟩
  refine CallsIn.mono (callsIn_wide.2 hcalls : CallsIn Fence.wide 0 P g _ w _) fun en w' hen => ?_
  cases en with
  | panicked ch => exact hen.elim
  | outgrown => exact hen.elim
  | returned v =>
    obtain ⟨p, M', hKp, hno, d1, d2, d3, hx, d4⟩ := hen
    have hKp := res_ok hKp
    let M1 : Mem := { M with G := G' }
    have d1G : M1.G.le M'.G := d1.2
    have hGn : M'.G.n = M1.G.n := by rw [d2.ha.1, g2.ha.1]; rfl
    have hG0 : M'.G0 = M1.G := congrArg (fun x => x.2.1) d1.1
    have hmine : ∀ g, M'.Mine g → HL M1 e1 a w g ∨ w.heap.size ≤ g := fun g hg => (Mem.mine_key d1.1 g).1 hg
    have hβ : ∀ i, i < M1.G.n → M'.β (.h i) = M1.β (.h i) := fun i hi => by
      rw [← d2.ha.2 i (by rw [hGn]; exact hi), d1G.adr i hi, g2.ha.2 i hi]
    have hn1 : ∀ i, e1.box (.h i) ≠ [] → i < M1.G.n := fun i hb => by
      rw [g2.ha.1]
      refine Nat.lt_of_not_le fun hle => hb ?_
      show (e1.h.getD i (.c [])).cs = []
      rw [List.getD_eq_getElem?_getD, List.getElem?_eq_none hle]; rfl
    have hpv : ∀ i o', e1.at_ (.b (.h i) o') ≠ .un → pv M' act0 w' (.b (.h i) o') = pv M1 a w (.b (.h i) o') := fun i o' hu => by
      have hb : e1.box (.h i) ≠ [] := fun h0 => hu (at_of_empty h0 o')
      obtain ⟨_, ⟨C, T, b2, _⟩, _⟩ := g2.bk (.h i) hb
      show (w'.cell? ⟨M'.β (.h i), o', none⟩).getD undef = (w.cell? ⟨M1.β (.h i), o', none⟩).getD undef
      rw [hβ i (hn1 i hb), World.cell?_of_block (a := ⟨M1.β (.h i), o', none⟩) (hx _ (Array.getElem?_eq_some_iff.1 b2).1)]
    have hath : ∀ i o', (hEnv e1.h).at_ (.b (.h i) o') = e1.at_ (.b (.h i) o') := fun _ _ => rfl
    have hold : ∀ g, ¬ M'.Mine g → ∀ o', M'.G g o' → M1.G g o' := fun g hg o' hh => (d2.fr g o' hh).elim (fun h1 => by rw [hG0] at h1; exact h1) (fun h1 => absurd h1 hg)
    have hnhm : ∀ g, NH M1 e1 a w g → ¬ M'.Mine g := fun g hg hm => by
      obtain ⟨_, h2, h3⟩ := NH.spec g2 hg
      exact (hmine g hm).elim h3 (fun h4 => by omega)
    have hlive : ∀ g, Live M1 e1 a w g → g < w.heap.size := fun g hl => Nat.lt_of_not_le fun hle => g2.fresh hle hl
    have hiff : ∀ g, Live M1 e1 a w g → ∀ o', M'.G g o' ↔ M1.G g o' := fun g hl o' => ⟨fun hh => by
      rcases hl with ⟨n, z1, z2⟩ | ⟨d, z1, z2⟩
      · by_cases hn : ∃ i o'', n = .b (.h i) o''
        · obtain ⟨i, o'', rfl⟩ := hn
          have hp := d2.pr (.b (.h i) o'')
          have hk := d2.hk i o''
          rw [hath] at hp hk
          cases hq : e1.at_ (.b (.h i) o'') with
          | o m k xs =>
            rw [hq] at hp hk
            have hm : m = true := hk
            obtain ⟨_, _, _, _, h5⟩ := hp
            rw [hpv i o'' (by rw [hq]; intro hh; cases hh)] at h5
            have := ((h5 g z2).2 o').1 hh
            rw [hm] at this; cases this.1
          | _ => rw [hq] at z1; cases z1
        · exact hold g (hnhm g (.inl ⟨n, fun i o hh => hn ⟨i, o, hh⟩, z1, z2⟩)) o' hh
      · cases d with
        | s d => exact hold g (hnhm g (.inr ⟨d, z1, z2⟩)) o' hh
        | h i =>
          obtain ⟨_, _, _, b4⟩ := d2.bk (.h i) z1
          rw [hβ i (hn1 i z1), z2] at b4
          exact absurd hh (b4 o'), d1G.c g o'⟩
    have hkp : Keeps M1.G w w' := keeps_of_blocks fun g o hg => hx g (g2.cb g o hg)
    have hst := g2.grow (w' := w') (G' := M'.G) d3.size d1G hGn (fun g o' hg => (d2.fr g o' hg).elim (fun h1 => by rw [hG0] at h1; exact .inl h1) (fun h1 => .inr ⟨(hmine g h1).elim (fun hh => (HL.mine g2 hh).1) (fun hh => .inr (Nat.le_trans g2.lo hh)), d2.cb g o' hg⟩)) hkp (KO.of_blocks hx)
      (fun g hl => ⟨hx g (hlive g hl), hiff g hl⟩) (fun g hl o' hg => by
        obtain ⟨i, n, l1, l2⟩ := hl
        obtain ⟨_, _, _, l4⟩ := d2.lk i n l1
        rw [hβ i (by rw [g2.ha.1]; exact (List.getElem?_eq_some_iff.1 l1).1), l2] at l4
        exact absurd hg (l4 o'))
    have hpr : PR { M with G := M'.G } w' e1.at_ (pv { M with G := M'.G } a w') (.t 0) p v := by
      have plain : ∀ {p : PV}, ArgH M' e1.h w' p v → PR { M with G := M'.G } w' e1.at_ (pv { M with G := M'.G } a w') (.t 0) p v := fun {p} hh => by
        obtain ⟨hok, hp⟩ := hh
        have hpv2 : ∀ i o', e1.at_ (.b (.h i) o') ≠ .un → pv M' act0 w' (.b (.h i) o') = pv { M with G := M'.G } a w' (.b (.h i) o') := fun i o' hu => by
          have hb : e1.box (.h i) ≠ [] := fun h0 => hu (at_of_empty h0 o')
          show (w'.cell? ⟨M'.β (.h i), o', none⟩).getD undef = (w'.cell? ⟨M1.β (.h i), o', none⟩).getD undef
          rw [hβ i (hn1 i hb)]
        cases p with
        | r m => cases m with
          | t n => cases hok
          | b d o' => cases d with
            | s d => cases hok
            | h i =>
              obtain ⟨q1, q2⟩ := hp
              refine ⟨q1, fun hi => ?_⟩
              have := q2 hi
              rw [hpv2 i o' (by intro hh; rw [hh] at hi; cases hi)] at this
              exact this
        | rh k i o' ix pa =>
          obtain ⟨q1, q2⟩ := hp
          refine ⟨q1, fun xs hat => ?_⟩
          have := q2 xs hat
          rw [hpv2 i o' (by rw [hat]; intro hh; cases hh)] at this
          exact this
        | _ => first | exact hp | cases hok
      cases p with
      | o m k xs => cases hno
      | tup ps => exact d4
      | _ => exact plain d4
    exact hn v { M with G := M'.G } _ w' ⟨rfl, g1.trans d1G⟩ (hst.putD o.dst hno hpr) (Bel.key (M := M) (M' := { M with G := G' }) rfl (Bel.of_sub g2 d3)) (Eff.of hx (by simp [ho])) hKp
theorem op_yield {L J : World → Prop} {G0 : Com} (hY : YieldOK P L J G0 Y r) (hG0 : G0.le M.G) (hJ : LW J M w) (h : St M e a w) (hL : LW L M w) {ro : Option Nat} {q : Call} {f : Operand} (hq : q.callee = .value f) (hv : a.eval f = .func (.yield M.G.yl) #[] #[]) (ho : o.op = .call q) (hcalm : calm c o = false)
    (hk : ((pubsH c e q.args.toList q.argTypes.toList).bind fun a => Y a.1 a.2.h fun b h => K ((a.2.withH h).putD o.dst (.b b))) = some r) {next : Act → World → Prop} {Q : Exit → Act → World → Prop} (hn : Nexts c M o a w K r next) : o.wpIn (FW ro) 0 P a w next Q := by
  obtain ⟨⟨ps, e1⟩, hp, hk'⟩ := Option.bind_eq_some_iff.1 hk
  clear hk
  obtain ⟨G', g1, g1', g2, g3, g4⟩ := pubsH_spec q.args.toList q.argTypes.toList h hp
  have hL2 : LW L { M with G := G' } w := fun w2 h2 => hL w2 (Bel.key (M := M) (M' := { M with G := G' }) rfl h2)
  obtain ⟨fn, tmps, assign, body, hy, hround⟩ := hY ps e1.h _ hk' (({ M with G := G' } : Mem).sub e1 a w) w (q.args.map a.eval) (hG0.trans g1) (Begin.of g2 hL2) (LW.sub g2 (fun w2 h2 => hJ w2 (Bel.key (M := M) (M' := { M with G := G' }) rfl h2))) (by
    rw [Array.toList_map]
    exact ArgsH.more (M := { M with G := G' }) (M' := ({ M with G := G' } : Mem).sub e1 a w) (Com.le.refl _) (fun _ => rfl) g4)
  unfold Oper.wpIn
  refine ⟨fun _ _ => trivial, ?_⟩
  rw [show (FW ro).round = ro from rfl, semAt_call ho, yield_run hq hv ho w, hG0.yl, hy]
  refine ⟨fun hh => (by cases hh), ?_⟩
  refine RoundIn.mono (hround : RoundIn (FW ro) 0 P _ _ _ _ _ w _) fun en w' hen => ?_
  obtain ⟨b, M', h', rfl, hkb, d1, d2, d3⟩ := hen
  obtain ⟨M2, hM2, hst⟩ := join_next (L := L) (p := .b b) g2 d1 d2 d3 ⟨rfl, rfl⟩ o
  exact hn (.bool b) M2 _ w' ⟨hM2.1, g1.trans hM2.2⟩ hst (Bel.key (M := M) (M' := { M with G := G' }) rfl (Bel.of_sub g2 d3)) (Eff.hot hcalm (by simp [ho]) (by simp [ho]) fun _ _ _ _ e2 he2 g hg => box_calm (M := M) (e1 := e1) (G' := G') g1 g2 d3 he2 hg) hkb
/-- The law for all operations. -/
theorem op_wp {L J : World → Prop} {G0 : Com} (hc : CxOK P L c) (hY : YieldOK P L J G0 Y r) (hG0 : G0.le M.G) (hJ : LW J M w) (h : St M e a w) (hL : LW L M w) {ro : Option Nat} (hk : opK c Y o e K = some r) {next : Act → World → Prop} {Q : Exit → Act → World → Prop} (hn : Nexts c M o a w K r next) : o.wpIn (FW ro) 0 P a w next Q := by
  have rd : (∀ t, o.op ≠ .alloc t) → rdK c o e (fun p => K (e.putD o.dst p)) = some r → o.wpIn (FW ro) 0 P a w next Q := fun hna hh => ((rd_sound hc.kd hc.eq h hh).did h (fun _ => rfl) hna).wp hn
  cases ho : o.op with
  | assign x => exact (did_assign h ho hk).wp hn
  | alloc t => exact (did_alloc hc.kd h ho hk).wp hn
  | box t x => exact (did_box hc.kd h ho hk).wp hn
  | load t x => exact (did_load hc.kd hc.eq h ho hk).wp hn
  | store t y x => exact (did_store hc.kd h ho hk).wp hn
  | slice t x lo hi mx => exact (did_slice hc.kd hc.eq h ho hk).wp hn
  | build t ps => exact (did_build hc.kd h ho hk).wp hn
  | buildSlice t n ps => exact (did_buildSlice hc.kd h ho hk).wp hn
  | makeSlice t n m => exact (did_makeSlice hc.kd h ho hk).wp hn
  | makeFunc f first caps => exact (did_makeFunc h ho hk).wp hn
  | call q =>
    cases hq : q.callee with
    | value f =>
      simp only [opK, ho, hq] at hk
      have callG : ∀ {g : Nat} {cs : List PV} {vs : List Value}, a.eval f = .func (.func g) #[] vs.toArray → CRs M.G w cs vs → (∀ p ∈ cs, okC p = true) → opK.callG c o e q g cs (fun e p => K (e.putD o.dst p)) = some r → o.wpIn (FW ro) 0 P a w next Q := fun {g cs vs} hv hcs hok hk => by
        unfold opK.callG at hk
        split at hk
        · rename_i hhot
          exact op_callH hc h hL hq hv hcs hok ho (by simp [calm, ho, hq, hhot]) hk hn
        · split at hk
          · exact op_callR hc h hL hq hv hcs hok ho hk hn
          · exact op_call hc h hL hq hv hcs ho hk hn
      split at hk
      · rename_i g hx
        obtain ⟨n0, hp⟩ := ev_pr h hx
        exact callG (vs := []) hp (by rw [CRs]; trivial) (fun p hp => by cases hp) hk
      · rename_i g cs hx
        obtain ⟨n0, hp⟩ := ev_pr h hx
        have hp : CR M.G w (.clo g cs) (a.eval f) := hp
        rw [CR] at hp
        obtain ⟨vs, hv, hcr⟩ := hp
        split at hk
        case isFalse => cases hk
        rename_i hall
        exact callG hv hcr (fun p hp => List.all_eq_true.1 hall p hp) hk
      · rename_i hx
        split at hk
        case isFalse => cases hk
        rename_i hhot
        obtain ⟨n0, hp⟩ := ev_pr h hx
        have hp : CR M.G w .yl (a.eval f) := hp
        rw [CR] at hp
        exact op_yield hY hG0 hJ h hL hq hp ho (by simp [calm, ho, hq, hhot]) hk hn
      · cases hk
    | builtin b =>
      cases b with
      | append => exact (did_append hc.kd h hq ho hk).wp hn
      | _ => refine rd (by simp [ho]) ?_; simpa only [opK, ho, hq] using hk
    | invoke x m => refine rd (by simp [ho]) ?_; simpa only [opK, ho, hq] using hk
  | _ => refine rd (by simp [ho]) ?_; simpa only [opK, ho] using hk
end
end Go.Pv
