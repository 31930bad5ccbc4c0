/- Whole functions: results, beginnings, endings. -/
import Derived.Test.YtdfdainmpklkiaaGreatDoorG22
set_option linter.unusedVariables false
set_option linter.unusedSimpArgs false
namespace Go.Pv
open Go.RowKit
section
variable {P : Program} {c : Cx} {M : Mem} {e : Env} {a : Act} {w : World} {ρ : Type} {r : ρ} {Y : Yd ρ}
/-- A result's value. -/
def resV (a : Act) : ResultVar → Sem Value
  | .tmp t => pure (a.tmps.getD t undef)
  | .cell b t => do loadVar t (← asAddr (a.tmps.getD b undef))
theorem shareB_h (e : Env) (d : Nat) : (e.shareB d).h = e.h := by
  have key : ∀ (l : List Nat) (e : Env), (l.foldl (fun e o => e.share (.b (.s d) o)) e).h = e.h := by
    intro l
    induction l with
    | nil => intro e; rfl
    | cons o l ih =>
      intro e
      rw [List.foldl_cons, ih]
      unfold Env.share
      split <;> rfl
  exact key _ e
theorem mov_h {x : Operand} {p : PV} {e1 : Env} (hp : mov e x = some (p, e1)) : e1.h = e.h := by
  unfold mov at hp
  split at hp
  · simp only [Option.some.injEq, Prod.mk.injEq] at hp; rw [← hp.2]
  · rename_i n hnh _
    split at hp
    · simp only [Option.some.injEq, Prod.mk.injEq] at hp
      rw [← hp.2]
      cases n with
      | t n => rfl
      | b d o => cases d with
        | s d => rfl
        | h i => exact absurd rfl (hnh i o)
    · cases hp
  · simp only [Option.some.injEq, Prod.mk.injEq] at hp; rw [← hp.2]; rfl
  · cases hp
  · cases hp
  · simp only [Option.some.injEq, Prod.mk.injEq] at hp; rw [← hp.2]
theorem resK_spec (hc : ∀ t k, c.kd t = some k → Fits P k t) : ∀ (l : List (ResultVar × Nat)) {M : Mem} {e e1 : Env} {ps : List ((k : Kd) × k.den)}, St M e a w → resK c e l = some (ps, e1) →
    ∃ G' vs, M.G.le G' ∧ G'.n = M.G.n ∧ St { M with G := G' } e1 a w ∧ e1.h = e.h ∧ ((l.map (·.1)).mapM (resV a)).run P w = .ok vs w ∧ vs.length = ps.length ∧ ∀ (j : Nat) (q : (k : Kd) × k.den), ps[j]? = some q → ∃ u, vs[j]? = some u ∧ RepV G' w q.1 q.2 u
  | [], M, e, e1, ps, h, hk => by
    simp only [resK, Option.some.injEq, Prod.mk.injEq] at hk
    obtain ⟨rfl, rfl⟩ := hk
    exact ⟨M.G, [], Com.le.refl _, rfl, h, rfl, rfl, rfl, fun j q hj => by simp at hj⟩
  | (.tmp t, ty) :: l, M, e, e1, ps, h, hk => by
    simp only [resK] at hk
    split at hk
    case h_2 => cases hk
    rename_i k hkd
    obtain ⟨⟨p, e2⟩, h1, hk⟩ := Option.bind_eq_some_iff.1 hk
    obtain ⟨x, hx, hk⟩ := Option.bind_eq_some_iff.1 hk
    obtain ⟨⟨qs, e3⟩, h2, hk⟩ := Option.bind_eq_some_iff.1 hk
    simp only [Option.some.injEq, Prod.mk.injEq] at hk
    obtain ⟨rfl, rfl⟩ := hk
    obtain ⟨G1, a1, a1', a2, _, _, _, a3⟩ := pub_spec h h1
    have hr := (a3 { M with G := G1 } (fun _ => .un) (fun _ => undef) (.t 0) rfl).toDen hx
    obtain ⟨G2, vs, b1, b1', b2, bh, b3, b4, b5⟩ := resK_spec hc l a2 h2
    refine ⟨G2, a.eval (.tmp t) :: vs, a1.trans b1, b1'.trans a1', b2, bh.trans (pub_h h1), ?_, by simp [b4], fun j q hj => ?_⟩
    · simp only [List.map_cons, List.mapM_cons, resV, Sem.run_bind, Sem.run_pure, Result.andThen_ok, b3]
      try rfl
    · cases j with
      | zero => simp only [List.getElem?_cons_zero, Option.some.injEq] at hj; subst hj; exact ⟨_, rfl, hr.mono b1 (Keeps.refl _ _)⟩
      | succ j => exact b5 j q (by simpa using hj)
  | (.cell b t, ty) :: l, M, e, e1, ps, h, hk => by
    simp only [resK] at hk
    split at hk
    · rename_i k d off hkd hsl
      obtain ⟨x, hx, hk⟩ := Option.bind_eq_some_iff.1 hk
      obtain ⟨⟨qs, e3⟩, h2, hk⟩ := Option.bind_eq_some_iff.1 hk
      simp only [Option.some.injEq, Prod.mk.injEq] at hk
      obtain ⟨rfl, rfl⟩ := hk
      obtain ⟨G1, cs, a1, a1', a2, a3, a4⟩ := box_rep h hx
      have hv : a.tmps.getD b undef = .pointer (some ⟨M.β (.s d), off, none⟩) := by have := h.pr (.t b); rw [show e.at_ (.t b) = .bx d off from hsl] at this; exact this
      obtain ⟨G2, vs, b1, b1', b2, bh, b3, b4, b5⟩ := resK_spec hc l a2 h2
      refine ⟨G2, valOf k cs :: vs, a1.trans b1, b1'.trans a1', b2, bh.trans (shareB_h e d), ?_, by simp [b4], fun j q hj => ?_⟩
      · simp only [List.map_cons, List.mapM_cons, resV, hv, asAddr, Sem.run_bind, Sem.run_pure, Result.andThen_ok, run_loadVar_rep (hc _ _ hkd) a3 a4, b3]
        try rfl
      · cases j with
        | zero => simp only [List.getElem?_cons_zero, Option.some.injEq] at hj; subst hj; exact ⟨_, rfl, RepV.mono b1 (Keeps.refl _ _) ⟨cs, a3, rfl⟩⟩
        | succ j => exact b5 j q (by simpa using hj)
    · rename_i k z hkd hsl
      obtain ⟨⟨i, off⟩, hz0, hk'⟩ := Option.bind_eq_some_iff.1 hk
      clear hk
      subst hz0
      obtain ⟨y, hy, hk⟩ := Option.bind_eq_some_iff.1 hk'
      clear hk'
      obtain ⟨⟨qs, e3⟩, h2, hk⟩ := Option.bind_eq_some_iff.1 hk
      simp only [Option.some.injEq, Prod.mk.injEq] at hk
      obtain ⟨rfl, rfl⟩ := hk
      have hp := h.pr (.t b)
      rw [show e.at_ (.t b) = .p (some (i, off)) from hsl] at hp
      obtain ⟨hv, hi⟩ := ptr_at h hp
      have hv : a.tmps.getD b undef = .pointer (some ⟨M.β (.h i), off, none⟩) := hv
      obtain ⟨hall, z, hz, rfl⟩ := hasm_asm hy
      obtain ⟨cs, a3, a4⟩ := box_rd h hall hz
      obtain ⟨G2, vs, b1, b1', b2, bh, b3, b4, b5⟩ := resK_spec hc l h h2
      refine ⟨G2, valOf k cs :: vs, b1, b1', b2, bh, ?_, by simp [b4], fun j q hj => ?_⟩
      · simp only [List.map_cons, List.mapM_cons, resV, hv, asAddr, Sem.run_bind, Sem.run_pure, Result.andThen_ok, run_loadVar_rep (hc _ _ hkd) a3 a4, b3]
        try rfl
      · cases j with
        | zero => simp only [List.getElem?_cons_zero, Option.some.injEq] at hj; subst hj; exact ⟨_, rfl, RepV.mono b1 (Keeps.refl _ _) ⟨cs, a3, rfl⟩⟩
        | succ j => exact b5 j q (by simpa using hj)
    · cases hk
theorem results_eq (fn : Func) (a : Act) : results fn a.tmps = (fn.results.mapM (resV a) >>= fun vs => pure (if h : vs.size = 1 then vs[0] else .tuple vs)) := by
  unfold results
  congr 1
/-- A function's one value out of its results' values. -/
def resOf : List Value → Value
  | [v] => v
  | vs => .tuple vs.toArray
theorem run_results {fn : Func} {vs : List Value} (h : (fn.results.toList.mapM (resV a)).run P w = .ok vs w) : (results fn a.tmps).run P w = .ok (resOf vs) w := by
  rw [results_eq, Array.mapM_eq_mapM_toList, Sem.run_bind, Sem.run_map, h]
  simp only [Result.andThen_ok, Sem.run_pure]
  match vs with
  | [] => rfl
  | [v] => rfl
  | _ :: _ :: _ => rfl
/-- What is handed back, seen from the state. -/
def DoneR (M : Mem) (e : Env) (a : Act) (w : World) : PV → Value → Prop
  | .o m k xs, v => ∃ n, OwnD M w n m k xs v ∧ Free M e a w v
  | .tup ps, v => ∃ vs, v = .tuple vs ∧ ∀ (j : Nat) (q : (k : Kd) × k.den), ps[j]? = some q → ∃ u, vs[j]? = some u ∧ RepV M.G w q.1 q.2 u
  | p, v => okArg p = true ∧ PR M w e.at_ (pv M a w) (.t 0) p v
theorem DoneR.ofDen {k : Kd} {x : k.den} {v : Value} (h : RepV M.G w k x v) : DoneR M e a w (ofDen k x) v := by
  have hp : PR M w e.at_ (pv M a w) (.t 0) (Pv.ofDen k x) v := PR.ofDen h
  cases k <;> exact ⟨rfl, hp⟩
theorem resC_eq : ∀ (l : List (ResultVar × Nat)) (e : Env) (K : List ((k : Kd) × k.den) → Option ρ), resC c e l K = (resK c e l).bind fun q => K q.1
  | [], e, K => rfl
  | (.tmp t, ty) :: l, e, K => by
    simp only [resC, resK]
    cases c.kd ty with
    | none => rfl
    | some k =>
      simp only [Option.bind_assoc, resC_eq l, Option.bind_some]
  | (.cell b t, ty) :: l, e, K => by
    simp only [resC, resK]
    split
    · simp only [Option.bind_assoc, resC_eq l, Option.bind_some]
    · simp only [Option.bind_assoc, resC_eq l, Option.bind_some]
    · rfl
theorem doneC_eq (fn : Func) (e : Env) (K : PV → Option ρ) : doneC c fn e K = (doneK c fn e).bind K := by
  unfold doneC doneK
  split
  · rfl
  · rename_i l ts hne
    split
    · rw [resC_eq, Option.bind_assoc]
      congr 1
      funext q
      cases q.1 with
      | nil => rfl
      | cons x xs => cases xs <;> rfl
    · rfl
theorem doneK_spec (hc : ∀ t k, c.kd t = some k → Fits P k t) {fn : Func} {p : PV} (h : St M e a w) (hk : doneK c fn e = some p) :
    ∃ G' e1 v, M.G.le G' ∧ G'.n = M.G.n ∧ St { M with G := G' } e1 a w ∧ e1.h = e.h ∧ (results fn a.tmps).run P w = .ok v w ∧ DoneR { M with G := G' } e1 a w p v := by
  unfold doneK doneK.one at hk
  split at hk
  · rename_i t ty hr ht
    obtain ⟨⟨q, e1⟩, hm, hk'⟩ := Option.bind_eq_some_iff.1 hk
    clear hk
    have hrun : (results fn a.tmps).run P w = .ok (a.eval (.tmp t)) w := run_results (vs := [a.eval (.tmp t)]) (by rw [hr]; simp only [List.mapM_cons, List.mapM_nil, resV, Sem.run_bind, Sem.run_pure, Result.andThen_ok]; rfl)
    have hh := mov_h hm
    rcases mov_nil (c := c) h hm ty with ⟨m, k, xs, n, h0, h1, h2, h3⟩ | ⟨h1, h2, rfl, n0, h3⟩
    · simp only [h0, Option.some.injEq] at hk'
      subst hk'
      exact ⟨M.G, e1, _, Com.le.refl _, rfl, h2, hh, hrun, n, h1, h3⟩
    · simp only [h2] at hk'
      rw [h2] at h1
      split at hk'
      · cases h1
      · injection hk' with hk'; subst hk'
        exact ⟨M.G, e1, _, Com.le.refl _, rfl, h, rfl, hrun, rfl, h3⟩
      · injection hk' with hk'; subst hk'
        exact ⟨M.G, e1, _, Com.le.refl _, rfl, h, rfl, hrun, rfl, h3⟩
      · injection hk' with hk'; subst hk'
        exact ⟨M.G, e1, _, Com.le.refl _, rfl, h, rfl, hrun, rfl, h3⟩
      · split at hk'
        · rename_i k hkd
          obtain ⟨x, hx, rfl⟩ := Option.map_eq_some_iff.1 hk'
          exact ⟨M.G, e1, _, Com.le.refl _, rfl, h, rfl, hrun, DoneR.ofDen (h3.toDen hx)⟩
        · cases hk'
  · split at hk
    case isFalse => cases hk
    rename_i hlen
    obtain ⟨⟨ps, e1⟩, hres, hk⟩ := Option.bind_eq_some_iff.1 hk
    obtain ⟨G', vs, g1, g1', g2, gh, g3, g4, g5⟩ := resK_spec hc _ h hres
    rw [List.map_fst_zip (by omega)] at g3
    have hrun := run_results g3
    refine ⟨G', e1, _, g1, g1', g2, gh, hrun, ?_⟩
    split at hk
    · rename_i q hps
      simp only at hps
      subst hps
      simp only [Option.some.injEq] at hk
      subst hk
      match vs, g4 with
      | [v], _ =>
        obtain ⟨u, hu, hr⟩ := g5 0 q rfl
        simp only [List.getElem?_cons_zero, Option.some.injEq] at hu
        subst hu
        exact DoneR.ofDen hr
    · rename_i ps' hne
      simp only [Option.some.injEq] at hk
      subst hk
      match vs, g4, hne, g5 with
      | [], _, _, g5 => exact ⟨_, rfl, fun j q hj => by obtain ⟨u, hu, _⟩ := g5 j q hj; simp at hu⟩
      | [v], g4, hne, g5 =>
        exfalso
        match ps, g4, hne with
        | [q], _, hne => exact hne q rfl
      | v1 :: v2 :: vs, g4, hne, g5 =>
        refine ⟨_, rfl, fun j q hj => ?_⟩
        obtain ⟨u, hu, hr⟩ := g5 j q hj
        exact ⟨u, by simpa using hu, hr⟩
/-! ### The beginning -/
theorem ArgsH.get {h : Hp} : ∀ {ps : List PV} {vs : List Value}, ArgsH M h w ps vs → ∀ i, i < ps.length → ArgH M h w (ps.getD i .un) (vs.getD i undef)
  | _ :: _, _ :: _, h, 0, _ => h.1
  | _ :: ps, _ :: vs, h, i + 1, hi => by simpa using ArgsH.get h.2 i (by simpa using hi)
theorem St.start {h : Hp} {args : List PV} {vs : Array Value} (n : Nat) (hs : HS M h w) (hdf : M.dfs = []) (ha : ArgsH M h w args vs.toList) :
    St M ⟨args ++ List.replicate n .un, List.replicate (args.length + n) [], h⟩ { tmps := vs ++ Array.replicate n undef, defers := [] } w where
  sz := by have := ha.len; simp at this; simp [this]
  bz := by simp
  df := ⟨by rw [hdf]; rfl, fun D hD => by rw [hdf] at hD; cases hD⟩
  nd := ⟨by rw [hdf]; exact List.nodup_nil, fun D hD => by rw [hdf] at hD; cases hD⟩
  lo := hs.lo
  cb := hs.cb
  fr := hs.fr
  bk := fun d hd => by
    cases d with
    | h i => exact hs.bk (.h i) hd
    | s d =>
      exfalso
      apply hd
      show (List.replicate _ []).getD d [] = []
      rw [List.getD_eq_getElem?_getD, List.getElem?_replicate]
      split <;> rfl
  lk := hs.lk
  ha := hs.ha
  hk := hs.hk
  pr := fun m => by
    cases m with
    | b d o =>
      cases d with
      | h i =>
        have hp := hs.pr (.b (.h i) o)
        have hk := hs.hk i o
        show PR M w _ _ _ ((hEnv h).at_ (.b (.h i) o)) (pv M act0 w (.b (.h i) o))
        cases hq : (hEnv h).at_ (.b (.h i) o) with
        | _ => rw [hq] at hp hk; first | exact hp | cases hk
      | s d =>
        have : Env.at_ ⟨args ++ List.replicate n .un, List.replicate (args.length + n) [], h⟩ (.b (.s d) o) = .un := at_of_empty (by
          show (List.replicate _ []).getD d [] = []
          rw [List.getD_eq_getElem?_getD, List.getElem?_replicate]
          split <;> rfl) o
        rw [this]; trivial
    | t i =>
      show PR M w _ _ _ ((args ++ List.replicate n PV.un).getD i PV.un) ((vs ++ Array.replicate n undef).getD i undef)
      by_cases hi : i < args.length
      · have hl : args.length = vs.size := by have := ha.len; simpa using this.symm
        obtain ⟨ho, h1⟩ := ha.get i hi
        have e1 : (args ++ List.replicate n PV.un).getD i PV.un = args.getD i PV.un := by
          rw [List.getD_eq_getElem?_getD, List.getD_eq_getElem?_getD, List.getElem?_append_left hi]
        have e2 : (vs ++ Array.replicate n undef).getD i undef = vs.toList.getD i undef := by
          rw [Array.getD_eq_getD_getElem?, List.getD_eq_getElem?_getD, Array.getElem?_append_left (by omega), Array.getElem?_toList]
        rw [e1, e2]
        generalize args.getD i PV.un = p at ho h1
        cases p with
        | r m => cases m with
          | t n => cases ho
          | b d o => cases d with
            | s d => cases ho
            | h i => exact h1
        | _ => first | exact h1 | cases ho
      · have e1 : (args ++ List.replicate n PV.un).getD i PV.un = .un := by
          rw [List.getD_eq_getElem?_getD, List.getElem?_append_right (by omega), List.getElem?_replicate]
          split <;> rfl
        rw [e1]; trivial
/-! ### The ending: marks -/
theorem cell_putDef {w : World} {g : Nat} {ds ds' : Option (List Deferred)} (h : w.heap[g]? = some (.deferred ds)) (g' o : Nat) : (w.putObj g (.deferred ds')).cell? ⟨g', o, none⟩ = w.cell? ⟨g', o, none⟩ := by
  by_cases hg : g' = g
  · subst hg
    have h1 := World.putObj_heap_same (w := w) (o := .deferred ds') (Array.getElem?_eq_some_iff.1 h).1
    simp [World.cell?, h, h1]
  · exact World.cell?_of_block (a := ⟨g', o, none⟩) (World.putObj_heap_other hg)
/-- A mark is taken away. -/
theorem St.unmark (h : St M e a w) {D : Nat} {ds : List Nat} (hd : M.dfs = D :: ds) :
    St { M with dfs := ds } e { a with defers := ds.map Pv.mark } (w.putObj D (.deferred none)) ∧ Bel M w (w.putObj D (.deferred none)) := by
  have hDw := h.df.2 D (by rw [hd]; exact List.mem_cons_self ..)
  have hsz := (Array.getElem?_eq_some_iff.1 hDw).1
  have hnd := h.nd.1
  rw [hd, List.nodup_cons] at hnd
  refine ⟨?_, Bel.one (.inr (h.nd.2 D (by rw [hd]; exact List.mem_cons_self ..))) rfl rfl rfl (by simp) (fun g' _ hg => World.putObj_heap_other hg) h.lo⟩
  have hcell := cell_putDef (ds' := none) hDw
  have hpv : ∀ m, pv { M with dfs := ds } { a with defers := ds.map Pv.mark } (w.putObj D (.deferred none)) m = pv M a w m := fun m => by
    cases m with
    | t m => rfl
    | b d o => show (World.cell? _ _).getD undef = _; rw [hcell]; rfl
  have hne : ∀ {g : Nat} {o : Obj}, w.heap[g]? = some o → (∀ x, o ≠ .deferred x) → (w.putObj D (.deferred none)).heap[g]? = some o := fun {g o} hg ho => by
    rw [World.putObj_heap_other (fun hh => by rw [hh, hDw] at hg; injection hg with hg; exact ho _ hg.symm)]; exact hg
  refine h.step' (M' := { M with dfs := ds }) h.sz h.bz ⟨rfl, fun D' hD' => ?_⟩ ⟨hnd.2, fun D' hD' => h.nd.2 D' (by rw [hd]; exact List.mem_cons_of_mem _ hD')⟩ rfl (by simp) (fun g o hg => .inl hg) (Com.le.refl _) (fun g o v hg hv => by rw [hcell]; exact hv)
    (fun m => .inl ⟨rfl, hpv m, fun _ _ _ => rfl, fun m' _ hm => ⟨hm, hpv m', fun k xs hq => ⟨xs, hq, rfl⟩⟩, fun ho g hg => ⟨?_, rfl, fun _ => Iff.rfl⟩⟩) (fun d hd => ?_) (fun j n' hj => ?_) h.ha h.hk
  · rw [World.putObj_heap_other (fun hh => hnd.1 (by rw [← hh]; exact hD'))]
    exact h.df.2 D' (by rw [hd]; exact List.mem_cons_of_mem _ hD')
  · have hp := h.pr m
    cases hq : e.at_ m with
    | o b k xs =>
      rw [hq] at hp
      obtain ⟨_, _, _, h4, _⟩ := hp
      obtain ⟨C, T, y, h5⟩ := row_cells h4 hg
      rw [hne h5 (fun x hh => by cases hh), h5]
    | _ => rw [hq] at ho; cases ho
  · obtain ⟨b1, ⟨C, T, b2, b3⟩, b4⟩ := h.bk d hd
    exact ⟨b1, ⟨C, T, hne b2 (fun x hh => by cases hh), b3⟩, b4⟩
  · obtain ⟨k1, k2, k3⟩ := h.lk j n' hj
    exact ⟨k1, hne k2 (fun x hh => by cases hh), k3⟩
end
end Go.Pv
