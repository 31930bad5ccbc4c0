/- A loop over a function: its record is turned; a round's frame. -/
import Derived.Test.YtdfdainmpklkiaaGreatDoorG18
import Derived.RangeFuncRecord
set_option linter.unusedVariables false
set_option linter.unusedSimpArgs false
namespace Go.Pv
open Go.RowKit
section
variable {P : Program} {c : Cx} {M : Mem} {e : Env} {a : Act} {w : World} {ρ : Type} {r : ρ}
theorem cell_none {w : World} {g o : Nat} {r : Loop} (h : w.heap[g]? = some (.loop r)) : w.cell? ⟨g, o, none⟩ = none := by
  simp [World.cell?, h]
theorem cell_putLoop {w : World} {g : Nat} {r r' : Loop} (h : w.heap[g]? = some (.loop r)) (g' o : Nat) : (w.putObj g (.loop r')).cell? ⟨g', o, none⟩ = w.cell? ⟨g', o, none⟩ := by
  by_cases hg : g' = g
  · subst hg
    rw [cell_none h, cell_none (World.putObj_heap_same (Array.getElem?_eq_some_iff.1 h).1)]
  · exact World.cell?_of_block (a := ⟨g', o, none⟩) (World.putObj_heap_other hg)
theorem Hcs_set (h : Hp) (i : Nat) (x : HO) (j : Nat) : Hcs (h.set i x) j = if i = j ∧ i < h.length then x.cs else Hcs h j := by
  unfold Hcs
  rw [List.getD_eq_getElem?_getD, List.getD_eq_getElem?_getD, List.getElem?_set]
  by_cases hij : i = j
  · subst hij
    by_cases hl : i < h.length
    · simp [hl]
    · simp [hl, List.getElem?_eq_none (Nat.le_of_not_lt hl)]
  · simp [hij]
/-- A loop's record is turned. -/
theorem St.setLp (h : St M e a w) {i n : Nat} (hi : e.h[i]? = some (.lp n)) (x : HO) (r' : Loop) (hx : x = .c [] ∨ ∃ n', x = .lp n' ∧ r' = lpObj (M.G.lr i) n') :
    St M (e.withH (e.h.set i x)) a (w.putObj (M.β (.h i)) (.loop r')) ∧ Bel M w (w.putObj (M.β (.h i)) (.loop r')) := by
  have h0 := h.scrubH
  have hi0 : e.scrubH.h[i]? = some (.lp n) := hi
  show St M { e.scrubH with h := e.scrubH.h.set i x } a _ ∧ _
  obtain ⟨l1, l2, l3, l4⟩ := h.lk i n hi
  have hsz := (Array.getElem?_eq_some_iff.1 l2).1
  have hil := (List.getElem?_eq_some_iff.1 hi).1
  refine ⟨?_, Bel.one l1 rfl rfl rfl (by simp) (fun g' _ hg => World.putObj_heap_other hg) h.lo⟩
  generalize e.scrubH = e at h0 hi0
  have hil0 := (List.getElem?_eq_some_iff.1 hi0).1
  have hcs : x.cs = [] := by rcases hx with rfl | ⟨n', rfl, _⟩ <;> rfl
  have hcs0 : Hcs e.h i = [] := by unfold Hcs; rw [List.getD_eq_getElem?_getD, hi0]; rfl
  have hbox : ∀ d, ({ e with h := e.h.set i x } : Env).box d = e.box d := fun d => by
    cases d with
    | s d => rfl
    | h j =>
      show Hcs (e.h.set i x) j = Hcs e.h j
      rw [Hcs_set]
      by_cases hij : i = j ∧ i < e.h.length
      · rw [if_pos hij, hcs, ← hij.1, hcs0]
      · rw [if_neg hij]
  have hat : ∀ m, ({ e with h := e.h.set i x } : Env).at_ m = e.at_ m := fun m => by
    cases m with
    | t m => rfl
    | b d o => show (Env.box _ d).getD o .un = (e.box d).getD o .un; rw [hbox]
  have hcell : ∀ g o, (w.putObj (M.β (.h i)) (.loop r')).cell? ⟨g, o, none⟩ = w.cell? ⟨g, o, none⟩ := cell_putLoop l2
  have hpv : ∀ m, pv M a (w.putObj (M.β (.h i)) (.loop r')) m = pv M a w m := fun m => by
    cases m with
    | t m => rfl
    | b d o => show (World.cell? _ _).getD undef = _; rw [hcell]; rfl
  have hne : ∀ {g : Nat} {C : Array Value} {T : TypeId} {y : Nat × Nat}, w.heap[g]? = some (.cells C T y) → g ≠ M.β (.h i) := fun hc hg => by rw [hg, l2] at hc; cases hc
  refine h0.step' h0.sz h0.bz ⟨h0.df.1, fun D hD => ?_⟩ h0.nd rfl (by simp) (fun g o hg => .inl hg) (Com.le.refl _) (fun g o v hg hv => by rw [hcell]; exact hv) (fun m => .inl ⟨hat m, hpv m, fun _ _ _ => rfl, fun m' _ => ?_, fun ho g hg => ⟨?_, rfl, fun _ => Iff.rfl⟩⟩) (fun d hd => ?_) (fun j n' hj => ?_) ⟨?_, h0.ha.2⟩ (fun j o => by rw [hat]; exact h0.hk j o)
  · have hD' := h0.df.2 D hD
    rw [World.putObj_heap_other (fun hh => by rw [hh, l2] at hD'; cases hD')]; exact hD'
  · intro hm
    rw [hat] at hm ⊢
    exact ⟨hm, hpv m', fun k xs hq => ⟨xs, hq, rfl⟩⟩
  · have hp := h0.pr m
    cases hq : e.at_ m with
    | o b k xs =>
      rw [hq] at hp
      obtain ⟨_, _, _, h4, _⟩ := hp
      obtain ⟨C, T, y, h5⟩ := row_cells h4 hg
      exact World.putObj_heap_other (hne h5)
    | _ => rw [hq] at ho; cases ho
  · rw [hbox] at hd ⊢
    obtain ⟨b1, ⟨C, T, b2, b3⟩, b4⟩ := h0.bk d hd
    exact ⟨b1, ⟨C, T, by rw [World.putObj_heap_other (hne b2)]; exact b2, b3⟩, b4⟩
  · have hj : (e.h.set i x)[j]? = some (HO.lp n') := hj
    rw [List.getElem?_set] at hj
    by_cases hij : i = j
    · subst hij
      rw [if_pos rfl, if_pos hil0] at hj
      injection hj with hj
      rcases hx with rfl | ⟨n2, rfl, rfl⟩
      · cases hj
      · injection hj with hj
        subst hj
        exact ⟨l1, World.putObj_heap_same hsz, l3, l4⟩
    · rw [if_neg hij] at hj
      obtain ⟨k1, k2, k3, k4⟩ := h0.lk j n' hj
      refine ⟨k1, ?_, k3, k4⟩
      rw [World.putObj_heap_other (fun hh => by rw [hh, l3] at k3; injection k3 with k3; injection k3 with k3; injection k3 with k3; exact hij k3)]
      exact k2
  · rw [h0.ha.1]; simp
/-- The mark of a loop over a function, and the block for its deferred calls. -/
theorem St.mark (h : St M e a w) : St { M with dfs := w.heap.size :: M.dfs } e { a with defers := mark w.heap.size :: a.defers } (w.alloc (.deferred (some []))) := by
  have hold : ∀ g, g < w.heap.size → (w.alloc (.deferred (some []))).heap[g]? = w.heap[g]? := fun g hg => heap_alloc_old w _ g hg
  have hkp : Keeps M.G w (w.alloc (.deferred (some []))) := keeps_of_blocks fun g o hg => hold g (h.cb g o hg)
  have hpv : ∀ n, e.at_ n ≠ .un → pv { M with dfs := w.heap.size :: M.dfs } { a with defers := Pv.mark w.heap.size :: a.defers } (w.alloc (.deferred (some []))) n = pv M a w n := fun n hu => by
    cases n with
    | t n => rfl
    | b d o =>
      have hne : e.box d ≠ [] := fun h0 => hu (at_of_empty h0 o)
      obtain ⟨_, ⟨C, T', c2, _⟩, _⟩ := h.bk d hne
      show ((w.alloc _).cell? ⟨M.β d, o, none⟩).getD undef = (w.cell? ⟨M.β d, o, none⟩).getD undef
      rw [World.cell?_of_block (a := ⟨M.β d, o, none⟩) (hold _ (Array.getElem?_eq_some_iff.1 c2).1)]
  refine h.step' (M' := { M with dfs := w.heap.size :: M.dfs }) h.sz h.bz ⟨by rw [List.map_cons, ← h.df.1], fun D hD => ?_⟩ ⟨List.nodup_cons.2 ⟨fun hD => absurd (Array.getElem?_eq_some_iff.1 (h.df.2 _ hD)).1 (Nat.lt_irrefl _), h.nd.1⟩, fun D hD => (List.mem_cons.1 hD).elim (fun hh => by rw [hh]; exact h.lo) (h.nd.2 D)⟩ rfl (by simp) (fun g o hg => .inl hg) (Com.le.refl _) hkp (fun n => ?_) (fun d hd => ?_) (fun i n hi => ?_) h.ha h.hk
  · rcases List.mem_cons.1 hD with rfl | hD
    · exact World.alloc_heap_new w _
    · exact KO.of_blocks hold D _ (h.df.2 D hD) rfl
  · by_cases hu : e.at_ n = .un
    · right; rw [hu]; trivial
    · left
      refine ⟨rfl, hpv n hu, fun _ _ _ => rfl, fun m hm hx => ⟨hx, hpv m (fun hh => by rw [hh] at hx; cases hx), fun k xs hq => ⟨xs, hq, rfl⟩⟩, fun ho g hg => ⟨hold g ?_, rfl, fun _ => Iff.rfl⟩⟩
      have := h.pr n
      cases hq : e.at_ n with
      | o m k xs => rw [hq] at this; obtain ⟨_, _, _, h2, _⟩ := this; exact (h2.lt g hg).2
      | _ => rw [hq] at ho; cases ho
  · obtain ⟨b1, ⟨C, T, b2, b3⟩, b4⟩ := h.bk d hd
    exact ⟨b1, ⟨C, T, by rw [hold _ (Array.getElem?_eq_some_iff.1 b2).1]; exact b2, b3⟩, b4⟩
  · obtain ⟨b1, b2, b3⟩ := h.lk i n hi
    exact ⟨b1, by rw [hold _ (Array.getElem?_eq_some_iff.1 b2).1]; exact b2, b3⟩
/-! ### A round's frame -/
theorem withH_slot (e : Env) (h : Hp) (n : Nat) : (e.withH h).slot n = unheap (e.slot n) := Env.slot_map e unheap rfl n
theorem withH_box (e : Env) (h : Hp) (d : Nat) (hd : e.box (.s d) = []) : (e.withH h).box (.s d) = [] := by
  show (e.map unheap).box (.s d) = []
  rw [Env.box_map, hd]; rfl
/-- The frozen frame, in the memory of a round. -/
theorem St.round {M3 M' : Mem} {e3 : Env} {a3 : Act} {w3 : World} (h3 : St M3 e3 a3 w3) (hcl : ∀ n, closedP (unheap (e3.slot n)) = true) (hbx : ∀ d, e3.box (.s d) = []) {h : Hp} (hs : HS M' h w) (hdf : M'.dfs = [])
    (hG : M3.G.le M'.G) (hw : Keeps M3.G w3 w) : St M' (e3.withH h) { tmps := a3.tmps, defers := [] } w where
  sz := by simpa [Env.withH, Env.scrubH, Env.map] using h3.sz
  bz := by simpa [Env.withH, Env.scrubH, Env.map] using h3.bz
  df := ⟨by rw [hdf]; rfl, fun D hD => by rw [hdf] at hD; cases hD⟩
  nd := ⟨by rw [hdf]; exact List.nodup_nil, fun D hD => by rw [hdf] at hD; cases hD⟩
  lo := hs.lo
  cb := hs.cb
  fr := hs.fr
  pr := fun n => by
    cases n with
    | t n =>
      show PR M' w _ _ _ ((e3.withH h).slot n) (a3.tmps.getD n undef)
      rw [withH_slot]
      have hp := h3.pr (.t n)
      have hc := hcl n
      rcases unheap_spec (e3.slot n) with h1 | ⟨h1, _⟩
      · rw [h1] at hc ⊢; exact PR.closed hc hG hw hp
      · rw [h1]; trivial
    | b d o =>
      cases d with
      | s d => rw [at_of_empty (withH_box e3 h d (hbx d)) o]; trivial
      | h i =>
        have hp := hs.pr (.b (.h i) o)
        have hk := hs.hk i o
        show PR M' w _ _ _ ((hEnv h).at_ (.b (.h i) o)) (pv M' act0 w (.b (.h i) o))
        cases hq : (hEnv h).at_ (.b (.h i) o) with
        | _ => rw [hq] at hp hk; first | exact hp | cases hk
  bk := fun d hd => by
    cases d with
    | s d => exact absurd (withH_box e3 h d (hbx d)) hd
    | h i => exact hs.bk (.h i) hd
  lk := hs.lk
  ha := hs.ha
  hk := hs.hk
theorem Env.enter_h (e : Env) : ∀ (ts : List Nat) (ps : List PV), (e.enter ts ps).h = e.h := by
  intro ts
  induction ts generalizing e with
  | nil => intro ps; rfl
  | cons t ts ih =>
    intro ps
    cases ps with
    | nil => rfl
    | cons p ps => exact ih (e.setT t p) ps
/-- A round's parameters. -/
theorem St.enter {h0 : Hp} : ∀ (ts : List Nat) (ps : List PV) (vs : List Value) {e : Env} {a : Act}, St M e a w → e.h = h0 → ArgsH M h0 w ps vs →
    St M (e.enter ts ps) { a with tmps := (ts.zip vs).foldl (fun tmps (t, v) => tmps.setIfInBounds t v) a.tmps } w
  | [], ps, vs, e, a, h, hh, hp => by cases vs <;> exact h
  | t :: ts, [], [], e, a, h, hh, hp => h
  | t :: ts, p :: ps, v :: vs, e, a, h, hh, hp => by
    obtain ⟨⟨ho, hp1⟩, hp2⟩ := hp
    have hpr : PR M w e.at_ (pv M a w) (.t 0) p v := by
      subst hh
      cases p with
      | r m => cases m with
        | t n => cases ho
        | b d o => cases d with
          | s d => cases ho
          | h i => exact hp1
      | _ => first | exact hp1 | cases ho
    have h1 := h.setT t (by cases p <;> first | rfl | cases ho) hpr
    exact St.enter ts ps vs h1 (show (e.setT t p).h = h0 from hh) hp2
  | _ :: _, [], _ :: _, _, _, _, _, hp => hp.elim
  | _ :: _, _ :: _, [], _, _, _, _, hp => hp.elim
theorem ArgsH.len {h : Hp} : ∀ {ps : List PV} {vs : List Value}, ArgsH M h w ps vs → vs.length = ps.length
  | [], [], _ => rfl
  | _ :: _, _ :: _, hp => by rw [List.length_cons, List.length_cons, ArgsH.len hp.2]
  | [], _ :: _, hp => hp.elim
  | _ :: _, [], hp => hp.elim
end
end Go.Pv
