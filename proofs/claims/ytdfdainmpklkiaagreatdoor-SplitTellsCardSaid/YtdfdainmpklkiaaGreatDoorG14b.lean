/- Function values: boxes that go along. -/
import Derived.Test.YtdfdainmpklkiaaGreatDoorG14
set_option linter.unusedVariables false
set_option linter.unusedSimpArgs false
namespace Go.Pv
open Go.RowKit
section
variable {P : Program} {c : Cx} {M : Mem} {e : Env} {a : Act} {w : World} {o : Oper} {ρ : Type} {K : Kt ρ} {r : ρ}
theorem CRs.of {G : Com} : ∀ {ps : List PV} {vs : List Value}, vs.length = ps.length → (∀ (i : Nat) (p : PV) (v : Value), ps[i]? = some p → vs[i]? = some v → CR G w p v) → CRs G w ps vs
  | [], [], _, _ => by rw [CRs]; trivial
  | p :: ps, v :: vs, hl, h => by
    rw [CRs]
    exact ⟨h 0 p v rfl rfl, CRs.of (by simpa using hl) fun i q u h1 h2 => h (i + 1) q u (by simpa using h1) (by simpa using h2)⟩
  | [], _ :: _, hl, _ => by cases hl
  | _ :: _, [], hl, _ => by cases hl
theorem toAc_un (d : Nat) (c : List PV) : toAc d c .un = .un := rfl
theorem toAc_cases (d : Nat) (c : List PV) (p : PV) : toAc d c p = p ∨ (toAc d c p = .un ∧ isO p = false) ∨ ∃ off, p = .bx d off ∧ toAc d c p = .ac c off := by
  by_cases hb : ∃ d' off, p = .bx d' off
  · obtain ⟨d', off, rfl⟩ := hb
    by_cases h : d' = d
    · subst h; exact .inr (.inr ⟨off, rfl, if_pos rfl⟩)
    · left; exact if_neg h
  · have : toAc d c p = unbox d p := by cases p <;> first | rfl | exact absurd ⟨_, _, rfl⟩ hb
    rw [this]
    exact (unbox_spec d p).imp id .inl
/-- What is kept refers to no cell of the box. -/
theorem toAc_refs {d : Nat} {c : List PV} {p : PV} (h : toAc d c p = p) (o : Nat) : ¬ refs p (.b (.s d) o) := by
  intro hr
  cases p with
  | r m => cases hr; simp [toAc, unbox] at h
  | ra m i q => cases hr; simp [toAc, unbox] at h
  | rh k i o' j q => cases hr
  | ag ps =>
    have hr : PV.r (.b (.s d) o) ∈ ps := hr
    have hany : ps.any (isRefB d) = true := List.any_eq_true.2 ⟨_, hr, by simp [isRefB]⟩
    simp [toAc, unbox, hany] at h
  | _ => exact hr.elim
theorem fzB_box (e : Env) (d : Nat) : (e.fzB d).box (.s d) = [] := by
  show ((e.map _).b.set d []).getD d [] = []
  rw [List.getD_eq_getElem?_getD, List.getElem?_set]
  split
  · split <;> rfl
  · rename_i h; exact absurd rfl h
theorem fzB_box' (e : Env) (d : Nat) (d' : Bx) (h : d' ≠ .s d) : (e.fzB d).box d' = (e.map (toAc d ((e.b.getD d []).map fzC))).box d' := by
  cases d' with
  | h i => rfl
  | s d' =>
    show ((e.map _).b.set d []).getD d' [] = (e.map _).b.getD d' []
    rw [List.getD_eq_getElem?_getD, List.getElem?_set, if_neg (fun hh => h (by rw [hh])), ← List.getD_eq_getElem?_getD]
/-- A box is no more written. -/
theorem St.fzB (h : St M e a w) (d : Nat) : ∃ G', M.G.le G' ∧ G'.n = M.G.n ∧ St { M with G := G' } (e.fzB d) a w ∧ ∀ off v, v = .pointer (some ⟨M.β (.s d), off, none⟩) → CR G' w (.ac ((e.b.getD d []).map fzC) off) v := by
  let C0 := (e.b.getD d []).map fzC
  let N : Nat → Prop := fun g => (∃ o, isO (e.at_ (.b (.s d) o)) = true ∧ (pv M a w (.b (.s d) o)).ownBlock = some g) ∨ (e.box (.s d) ≠ [] ∧ M.β (.s d) = g)
  let G' := M.G.more fun g _ => N g
  have hG : M.G.le G' := Com.le.more _ _
  have hN : ∀ g, N g → M.Mine g ∧ g < w.heap.size ∧ ((∃ o, M.ow g = some (.inl (.b (.s d) o))) ∨ M.ow g = some (.inr (.s d))) := fun g hg => by
    rcases hg with ⟨o, h1, h2⟩ | ⟨h1, rfl⟩
    · have hp := h.pr (.b (.s d) o)
      cases hq : e.at_ (.b (.s d) o) with
      | o m k xs =>
        rw [hq] at hp
        obtain ⟨_, _, _, h4, h5⟩ := hp
        exact ⟨(h5 g h2).1.2, (h4.lt g h2).2, .inl ⟨o, (h5 g h2).1.1⟩⟩
      | _ => rw [hq] at h1; cases h1
    · obtain ⟨b1, ⟨C, T, b2, _⟩, b3, _⟩ := h.bk _ h1
      exact ⟨b1, (Array.getElem?_eq_some_iff.1 b2).1, .inr b3⟩
  have hfar : ∀ {g : Nat} {x : Pl ⊕ Bx}, M.ow g = some x → (∀ o, x ≠ .inl (.b (.s d) o)) → x ≠ .inr (.s d) → ∀ o, G' g o ↔ M.G g o := fun {g x} hx h1 h2 o => ⟨fun hh => hh.elim id fun hn => by
    rcases (hN g hn).2.2 with ⟨o', h3⟩ | h3
    · rw [hx] at h3; injection h3 with h3; exact absurd h3 (h1 o')
    · rw [hx] at h3; injection h3 with h3; exact absurd h3 h2, fun hh => .inl hh⟩
  have hown : ∀ o m k xs, e.at_ (.b (.s d) o) = .o m k xs → RepV G' w (.list k) xs (pv M a w (.b (.s d) o)) := fun o m k xs hq => by
    have hp := h.pr (.b (.s d) o)
    rw [hq] at hp
    exact OwnD.rep hp hG fun g hg o' _ => .inr (.inl ⟨o, by rw [hq]; rfl, hg⟩)
  have hcell : ∀ o v, PR M w e.at_ (pv M a w) (.b (.s d) o) (e.at_ (.b (.s d) o)) v → v = pv M a w (.b (.s d) o) → CR G' w (fzC (e.at_ (.b (.s d) o))) v := fun o v hp hv => by
    cases hq : e.at_ (.b (.s d) o) with
    | o m k xs =>
      subst hv
      show CR G' w (.l k xs) _
      rw [CR]; exact hown o m k xs hq
    | _ => rw [hq] at hp; first | (show CR G' w .un _; rw [CR]; trivial) | (exact CR.mono hG (Keeps.refl _ _) (show CR M.G w _ v from by first | exact hp | (rw [CR]; exact hp)))
  have hac : ∀ off v, v = .pointer (some ⟨M.β (.s d), off, none⟩) → CR G' w (.ac C0 off) v := fun off v hv => by
    rw [CR]
    by_cases hb : e.box (.s d) = []
    · refine ⟨M.β (.s d), [], hv, fun j hj => (by cases hj), ?_⟩
      show CRs G' w ((e.b.getD d []).map fzC) []
      rw [show e.b.getD d [] = [] from hb]
      show CRs G' w [] []
      rw [CRs]; trivial
    · obtain ⟨C, T, c1, c2, c3⟩ := box_cells h hb
      refine ⟨M.β (.s d), C.toList, hv, fun j hj => ⟨.inr (.inr ⟨hb, rfl⟩), ?_⟩, ?_⟩
      · have hj' : j < C.size := by simpa using hj
        rw [Nat.zero_add, (c3 j hj').1, Array.getElem_toList]
      · refine CRs.of (by simp [C0, c2]; rfl) fun i p v hp' hv' => ?_
        rw [List.getElem?_map] at hp'
        obtain ⟨q, hq1, rfl⟩ := Option.map_eq_some_iff.1 hp'
        have hlt := (List.getElem?_eq_some_iff.1 hv').1
        have hlt' : i < C.size := by simpa using hlt
        have hv2 : v = pv M a w (.b (.s d) i) := by
          rw [(c3 i hlt').2]
          rw [List.getElem?_eq_getElem hlt] at hv'
          injection hv' with hv'
          rw [← hv', Array.getElem_toList]
        have hat' : e.at_ (.b (.s d) i) = q := by
          show (e.b.getD d []).getD i .un = q
          rw [List.getD_eq_getElem?_getD, hq1]; rfl
        have hpi := h.pr (.b (.s d) i)
        rw [← hat']
        exact hcell i v (by rw [hv2]; exact hpi) hv2
  -- what is at a place now
  have hat : ∀ n, (∃ o, n = .b (.s d) o ∧ (e.fzB d).at_ n = .un) ∨ ((∀ o, n ≠ .b (.s d) o) ∧ ((e.fzB d).at_ n = e.at_ n ∧ (toAc d C0 (e.at_ n) = e.at_ n ∨ ∃ i o, n = .b (.h i) o) ∨ ((e.fzB d).at_ n = .un ∧ isO (e.at_ n) = false) ∨ ∃ off, e.at_ n = .bx d off ∧ (e.fzB d).at_ n = .ac C0 off)) := fun n => by
    cases n with
    | t n =>
      right
      refine ⟨fun o hh => (by cases hh), ?_⟩
      have : (e.fzB d).at_ (.t n) = toAc d C0 (e.at_ (.t n)) := Env.slot_map e _ (toAc_un d C0) n
      rw [this]
      rcases toAc_cases d C0 (e.at_ (.t n)) with h1 | h1 | h1
      · exact .inl ⟨h1, .inl h1⟩
      · exact .inr (.inl h1)
      · exact .inr (.inr h1)
    | b d' o =>
      by_cases hd : d' = .s d
      · subst hd; exact .inl ⟨o, rfl, at_of_empty (fzB_box e d) o⟩
      · right
        refine ⟨fun o' hh => hd (by injection hh), ?_⟩
        have h0 : (e.fzB d).at_ (.b d' o) = (e.map (toAc d C0)).at_ (.b d' o) := by show (Env.box _ d').getD o .un = (Env.box _ d').getD o .un; rw [fzB_box' e d d' hd]
        rw [h0]
        rcases Env.at_map e (toAc d C0) (toAc_un d C0) (.b d' o) with h1 | ⟨h1, h2⟩
        · rw [h1]
          rcases toAc_cases d C0 (e.at_ (.b d' o)) with h1 | h1 | h1
          · exact .inl ⟨h1, .inl h1⟩
          · exact .inr (.inl h1)
          · exact .inr (.inr h1)
        · exact .inl ⟨h2, .inr h1⟩
  have hk : ∀ m, (∀ o, m ≠ .b (.s d) o) → Kept e.at_ (e.fzB d).at_ (pv M a w) (pv { M with G := G' } a w) m := fun m hm hx => by
    rcases hat m with ⟨o, rfl, _⟩ | ⟨_, ⟨h1, _⟩ | ⟨h1, _⟩ | ⟨off, _, h1⟩⟩
    · exact absurd rfl (hm o)
    · rw [h1] at hx ⊢; exact ⟨hx, rfl, fun k xs hq => ⟨xs, hq, rfl⟩⟩
    · rw [h1] at hx; cases hx
    · rw [h1] at hx; cases hx
  refine ⟨G', hG, rfl, ?_, hac⟩
  refine h.step (by simpa [Env.fzB, Env.map] using h.sz) (by simpa [Env.fzB, Env.map] using h.bz) ⟨rfl, rfl⟩ (KO.refl w) rfl (Nat.le_refl _) (fun g o hg => hg.imp id fun hn => ⟨(hN g hn).1, (hN g hn).2.1⟩) hG (Keeps.refl _ _) (fun n => ?_) (fun d' hd' => ?_) ⟨rfl, fun _ _ h => h, rfl, fun _ => rfl⟩ (fun i n hi => ⟨rfl, fun o hg => ?_⟩) h.hk
  · rcases hat n with ⟨o, rfl, h1⟩ | ⟨hn, ⟨h1, h2⟩ | ⟨h1, _⟩ | ⟨off, h0, h1⟩⟩
    · right; rw [h1]; trivial
    · left
      refine ⟨h1, rfl, fun _ _ _ => rfl, fun m hm => hk m fun o hh => ?_, fun ho g hg => ⟨rfl, rfl, hfar (h.own_pl ho hg) (fun o hh => by injection hh with hh; exact hn o hh) (fun hh => by cases hh)⟩⟩
      subst hh
      rcases h2 with h2 | ⟨i, o', rfl⟩
      · exact toAc_refs h2 o hm
      · exact refs_hok (h.hk i o') _ hm
    · right; rw [h1]; trivial
    · right
      rw [h1]
      have hp := h.pr n
      rw [h0] at hp
      exact hac off _ hp
  · by_cases hd : d' = .s d
    · subst hd; exact absurd (fzB_box e d) hd'
    · rw [fzB_box' e d d' hd] at hd' ⊢
      have hne : e.box d' ≠ [] := fun h0 => hd' (List.eq_nil_of_length_eq_zero (by rw [map_box_len, h0]; rfl))
      obtain ⟨b1, b2, b3, b4⟩ := h.bk d' hne
      exact ⟨b1, by rw [map_box_len]; exact b2, b3, fun o hg => b4 o ((hfar b3 (fun o hh => by cases hh) (fun hh => hd (by injection hh)) o).1 hg)⟩
  · obtain ⟨_, _, l3, _⟩ := h.lk i n hi
    exact (hfar l3 (fun o hh => by cases hh) (fun hh => by cases hh) o).1 hg
theorem fzB_h (e : Env) (d : Nat) : (e.fzB d).h = e.h := rfl
theorem capsK_spec : ∀ (xs : List Operand) {M : Mem} {e e1 : Env} {cs : List PV}, St M e a w → capsK e xs = some (cs, e1) →
    ∃ G', M.G.le G' ∧ G'.n = M.G.n ∧ St { M with G := G' } e1 a w ∧ CRs G' w cs (xs.map a.eval)
  | [], M, e, e1, cs, h, hk => by
    simp only [capsK, Option.some.injEq, Prod.mk.injEq] at hk
    obtain ⟨rfl, rfl⟩ := hk
    exact ⟨M.G, Com.le.refl _, rfl, h, by rw [List.map_nil, CRs]; trivial⟩
  | x :: xs, M, e, e1, cs, h, hk => by
    obtain ⟨n0, hpr⟩ := ev_pr h (x := x) rfl
    have plain : ∀ {p : PV}, CR M.G w p (a.eval x) → ((capsK e xs).bind fun q => some (p :: q.1, q.2)) = some (cs, e1) → ∃ G', M.G.le G' ∧ G'.n = M.G.n ∧ St { M with G := G' } e1 a w ∧ CRs G' w cs ((x :: xs).map a.eval) := fun {p} hp hk => by
      obtain ⟨⟨qs, e2⟩, h1, h2⟩ := Option.bind_eq_some_iff.1 hk
      simp only [Option.some.injEq, Prod.mk.injEq] at h2
      obtain ⟨rfl, rfl⟩ := h2
      obtain ⟨G', g1, g2, g3, g4⟩ := capsK_spec xs h h1
      exact ⟨G', g1, g2, g3, by rw [List.map_cons, CRs]; exact ⟨CR.mono g1 (Keeps.refl _ _) hp, g4⟩⟩
    simp only [capsK] at hk
    split at hk
    · rename_i y hx; rw [hx] at hpr; exact plain (p := .p y) (by rw [CR]; exact hpr) hk
    · rename_i ps off hx; rw [hx] at hpr; exact plain hpr hk
    · rename_i g cs' hx; rw [hx] at hpr; exact plain hpr hk
    · rename_i d off hx
      rw [hx] at hpr
      obtain ⟨⟨qs, e2⟩, h1, h2⟩ := Option.bind_eq_some_iff.1 hk
      simp only [Option.some.injEq, Prod.mk.injEq] at h2
      obtain ⟨rfl, rfl⟩ := h2
      obtain ⟨G1, f1, f2, f3, f4⟩ := h.fzB d
      obtain ⟨G', g1, g2, g3, g4⟩ := capsK_spec xs f3 h1
      exact ⟨G', f1.trans g1, g2.trans f2, g3, by rw [List.map_cons, CRs]; exact ⟨CR.mono g1 (Keeps.refl _ _) (f4 off _ hpr), g4⟩⟩
    · cases hk
theorem did_makeFunc (h : St M e a w) {Y : Yd ρ} {f : Fn} {first caps : Array Operand} (ho : o.op = .makeFunc f first caps) (hk : opK c Y o e K = some r) : Did P c M o a w K r := by
  cases f with
  | func f =>
    simp only [opK, ho] at hk
    split at hk
    case isFalse => cases hk
    rename_i hf
    obtain ⟨⟨cs, e1⟩, h1, hk1⟩ := Option.bind_eq_some_iff.1 hk
    obtain ⟨G', g1, g2, g3, g4⟩ := capsK_spec _ h h1
    have hfi : first = #[] := Array.eq_empty_of_size_eq_zero hf
    refine ⟨.func (.func f) #[] (caps.toList.map a.eval).toArray, { M with G := G' }, _, w, .inl ?_, ⟨rfl, g1⟩, g3.putD o.dst (n0 := .t 0) (p := .clo f cs) rfl ?_, Bel.refl _ _, Eff.of (Ext.refl w) (by simp [ho]), hk1⟩
    · subst hfi
      simp [execOp, ho, Instr.makeFunc]
      rw [← Array.toList_map, Array.toArray_toList]
    · show CR G' w (.clo f cs) _
      rw [CR]
      exact ⟨_, rfl, g4⟩
  | _ => simp [opK, rdK, ho] at hk
end
end Go.Pv
