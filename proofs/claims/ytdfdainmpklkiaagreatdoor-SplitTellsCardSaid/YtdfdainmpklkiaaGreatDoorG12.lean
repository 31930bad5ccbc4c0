/- What an operation does that builds a value or a row. -/
import Derived.Test.YtdfdainmpklkiaaGreatDoorG11
set_option linter.unusedVariables false
set_option linter.unusedSimpArgs false
namespace Go.Pv
open Go.RowKit
section
variable {P : Program} {c : Cx} {M : Mem} {e : Env} {a : Act} {w : World} {o : Oper} {ρ : Type} {K : Kt ρ} {r : ρ} {Y : Yd ρ}
theorem fillK_spec {k : Kd} {places : List (Nat × Nat)} (hp : ∀ f k' q, fieldAt k f = some (k', q) → places[f]? = some (q, k'.size)) :
    ∀ (ps : List (Nat × Operand)) {M : Mem} {e e1 : Env} {x z : k.den} {cs : List Value}, St M e a w → Rep M.G w k x cs → fillK c k e x ps = some (z, e1) →
      ∃ G' cs', M.G.le G' ∧ St { M with G := G' } e1 a w ∧ Rep G' w k z cs' ∧ Instr.fill (places.toArray[·]?) cs.toArray (ps.map fun q => (q.1, a.eval q.2)) = some cs'.toArray
  | [], M, e, e1, x, z, cs, h, hr, hk => by
    simp only [fillK, Option.some.injEq, Prod.mk.injEq] at hk
    obtain ⟨rfl, rfl⟩ := hk
    exact ⟨M.G, cs, Com.le.refl _, h, hr, by simp [Instr.fill]⟩
  | (f, y) :: ps, M, e, e1, x, z, cs, h, hr, hk => by
    simp only [fillK] at hk
    obtain ⟨⟨p, e2⟩, hpub, hk⟩ := Option.bind_eq_some_iff.1 hk
    obtain ⟨z1, hz1, hk⟩ := Option.bind_eq_some_iff.1 hk
    obtain ⟨G1, hG1, _, hst, _, _, _, hpr⟩ := pub_spec h hpub
    have hr1 : Rep G1 w k x cs := hr.mono hG1 (Keeps.refl _ _)
    obtain ⟨k', q, zz, f1, f2, f3, f4⟩ := hr1.setComp hz1
    obtain ⟨c2, r2, _, hc2⟩ := ((hpr { M with G := G1 } (fun _ => .un) (fun _ => undef) (.t 0) rfl).toDen f2).cells
    obtain ⟨G', cs', g1, g2, g3, g4⟩ := fillK_spec hp ps hst (f4 c2 r2) hk
    refine ⟨G', cs', hG1.trans g1, g2, g3, ?_⟩
    have hl := hr.len
    rw [List.map_cons, fill_step (by simpa using hp f k' q f1) hc2 r2.len (by omega)]
    exact g4
theorem hzeros_false : ∀ (k : Kd) (i : Nat) (m : Bool) (k' : Kd) (xs : List k'.den), (hzeros false k)[i]? ≠ some (.o m k' xs)
  | .int _, i, _, _, _ => by cases i <;> simp [hzeros]
  | .bool, i, _, _, _ => by cases i <;> simp [hzeros]
  | .str, i, _, _, _ => by cases i <;> simp [hzeros]
  | .list _, i, _, _, _ => by cases i <;> simp [hzeros]
  | .ptr, i, _, _, _ => by cases i <;> simp [hzeros]
  | .fn, i, _, _, _ => by cases i <;> simp [hzeros]
  | .err, i, _, _, _ => by cases i <;> simp [hzeros]
  | .unit, i, _, _, _ => by simp [hzeros]
  | .pair a b, i, m, k', xs => by
    simp only [hzeros, List.getElem?_append]
    split
    · exact hzeros_false a i m k' xs
    · exact hzeros_false b _ m k' xs
theorem CR.of_hok {at_ : Pl → PV} {q : Pl → Value} {n : Pl} {p : PV} {v : Value} (h : hokB p = true) (ho : isO p = false) (hp : PR M w at_ q n p v) : CR M.G w p v := by
  cases p with
  | o m k xs => cases ho
  | _ => first | (rw [CR]; exact hp) | cases h
/-- A struct is put together, its slices of the call's own along. -/
theorem agK_spec (h : St M e a w) {k : Kd} {places : List (Nat × Nat)} (hp : ∀ f k' q, fieldAt k f = some (k', q) → places[f]? = some (q, k'.size)) :
    ∀ (ps : List (Nat × Operand)) {l l' : List PV} {cs : List Value}, cs.length = l.length →
      (∀ (i : Nat) (p : PV) (u : Value), l[i]? = some p → cs[i]? = some u → CR M.G w p u ∨ ∃ m, p = .r m ∧ m.okH M.G.n ∧ (isO (e.at_ m) = true → u = pv M a w m)) → opK.agK e l k ps = some l' →
      ∃ cs' : List Value, cs'.length = l'.length ∧ (∀ (i : Nat) (p : PV) (u : Value), l'[i]? = some p → cs'[i]? = some u → CR M.G w p u ∨ ∃ m, p = .r m ∧ m.okH M.G.n ∧ (isO (e.at_ m) = true → u = pv M a w m)) ∧
        Instr.fill (places.toArray[·]?) cs.toArray (ps.map fun q => (q.1, a.eval q.2)) = some cs'.toArray
  | [], l, l', cs, hl, hr, hk => by
    simp only [opK.agK, Option.some.injEq] at hk
    subst hk
    exact ⟨cs, hl, hr, by simp [Instr.fill]⟩
  | (f, y) :: ps, l, l', cs, hl, hr, hk => by
    simp only [opK.agK] at hk
    obtain ⟨⟨k', q⟩, hf, hk1⟩ := Option.bind_eq_some_iff.1 hk
    split at hk1
    case isFalse => cases hk1
    rename_i hok
    simp only [Bool.and_eq_true, decide_eq_true_eq] at hok
    obtain ⟨hoa, hq⟩ := hok
    obtain ⟨hno, n0, hpr⟩ := cp_spec h y
    have hone : k'.size = 1 ∧ (a.eval y).cells = #[a.eval y] ∧ (CR M.G w (cp e y) (a.eval y) ∨ ∃ m, cp e y = .r m ∧ m.okH M.G.n ∧ (isO (e.at_ m) = true → a.eval y = pv M a w m)) := by
      have hk1 : ∀ {p : PV}, opK.okB k' p = true → k'.size = 1 := fun {p} hh => by cases k' <;> first | rfl | (cases p <;> simp [opK.okB] at hh)
      generalize cp e y = p at hoa hpr hno
      cases p with
      | r m =>
        cases m with
        | t n =>
          simp only [opK.okA] at hoa
          split at hoa
          · rename_i k2 xs hsl
            have hk2 : k' = .list k2 := by simpa using hoa
            subst hk2
            have hat : e.at_ (.t n) = .o true k2 xs := hsl
            have hv : a.eval y = pv M a w (.t n) := hpr.2 (by rw [hat]; rfl)
            refine ⟨rfl, ?_, .inr ⟨_, rfl, hpr.1, hpr.2⟩⟩
            have := h.pr (.t n)
            rw [hat] at this
            obtain ⟨_, _, _, h2, _⟩ := this
            rw [hv]
            rcases h2.2 with ⟨h3, _⟩ | ⟨_, _, _, h3, _⟩ <;> rw [h3] <;> rfl
          · cases hoa
        | b d o => cases k' <;> simp [opK.okA, opK.okB] at hoa
      | o m k xs => cases hno
      | i k x => exact ⟨hk1 (p := .i k x) hoa, by rw [show a.eval y = _ from hpr]; rfl, .inl (by rw [CR]; exact hpr)⟩
      | b x => exact ⟨hk1 (p := .b x) hoa, by rw [show a.eval y = _ from hpr]; rfl, .inl (by rw [CR]; exact hpr)⟩
      | s x => exact ⟨hk1 (p := .s x) hoa, by rw [show a.eval y = _ from hpr]; rfl, .inl (by rw [CR]; exact hpr)⟩
      | p x =>
        obtain ⟨A, hA, _⟩ := ptr_val hpr
        exact ⟨hk1 (p := .p x) hoa, by rw [hA]; rfl, .inl (by rw [CR]; exact hpr)⟩
      | nilf => exact ⟨hk1 (p := .nilf) hoa, by rw [show a.eval y = _ from hpr]; rfl, .inl (by rw [CR]; exact hpr)⟩
      | e x =>
        rcases err_val hpr with ⟨_, hA⟩ | ⟨_, _, _, hA⟩
        · exact ⟨hk1 (p := .e x) hoa, by rw [hA]; rfl, .inl (by rw [CR]; exact hpr)⟩
        · exact ⟨hk1 (p := .e x) hoa, by rw [hA]; rfl, .inl (by rw [CR]; exact hpr)⟩
      | l k xs => simp [opK.okA] at hoa
      | yl => simp [opK.okA] at hoa
      | clo f cs => simp [opK.okA] at hoa
      | _ => cases k' <;> simp [opK.okA, opK.okB] at hoa
    obtain ⟨o1, o2, o3⟩ := hone
    obtain ⟨cs', g1, g2, g3⟩ := agK_spec h hp ps (l := l.set q (cp e y)) (cs := cs.set q (a.eval y)) (by simp [hl]) (fun i p u hpi hui => by
      rw [List.getElem?_set] at hpi hui
      by_cases hqi : q = i
      · subst hqi
        have hq' : q < l.length := hq
        rw [if_pos rfl, if_pos hq'] at hpi
        rw [if_pos rfl, if_pos (by omega)] at hui
        injection hpi with hpi; injection hui with hui; subst hpi; subst hui; exact o3
      · rw [if_neg hqi] at hpi hui
        exact hr i p u hpi hui) hk1
    refine ⟨cs', g1, g2, ?_⟩
    rw [List.map_cons, fill_step (cs := [a.eval y]) (by simpa using hp f k' q hf) (by rw [o2]) (by rw [o1]; rfl) (by omega)]
    rw [← g3, List.set_eq_take_append_cons_drop, if_pos (by omega), o1]
    simp
theorem did_build (hc : ∀ t k, c.kd t = some k → Fits P k t) (h : St M e a w) {t : TypeId} {ps : Array (Nat × Operand)} (ho : o.op = .build t ps) (hk : opK c Y o e K = some r) : Did P c M o a w K r := by
  simp only [opK, ho] at hk
  split at hk
  case h_2 => cases hk
  rename_i k hkd
  split at hk
  case isFalse => cases hk
  rename_i hag
  obtain ⟨fs, places, h1, h2, h3⟩ := fits_struct (hc _ _ hkd) hag
  obtain ⟨i, i1, i2, i3, i4, i5⟩ := run_typeInfo' (hc _ _ hkd) w
  have hz : (valOf k (zcells k)).cells = (zcells k).toArray := by unfold valOf; rw [if_pos hag]; rfl
  split at hk
  · obtain ⟨l, hl, hk'⟩ := Option.bind_eq_some_iff.1 hk
    clear hk
    obtain ⟨z1, z2⟩ := hzeros_spec (M := M) (w := w) false k
    obtain ⟨cs', g1, g2, g3⟩ := agK_spec h h3 ps.toList (l := hzeros false k) (cs := zcells k) z1 (fun i p u hp hu => by
      obtain ⟨q1, q2⟩ := z2 i p u hp hu
      rcases q2 with ⟨q3, q4⟩ | ⟨k', rfl, _⟩
      · left
        exact CR.of_hok q1 q3 (q4 (fun _ => .un) (fun _ => undef) (.t 0))
      · exact absurd hp (hzeros_false k i true k' [])) hl
    have hb : P.built t (ps.map fun (i, x) => (i, a.eval x)).toList = some cs'.toArray := by
      unfold Program.built
      simp only [i1, h1, i5, h2, hz, Array.toList_map]
      exact g3
    have hrun : (execOp a.eval o).run P w = .ok (.value (.agg cs'.toArray)) w := by
      unfold execOp
      simp only [ho, Sem.run_bind, run_build w t _ _ hb, Result.andThen_ok]
      rfl
    exact ⟨_, M, _, w, .inl hrun, Mem.Le.refl M, h.putD o.dst (p := .ag l) (n0 := .t 0) rfl ⟨cs', rfl, g1, g2⟩, Bel.refl _ _, Eff.of (Ext.refl w) (by simp [ho]), hk'⟩
  obtain ⟨⟨x, e1⟩, hf, hk'⟩ := Option.bind_eq_some_iff.1 hk
  clear hk
  obtain ⟨G', cs', g1, g2, g3, g4⟩ := fillK_spec h3 ps.toList h (Rep.dflt k) hf
  have hb : P.built t (ps.map fun (i, x) => (i, a.eval x)).toList = some cs'.toArray := by
    unfold Program.built
    simp only [i1, h1, i5, h2, hz, Array.toList_map]
    exact g4
  have hrun : (execOp a.eval o).run P w = .ok (.value (.agg cs'.toArray)) w := by
    unfold execOp
    simp only [ho, Sem.run_bind, run_build w t _ _ hb, Result.andThen_ok]
    rfl
  refine ⟨_, { M with G := G' }, _, w, .inl hrun, ⟨rfl, g1⟩, g2.putD o.dst (n0 := .t 0) rfl ?_, Bel.refl _ _, Eff.of (Ext.refl w) (by simp [ho]), hk'⟩
  exact ⟨cs', g3, by unfold valOf; rw [if_pos hag]⟩
/-! ### Rows -/
theorem pubC_spec {k : Kd} {y : Operand} {K : k.den → Env → Option ρ} (h : St M e a w) (hk : pubC k e y K = some r) :
    ∃ x e1 G1, K x e1 = some r ∧ M.G.le G1 ∧ St { M with G := G1 } e1 a w ∧ RepV G1 w k x (a.eval y) := by
  have gen : ((pub e y).bind fun p => (toDen k p.1).bind fun x => K x p.2) = some r → ∃ x e1 G1, K x e1 = some r ∧ M.G.le G1 ∧ St { M with G := G1 } e1 a w ∧ RepV G1 w k x (a.eval y) := fun hk => by
    obtain ⟨⟨p, e2⟩, hpub, hk⟩ := Option.bind_eq_some_iff.1 hk
    obtain ⟨x, hx, hk⟩ := Option.bind_eq_some_iff.1 hk
    obtain ⟨G1, hG1, _, hst, _, _, _, hpr⟩ := pub_spec h hpub
    exact ⟨x, e2, G1, hk, hG1, hst, (hpr { M with G := G1 } (fun _ => .un) (fun _ => undef) (.t 0) rfl).toDen hx⟩
  unfold pubC at hk
  split at hk
  · rename_i k0 i o K hq
    obtain ⟨xs, hx, hk⟩ := Option.bind_eq_some_iff.1 hk
    have hat := hown_at hx
    obtain ⟨n0, hp⟩ := ev_pr h hq
    have hv := hp.2 (by rw [hat]; rfl)
    obtain ⟨G1, g1, _, g3, g4⟩ := h.freeze i o hat
    exact ⟨xs, _, G1, hk, g1, g3, by rw [hv]; exact g4⟩
  · exact gen hk
theorem elemsC_spec {k : Kd} :
    ∀ (ps : List (Nat × Operand)) {M : Mem} {e : Env} {n : Nat} {pre tl : List Value} {K : List k.den → Env → Option ρ}, St M e a w → elemsC k e n ps K = some r → pre.length = n * k.size → tl.length = ps.length * k.size →
      ∃ xs e1 G' css, K xs e1 = some r ∧ xs.length = ps.length ∧ M.G.le G' ∧ St { M with G := G' } e1 a w ∧ Elems G' w k xs css ∧ Instr.fill (fun i => some (i * k.size, k.size)) (pre ++ tl).toArray (ps.map fun q => (q.1, a.eval q.2)) = some (pre ++ css.flatten).toArray
  | [], M, e, n, pre, tl, K, h, hk, hp, ht => by
    simp only [elemsC] at hk
    have : tl = [] := List.eq_nil_of_length_eq_zero (by simpa using ht)
    subst this
    exact ⟨[], e, M.G, [], hk, rfl, Com.le.refl _, h, trivial, by simp [Instr.fill]⟩
  | (j, y) :: ps, M, e, n, pre, tl, K, h, hk, hp, ht => by
    simp only [elemsC] at hk
    split at hk
    case isFalse => cases hk
    rename_i hj
    subst hj
    obtain ⟨x, e2, G1, hk, hG1, hst, hrep⟩ := pubC_spec h hk
    obtain ⟨c2, r2, _, hc2⟩ := hrep.cells
    have hl := r2.len
    rw [List.length_cons, Nat.succ_mul] at ht
    obtain ⟨xs', e3, G', css, hk, hxl, g1, g2, g3, g4⟩ := elemsC_spec ps (pre := pre ++ c2) (tl := tl.drop k.size) hst hk (by rw [List.length_append, hp, hl, Nat.succ_mul]) (by rw [List.length_drop]; omega)
    refine ⟨x :: xs', e3, G', c2 :: css, hk, by simp [hxl], hG1.trans g1, g2, ⟨r2.mono g1 (Keeps.refl _ _), g3⟩, ?_⟩
    rw [List.map_cons, fill_step rfl hc2 hl (by show j * k.size + k.size ≤ _; rw [List.length_append]; omega)]
    have t1 : (pre ++ tl).take (j * k.size) = pre := by rw [← hp, List.take_left]
    have t2 : (pre ++ tl).drop (j * k.size + k.size) = tl.drop k.size := by rw [List.drop_append, List.drop_eq_nil_of_le (by omega), List.nil_append]; congr 1; omega
    rw [t1, t2, g4]
    simp
/-- A new row is laid down. -/
theorem St.newRow (h : St M e a w) (d : Option Nat) {u : TypeId} {k : Kd} {xs : List k.den} {css : List (List Value)} {cs : List Value} {n cap : Nat} (hx : Elems M.G w k xs css) (hl : xs.length = n) (hcap : n ≤ cap) (hm : cap ≤ maxLen) (hcs : cs.length = cap * k.size) (htake : cs.take (n * k.size) = css.flatten) :
    ∃ M', M.Le M' ∧ St M' (e.putD d (.o true k xs)) (a.put d (.slice (some ⟨w.heap.size, 0, none⟩) n cap)) (w.alloc (.cells cs.toArray u)) := by
  subst hl
  let w' := w.alloc (.cells cs.toArray u)
  have hkp : Keeps M.G w w' := keeps_of_blocks fun g o hg => heap_alloc_old w _ g (h.cb g o hg)
  have hko : KO w w' := KO.of_blocks fun g hg => heap_alloc_old w _ g hg
  have hst : St M e a w' := h.grow (w' := w') (G' := M.G) (by simp [w']) (Com.le.refl _) rfl (fun _ _ hg => .inl hg) hkp hko (fun g hg => ⟨heap_alloc_old w _ g (Nat.lt_of_not_le fun hle => h.fresh hle hg), fun _ => Iff.rfl⟩) (fun _ _ _ h => h)
  have hfr : ¬ Live M e a w' w.heap.size := by
    intro hl
    refine h.fresh (Nat.le_refl _) ?_
    rcases hl with ⟨n, h1, h2⟩ | ⟨d, h1, h2⟩
    · refine .inl ⟨n, h1, ?_⟩
      rw [← h2]
      cases n with
      | t n => rfl
      | b d o =>
        have hne : e.box d ≠ [] := fun h0 => by rw [at_of_empty h0] at h1; cases h1
        obtain ⟨_, ⟨C, T, b2, _⟩, _⟩ := h.bk d hne
        show ((w.cell? ⟨M.β d, o, none⟩).getD undef).ownBlock = ((w'.cell? ⟨M.β d, o, none⟩).getD undef).ownBlock
        rw [World.cell?_of_block (a := ⟨M.β d, o, none⟩) (heap_alloc_old w _ _ (Array.getElem?_eq_some_iff.1 b2).1)]
    · exact .inr ⟨d, h1, h2⟩
  have hfl : ¬ Loopy M e w.heap.size := fun hl => by
    obtain ⟨r, hr⟩ := h.loopy_lt hl
    exact absurd (Array.getElem?_eq_some_iff.1 hr).1 (by omega)
  have hst2 := hst.name hfr hfl (.inl (.t 0))
  have hown : OwnD (M.own w.heap.size (.inl (.t 0))) w' (.t 0) true k xs (.slice (some ⟨w.heap.size, 0, none⟩) xs.length cap) := by
    refine ⟨u, css, hx.mono (Com.le.refl _) hkp, ⟨?_, .inr ⟨w.heap.size, cap, cs.toArray, rfl, Nat.zero_le _, heap_alloc_new w _, hcap, hm, by simpa using hcs, by simpa using htake⟩⟩, fun g hg => ⟨⟨?_, ?_⟩, fun o => ⟨fun hgo => ?_, fun hh => by cases hh.1⟩⟩⟩
    · rw [hx.flat]
    · simp only [Value.ownBlock, Option.some.injEq] at hg; subst hg; simp [Mem.own]
    · simp only [Value.ownBlock, Option.some.injEq] at hg; subst hg; exact .inr h.lo
    · simp only [Value.ownBlock, Option.some.injEq] at hg; subst hg; exact absurd (h.cb _ _ hgo) (by omega)
  obtain ⟨M', hM, hst3⟩ := hst2.putDo d hown (fun g hg hl => by
    simp only [Value.ownBlock, Option.some.injEq] at hg
    subst hg
    exact hfr (by
      rcases hl with ⟨n, h1, h2⟩ | ⟨d, h1, h2⟩
      · exact .inl ⟨n, h1, by cases n <;> exact h2⟩
      · exact .inr ⟨d, h1, h2⟩))
  exact ⟨M', ⟨hM.1, by rw [hM.2.1]; exact Com.le.refl _⟩, hst3⟩
theorem did_buildSlice (hc : ∀ t k, c.kd t = some k → Fits P k t) (h : St M e a w) {t : TypeId} {n : Nat} {ps : Array (Nat × Operand)} (ho : o.op = .buildSlice t n ps) (hk : opK c Y o e K = some r) : Did P c M o a w K r := by
  simp only [opK, ho] at hk
  split at hk
  case h_2 => cases hk
  rename_i k hkd
  obtain ⟨u, hu, hfu⟩ := (hc _ _ hkd).elem
  obtain ⟨i, i1, i2, i3, i4, i5⟩ := run_typeInfo' hfu w
  have hpn : ps.toList.length = n := by
    obtain ⟨xs, e1, _, _, hk', hl, _⟩ := elemsC_spec ps.toList (pre := []) (tl := List.replicate (ps.toList.length * k.size) undef) h hk (by simp) (by simp)
    split at hk'
    · rename_i hcond; rw [← hl]; exact hcond.1
    · cases hk'
  obtain ⟨xs, e1, G', css, hk', hxl, g1, g2, g3, g4⟩ := elemsC_spec ps.toList (pre := []) (tl := ((Array.range (n * i.size)).map ((valOf k (zcells k)).cells[· % (valOf k (zcells k)).cells.size]!)).toList) h hk (by simp) (by rw [i3, hpn]; simp)
  clear hk
  split at hk'
  case isFalse => cases hk'
  rename_i hcond
  obtain ⟨hn, hs, hsm⟩ := hcond
  have hpl : ps.toList.length = n := hpn
  have hflat := g3.flat
  by_cases hn0 : n = 0
  · subst hn0
    have hxs : xs = [] := List.eq_nil_of_length_eq_zero hn
    have hps : ps = #[] := by apply Array.eq_empty_of_size_eq_zero; simpa using hpl
    subst hxs
    subst hps
    have hcss : css = [] := by cases css with
      | nil => rfl
      | cons x y => exact g3.elim
    subst hcss
    have hrun : (execOp a.eval o).run P w = .ok (.value (.slice (some ⟨w.heap.size, 0, none⟩) 0 0)) (w.alloc (.cells #[] u)) := by
      simp [execOp, ho, Instr.buildSlice, run_underlying hu, sizeOf, i2, Instr.fill, Go.newRow, Array.range_zero']
    obtain ⟨M', hM, hst⟩ := g2.newRow o.dst (u := u) (k := k) (xs := []) (css := []) (cs := []) (n := 0) (cap := 0) trivial rfl (Nat.le_refl _) (Nat.zero_le _) (by simp) (by simp)
    exact ⟨_, M', _, _, .inl hrun, ⟨hM.1, g1.trans hM.2⟩, hst, Bel.alloc' h _, Eff.of (Ext.alloc w _) (by simp [ho]), hk'⟩
  · have hpos : ¬ n * i.size = 0 := by rw [i3]; exact Nat.mul_ne_zero hn0 (by omega)
    have hrun : (execOp a.eval o).run P w = .ok (.value (.slice (some ⟨w.heap.size, 0, none⟩) n n)) (w.alloc (.cells css.flatten.toArray u)) := by
      have := run_buildSlice w t u n (ps.map fun (i, x) => (i, a.eval x)) css.flatten.toArray i _ hu i1 i5 (by rw [i3]; omega) hpos (by
        rw [i3, Array.toList_map]
        rw [i3, List.nil_append, Array.toArray_toList, List.nil_append] at g4
        exact g4)
      unfold execOp
      simp only [ho, Sem.run_bind, this, Result.andThen_ok]
      rfl
    have hmax : n ≤ maxLen := by
      simp only [maxLen]
      have : n ≤ n * k.size := Nat.le_mul_of_pos_right n hs
      omega
    obtain ⟨M', hM, hst⟩ := g2.newRow o.dst (u := u) (cs := css.flatten) (n := n) (cap := n) g3 hn (Nat.le_refl _) hmax (by rw [hflat]; rw [show xs.length = n from hn]) (by rw [List.take_of_length_le]; rw [hflat, show xs.length = n from hn]; exact Nat.le_refl _)
    exact ⟨_, M', _, _, .inl hrun, ⟨hM.1, g1.trans hM.2⟩, hst, Bel.alloc' h _, Eff.of (Ext.alloc w _) (by simp [ho]), hk'⟩
end
end Go.Pv
