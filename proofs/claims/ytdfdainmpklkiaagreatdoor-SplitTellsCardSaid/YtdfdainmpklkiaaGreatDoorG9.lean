/- What an operation that only reads does: memory, parts, lengths. -/
import Derived.Test.YtdfdainmpklkiaaGreatDoorG8
set_option linter.unusedVariables false
set_option linter.unusedSimpArgs false
namespace Go.Pv
open Go.RowKit
section
variable {P : Program} {c : Cx} {M : Mem} {e : Env} {a : Act} {w : World} {o : Oper} {ρ : Type} {K : PV → Option ρ} {r : ρ}
theorem st_cell (h : St M e a w) {d : Bx} {off : Nat} (hne : e.cell d off ≠ .un) : ∃ v, w.cell? ⟨M.β d, off, none⟩ = some v ∧ pv M a w (.b d off) = v := by
  have hb : e.box d ≠ [] := fun h0 => hne (by unfold Env.cell; rw [h0]; rfl)
  obtain ⟨_, ⟨C, T, b2, b3⟩, _⟩ := h.bk d hb
  have hlt : off < (e.box d).length := Nat.lt_of_not_le fun hle => hne (by unfold Env.cell; rw [List.getD_eq_getElem?_getD, List.getElem?_eq_none hle]; rfl)
  have hc : w.cell? ⟨M.β d, off, none⟩ = some (C[off]'(by omega)) := by
    rw [cell_of_row w _ off C T (0, 0) b2]; exact Array.getElem?_eq_getElem (by omega)
  exact ⟨_, hc, by show (w.cell? ⟨M.β d, off, none⟩).getD undef = _; rw [hc]; rfl⟩
/-- What refers to no place. -/
theorem PR.of_CR {at_ : Pl → PV} {q : Pl → Value} {n : Pl} {p : PV} {v : Value} (h : CR M.G w p v) : PR M w at_ q n p v := by
  cases p with
  | i k x => rw [CR] at h; exact h
  | b x => rw [CR] at h; exact h
  | s x => rw [CR] at h; exact h
  | l e xs => rw [CR] at h; exact h
  | st k x => rw [CR] at h; exact h
  | nil => rw [CR] at h; exact h
  | p x => rw [CR] at h; exact h
  | e x => rw [CR] at h; exact h
  | nilf => rw [CR] at h; exact h
  | fn f => rw [CR] at h; exact h
  | at_ k x => rw [CR] at h; exact h
  | yl => exact h
  | clo f cs => exact h
  | ac ps off => exact h
  | un => trivial
  | _ => simp [CR] at h
theorem CR.notO {G : Com} {p : PV} {v : Value} (h : CR G w p v) : isO p = false := by cases p <;> first | rfl | simp [CR] at h
theorem CR.rd {G : Com} {p : PV} {v : Value} (h : CR G w p v) : RD G w p v := by
  have hM : PR ⟨0, G, G, fun _ => 0, fun _ => none, fun _ => False, []⟩ w (fun _ => .un) (fun _ => undef) (.t 0) p v := PR.of_CR h
  cases p with
  | o m k xs => simp [CR] at h
  | _ => exact fun k x hx => hM.toDen hx
/-- A pointer. -/
theorem ptr_at (h : St M e a w) {at_ : Pl → PV} {q : Pl → Value} {n : Pl} {i off : Nat} {v : Value} (hp : PR M w at_ q n (.p (some (i, off))) v) : v = .pointer (some ⟨M.β (.h i), off, none⟩) ∧ i < M.G.n := by
  obtain ⟨cs, ⟨h1, _⟩ | ⟨i', off', h1, h2, rfl⟩, hv⟩ := hp
  · cases h1
  · cases h1
    rw [← h.ha.2 i h2]
    exact ⟨hv, h2⟩
theorem ptr_mk (h : St M e a w) {at_ : Pl → PV} {q : Pl → Value} {n : Pl} {i : Nat} (off : Nat) (hi : i < M.G.n) : PR M w at_ q n (.p (some (i, off))) (.pointer (some ⟨M.β (.h i), off, none⟩)) :=
  ⟨_, .inr ⟨i, off, rfl, hi, rfl⟩, by rw [h.ha.2 i hi]; rfl⟩
/-- A box's cells, none of them a slice of the call's own. -/
theorem box_rd (h : St M e a w) {d : Bx} {off : Nat} {k : Kd} {y : k.den × List PV} (hall : (e.box d).all (fun p => !isO p) = true) (hy : asm k ((e.box d).drop off) = some y) :
    ∃ cs, Rep M.G w k y.1 cs ∧ ∀ j (hj : j < cs.length), w.cell? ⟨M.β d, off + j, none⟩ = some cs[j] := by
  by_cases hne : e.box d = []
  · rw [hne, List.drop_nil] at hy
    obtain ⟨s1, s2, s3⟩ := asm_spec (G := M.G) (w := w) (ps := []) (cs := []) (x := y.1) (r := y.2) rfl (fun i p v hp => by simp at hp) hy
    exact ⟨_, s3, fun j hj => by simp at hj⟩
  · obtain ⟨_, ⟨C, T, b2, b3⟩, _⟩ := h.bk d hne
    have hcell : ∀ o (ho : o < C.size), w.cell? ⟨M.β d, o, none⟩ = some C[o] := fun o ho => by rw [cell_of_row w _ o C T (0, 0) b2]; exact Array.getElem?_eq_getElem ho
    obtain ⟨s1, s2, s3⟩ := asm_spec (G := M.G) (w := w) (ps := (e.box d).drop off) (cs := C.toList.drop off) (x := y.1) (r := y.2) (by simp [b3]) (fun i p v hp hv => by
      rw [List.getElem?_drop] at hp hv
      have hlt := (List.getElem?_eq_some_iff.1 hv).1
      have hpr := h.pr (.b d (off + i))
      have hat : e.at_ (.b d (off + i)) = p := by show e.cell d _ = p; unfold Env.cell; rw [List.getD_eq_getElem?_getD, hp]; rfl
      have hpv : pv M a w (.b d (off + i)) = v := by
        show (w.cell? ⟨M.β d, off + i, none⟩).getD undef = v
        rw [hcell (off + i) (by simpa using hlt)]
        rw [List.getElem?_eq_getElem hlt] at hv
        exact Option.some.inj hv
      rw [hat, hpv] at hpr
      have hno : isO p = false := by
        have := List.all_eq_true.1 hall p (List.mem_of_getElem? hp)
        simpa using this
      cases p with
      | o m k xs => cases hno
      | _ => exact fun k x hx => hpr.toDen hx) hy
    refine ⟨_, s3, fun j hj => ?_⟩
    have hlt : off + j < C.size := by simp at hj; omega
    rw [hcell (off + j) hlt]
    congr 1
    simp
theorem hasm_asm {k : Kd} {i o : Nat} {y : k.den} (h : hasm k e.h i o = some y) : (e.box (.h i)).all (fun p => !isO p) = true ∧ ∃ z, asm k ((e.box (.h i)).drop o) = some z ∧ z.1 = y := by
  unfold hasm at h
  split at h
  · rename_i hall
    obtain ⟨z, hz, rfl⟩ := Option.map_eq_some_iff.1 h
    exact ⟨hall, z, hz, rfl⟩
  · cases h
/-- An own slice's element. -/
theorem own_elem (h : St M e a w) {n : Pl} {k1 : Kd} {xs : List k1.den} (hat : e.at_ n = .o true k1 xs) {j : Int} {path : List Nat} {y : (k : Kd) × k.den} (j0 : 0 ≤ j) (j1 : j < xs.length) {g cap : Nat} (hpl : pv M a w n = .slice (some ⟨g, 0, none⟩) xs.length cap) {q : Kd × Nat} (hpa : pathAt k1 path = some q)
    (hy : getPath k1 (nth xs j) path = some y) : ∃ cs, Rep M.G w y.1 y.2 cs ∧ ∀ i (hi : i < cs.length), w.cell? ⟨g, j.toNat * k1.size + q.2 + i, none⟩ = some cs[i] := by
  have hown : OwnD M w n true k1 xs (pv M a w n) := by have := h.pr n; rw [hat] at this; exact this
  obtain ⟨cs, hr, hcs⟩ := hown.at_elem hpl (i := j.toNat) (by omega)
  rw [nth_eq j0 (by omega)] at hy
  obtain ⟨q', hq', c1, c2, c3, rfl, hl, hr2⟩ := hr.path hy
  rw [hpa] at hq'
  injection hq' with hq'
  subst hq'
  refine ⟨c2, hr2, fun i hi => ?_⟩
  have := hcs (c1.length + i) (by simp; omega)
  rw [List.getElem_append_left (by simp; omega), List.getElem_append_right (by omega)] at this
  simp only [Nat.add_sub_cancel_left] at this
  rw [← this, hl]
  congr 2; omega
theorem run_loadVar_one {k : Kd} {t : TypeId} (hf : Fits P k t) (hk : k.isAgg = false) {g o : Nat} {v : Value} {w : World} (hc : w.cell? ⟨g, o, none⟩ = some v) : (loadVar t ⟨g, o, none⟩).run P w = .ok v w := by
  unfold loadVar
  rw [Sem.run_bind, run_isAgg hf, hk]
  simp [hc]
theorem rd_load (hc : ∀ t k, c.kd t = some k → Fits P k t) (h : St M e a w) {t : TypeId} {x : Operand} (ho : o.op = .load t x) (hk : rdK c o e K = some r) : Reads P M o e a w K r := by
  simp only [rdK, ho] at hk
  have hrun : ∀ {g of : Nat} {v : Value} {w2 : World}, a.eval x = .pointer (some ⟨g, of, none⟩) → (loadVar t ⟨g, of, none⟩).run P w2 = .ok v w2 → (execOp a.eval o).run P w2 = .ok (.value v) w2 := fun hv hl => by
    simp [execOp, ho, hv, Instr.loadAt, Instr.sureAddr, hl]
  split at hk
  · rename_i k d off hkd hq
    split at hk
    · rename_i hag
      split at hk
      case isFalse => cases hk
      rename_i hall
      obtain ⟨y, hy, hk⟩ := Option.bind_eq_some_iff.1 hk
      obtain ⟨n0, hp⟩ := ev_pr h hq
      have hv : a.eval x = .pointer (some ⟨M.β (.s d), off, none⟩) := hp
      obtain ⟨cs, s3, hcs⟩ := box_rd h hall hy
      exact ⟨_, _, n0, isO_ofDen _ _, PR.ofDen ⟨_, s3, rfl⟩, fun w2 hx => hrun hv (run_loadVar_rep (hc _ _ hkd) s3 fun j hj => hx.cell ho hv (hcs j hj)), hk⟩
    · rename_i hag
      obtain ⟨n0, hp⟩ := ev_pr h hq
      have hv : a.eval x = .pointer (some ⟨M.β (.s d), off, none⟩) := hp
      have hne : e.cell (.s d) off ≠ .un := fun hu => by rw [hu] at hk; cases hk
      obtain ⟨v, hcell, hpv⟩ := st_cell h hne
      have hl : ∀ w2, Sees o a w w2 → (loadVar t ⟨M.β (.s d), off, none⟩).run P w2 = .ok v w2 := fun w2 hx => run_loadVar_one (hc _ _ hkd) (by simpa using hag) (hx.cell ho hv hcell)
      have hpr := h.pr (.b (.s d) off)
      rw [hpv] at hpr
      change PR M w e.at_ (pv M a w) (.b (.s d) off) (e.cell (.s d) off) v at hpr
      cases hcl : e.cell (.s d) off with
      | o m k' xs =>
        rw [hcl] at hk
        exact ⟨v, .r (.b (.s d) off), .t 0, rfl, ⟨trivial, fun _ => hpv.symm⟩, fun w2 hx => hrun hv (hl w2 hx), hk⟩
      | un => exact absurd hcl hne
      | _ => rw [hcl] at hk hpr; exact ⟨v, _, _, rfl, hpr, fun w2 hx => hrun hv (hl w2 hx), hk⟩
  · rename_i k z hkd hq
    obtain ⟨⟨i, off⟩, hz0, hk'⟩ := Option.bind_eq_some_iff.1 hk
    clear hk
    subst hz0
    obtain ⟨n0, hp⟩ := ev_pr h hq
    obtain ⟨hv, hi⟩ := ptr_at h hp
    have hk := hk'
    clear hk'
    split at hk
    · obtain ⟨y, hy, hk⟩ := Option.bind_eq_some_iff.1 hk
      obtain ⟨hall, z, hz, rfl⟩ := hasm_asm hy
      obtain ⟨cs, s3, hcs⟩ := box_rd h hall hz
      exact ⟨_, _, n0, isO_ofDen _ _, PR.ofDen ⟨_, s3, rfl⟩, fun w2 hx => hrun hv (run_loadVar_rep (hc _ _ hkd) s3 fun j hj => hx.cell ho hv (hcs j hj)), hk⟩
    · rename_i hag
      split at hk
      · split at hk
        · rename_i k0
          obtain ⟨xs, hat, hk⟩ := Option.bind_eq_some_iff.1 hk
          have hat := hown_at hat
          obtain ⟨v, hcell, hpv⟩ := st_cell h (d := .h i) (off := off) (by show e.at_ (.b (.h i) off) ≠ _; rw [hat]; intro hh; cases hh)
          exact ⟨v, .r (.b (.h i) off), .t 0, rfl, ⟨hi, fun _ => hpv.symm⟩, fun w2 hx => hrun hv (run_loadVar_one (hc _ _ hkd) rfl (hx.cell ho hv hcell)), hk⟩
        · cases hk
      · obtain ⟨y, hy, hk⟩ := Option.bind_eq_some_iff.1 hk
        have hy := hcell_at hy
        obtain ⟨v, hcell, hpv⟩ := st_cell h (d := .h i) (off := off) (by
          show e.at_ (.b (.h i) off) ≠ _
          intro hh; rw [hh] at hy
          cases k <;> simp [toDen] at hy)
        have hpr := h.pr (.b (.h i) off)
        rw [hpv] at hpr
        exact ⟨v, _, .t 0, isO_ofDen _ _, PR.ofDen (hpr.toDen hy), fun w2 hx => hrun hv (run_loadVar_one (hc _ _ hkd) (by simpa using hag) (hx.cell ho hv hcell)), hk⟩
  · rename_i k ps off hkd hq
    obtain ⟨n0, hp⟩ := ev_pr h hq
    have hp : CR M.G w (.ac ps off) (a.eval x) := hp
    rw [CR] at hp
    obtain ⟨g, vs, hv, hh, hcr⟩ := hp
    have hcell : ∀ j (hj : j < vs.length), w.cell? ⟨g, j, none⟩ = some vs[j] := fun j hj => by have := (hh j hj).2; rw [Nat.zero_add] at this; exact this
    have hlen := hcr.len
    split at hk
    · obtain ⟨y, hy, hk⟩ := Option.bind_eq_some_iff.1 hk
      obtain ⟨s1, s2, s3⟩ := asm_spec (G := M.G) (w := w) (ps := ps.drop off) (cs := vs.drop off) (x := y.1) (r := y.2) (by simp [hlen]) (fun i p v hp hv => by
        rw [List.getElem?_drop] at hp hv
        exact (hcr.get _ p v hp hv).rd) hy
      refine ⟨_, _, n0, isO_ofDen _ _, PR.ofDen ⟨_, s3, rfl⟩, fun w2 hx => hrun hv (run_loadVar_rep (hc _ _ hkd) s3 fun j hj => hx.cell ho hv ?_), hk⟩
      have hlt : off + j < vs.length := by simp at hj; omega
      rw [hcell (off + j) hlt]
      congr 1
      simp
    · rename_i hag
      have hne : ps.getD off .un ≠ .un := fun hu => by rw [hu] at hk; cases hk
      have hlt : off < ps.length := Nat.lt_of_not_le fun hle => hne (by rw [List.getD_eq_getElem?_getD, List.getElem?_eq_none hle]; rfl)
      have e1 : ps[off]? = some (ps.getD off .un) := by rw [List.getD_eq_getElem?_getD, List.getElem?_eq_getElem hlt]; rfl
      have e2 : vs[off]? = some (vs[off]'(by omega)) := List.getElem?_eq_getElem (by omega)
      have hcr1 := hcr.get _ _ _ e1 e2
      generalize hpp : ps.getD off .un = p at hk hcr1 hne
      have hk' : K p = some r := by
        cases p <;> first | exact absurd rfl hne | (simp only at hk; split at hk; exact hk; cases hk)
      exact ⟨_, p, .t 0, hcr1.notO, PR.of_CR hcr1, fun w2 hx => hrun hv (run_loadVar_one (hc _ _ hkd) (by simpa using hag) (hx.cell ho hv (hcell off (by omega)))), hk'⟩
  · rename_i k k1 i o' j path hkd hq
    obtain ⟨xs, hat0, hk1⟩ := Option.bind_eq_some_iff.1 hk
    clear hk
    obtain ⟨y, hy, hk⟩ := Option.bind_eq_some_iff.1 hk1
    clear hk1
    have hat := hown_at hat0
    split at hk
    · rename_i hyk
      subst hyk
      obtain ⟨n0, hp⟩ := ev_pr h hq
      obtain ⟨j0, j1, g, cap, q, hpl, hpa, hv⟩ := hp.2 xs hat
      obtain ⟨cs, hr, hcs⟩ := own_elem h hat j0 j1 hpl hpa hy
      exact ⟨_, _, n0, isO_ofDen _ _, PR.ofDen ⟨_, hr, rfl⟩, fun w2 hx => hrun hv (run_loadVar_rep (hc _ _ hkd) hr fun i hi => hx.cell ho hv (hcs i hi)), hk⟩
    · cases hk
  · rename_i k k' y hkd hq
    split at hk
    · rename_i hkk
      subst hkk
      obtain ⟨n0, g, of, cs, hv, hh, hr⟩ := ev_pr h hq
      refine ⟨valOf k' cs, _, n0, isO_ofDen _ _, PR.ofDen ⟨cs, hr, rfl⟩, fun w2 hx => hrun hv (run_loadVar_rep (hc _ _ hkd) hr fun j hj => hx.cell ho hv (hh j hj).2), hk⟩
    · cases hk
  · rename_i k n j path hkd hq
    split at hk
    · rename_i k1 xs hat
      obtain ⟨y, hy, hk'⟩ := Option.bind_eq_some_iff.1 hk
      clear hk
      split at hk'
      · rename_i hyk
        subst hyk
        obtain ⟨n0, hp⟩ := ev_pr h hq
        obtain ⟨j0, j1, g, cap, q, hpl, hpa, hv⟩ := hp.2 k1 xs hat
        obtain ⟨cs, hr, hcs⟩ := own_elem h hat j0 j1 hpl hpa hy
        exact ⟨_, _, n0, isO_ofDen _ _, PR.ofDen ⟨_, hr, rfl⟩, fun w2 hx => hrun hv (run_loadVar_rep (hc _ _ hkd) hr fun i hi => hx.cell ho hv (hcs i hi)), hk'⟩
      · cases hk'
    · cases hk
  · cases hk
theorem path_app {f : Nat} : ∀ (k : Kd) (p : List Nat) (q z : Kd × Nat), pathAt k p = some q → fieldAt q.1 f = some z → pathAt k (p ++ [f]) = some (z.1, q.2 + z.2) := fun k p => by
  induction p generalizing k with
  | nil => intro q z h1 h2; simp only [pathAt, Option.some.injEq] at h1; subst h1; simp [pathAt, h2]
  | cons f' p ih =>
    intro q z h1 h2
    simp only [pathAt, Option.bind_eq_some_iff, Option.map_eq_some_iff] at h1
    obtain ⟨u, hu, u2, hu2, rfl⟩ := h1
    simp only [List.cons_append, pathAt, hu, Option.bind_some, ih u.1 u2 z hu2 h2, Option.map_some]
    congr 2; omega
theorem run_fieldAt {k k' : Kd} {t : TypeId} {f q : Nat} (hf : Fits P k t) (hfa : fieldAt k f = some (k', q)) (hk' : k'.size ≠ 0) (g of : Nat) (w : World) :
    (Instr.fieldAt t (.pointer (some ⟨g, of, none⟩)) f).run P w = .ok (.pointer (some ⟨g, of + q, none⟩)) w := by
  obtain ⟨fs, x, h1, h2, h3, h4⟩ := hf.field hfa
  simp [Instr.fieldAt, run_underlying h1, h2, Instr.sureAddr, fieldPlace, run_sizeOf' h4, hk', Addr.add_lit, h3]
theorem rd_fieldAddr (hc : ∀ t k, c.kd t = some k → Fits P k t) (h : St M e a w) {t : TypeId} {x : Operand} {f : Nat} (ho : o.op = .fieldAddr t x f) (hk : rdK c o e K = some r) : Reads P M o e a w K r := by
  simp only [rdK, ho] at hk
  have hrun : ∀ {g of : Nat} {v : Value} {w2 : World}, a.eval x = .pointer (some ⟨g, of, none⟩) → (Instr.fieldAt t (.pointer (some ⟨g, of, none⟩)) f).run P w2 = .ok v w2 → (execOp a.eval o).run P w2 = .ok (.value v) w2 := fun hv hl => by
    simp [execOp, ho, hv, hl]
  split at hk
  · rename_i k d off hkd hq
    obtain ⟨n0, hp⟩ := ev_pr h hq
    obtain ⟨q, hfa, hk⟩ := Option.bind_eq_some_iff.1 hk
    split at hk
    · cases hk
    · rename_i hs
      exact ⟨_, .bx d (off + q.2), n0, rfl, rfl, fun w2 _ => hrun hp (run_fieldAt (hc _ _ hkd) hfa hs _ _ _), hk⟩
  · rename_i k z hkd hq
    obtain ⟨⟨i, off⟩, hz0, hk'⟩ := Option.bind_eq_some_iff.1 hk
    clear hk
    subst hz0
    obtain ⟨n0, hp⟩ := ev_pr h hq
    obtain ⟨hv, hi⟩ := ptr_at h hp
    have hk := hk'
    clear hk'
    obtain ⟨q, hfa, hk⟩ := Option.bind_eq_some_iff.1 hk
    split at hk
    · cases hk
    · rename_i hs
      exact ⟨_, .p (some (i, off + q.2)), n0, rfl, ptr_mk h _ hi, fun w2 _ => hrun hv (run_fieldAt (hc _ _ hkd) hfa hs _ _ _), hk⟩
  · rename_i k ps off hkd hq
    obtain ⟨n0, hp⟩ := ev_pr h hq
    obtain ⟨q, hfa, hk⟩ := Option.bind_eq_some_iff.1 hk
    split at hk
    · cases hk
    · rename_i hs
      have hp : CR M.G w (.ac ps off) (a.eval x) := hp
      rw [CR] at hp
      obtain ⟨g, vs, hv, hh, hcr⟩ := hp
      refine ⟨_, .ac ps (off + q.2), n0, rfl, ?_, fun w2 _ => hrun hv (run_fieldAt (hc _ _ hkd) hfa hs _ _ _), hk⟩
      show CR M.G w (.ac ps (off + q.2)) _
      rw [CR]
      exact ⟨g, vs, rfl, hh, hcr⟩
  · rename_i k k1 i o' j p hkd hq
    obtain ⟨q, hpa, hk⟩ := Option.bind_eq_some_iff.1 hk
    split at hk
    · rename_i hkk
      subst hkk
      obtain ⟨z, hfa, hk⟩ := Option.bind_eq_some_iff.1 hk
      split at hk
      · cases hk
      · rename_i hs
        obtain ⟨xs, hat, hk⟩ := Option.bind_eq_some_iff.1 hk
        have hat := hown_at hat
        obtain ⟨n0, hp⟩ := ev_pr h hq
        obtain ⟨j0, j1, g, cap, q', hpl, hpa', hv⟩ := hp.2 xs hat
        rw [hpa] at hpa'
        injection hpa' with hpa'
        subst hpa'
        refine ⟨_, .rh k1 i o' j (p ++ [f]), n0, rfl, ⟨hp.1, fun xs2 hat2 => ?_⟩, fun w2 _ => hrun hv (run_fieldAt (hc _ _ hkd) hfa hs _ _ _), hk⟩
        rw [hat] at hat2
        injection hat2 with h1 h2 h3
        rw [h3] at hpl j1
        refine ⟨j0, j1, g, cap, (z.1, q.2 + z.2), hpl, path_app _ _ _ _ hpa hfa, ?_⟩
        show Value.pointer _ = _
        congr 3; omega
    · cases hk
  · rename_i k k' y hkd hq
    split at hk
    · rename_i hkk
      subst hkk
      obtain ⟨z, hz, hk⟩ := Option.bind_eq_some_iff.1 hk
      split at hk
      · cases hk
      · rename_i hs
        obtain ⟨n0, g, of, cs, hv, hh, hr⟩ := ev_pr h hq
        obtain ⟨q, hfa⟩ := comp_fieldAt hz
        obtain ⟨c1, c2, c3, rfl, hl, hr2⟩ := hr.comp hz hfa
        refine ⟨_, .at_ z.1 z.2, n0, rfl, ⟨g, of + q, c2, rfl, fun j hj => ?_, hr2⟩, fun w2 _ => hrun hv (run_fieldAt (hc _ _ hkd) hfa hs _ _ _), hk⟩
        have := hh (q + j) (by simp; omega)
        rw [List.getElem_append_left (by simp; omega), List.getElem_append_right (by omega)] at this
        simp only [hl, Nat.add_sub_cancel_left] at this
        rw [show of + q + j = of + (q + j) by omega]; exact this
    · cases hk
  · rename_i k n j p hkd hq
    split at hk
    · rename_i k1 xs hat
      obtain ⟨q, hpa, hk⟩ := Option.bind_eq_some_iff.1 hk
      split at hk
      · rename_i hkk
        subst hkk
        obtain ⟨z, hfa, hk⟩ := Option.bind_eq_some_iff.1 hk
        split at hk
        · cases hk
        · rename_i hs
          obtain ⟨n0, hp⟩ := ev_pr h hq
          obtain ⟨j0, j1, g, cap, q', hpl, hpa', hv⟩ := hp.2 k1 xs hat
          rw [hpa] at hpa'
          injection hpa' with hpa'
          subst hpa'
          refine ⟨_, .ra n j (p ++ [f]), n0, rfl, ⟨hp.1, fun k2 xs2 hat2 => ?_⟩, fun w2 _ => hrun hv (run_fieldAt (hc _ _ hkd) hfa hs _ _ _), hk⟩
          rw [hat] at hat2
          injection hat2 with h1 h2 h3
          subst h2
          rw [eq_of_heq h3] at hpl j1
          refine ⟨j0, j1, g, cap, (z.1, q.2 + z.2), hpl, path_app _ _ _ _ hpa hfa, ?_⟩
          show Value.pointer _ = _
          congr 3; omega
      · cases hk
    · cases hk
  · cases hk
theorem rd_field (hc : ∀ t k, c.kd t = some k → Fits P k t) (h : St M e a w) {t : TypeId} {x : Operand} {f : Nat} (ho : o.op = .field t x f) (hk : rdK c o e K = some r) : Reads P M o e a w K r := by
  simp only [rdK, ho] at hk
  split at hk
  · rename_i k k' y hkd hq
    split at hk
    · rename_i hkk
      subst hkk
      obtain ⟨z, hz, hk⟩ := Option.bind_eq_some_iff.1 hk
      obtain ⟨n0, cs, hr, hv⟩ := ev_pr h hq
      obtain ⟨q, hfa⟩ := comp_fieldAt hz
      obtain ⟨c1, c2, c3, rfl, hl, hr2⟩ := hr.comp hz hfa
      obtain ⟨fs, x', h1, h2, h3, h4⟩ := (hc _ _ hkd).field hfa
      have hag : k'.isAgg = true := by cases k' <;> first | rfl | cases hz
      have hv' : a.eval x = .agg (c1 ++ c2 ++ c3).toArray := by rw [hv, valOf, if_pos hag]
      refine ⟨valOf z.1 c2, _, n0, isO_ofDen _ _, PR.ofDen ⟨c2, hr2, rfl⟩, fun w2 _ => ?_, hk⟩
      have := run_part_rep h4 hr2 (c1 := c1) (c3 := c3) w2
      rw [hl] at this
      simp only [execOp, ho, hv', Instr.field, Sem.run_bind, run_underlying h1, Result.andThen_ok, h2, asAgg, h3, Sem.run_pure, this]
    · cases hk
  · cases hk
end
end Go.Pv
