/- What an operation does that takes, lays down or makes memory. -/
import Derived.Test.YtdfdainmpklkiaaGreatDoorG10
import Derived.Laws.MakeOwn
import Derived.Laws.IdiomCopy
import Derived.Great.BuildSlice
set_option linter.unusedVariables false
set_option linter.unusedSimpArgs false
namespace Go.Pv
open Go.RowKit
/-- Memory in which more is no more written. -/
def Mem.Le (M M' : Mem) : Prop := M'.key = M.key ∧ M.G.le M'.G
theorem Mem.Le.refl (M : Mem) : M.Le M := ⟨rfl, Com.le.refl _⟩
theorem Mem.Le.trans {M M1 M2 : Mem} (h : M.Le M1) (k : M1.Le M2) : M.Le M2 := ⟨k.1.trans h.1, h.2.trans k.2⟩
theorem Mem.Alike.le {M M' : Mem} (h : M.Alike M') : M.Le M' := ⟨h.1, by rw [h.2.1]; exact Com.le.refl _⟩
/-- Of what stood at the beginning only the heap's blocks are written. -/
structure Bel (M : Mem) (w w' : World) : Prop where
  os : w'.os = w.os
  tape : w'.tape = w.tape
  output : w'.output = w.output
  size : w.heap.size ≤ w'.heap.size
  block : ∀ k, k < M.base → ¬ M.O0 k → w'.heap[k]? = w.heap[k]?
theorem Bel.refl (M : Mem) (w : World) : Bel M w w := ⟨rfl, rfl, rfl, Nat.le_refl _, fun _ _ _ => rfl⟩
theorem Bel.trans {M : Mem} {a b c : World} (h : Bel M a b) (k : Bel M b c) : Bel M a c :=
  ⟨k.os.trans h.os, k.tape.trans h.tape, k.output.trans h.output, Nat.le_trans h.size k.size, fun i hi hO => (k.block i hi hO).trans (h.block i hi hO)⟩
theorem Bel.drew (M : Mem) (w : World) : Bel M w w.drew := ⟨rfl, rfl, rfl, Nat.le_refl _, fun _ _ _ => rfl⟩
theorem Bel.key {M M' : Mem} (h : M'.key = M.key) {w w' : World} (k : Bel M' w w') : Bel M w w' :=
  ⟨k.os, k.tape, k.output, k.size, fun i hi hO => k.block i (by rw [show M'.base = M.base from congrArg Prod.fst h]; exact hi) (by rw [show M'.O0 = M.O0 from congrArg (fun x => x.2.2) h]; exact hO)⟩
theorem Bel.of_below {M : Mem} {B : Nat} {w w' : World} (hb : M.base ≤ B) (h : Below B w w') : Bel M w w' := ⟨h.os, h.tape, h.output, h.size, fun k hk _ => h.block k (by omega)⟩
theorem Bel.one {M : Mem} {w w' : World} {g : Nat} (hg : M.Mine g) (h1 : w'.os = w.os) (h2 : w'.tape = w.tape) (h3 : w'.output = w.output) (hs : w.heap.size ≤ w'.heap.size) (h : ∀ g', g' < w.heap.size → g' ≠ g → w'.heap[g']? = w.heap[g']?) (hb : M.base ≤ w.heap.size) : Bel M w w' :=
  ⟨h1, h2, h3, hs, fun k hk hO => h k (by omega) (fun hh => by subst hh; exact hg.elim hO (by omega))⟩
section
variable {P : Program} {c : Cx} {M : Mem} {e : Env} {a : Act} {w : World} {o : Oper} {ρ : Type} {K : Kt ρ} {r : ρ}
/-- What an operation leaves: calm ones all that stood; a store all but its block; a new box is nobody else's; a call leaves the caller's boxes. -/
def Eff (c : Cx) (M : Mem) (o : Oper) (a : Act) (v : Value) (w w' : World) : Prop :=
  (calm c o = true → Ext w w') ∧ (∀ t y x g, o.op = .store t y x → blockOf (a.eval y) = some g → ∀ g', g' ≠ g → g' < w.heap.size → w'.heap[g']? = w.heap[g']?) ∧
    (∀ t, o.op = .alloc t → o.guard = none → ∃ g, blockOf v = some g ∧ w.heap.size ≤ g) ∧
    ∀ q f, o.op = .call q → q.callee = .value f → ∀ e, St M e a w → ∀ g, ((∃ d, e.box (.s d) ≠ [] ∧ M.β (.s d) = g) ∨ ∃ n, M.G g n) → w'.heap[g]? = w.heap[g]?
theorem Eff.of {v : Value} {w' : World} (h : Ext w w') (ha : ∀ t, o.op ≠ .alloc t) : Eff c M o a v w w' := ⟨fun _ => h, fun _ _ _ _ _ _ g' _ hg' => h g' hg', fun t ht => absurd ht (ha t), fun _ _ _ _ e he g hd => by
  rcases hd with ⟨d, hd, rfl⟩ | ⟨n, hn⟩
  · obtain ⟨_, ⟨C, T, b2, _⟩, _⟩ := he.bk _ hd
    exact h _ (Array.getElem?_eq_some_iff.1 b2).1
  · exact h _ (he.cb _ _ hn)⟩
theorem Eff.hot {v : Value} {w' : World} (h : calm c o = false) (hs : ∀ t y x, o.op ≠ .store t y x) (ha : ∀ t, o.op ≠ .alloc t)
    (h4 : ∀ q f, o.op = .call q → q.callee = .value f → ∀ e, St M e a w → ∀ g, ((∃ d, e.box (.s d) ≠ [] ∧ M.β (.s d) = g) ∨ ∃ n, M.G g n) → w'.heap[g]? = w.heap[g]?) : Eff c M o a v w w' := ⟨fun hh => (by rw [h] at hh; cases hh), fun t y x _ h1 => absurd h1 (hs t y x), fun t ht => absurd ht (ha t), h4⟩
theorem Eff.store {t : TypeId} {y x : Operand} {g off : Nat} {v : Value} {w' : World} (ho : o.op = .store t y x) (hv : a.eval y = .pointer (some ⟨g, off, none⟩)) (h : ∀ g', g' ≠ g → g' < w.heap.size → w'.heap[g']? = w.heap[g']?) : Eff c M o a v w w' :=
  ⟨fun hh => (by simp [calm, ho] at hh), fun t' y' x' g' h1 h2 => (by
    rw [ho] at h1
    injection h1 with _ h1 _
    subst h1
    rw [hv] at h2
    injection h2 with h2
    subst h2
    exact h), fun t' ht => (by rw [ho] at ht; cases ht), fun q f hq => (by rw [ho] at hq; cases hq)⟩
/-- .. of a store, whatever the memory is called. -/
theorem Eff.again {M1 : Mem} {v : Value} {w' : World} (h : Eff c M1 o a v w w') {t : TypeId} {y x : Operand} (ho : o.op = .store t y x) : Eff c M o a v w w' := ⟨h.1, h.2.1, h.2.2.1, fun q f hq => by rw [ho] at hq; cases hq⟩
/-- An operation that is done in one step. -/
def Did (P : Program) (c : Cx) (M : Mem) (o : Oper) (a : Act) (w : World) {ρ : Type} (K : Kt ρ) (r : ρ) : Prop :=
  ∃ v M' e' w', ((execOp a.eval o).run P w = .ok (.value v) w' ∨ ((execOp a.eval o).run P w = .ok .skip w' ∧ v = undef)) ∧ M.Le M' ∧ St M' e' (a.put o.dst v) w' ∧ Bel M w w' ∧ Eff c M o a v w w' ∧ K e' = some r
theorem St.putD (h : St M e a w) (d : Option Nat) {p : PV} {v : Value} {n0 : Pl} (ho : isO p = false) (hp : PR M w e.at_ (pv M a w) n0 p v) : St M (e.putD d p) (a.put d v) w := by
  cases d with
  | none => exact h
  | some t => show St M (e.put t p) _ _; unfold Env.put; rw [ho]; exact h.setT t ho hp
theorem St.putDo (h : St M e a w) (d : Option Nat) {n : Pl} {m : Bool} {k : Kd} {xs : List k.den} {v : Value} (hp : OwnD M w n m k xs v) (hf : Free M e a w v) :
    ∃ M', M.Alike M' ∧ St M' (e.putD d (.o m k xs)) (a.put d v) w := by
  cases d with
  | none => exact ⟨M, Mem.Alike.refl M, h⟩
  | some t => exact h.putO t hp hf
theorem Reads.did {K' : PV → Option ρ} (h : St M e a w) (hr : Reads P M o e a w K' r) (hK : ∀ p, K' p = K (e.putD o.dst p)) (hna : ∀ t, o.op ≠ .alloc t) : Did P c M o a w K r := by
  obtain ⟨v, p, n0, h1, h2, h3, h4⟩ := hr
  exact ⟨v, M, e.putD o.dst p, w, .inl (h3 w Sees.refl), Mem.Le.refl M, h.putD o.dst h1 h2, Bel.refl _ _, Eff.of (Ext.refl w) hna, by rw [← hK]; exact h4⟩
/-- A value that others may keep. -/
theorem pub_spec (h : St M e a w) {x : Operand} {p : PV} {e1 : Env} (hp : pub e x = some (p, e1)) :
    ∃ G', M.G.le G' ∧ G'.n = M.G.n ∧ St { M with G := G' } e1 a w ∧ isO p = false ∧ (∀ m, ¬ refs p m) ∧ (∀ d off, p ≠ .bx d off) ∧ ∀ (M2 : Mem) (at_ : Pl → PV) (q : Pl → Value) (n0 : Pl), M2.G = G' → PR M2 w at_ q n0 p (a.eval x) := by
  unfold pub at hp
  have own : ∀ {n : Pl} {m : Bool} {k : Kd} {xs : List k.den}, e.at_ n = .o m k xs → a.eval x = pv M a w n → some (PV.l k xs, e.share n) = some (p, e1) →
      (∀ i o, n ≠ .b (.h i) o) → ∃ G', M.G.le G' ∧ G'.n = M.G.n ∧ St { M with G := G' } e1 a w ∧ isO p = false ∧ (∀ m, ¬ refs p m) ∧ (∀ d off, p ≠ .bx d off) ∧ ∀ (M2 : Mem) (at_ : Pl → PV) (q : Pl → Value) (n0 : Pl), M2.G = G' → PR M2 w at_ q n0 p (a.eval x) := fun {n m k xs} hat hv hp hnh => by
    simp only [Option.some.injEq, Prod.mk.injEq] at hp
    obtain ⟨rfl, rfl⟩ := hp
    obtain ⟨G', h1, h1', h2, h3⟩ := h.share n hnh
    refine ⟨G', h1, h1', h2, rfl, fun _ => id, fun _ _ hh => (by cases hh), fun M2 _ _ _ hM => ?_⟩
    show RepV M2.G w (.list k) xs (a.eval x)
    rw [hM, hv]; exact h3 m k xs hat
  have plain : ∀ {p' : PV}, ev e x = p' → isO p' = false → (∀ m, ¬ refs p' m) → (∀ d off, p' ≠ .bx d off) → some (p', e) = some (p, e1) →
      ∃ G', M.G.le G' ∧ G'.n = M.G.n ∧ St { M with G := G' } e1 a w ∧ isO p = false ∧ (∀ m, ¬ refs p m) ∧ (∀ d off, p ≠ .bx d off) ∧ ∀ (M2 : Mem) (at_ : Pl → PV) (q : Pl → Value) (n0 : Pl), M2.G = G' → PR M2 w at_ q n0 p (a.eval x) := fun {p'} hx h1 h2 h3 hp => by
    simp only [Option.some.injEq, Prod.mk.injEq] at hp
    obtain ⟨rfl, rfl⟩ := hp
    obtain ⟨n0, hpr⟩ := ev_pr h hx
    exact ⟨M.G, Com.le.refl _, rfl, h, h1, h2, h3, fun M2 _ _ _ hM => hpr.keep h1 (by rw [hM]; exact Com.le.refl _) (Keeps.refl _ _) (fun d off hh => absurd hh (h3 d off)) (fun m hm => absurd hm (h2 m))⟩
  split at hp
  · cases hp
  · rename_i n hnh hx
    split at hp
    · rename_i m k xs hat
      obtain ⟨n0, hpr⟩ := ev_pr h hx
      exact own hat (hpr.2 (by rw [hat]; rfl)) hp (fun i o hh => hnh i o (by rw [hh]))
    · cases hp
  · rename_i m k xs t hx
    exact own (n := .t t) hx rfl hp (fun i o hh => by cases hh)
  · rename_i hx; exact plain hx rfl (fun _ => id) (fun _ _ hh => by cases hh) hp
  · rename_i hx; exact plain hx rfl (fun _ => id) (fun _ _ hh => by cases hh) hp
  · rename_i hx; exact plain hx rfl (fun _ => id) (fun _ _ hh => by cases hh) hp
  · rename_i hx; exact plain hx rfl (fun _ => id) (fun _ _ hh => by cases hh) hp
  · rename_i hx; exact plain hx rfl (fun _ => id) (fun _ _ hh => by cases hh) hp
  · rename_i hx; exact plain hx rfl (fun _ => id) (fun _ _ hh => by cases hh) hp
  · rename_i hx; exact plain hx rfl (fun _ => id) (fun _ _ hh => by cases hh) hp
  · rename_i hx; exact plain hx rfl (fun _ => id) (fun _ _ hh => by cases hh) hp
  · rename_i hx; exact plain hx rfl (fun _ => id) (fun _ _ hh => by cases hh) hp
  · rename_i hx; exact plain hx rfl (fun _ => id) (fun _ _ hh => by cases hh) hp
  · rename_i hx; exact plain hx rfl (fun _ => id) (fun _ _ hh => by cases hh) hp
  · rename_i hx; exact plain hx rfl (fun _ => id) (fun _ _ hh => by cases hh) hp
  · cases hp
/-- A value that is handed over. -/
theorem mov_spec (h : St M e a w) {x : Operand} {p : PV} {e1 : Env} (hp : mov e x = some (p, e1)) :
    (∃ m k xs n, p = .o m k xs ∧ OwnD M w n m k xs (a.eval x) ∧ St M e1 a w ∧ Free M e1 a w (a.eval x)) ∨ (isO p = false ∧ e1 = e ∧ ∃ n0, PR M w e.at_ (pv M a w) n0 p (a.eval x)) := by
  unfold mov at hp
  have own : ∀ {n : Pl} {m : Bool} {k : Kd} {xs : List k.den}, e.at_ n = .o m k xs → a.eval x = pv M a w n → some (PV.o m k xs, (e.scrub n).set n .un) = some (p, e1) →
      ∃ m k xs n, p = .o m k xs ∧ OwnD M w n m k xs (a.eval x) ∧ St M e1 a w ∧ Free M e1 a w (a.eval x) := fun {n m k xs} hat hv hp => by
    simp only [Option.some.injEq, Prod.mk.injEq] at hp
    obtain ⟨rfl, rfl⟩ := hp
    obtain ⟨h1, h2, h3⟩ := h.take hat
    rw [hv]
    exact ⟨m, k, xs, n, rfl, h1, h2, h3⟩
  split at hp
  · rename_i i of hx
    simp only [Option.some.injEq, Prod.mk.injEq] at hp
    obtain ⟨rfl, rfl⟩ := hp
    obtain ⟨n0, hpr⟩ := ev_pr h hx
    exact .inr ⟨rfl, rfl, n0, hpr⟩
  · rename_i n _ hx
    split at hp
    · rename_i m k xs hat
      obtain ⟨n0, hpr⟩ := ev_pr h hx
      exact .inl (own hat (hpr.2 (by rw [hat]; rfl)) hp)
    · cases hp
  · rename_i m k xs t hx
    exact .inl (own (n := .t t) hx rfl hp)
  · cases hp
  · cases hp
  · rename_i x p0 q0 h0 h1 h2 h3 h4
    have ho : isO (ev e x) = false := by
      cases hq : ev e x with
      | o m k xs => exact (h2 m k xs hq).elim
      | _ => rfl
    simp only [Option.some.injEq, Prod.mk.injEq] at hp
    obtain ⟨rfl, rfl⟩ := hp
    obtain ⟨n0, hpr⟩ := ev_pr h rfl
    exact .inr ⟨ho, rfl, n0, hpr⟩
/-- .. and is as a slice type has it. -/
theorem mov_nil (h : St M e a w) {x : Operand} {p : PV} {e1 : Env} (hp : mov e x = some (p, e1)) (t : Nat) :
    (∃ m k xs n, ownNil c t p = .o m k xs ∧ OwnD M w n m k xs (a.eval x) ∧ St M e1 a w ∧ Free M e1 a w (a.eval x)) ∨ (isO (ownNil c t p) = false ∧ ownNil c t p = p ∧ e1 = e ∧ ∃ n0, PR M w e.at_ (pv M a w) n0 p (a.eval x)) := by
  rcases mov_spec h hp with ⟨m, k, xs, n, rfl, h1, h2, h3⟩ | ⟨h1, rfl, n0, h2⟩
  · exact .inl ⟨m, k, xs, n, rfl, h1, h2, h3⟩
  · cases p with
    | nil =>
      have hv : a.eval x = .slice none 0 0 := h2
      unfold ownNil
      cases c.kd t with
      | none => exact .inr ⟨rfl, rfl, rfl, n0, h2⟩
      | some kk =>
        cases kk with
        | list k =>
          left
          rw [hv]
          exact ⟨true, k, [], .t 0, rfl, OwnD.nil M w _ _ _, h, fun g hg => by cases hg⟩
        | _ => exact .inr ⟨rfl, rfl, rfl, n0, h2⟩
    | o m k xs => cases h1
    | _ => exact .inr ⟨rfl, rfl, rfl, n0, h2⟩
theorem did_assign (h : St M e a w) {Y : Yd ρ} {x : Operand} (ho : o.op = .assign x) (hk : opK c Y o e K = some r) : Did P c M o a w K r := by
  simp only [opK, ho] at hk
  obtain ⟨⟨p, e1⟩, hp, hk'⟩ := Option.bind_eq_some_iff.1 hk
  clear hk
  have hrun : (execOp a.eval o).run P w = .ok (.value (a.eval x)) w := by simp [execOp, ho]
  rcases mov_nil (c := c) h hp o.type with ⟨m, k, xs, n, h0, h1, h2, h3⟩ | ⟨h1, h2, rfl, n0, h3⟩
  · simp only [h0] at hk'
    obtain ⟨M', hM, hst⟩ := h2.putDo o.dst h1 h3
    exact ⟨_, M', _, w, .inl hrun, hM.le, hst, Bel.refl _ _, Eff.of (Ext.refl w) (by simp [ho]), hk'⟩
  · refine ⟨_, M, _, w, .inl hrun, Mem.Le.refl M, h.putD o.dst (n0 := n0) h1 (by rw [h2]; exact h3), Bel.refl _ _, Eff.of (Ext.refl w) (by simp [ho]), hk'⟩
theorem Ext.alloc (w : World) (o : Obj) : Ext w (w.alloc o) := fun g hg => heap_alloc_old w o g hg
theorem Bel.alloc' (h : St M e a w) (o : Obj) : Bel M w (w.alloc o) := Bel.of_below h.lo ((Below.refl w.heap.size w).alloc (Nat.le_refl _) o)
theorem run_newVar {v : Value} {cs : List Value} (t : TypeId) (hv : v.cells = cs.toArray) (w : World) : (newVar t v).run P w = .ok ⟨w.heap.size, 0, none⟩ (w.alloc (.cells cs.toArray t)) := by
  simp [newVar, newRow, hv]
theorem putD_bx (e : Env) (d : Nat) (off : Nat) : e.put d (.bx d off) = e.setT d (.bx d off) := rfl
theorem Com.one_adr (G : Com) (g : Nat) (r : Loop) : (G.one g r).adr G.n = g := by show (if _ then _ else _) = _; rw [if_pos rfl]
/-- The pointer to a new object. -/
theorem newPtr (h : St M e a w) {M' : Mem} {r : Loop} (hG : M'.G = M.G.one w.heap.size r) {w' : World} {at_ : Pl → PV} {q : Pl → Value} {n : Pl} : PR M' w' at_ q n (.p (some (e.h.length, 0))) (.pointer (some ⟨w.heap.size, 0, none⟩)) := by
  have hn : M.G.n = e.h.length := h.ha.1
  refine ⟨_, .inr ⟨e.h.length, 0, rfl, by rw [hG]; show _ < M.G.n + 1; omega, rfl⟩, ?_⟩
  rw [hG, ← hn, Com.one_adr]; rfl
theorem did_alloc (hc : ∀ t k, c.kd t = some k → Fits P k t) (h : St M e a w) {Y : Yd ρ} {t : TypeId} (ho : o.op = .alloc t) (hk : opK c Y o e K = some r) : Did P c M o a w K r := by
  simp only [opK, ho] at hk
  split at hk
  case h_2 => cases hk
  rename_i k d hkd hd
  obtain ⟨i, hi, hti, hsz, hby, hz⟩ := run_typeInfo' (hc _ _ hkd) w
  obtain ⟨z1, z2, z3⟩ := zeros_spec k
  have hcells' : (valOf k (zcells k)).cells = (zcells k).toArray := by
    unfold valOf
    cases k <;> rfl
  have hrun : (execOp a.eval o).run P w = .ok (.value (.pointer (some ⟨w.heap.size, 0, none⟩))) (w.alloc (.cells (zcells k).toArray t)) := by
    simp [execOp, ho, Instr.alloc, zeroValue, hti, hz, run_newVar t hcells']
  split at hk
  · obtain ⟨y1, y2⟩ := hzeros_spec (M := M) (w := w) (c.own d) k
    obtain ⟨M', m1, m2, m3, m4, hst⟩ := h.newObj (.c (hzeros (c.own d) k)) (.cells (zcells k).toArray t) default (.inl ⟨rfl, (zcells k).toArray, t, rfl, by simp [HO.cs, y1], fun i p v hp hv => by
      obtain ⟨q1, q2⟩ := y2 i p v hp (by simpa using hv)
      refine ⟨q1, q2.imp (fun hh => ⟨hh.1, .t 0, hh.2 _ _ _⟩) ?_⟩
      rintro ⟨k', rfl, rfl⟩
      exact ⟨true, k', [], rfl, OwnD.nil M w _ _ _⟩⟩)
    refine ⟨_, M', _, _, .inl hrun, ⟨m1, by rw [m2]; exact Com.le.one _ _ _⟩, ?_, Bel.alloc' h _, ⟨fun _ => Ext.alloc w _, fun t y x g h1 => (by rw [ho] at h1; cases h1), fun t _ _ => ⟨w.heap.size, rfl, Nat.le_refl _⟩, fun q f hq => (by rw [ho] at hq; cases hq)⟩, hk⟩
    rw [hd]
    exact hst.setT d (n0 := .t 0) rfl (newPtr h m2)
  · obtain ⟨M', m1, m2, m2', m3, hst⟩ := h.newB d (ps := zeros k) (cs := zcells k) (T := t) z1 (fun i p v h1 h2 => (z3 i p v h1 h2).imp (fun hh => ⟨hh.1, hh.2.1, hh.2.2.1, .t 0, hh.2.2.2 _ _ _⟩) id)
    refine ⟨_, M', _, _, .inl hrun, ⟨m1, by rw [m2]; exact Com.le.refl _⟩, ?_, Bel.alloc' h _, ⟨fun _ => Ext.alloc w _, fun t y x g h1 => (by rw [ho] at h1; cases h1), fun t _ _ => ⟨w.heap.size, rfl, Nat.le_refl _⟩, fun q f hq => (by rw [ho] at hq; cases hq)⟩, hk⟩
    rw [hd, putD_bx]
    exact hst.setT d (n0 := .t 0) rfl (by show Value.pointer _ = _; rw [m3])
/-- A struct's cells are laid down: the slices of the call's own go along. -/
theorem layK_spec (N : Nat) : ∀ (ps : List PV) (off : Nat) {M : Mem} {e e2 : Env} {cells : List PV} {vs : List Value}, St M e a w → vs.length = ps.length →
    (∀ (i : Nat) (p : PV) (u : Value), ps[i]? = some p → vs[i]? = some u → CR M.G w p u ∨ ∃ m, p = .r m ∧ m.okH M.G.n ∧ (isO (e.at_ m) = true → u = pv M a w m)) → opK.layK e ps = some (cells, e2) →
    ∃ M', M.Alike M' ∧ (∀ g, ¬ Live M e a w g → M'.ow g = M.ow g) ∧ St M' e2 a w ∧ e2.h = e.h ∧ cells.length = vs.length ∧ (∀ g, Live M' e2 a w g → Live M e a w g) ∧
      ∀ (i : Nat) (p : PV) (u : Value), cells[i]? = some p → vs[i]? = some u → hokB p = true ∧ ((isO p = false ∧ CR M.G w p u) ∨ ∃ m k xs, p = .o m k xs ∧ OwnD M' w (.b (.h N) (off + i)) m k xs u ∧ ∀ g, u.ownBlock = some g → ¬ Live M' e2 a w g)
  | [], off, M, e, e2, cells, vs, h, hl, hp, hk => by
    simp only [opK.layK, Option.some.injEq, Prod.mk.injEq] at hk
    obtain ⟨rfl, rfl⟩ := hk
    exact ⟨M, Mem.Alike.refl M, fun _ _ => rfl, h, rfl, by rw [hl], fun _ h => h, fun i p u hp => by simp at hp⟩
  | p :: ps, off, M, e, e2, cells, vs, h, hl, hp, hk => by
    match vs, hl with
    | v :: vs, hl =>
    have hl' : vs.length = ps.length := by simpa using hl
    have plain : ∀ (hh : (if hokB p && !isO p then (opK.layK e ps).bind fun q => some (p :: q.1, q.2) else none) = some (cells, e2)), CR M.G w p v → ∃ M', M.Alike M' ∧ (∀ g, ¬ Live M e a w g → M'.ow g = M.ow g) ∧ St M' e2 a w ∧ e2.h = e.h ∧ cells.length = (v :: vs).length ∧ (∀ g, Live M' e2 a w g → Live M e a w g) ∧
      ∀ (i : Nat) (p : PV) (u : Value), cells[i]? = some p → (v :: vs)[i]? = some u → hokB p = true ∧ ((isO p = false ∧ CR M.G w p u) ∨ ∃ m k xs, p = .o m k xs ∧ OwnD M' w (.b (.h N) (off + i)) m k xs u ∧ ∀ g, u.ownBlock = some g → ¬ Live M' e2 a w g) := fun hh hcr => by
      split at hh
      case isFalse => cases hh
      rename_i hok
      simp only [Bool.and_eq_true, Bool.not_eq_true'] at hok
      obtain ⟨⟨cs, e3⟩, h1, h2⟩ := Option.bind_eq_some_iff.1 hh
      simp only [Option.some.injEq, Prod.mk.injEq] at h2
      obtain ⟨rfl, rfl⟩ := h2
      obtain ⟨M', a1, a2, a3, a4, a5, a6, a7⟩ := layK_spec N ps (off + 1) h hl' (fun i p u hp' hu => hp (i + 1) p u (by simpa using hp') (by simpa using hu)) h1
      refine ⟨M', a1, a2, a3, a4, by simp [a5], a6, fun i p' u hp' hu => ?_⟩
      cases i with
      | zero => simp at hp' hu; subst hp'; subst hu; exact ⟨hok.1, .inl ⟨hok.2, hcr⟩⟩
      | succ i =>
        have := a7 i p' u (by simpa using hp') (by simpa using hu)
        rw [show off + 1 + i = off + (i + 1) by omega] at this
        exact this
    have h0 := hp 0 p v rfl rfl
    unfold opK.layK at hk
    split at hk
    · rename_i heq; cases heq
    · rename_i n ps' heq
      injection heq with e1 e2'
      subst e1; subst e2'
      split at hk
      · rename_i k xs hsl
        obtain ⟨⟨cs, e3⟩, h1, h2⟩ := Option.bind_eq_some_iff.1 hk
        simp only [Option.some.injEq, Prod.mk.injEq] at h2
        obtain ⟨rfl, rfl⟩ := h2
        have hat : e.at_ (.t n) = .o true k xs := hsl
        rcases h0 with h0 | ⟨m, hm, _, h0⟩
        · simp [CR] at h0
        injection hm with hm
        subst hm
        have hv : v = pv M a w (.t n) := h0 (by rw [hat]; rfl)
        obtain ⟨t1, t2, t3⟩ := h.take hat
        rw [← hv] at t1 t3
        have hrn := t2.ren t3 (t2.own_noloop t1) (.inl (.b (.h N) off))
        have hAl := Mem.Alike.ren M v (.inl (.b (.h N) off))
        have hown0 : OwnD (M.ren v (.inl (.b (.h N) off))) w (.b (.h N) off) true k xs v := t1.ren
        have hlive0 : ∀ g, Live M ((e.scrub (.t n)).set (.t n) .un) a w g → Live M e a w g := fun g hg => by
          rcases hg with ⟨m, g1, g2⟩ | ⟨d, g1, g2⟩
          · by_cases hmn : m = .t n
            · subst hmn; rw [Env.at_set_un] at g1; cases g1
            · rw [Env.at_set _ _ _ _ hmn] at g1
              rcases Env.at_map' e (unref (.t n)) (unref_spec (.t n)) m with g3 | ⟨g3, _⟩
              · rw [show (e.scrub (.t n)).at_ m = _ from g3] at g1; exact .inl ⟨m, g1, g2⟩
              · rw [show (e.scrub (.t n)).at_ m = _ from g3] at g1; cases g1
          · refine .inr ⟨d, fun h0 => g1 (List.eq_nil_of_length_eq_zero ?_), g2⟩
            rw [Env.box_set_len, show (e.scrub (.t n)).box d = (e.map (unref (.t n))).box d from rfl, map_box_len, h0]; rfl
        have hβ : ∀ (M2 : Mem), M.Alike M2 → ∀ e' g, Live M2 e' a w g ↔ Live M e' a w g := fun M2 hA e' g => by
          have hp' : ∀ m, pv M2 a w m = pv M a w m := fun m => by
            cases m with
            | t m => rfl
            | b d o => show (w.cell? ⟨M2.β d, o, none⟩).getD undef = _; rw [hA.2.2.1]; rfl
          unfold Live
          simp only [hp', hA.2.2.1]
        obtain ⟨M', a1, a2, a3, a4, a5, a6, a7⟩ := layK_spec N ps (off + 1) hrn hl' (fun i p u hp' hu => by
          rcases hp (i + 1) p u (by simpa using hp') (by simpa using hu) with q | ⟨m, q1, q2, q3⟩
          · left; rw [hAl.2.1]; exact q
          · refine .inr ⟨m, q1, by rw [hAl.2.1]; exact q2, fun q4 => ?_⟩
            have hmn : m ≠ .t n := fun hh => by subst hh; rw [Env.at_set_un] at q4; cases q4
            rw [Env.at_set _ _ _ _ hmn] at q4
            have hio : isO (e.at_ m) = true := by
              rcases Env.at_map' e (unref (.t n)) (unref_spec (.t n)) m with g3 | ⟨g3, _⟩
              · rw [show (e.scrub (.t n)).at_ m = _ from g3] at q4; exact q4
              · rw [show (e.scrub (.t n)).at_ m = _ from g3] at q4; cases q4
            rw [q3 hio]
            cases m with
            | t m => rfl
            | b d o => show (w.cell? ⟨M.β d, o, none⟩).getD undef = (w.cell? ⟨(M.ren v _).β d, o, none⟩).getD undef; rw [hAl.2.2.1]) h1
        have hAll : M.Alike M' := ⟨a1.1.trans hAl.1, a1.2.1.trans hAl.2.1, a1.2.2.1.trans hAl.2.2.1, a1.2.2.2.trans hAl.2.2.2⟩
        have hnl : ∀ g, v.ownBlock = some g → ¬ Live M' e3 a w g := fun g hg hlv => by
          have := a6 g hlv
          rw [hβ _ hAl] at this
          exact t3 g hg this
        refine ⟨M', hAll, fun g hg => ?_, a3, ?_, by simp [a5], fun g hg => ?_, fun i p' u hp' hu => ?_⟩
        · have hvg : v.ownBlock ≠ some g := fun hh => hg (.inl ⟨.t n, by rw [hat]; rfl, by rw [← hv]; exact hh⟩)
          rw [a2 g (fun hh => hg (hlive0 g ((hβ _ hAl _ _).1 hh)))]
          unfold Mem.ren
          split
          · rename_i g' hg'
            show (if g = g' then _ else _) = _
            rw [if_neg (fun hh => hvg (by rw [hg', hh]))]
          · rfl
        · rw [a4]; rfl
        · exact hlive0 g ((hβ _ hAl _ _).1 (a6 g hg))
        · cases i with
          | zero =>
            simp at hp' hu
            subst hp'; subst hu
            refine ⟨rfl, .inr ⟨true, k, xs, rfl, ?_, hnl⟩⟩
            refine OwnD.keep hown0 a1.1 (by rw [a1.2.1]; exact Com.le.refl _) (Keeps.refl _ _) (fun g hg => ⟨rfl, ?_, fun o => by rw [a1.2.1]⟩)
            exact a2 g (fun hh => t3 g hg ((hβ _ hAl _ _).1 hh))
          | succ i =>
            have := a7 i p' u (by simpa using hp') (by simpa using hu)
            rw [show off + 1 + i = off + (i + 1) by omega, hAl.2.1] at this
            exact this
      · cases hk
    · cases hk
    · rename_i p' ps' hn1 hn2 heq
      injection heq with e1 e2'
      subst e1; subst e2'
      rcases h0 with h0 | ⟨m, rfl, _, _⟩
      · exact plain hk h0
      · exact absurd rfl (hn2 m)
theorem did_box (hc : ∀ t k, c.kd t = some k → Fits P k t) (h : St M e a w) {Y : Yd ρ} {t : TypeId} {x : Operand} (ho : o.op = .box t x) (hk : opK c Y o e K = some r) : Did P c M o a w K r := by
  simp only [opK, ho] at hk
  have hrun : ∀ {cs : List Value}, (a.eval x).cells = cs.toArray → (execOp a.eval o).run P w = .ok (.value (.pointer (some ⟨w.heap.size, 0, none⟩))) (w.alloc (.cells cs.toArray t)) := fun hcells => by
    simp [execOp, ho, Instr.box, run_newVar t hcells]
  split at hk
  · rename_i d hkd hd
    split at hk
    case isFalse => cases hk
    rename_i hok
    split at hk
    · cases hk
    obtain ⟨n0, hp⟩ := ev_pr h (x := x) rfl
    have hno : isO (ev e x) = false ∧ (∀ m, ¬ refs (ev e x) m) ∧ (∀ d off, ev e x ≠ .bx d off) ∧ (a.eval x).cells = #[a.eval x] := by
      cases hq : ev e x with
      | clo f cs =>
        rw [hq] at hp
        have hp : CR M.G w (.clo f cs) (a.eval x) := hp
        rw [CR] at hp
        obtain ⟨vs, hv, _⟩ := hp
        exact ⟨rfl, fun _ => id, fun _ _ hh => (by cases hh), by rw [hv]; rfl⟩
      | yl =>
        rw [hq] at hp
        have hp : CR M.G w .yl (a.eval x) := hp
        rw [CR] at hp
        exact ⟨rfl, fun _ => id, fun _ _ hh => (by cases hh), by rw [hp]; rfl⟩
      | nilf => rw [hq] at hp; exact ⟨rfl, fun _ => id, fun _ _ hh => (by cases hh), by rw [show a.eval x = _ from hp]; rfl⟩
      | _ => rw [hq] at hok; simp [opK.okB] at hok
    obtain ⟨n1, n2, n3, n4⟩ := hno
    obtain ⟨M', m1, m2, m2', m3, hst⟩ := h.newB d (ps := [ev e x]) (cs := [a.eval x]) (T := t) rfl (fun i p v h1 h2 => by
      cases i with
      | zero => simp at h1 h2; subst h1; subst h2; exact .inl ⟨n1, n2, n3, n0, hp⟩
      | succ i => simp at h1)
    refine ⟨_, M', _, _, .inl (hrun (cs := [a.eval x]) n4), ⟨m1, by rw [m2]; exact Com.le.refl _⟩, ?_, Bel.alloc' h _, Eff.of (Ext.alloc w _) (by simp [ho]), hk⟩
    rw [hd, putD_bx]
    exact hst.setT d (n0 := .t 0) rfl (by show Value.pointer _ = _; rw [m3])
  · rename_i k d _ hkd hd
    split at hk
    · rename_i ps hx
      split at hk
      case isFalse => cases hk
      rename_i hesc
      obtain ⟨⟨cells, e2⟩, hlay, hk1⟩ := Option.bind_eq_some_iff.1 hk
      clear hk
      obtain ⟨n0, vs, hv, hl, hvs⟩ := ev_pr h hx
      obtain ⟨M1, a1, a2, a3, a4, a5, a6, a7⟩ := layK_spec e.h.length ps 0 h hl hvs hlay
      obtain ⟨M', m1, m2, m3, m4, hst⟩ := a3.newObj (.c cells) (.cells vs.toArray t) default (.inl ⟨rfl, vs.toArray, t, rfl, by simp [HO.cs, a5], fun i p v hp hv => by
        obtain ⟨q1, q2⟩ := a7 i p v hp (by simpa using hv)
        refine ⟨q1, q2.imp (fun hh => ⟨hh.1, .t 0, PR.of_CR (by rw [a1.2.1]; exact hh.2)⟩) ?_⟩
        rintro ⟨m, k', xs, rfl, q3, _⟩
        rw [Nat.zero_add, ← a4] at q3
        exact ⟨m, k', xs, rfl, q3⟩⟩)
      refine ⟨_, M', _, _, .inl (hrun (cs := vs) (by rw [hv]; rfl)), ⟨m1.trans a1.1, by rw [m2]; exact (by rw [a1.2.1]; exact Com.le.refl _ : M.G.le M1.G).trans (Com.le.one _ _ _)⟩, ?_, Bel.alloc' h _, Eff.of (Ext.alloc w _) (by simp [ho]), hk1⟩
      rw [hd]
      exact hst.setT d (n0 := .t 0) rfl (newPtr a3 m2)
    · obtain ⟨⟨p, e1⟩, hp, hk1⟩ := Option.bind_eq_some_iff.1 hk
      clear hk
      obtain ⟨y, hy, hk⟩ := Option.bind_eq_some_iff.1 hk1
      clear hk1
      obtain ⟨G', hG, hGn, hst, _, _, _, hpr⟩ := pub_spec h hp
      have hrep := (hpr { M with G := G' } (fun _ => .un) (fun _ => undef) (.t 0) rfl).toDen hy
      obtain ⟨cs, hr, hv, hcells⟩ := hrep.cells
      obtain ⟨s1, s2⟩ := split_spec (M := { M with G := G' }) rfl hr
      split at hk
      · obtain ⟨M', m1, m2, m3, m4, hst'⟩ := hst.newObj (.c (split k y)) (.cells cs.toArray t) default (.inl ⟨rfl, cs.toArray, t, rfl, by simp [HO.cs, s1], fun i p v h1 h2 =>
          ⟨split_hok k y p (List.mem_of_getElem? h1), .inl ⟨(s2 i p v h1 (by simpa using h2)).1, .t 0, (s2 i p v h1 (by simpa using h2)).2.2.2 _ _ _⟩⟩⟩)
        refine ⟨_, M', _, _, .inl (hrun hcells), ⟨m1, by rw [m2]; exact hG.trans (Com.le.one _ _ _)⟩, ?_, Bel.alloc' h _, Eff.of (Ext.alloc w _) (by simp [ho]), hk⟩
        rw [hd]
        exact hst'.setT d (n0 := .t 0) rfl (newPtr hst m2)
      · obtain ⟨M', m1, m2, m2', m3, hst'⟩ := hst.newB d (ps := split k y) (cs := cs) (T := t) s1.symm (fun i p v h1 h2 => .inl ⟨(s2 i p v h1 h2).1, (s2 i p v h1 h2).2.1, (s2 i p v h1 h2).2.2.1, .t 0, (s2 i p v h1 h2).2.2.2 _ _ _⟩)
        refine ⟨_, M', _, _, .inl (hrun hcells), ⟨m1, by rw [m2]; exact hG⟩, ?_, Bel.alloc' h _, Eff.of (Ext.alloc w _) (by simp [ho]), hk⟩
        rw [hd, putD_bx]
        exact hst'.setT d (n0 := .t 0) rfl (by show Value.pointer _ = _; rw [m3])
  · cases hk
end
end Go.Pv
