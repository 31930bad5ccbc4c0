/- What an operation does: whole values out of boxes, and stores. -/
import Derived.Test.YtdfdainmpklkiaaGreatDoorG13
set_option linter.unusedVariables false
set_option linter.unusedSimpArgs false
namespace Go.Pv
open Go.RowKit
section
variable {P : Program} {c : Cx} {M : Mem} {e : Env} {a : Act} {w : World} {o : Oper} {ρ : Type} {K : Kt ρ} {r : ρ} {Y : Yd ρ}
theorem Env.box_share_len (e : Env) (n : Pl) (d : Bx) : ((e.share n).box d).length = (e.box d).length := by
  unfold Env.share
  split
  · exact Env.box_set_len e n _ d
  · rfl
theorem at_share_o {e : Env} {n m : Pl} {b : Bool} {k : Kd} {xs : List k.den} (h : e.at_ m = .o b k xs) : ∃ b', (e.share n).at_ m = .o b' k xs := by
  rw [Env.at_share]
  split
  · rename_i hm; subst hm; rw [h]; exact ⟨_, rfl⟩
  · exact ⟨b, h⟩
theorem shares_spec (d : Nat) : ∀ (l : List Nat) {M : Mem} {e : Env}, St M e a w → ∃ G', M.G.le G' ∧ G'.n = M.G.n ∧ St { M with G := G' } (l.foldl (fun e o => e.share (.b (.s d) o)) e) a w ∧
    ∀ o ∈ l, ∀ m k xs, e.at_ (.b (.s d) o) = .o m k xs → RepV G' w (.list k) xs (pv M a w (.b (.s d) o))
  | [], M, e, h => ⟨M.G, Com.le.refl _, rfl, h, fun o ho => by cases ho⟩
  | o :: l, M, e, h => by
    obtain ⟨G1, a1, a1', a2, a3⟩ := h.share (.b (.s d) o) (fun i o hh => by cases hh)
    obtain ⟨G2, b1, b1', b2, b3⟩ := shares_spec d l a2
    refine ⟨G2, a1.trans b1, b1'.trans a1', b2, fun o' ho' m k xs hat => ?_⟩
    rcases List.mem_cons.1 ho' with rfl | ho'
    · exact (a3 m k xs hat).mono b1 (Keeps.refl _ _)
    · obtain ⟨b', hb'⟩ := at_share_o (n := .b (.s d) o) hat
      exact b3 o' ho' b' k xs hb'
/-- All that a box has can be read by others from now on. -/
theorem St.shareB (h : St M e a w) (d : Nat) : ∃ G', M.G.le G' ∧ G'.n = M.G.n ∧ St { M with G := G' } (e.shareB d) a w ∧
    ∀ (o : Nat) (p : PV), (e.box (.s d))[o]? = some p → RD G' w p (pv M a w (.b (.s d) o)) := by
  obtain ⟨G', g1, g1', g2, g3⟩ := shares_spec d (List.range (e.box (.s d)).length) h
  refine ⟨G', g1, g1', g2, fun o p hp => ?_⟩
  have hlt := (List.getElem?_eq_some_iff.1 hp).1
  have hat : e.at_ (.b (.s d) o) = p := by show e.cell (.s d) o = p; unfold Env.cell; rw [List.getD_eq_getElem?_getD, hp]; rfl
  have hpr := h.pr (.b (.s d) o)
  rw [hat] at hpr
  cases p with
  | o m k xs => exact g3 o (List.mem_range.2 hlt) m k xs hat
  | _ => exact fun k x hx => (hpr.toDen hx).mono g1 (Keeps.refl _ _)
/-- The cells of a box. -/
theorem box_cells (h : St M e a w) {d : Bx} (hne : e.box d ≠ []) : ∃ C T, w.heap[M.β d]? = some (.cells C T (0, 0)) ∧ C.size = (e.box d).length ∧ ∀ o (ho : o < C.size), w.cell? ⟨M.β d, o, none⟩ = some C[o] ∧ pv M a w (.b d o) = C[o] := by
  obtain ⟨_, ⟨C, T, b2, b3⟩, _⟩ := h.bk d hne
  refine ⟨C, T, b2, b3, fun o ho => ?_⟩
  have hc : w.cell? ⟨M.β d, o, none⟩ = some C[o] := by rw [cell_of_row w _ o C T (0, 0) b2]; exact Array.getElem?_eq_getElem ho
  exact ⟨hc, by show (w.cell? ⟨M.β d, o, none⟩).getD undef = _; rw [hc]; rfl⟩
/-- A whole value is read out of a box. -/
theorem box_rep (h : St M e a w) {d off : Nat} {k : Kd} {x : k.den × List PV} (hx : asm k ((e.box (.s d)).drop off) = some x) :
    ∃ G' cs, M.G.le G' ∧ G'.n = M.G.n ∧ St { M with G := G' } (e.shareB d) a w ∧ Rep G' w k x.1 cs ∧ ∀ j (hj : j < cs.length), w.cell? ⟨M.β (.s d), off + j, none⟩ = some cs[j] := by
  obtain ⟨G', g1, g1', g2, g3⟩ := h.shareB d
  by_cases hne : e.box (.s d) = []
  · rw [hne, List.drop_nil] at hx
    obtain ⟨s1, s2, s3⟩ := asm_spec (G := G') (w := w) (ps := []) (cs := []) (x := x.1) (r := x.2) rfl (fun i p v hp => by simp at hp) hx
    refine ⟨G', [], g1, g1', g2, by simpa using s3, fun j hj => by simp at hj⟩
  · obtain ⟨C, T, b1, b2, b3⟩ := box_cells h hne
    obtain ⟨s1, s2, s3⟩ := asm_spec (G := G') (w := w) (ps := (e.box (.s d)).drop off) (cs := C.toList.drop off) (x := x.1) (r := x.2) (by simp [b2]) (fun i p v hp hv => by
      rw [List.getElem?_drop] at hp hv
      have hlt := (List.getElem?_eq_some_iff.1 hv).1
      have := g3 (off + i) p hp
      rw [(b3 (off + i) (by simpa using hlt)).2] at this
      rw [List.getElem?_eq_getElem hlt] at hv
      injection hv with hv
      rw [← hv]; simpa using this) hx
    refine ⟨G', _, g1, g1', g2, s3, fun j hj => ?_⟩
    have hlt : off + j < C.size := by simp at hj; omega
    rw [(b3 (off + j) hlt).1]
    congr 1
    simp
theorem did_load (hc : ∀ t k, c.kd t = some k → Fits P k t) (he : ∀ t k, c.eq t = true → c.kd t = some k → EqOK P k t) (h : St M e a w) {t : TypeId} {x : Operand} (ho : o.op = .load t x) (hk : opK c Y o e K = some r) : Did P c M o a w K r := by
  have hrd : rdK c o e (fun p => K (e.putD o.dst p)) = some r → Did P c M o a w K r := fun hh => (rd_sound hc he h hh).did h (fun _ => rfl) (by simp [ho])
  simp only [opK, ho] at hk
  split at hk
  · rename_i k d off hkd hq
    split at hk
    · rename_i hag
      obtain ⟨y, hy, hk'⟩ := Option.bind_eq_some_iff.1 hk
      clear hk
      obtain ⟨G', cs, g1, _, g2, g3, g4⟩ := box_rep h hy
      obtain ⟨n0, hp⟩ := ev_pr h hq
      have hv : a.eval x = .pointer (some ⟨M.β (.s d), off, none⟩) := hp
      have hrun : (execOp a.eval o).run P w = .ok (.value (valOf k cs)) w := by
        simp [execOp, ho, hv, Instr.loadAt, Instr.sureAddr, run_loadVar_rep (hc _ _ hkd) g3 g4]
      exact ⟨_, { M with G := G' }, _, w, .inl hrun, ⟨rfl, g1⟩, g2.putD o.dst (n0 := .t 0) (isO_ofDen _ _) (PR.ofDen ⟨cs, g3, rfl⟩), Bel.refl _ _, Eff.of (Ext.refl w) (by simp [ho]), hk'⟩
    · exact hrd hk
  · exact hrd hk
/-! ### Stores -/
theorem putD_un (h : St M e a w) (d : Option Nat) : St M (e.putD d .un) (a.put d undef) w := h.putD d (n0 := .t 0) rfl trivial
theorem Bel.setCell {w0 : World} (h : Bel M w0 w) {b : Nat} (hb : M.Mine b) (o : Nat) (v : Value) : Bel M w0 (w.setCell ⟨b, o, none⟩ v) :=
  h.trans ⟨rfl, rfl, rfl, by simp [World.setCell], fun k hk hO => heap_setCell_other w ⟨b, o, none⟩ k v (fun hh => by
    have hh : k = b := hh
    subst hh; exact hb.elim hO (by omega))⟩
theorem heap_setCells_other' (b : Nat) (g : Nat) (hg : g ≠ b) : ∀ (vs : List Value) (o : Nat) (w : World), (w.setCells b o vs).heap[g]? = w.heap[g]?
  | [], _, _ => rfl
  | v :: vs, o, w => by
    show ((w.setCell ⟨b, o, none⟩ v).setCells b (o + 1) vs).heap[g]? = _
    rw [heap_setCells_other' b g hg vs (o + 1), heap_setCell_other w ⟨b, o, none⟩ g v hg]
theorem Bel.setCells {w0 : World} (b : Nat) (hb : M.Mine b) : ∀ (vs : List Value) (o : Nat) (w : World), Bel M w0 w → Bel M w0 (w.setCells b o vs)
  | [], _, _, h => h
  | v :: vs, o, w, h => Bel.setCells b hb vs (o + 1) _ (h.setCell hb o v)
theorem setBs_spec (d : Bx) : ∀ (ps : List PV) (cs : List Value) (off : Nat) {e : Env} {w : World}, St M e a w → ps.length = cs.length → off + ps.length ≤ (e.box d).length → (∀ p ∈ ps, hokB p = true) →
    (∀ (i : Nat) (p : PV) (v : Value), ps[i]? = some p → cs[i]? = some v → isO p = false ∧ (∀ m, ¬ refs p m) ∧ (∀ d off, p ≠ .bx d off) ∧ ∃ G : Com, G.le M.G ∧ ∀ (M2 : Mem) at_ q n0, M2.G = G → PR M2 w at_ q n0 p v) →
    St M ((ps.zipIdx off).foldl (fun e q => e.setB d q.2 q.1) e) a (w.setCells (M.β d) off cs)
  | [], [], off, e, w, h, _, _, _, _ => h
  | p :: ps, v :: cs, off, e, w, h, hl, hle, hok, hp => by
    simp only [List.length_cons] at hl hle
    obtain ⟨p1, p2, p3, G, p4, p5⟩ := hp 0 p v rfl rfl
    have hpr : PR M w e.at_ (pv M a w) (.t 0) p v := (p5 { M with G := G } (fun _ => .un) (fun _ => undef) (.t 0) rfl).keep p1 p4 (Keeps.refl _ _) (fun d off hh => absurd hh (p3 d off)) (fun m hm => absurd hm (p2 m))
    have hne : e.box d ≠ [] := fun h0 => by rw [h0] at hle; simp at hle
    obtain ⟨_, _, _, b5⟩ := h.bk d hne
    have hst := h.setB d off (p := p) (v := v) (by omega) (fun i _ => hok p (List.mem_cons_self ..)) (.inl ⟨p1, .t 0, hpr⟩)
    rw [List.zipIdx_cons, List.foldl_cons]
    have hkp : Keeps M.G w (w.setCell ⟨M.β d, off, none⟩ v) := keeps_of_blocks fun g o' hg => heap_setCell_other w ⟨M.β d, off, none⟩ g v (fun hh => b5 o' (by have hh : g = M.β d := hh; rw [← hh]; exact hg))
    refine setBs_spec d ps cs (off + 1) hst (by omega) (by rw [show ((e.setB d off p).box d).length = (e.box d).length from Env.box_set_len e (.b d off) p d]; omega) (fun p' hp' => hok p' (List.mem_cons_of_mem _ hp')) (fun i p' v' h1 h2 => ?_)
    obtain ⟨q1, q2, q3, G2, q4, q5⟩ := hp (i + 1) p' v' (by simpa using h1) (by simpa using h2)
    refine ⟨q1, q2, q3, M.G, Com.le.refl _, fun M2 at_ q n0 hM2 => ?_⟩
    exact (q5 { M with G := G2 } at_ q n0 rfl).keep q1 (by rw [hM2]; exact q4) (fun g o v hg hc => hkp g o v (q4.c g o hg) hc) (fun d off hh => absurd hh (q3 d off)) (fun m hm => absurd hm (q2 m))
theorem run_storeVar_one' {k : Kd} {t : TypeId} (hf : Fits P k t) (hk : k.isAgg = false) {g off : Nat} {u v : Value} (hcell : w.cell? ⟨g, off, none⟩ = some u) (hfr : w.frozen? ⟨g, off, none⟩ = false) (h1 : v.oneCell' = true) :
    (storeVar t ⟨g, off, none⟩ v).run P w = .ok () (w.setCell ⟨g, off, none⟩ v) := by
  have hs : k.size = 1 := by cases k <;> first | rfl | cases hk
  have hcs : v.cells = #[v] := by cases v <;> first | rfl | cases h1
  have hst := run_store P w ⟨g, off, none⟩ v .plain h1
  rw [hcell] at hst
  simp only [hfr] at hst
  simp [storeVar, run_sizeOf' hf, hs, hcs, storeCells, Addr.add_zero', hst]
theorem Env.at_set_self {e : Env} {n : Pl} {p q : PV} (h : e.at_ n = q) (hq : q ≠ .un) : (e.set n p).at_ n = p := by
  cases n with
  | t t =>
    have hlt : t < e.t.length := Nat.lt_of_not_le fun hle => hq (by rw [← h]; show e.slot t = _; unfold Env.slot; rw [List.getD_eq_getElem?_getD, List.getElem?_eq_none hle]; rfl)
    show (e.setT t p).at_ _ = _
    rw [Env.at_setT, if_pos ⟨rfl, hlt⟩]
  | b d o =>
    have hlt : o < (e.box d).length := Nat.lt_of_not_le fun hle => hq (by rw [← h]; show e.cell d o = _; unfold Env.cell; rw [List.getD_eq_getElem?_getD, List.getElem?_eq_none hle]; rfl)
    show (e.setB d o p).at_ _ = _
    rw [Env.at_setB, if_pos ⟨rfl, hlt⟩]
/-- An element of a slice that nobody else reads is written. -/
theorem St.setElem (h : St M e a w) {n : Pl} {k : Kd} {xs xs' : List k.den} (hat : e.at_ n = .o true k xs) {w' : World} {g : Nat} (hg : (pv M a w n).ownBlock = some g) (hs : w'.heap.size = w.heap.size)
    (hb : ∀ g', g' ≠ g → w'.heap[g']? = w.heap[g']?) (hown : OwnD M w n true k xs (pv M a w n) → OwnD M w' n true k xs' (pv M a w n)) (hlen : xs'.length = xs.length) : St M (e.set n (.o true k xs')) a w' := by
  have ho : OwnD M w n true k xs (pv M a w n) := by have := h.pr n; rw [hat] at this; exact this
  have how := h.own_pl (n := n) (by rw [hat]; rfl) hg
  have hko : KO w w' := by
    obtain ⟨_, _, _, h2, _⟩ := ho
    obtain ⟨C, T, y, hc⟩ := row_cells h2 hg
    exact KO.but hc hb
  have hnG : ∀ o, ¬ M.G g o := fun o hh => by obtain ⟨_, _, _, _, h3⟩ := ho; have := ((h3 g hg).2 o).1 hh; cases this.1
  have hnB : ∀ d, e.box d ≠ [] → M.β d ≠ g := fun d hd hh => by have := (h.bk d hd).2.2.1; rw [hh, how] at this; cases this
  have hset : ∀ m, (e.set n (.o true k xs')).at_ m = if m = n then .o true k xs' else e.at_ m := fun m => by
    by_cases hm : m = n
    · subst hm; rw [if_pos rfl]; exact Env.at_set_self hat (by intro hh; cases hh)
    · rw [if_neg hm]; exact Env.at_set e n _ m hm
  have hpv : ∀ m, e.at_ m ≠ .un → pv M a w' m = pv M a w m := fun m hm => by
    cases m with
    | t t => rfl
    | b d o =>
      have hd : e.box d ≠ [] := fun h0 => hm (at_of_empty h0 o)
      show (w'.cell? ⟨M.β d, o, none⟩).getD undef = (w.cell? ⟨M.β d, o, none⟩).getD undef
      rw [World.cell?_of_block (a := ⟨M.β d, o, none⟩) (hb _ (hnB d hd))]
  have hk : ∀ m, Kept e.at_ (e.set n (.o true k xs')).at_ (pv M a w) (pv M a w') m := fun m hm => by
    rw [hset] at hm ⊢
    by_cases hmn : m = n
    · subst hmn
      rw [if_pos rfl, hat]
      exact ⟨rfl, hpv _ (by rw [hat]; intro hh; cases hh), fun k2 xs2 h2 => by
        injection h2 with q1 q2 q3; subst q2; rw [← eq_of_heq q3]; exact ⟨xs, rfl, hlen.symm⟩⟩
    · rw [if_neg hmn] at hm ⊢
      exact ⟨hm, hpv _ (by intro hh; rw [hh] at hm; cases hm), fun k xs hx => ⟨xs, hx, rfl⟩⟩
  refine h.step (by rw [(Env.set_len e n _).1]; exact h.sz) (by rw [(Env.set_len e n _).1, (Env.set_len e n _).2]; exact h.bz) ⟨rfl, rfl⟩ hko rfl (by omega) (fun g o hg => .inl hg) (Com.le.refl _) (keeps_of_blocks fun g' o hg' => hb g' (fun hh => hnG o (hh ▸ hg'))) (fun m => ?_) (fun d hd => ?_) ⟨Env.set_h e n _, fun _ _ h => Env.set_lp h, rfl, fun _ => rfl⟩ (fun _ _ _ => ⟨rfl, fun _ h => h⟩) (fun i o => by rw [hset]; split; rfl; exact h.hk i o)
  · by_cases hmn : m = n
    · subst hmn
      right
      rw [hset, if_pos rfl, hpv _ (by rw [hat]; intro hh; cases hh)]
      exact hown ho
    · by_cases hu : e.at_ m = .un
      · right; rw [hset, if_neg hmn, hu]; trivial
      · left
        rw [hset, if_neg hmn]
        refine ⟨rfl, hpv m hu, fun _ _ _ => rfl, fun m' _ => hk m', fun hio g' hg' => ⟨hb g' (fun hh => ?_), rfl, fun _ => Iff.rfl⟩⟩
        have := h.own_pl hio hg'
        rw [hh, how] at this
        injection this with this; injection this with this
        exact hmn this.symm
  · have hl := Env.box_set_len e n (.o true k xs') d
    have hne : e.box d ≠ [] := fun h0 => hd (List.eq_nil_of_length_eq_zero (by rw [hl, h0]; rfl))
    obtain ⟨b1, ⟨C, T, b2, b3⟩, b4⟩ := h.bk d hne
    exact ⟨b1, ⟨C, T, by rw [← b2]; exact hb _ (hnB d hne), by rw [hl]; exact b3⟩, b4⟩
theorem Elems.split {G : Com} {k : Kd} : ∀ {xs : List k.den} {css : List (List Value)} (i : Nat) (hi : i < xs.length), Elems G w k xs css →
    ∃ A cs B, css.flatten = A ++ cs ++ B ∧ A.length = i * k.size ∧ Rep G w k xs[i] cs ∧ ∀ w', Keeps G w w' → ∀ y c, Rep G w' k y c → ∃ css', Elems G w' k (xs.set i y) css' ∧ css'.flatten = A ++ c ++ B
  | x :: xs, c0 :: css, 0, _, h => ⟨[], c0, css.flatten, by simp, by simp, h.1, fun w' hw y c hc => ⟨c :: css, ⟨hc, Elems.mono (Com.le.refl _) hw h.2⟩, by simp⟩⟩
  | x :: xs, c0 :: css, i + 1, hi, h => by
    obtain ⟨A, cs, B, e1, e2, e3, e4⟩ := Elems.split i (by simpa using hi) h.2
    refine ⟨c0 ++ A, cs, B, by simp [e1], by rw [List.length_append, e2, h.1.len, Nat.succ_mul]; omega, by simpa using e3, fun w' hw y c hc => ?_⟩
    obtain ⟨css', f1, f2⟩ := e4 w' hw y c hc
    exact ⟨c0 :: css', ⟨h.1.mono (Com.le.refl _) hw, f1⟩, by simp [f2]⟩
theorem pub_env {x : Operand} {p : PV} {e1 : Env} (hp : pub e x = some (p, e1)) : e1 = e ∨ ∃ n, e1 = e.share n := by
  unfold pub at hp
  split at hp <;> (try split at hp) <;> (try cases hp) <;> first | exact .inl rfl | exact .inr ⟨_, rfl⟩
theorem pub_ev {x y : Operand} {p q : PV} {e1 : Env} (hp : pub e x = some (p, e1)) (hy : ev e y = q) (hq : isO q = false) : ev e1 y = q := by
  rcases pub_env hp with rfl | ⟨n, rfl⟩
  · exact hy
  · cases y with
    | tmp t =>
      have hy' : e.at_ (.t t) = q := hy
      show (e.share n).at_ (.t t) = q
      rw [Env.at_share]
      split
      · rename_i hn
        subst hn
        rw [hy']
        cases q <;> first | rfl | cases hq
      · exact hy'
    | _ => exact hy
/-- An element of a slice, or a part of it, is written. -/
theorem store_elem (hc : ∀ t k, c.kd t = some k → Fits P k t) (h : St M e a w) {t : TypeId} {y x : Operand} (ho : o.op = .store t y x) {n : Pl} {k1 : Kd} {xs : List k1.den} (hat : e.at_ n = .o true k1 xs) {j : Int} {path : List Nat} {q : Kd × Nat} (hkd : c.kd t = some q.1)
    (hpa : pathAt k1 path = some q) {z : q.1.den} (hz : RepV M.G w q.1 z (a.eval x)) {y' : k1.den} (hy' : setPath k1 (nth xs j) path (ofDen q.1 z) = some y') (j0 : 0 ≤ j) (j1 : j < xs.length) {g cap : Nat} (hpl : pv M a w n = .slice (some ⟨g, 0, none⟩) xs.length cap)
    (hv : a.eval y = .pointer (some ⟨g, j.toNat * k1.size + q.2, none⟩)) (hfin : K ((e.set n (.o true k1 (xs.set j.toNat y'))).putD o.dst .un) = some r) : Did P c M o a w K r := by
    have hcalm : calm c o = true → ∀ {q : Prop}, q := fun hh => by simp [calm, ho] at hh
    obtain ⟨c2, hr2, hvx, hcells⟩ := hz.cells
    have hown : OwnD M w n true k1 xs (pv M a w n) := by have := h.pr n; rw [hat] at this; exact this
    have hown0 := hown
    obtain ⟨u, css, hex, how, hgi⟩ := hown
    rw [nth_eq j0 (by omega)] at hy'
    obtain ⟨A, cs, B, f1, f2, f3, f4⟩ := hex.split j.toNat (by omega)
    obtain ⟨k', q0, z', s1, s2, s3, s4⟩ := f3.setPath hy'
    rw [hpa] at s1
    injection s1 with s1
    subst s1
    rw [toDen_ofDen] at s2
    injection s2 with s2
    subst s2
    rcases how.2 with ⟨hx0, _⟩ | ⟨g', cap', cur, hx1, hbg, hgc, hcap, hmax, hcs, htake⟩
    · rw [hpl] at hx0; cases hx0
    rw [hpl] at hx1
    injection hx1 with x1 x2 x3
    injection x1 with x1; injection x1 with x1
    subst x1; subst x3
    have hl2 := hr2.len
    have hl3 := f3.len
    simp only at s3 s4 hl2 hv
    have hcur : cur.toList = A ++ cs ++ B ++ cur.toList.drop (xs.length * k1.size) := by rw [← f1, ← htake, List.take_append_drop]
    generalize cur.toList.drop (xs.length * k1.size) = tl at hcur
    have hlenF : css.flatten.length = xs.length * k1.size := hex.flat
    have hsz : (A ++ cs ++ B).length = xs.length * k1.size := by rw [← f1]; exact hlenF
    have hcsz : xs.length * k1.size ≤ cur.size := by rw [hcs]; exact Nat.mul_le_mul_right _ hcap
    have hfit : j.toNat * k1.size + q0 + 0 + c2.length ≤ cur.size := by
      simp only [List.length_append] at hsz; omega
    have hrunS := run_storeCells_at P g (j.toNat * k1.size + q0) u c2 0 cur w hgc hfit hr2.one
    simp only [Nat.add_zero] at hrunS
    have hrow : cur.toList.take (j.toNat * k1.size + q0) ++ c2 ++ cur.toList.drop (j.toNat * k1.size + q0 + c2.length) = A ++ (cs.take q0 ++ c2 ++ cs.drop (q0 + k'.size)) ++ B ++ tl := by
      have t1 : cur.toList.take (j.toNat * k1.size + q0) = A ++ cs.take q0 := by
        rw [hcur, List.append_assoc, List.append_assoc, List.take_append, List.take_of_length_le (by omega), List.take_append, show j.toNat * k1.size + q0 - A.length = q0 by omega, show q0 - cs.length = 0 by omega, List.take_zero, List.append_nil]
      have t2 : cur.toList.drop (j.toNat * k1.size + q0 + c2.length) = cs.drop (q0 + k'.size) ++ B ++ tl := by
        rw [hcur, List.append_assoc, List.append_assoc, List.drop_append, List.drop_eq_nil_of_le (by omega), List.nil_append, List.drop_append, show j.toNat * k1.size + q0 + c2.length - A.length = q0 + k'.size by omega, show q0 + k'.size - cs.length = 0 by omega, List.drop_zero]
        simp
      rw [t1, t2]; simp
    rw [hrow] at hrunS
    have hrun : (execOp a.eval o).run P w = .ok .skip (w.setRow g (A ++ (cs.take q0 ++ c2 ++ cs.drop (q0 + k'.size)) ++ B ++ tl).toArray) := by
      simp [execOp, ho, hv, Instr.storeAt, Instr.sureAddr, storeVar, run_sizeOf' (hc _ _ hkd), hcells, hl2, hrunS]
    have hheap : ∀ row : Array Value, ∀ g', g' ≠ g → (w.setRow g row).heap[g']? = w.heap[g']? := fun row g' hg' => setRow_other w g g' row hg'
    have hnG : ∀ o, ¬ M.G g o := fun o hh => by have := ((hgi g (by rw [hpl]; rfl)).2 o).1 hh; cases this.1
    have hst := h.setElem (xs' := xs.set j.toNat y') (w' := w.setRow g (A ++ (cs.take q0 ++ c2 ++ cs.drop (q0 + k'.size)) ++ B ++ tl).toArray) (g := g) hat (by rw [hpl]; rfl) (setRow_size _ _ _) (hheap _) (fun _ => by
      have hkp : Keeps M.G w (w.setRow g (A ++ (cs.take q0 ++ c2 ++ cs.drop (q0 + k'.size)) ++ B ++ tl).toArray) := keeps_of_blocks fun g' o hg' => hheap _ g' (fun hh => hnG o (hh ▸ hg'))
      obtain ⟨css', e1', e2'⟩ := f4 _ hkp _ _ ((s4 c2 hr2).mono (Com.le.refl _) hkp)
      refine ⟨u, css', e1', ?_, fun g'' hg'' => by rw [List.length_set]; exact hgi g'' hg''⟩
      rw [List.length_set, hpl]
      refine ⟨by rw [e1'.flat, List.length_set], .inr ⟨g, cap, _, rfl, hbg, setRow_heap w g cur _ u _ hgc, hcap, hmax, ?_, ?_⟩⟩
      · have : (A ++ (cs.take q0 ++ c2 ++ cs.drop (q0 + k'.size)) ++ B ++ tl).length = cur.toList.length := by
          have h5 := congrArg List.length hcur
          simp only [List.length_append, List.length_take, List.length_drop] at h5 ⊢
          omega
        rw [List.size_toArray, this, Array.length_toList]; exact hcs
      · rw [e2']
        have hl : (A ++ (cs.take q0 ++ c2 ++ cs.drop (q0 + k'.size)) ++ B).length = xs.length * k1.size := by
          simp only [List.length_append, List.length_take, List.length_drop] at hsz ⊢
          omega
        rw [List.toList_toArray, ← hl, List.take_left]) (List.length_set)
    have hmine : M.Mine g := (hgi g (by rw [hpl]; rfl)).1.2
    exact ⟨undef, M, _, _, .inr ⟨hrun, rfl⟩, Mem.Le.refl M, putD_un hst o.dst, Bel.one hmine rfl rfl rfl (by simp) (fun g' _ hg' => hheap _ g' hg') h.lo, Eff.store ho hv fun g' hg' _ => hheap _ g' hg', hfin⟩
theorem Did.weaken {M1 : Mem} (h : Did P c M1 o a w K r) (hM : M.Le M1) {t : TypeId} {y x : Operand} (ho : o.op = .store t y x) : Did P c M o a w K r := by
  obtain ⟨v, M', e', w', h1, h2, h3, h4, h5, h6⟩ := h
  exact ⟨v, M', e', w', h1, hM.trans h2, h3, h4.key hM.1, h5.again ho, h6⟩
theorem putD_hfold (d : Bx) : ∀ (l : List (PV × Nat)) (e : Env), (l.foldl (fun e q => e.setB d q.2 q.1) e).t = e.t
  | [], _ => rfl
  | q :: l, e => by rw [List.foldl_cons, putD_hfold d l, Env.setB_t]
/-- The heap's cells, written one by one. -/
theorem hput_fold {h h' : Hp} {i off : Nat} {ps : List PV} (hp : hput h i off ps = some h') (e : Env) : 0 < ps.length ∧ off + ps.length ≤ (Hcs h i).length ∧ ((ps.zipIdx off).foldl (fun e q => e.setB (.h i) q.2 q.1) { e with h := h }) = { e with h := h' } := by
  unfold hput at hp
  split at hp
  case isFalse => cases hp
  rename_i hle
  injection hp with hp
  subst hp
  refine ⟨hle.1, hle.2, ?_⟩
  have hlt : i < h.length := Nat.lt_of_not_le fun hh => by
    have : Hcs h i = [] := by unfold Hcs; rw [List.getD_eq_getElem?_getD, List.getElem?_eq_none hh]; rfl
    have h2 := hle.2
    rw [this] at h2
    have h3 : off + ps.length ≤ 0 := h2
    omega
  have key : ∀ (l : List (PV × Nat)) (C : List PV), l.foldl (fun e q => e.setB (.h i) q.2 q.1) { e with h := h.set i (.c C) } = { e with h := h.set i (.c (l.foldl (fun l q => l.set q.2 q.1) C)) } := by
    intro l
    induction l with
    | nil => intro C; rfl
    | cons q l ih =>
      intro C
      rw [List.foldl_cons, List.foldl_cons, ← ih]
      congr 1
      show ({ e with h := (h.set i (.c C)).set i (.c ((Hcs (h.set i (.c C)) i).set q.2 q.1)) } : Env) = _
      have : Hcs (h.set i (.c C)) i = C := by unfold Hcs; simp [hlt, HO.cs]
      rw [this, List.set_set]
  have h0 : h = h.set i (.c (Hcs h i)) := by
    have : ∃ C, h[i]? = some (.c C) := by
      rw [List.getElem?_eq_getElem hlt]
      cases hq : h[i] with
      | c C => exact ⟨C, rfl⟩
      | lp n =>
        have : Hcs h i = [] := by unfold Hcs; rw [List.getD_eq_getElem?_getD, List.getElem?_eq_getElem hlt, hq]; rfl
        have h2 := hle.2
        rw [this] at h2
        have h3 : off + ps.length ≤ 0 := h2
        omega
    obtain ⟨C, hC⟩ := this
    have h1 : Hcs h i = C := by unfold Hcs; rw [List.getD_eq_getElem?_getD, hC]; rfl
    rw [h1]
    have h2 : h[i] = .c C := by rw [List.getElem?_eq_getElem hlt] at hC; injection hC
    rw [← h2]; exact (List.set_getElem_self hlt).symm
  rw [show ({ e with h := h } : Env) = { e with h := h.set i (.c (Hcs h i)) } by rw [← h0]]
  exact key _ _
theorem store_whole (hc : ∀ t k, c.kd t = some k → Fits P k t) {M1 : Mem} {e1 : Env} (h1 : St M1 e1 a w) (hM : M.Le M1) (hb : M1.base = M.base) {t : TypeId} {y x : Operand} (ho : o.op = .store t y x) {k : Kd} (hkd : c.kd t = some k) {d : Bx} {off : Nat} (hv : a.eval y = .pointer (some ⟨M1.β d, off, none⟩))
    {z : k.den} (hz : RepV M1.G w k z (a.eval x)) (hle : off + k.size ≤ (e1.box d).length) (hfin : K ((((split k z).zipIdx off).foldl (fun e q => e.setB d q.2 q.1) e1).putD o.dst .un) = some r) : Did P c M o a w K r := by
  have hcalm : calm c o = true → ∀ {q : Prop}, q := fun hh => by simp [calm, ho] at hh
  obtain ⟨cs, hr, hvx, hcells⟩ := hz.cells
  obtain ⟨s1, s2⟩ := split_spec (M := M1) rfl hr
  have hlen := hr.len
  by_cases hcs0 : cs = []
  · subst hcs0
    have hz : split k z = [] := List.eq_nil_of_length_eq_zero (by simpa using s1)
    have hrun : (execOp a.eval o).run P w = .ok .skip w := by
      have hsz : k.size = 0 := by simpa using hlen.symm
      simp [execOp, ho, hv, Instr.storeAt, Instr.sureAddr, storeVar, run_sizeOf' (hc _ _ hkd), hcells, hsz, storeCells]
    refine ⟨undef, M1, _, w, .inr ⟨hrun, rfl⟩, hM, putD_un h1 o.dst, Bel.refl _ _, Eff.store ho hv fun g' _ _ => rfl, ?_⟩
    rw [hz] at hfin; simpa using hfin
  · have hpos : 0 < cs.length := Nat.pos_of_ne_zero fun h0 => hcs0 (List.eq_nil_of_length_eq_zero h0)
    have hne : e1.box d ≠ [] := fun h0 => by rw [h0] at hle; simp at hle; omega
    obtain ⟨C, T, b1, b2, b3⟩ := box_cells h1 hne
    obtain ⟨bb, _⟩ := h1.bk d hne
    have hrunS := run_storeCells_cells (P := P) (M1.β d) off cs 0 w (fun j hj => by rw [show off + 0 + j = off + j by omega, (b3 (off + j) (by omega)).1]; rfl) (fun j hj => frozen_of_row w (M1.β d) _ C T b1) hr.one
    have hrun : (execOp a.eval o).run P w = .ok .skip (w.setCells (M1.β d) off cs) := by
      simp only [Nat.add_zero] at hrunS
      simp [execOp, ho, hv, Instr.storeAt, Instr.sureAddr, storeVar, run_sizeOf' (hc _ _ hkd), hcells, hlen, hrunS]
    have hst := setBs_spec (M := M1) d (split k z) cs off h1 s1 (by omega) (split_hok k z) (fun i p v h1 h2 => ⟨(s2 i p v h1 h2).1, (s2 i p v h1 h2).2.1, (s2 i p v h1 h2).2.2.1, M1.G, Com.le.refl _, fun M2 at_ q n0 hM2 => (split_spec (M := M2) hM2 hr).2 i p v h1 h2 |>.2.2.2 at_ q n0⟩)
    exact ⟨undef, M1, _, _, .inr ⟨hrun, rfl⟩, hM, putD_un hst o.dst, Bel.setCells (M1.β d) ((Mem.mine_key hM.1 _).1 bb) _ _ _ (Bel.refl _ _), Eff.store ho hv fun g' hg' _ => heap_setCells_other' _ g' hg' _ _ w, hfin⟩
theorem store_one (hc : ∀ t k, c.kd t = some k → Fits P k t) {M1 : Mem} {e1 : Env} (h1 : St M1 e1 a w) (hM : M.Le M1) {t : TypeId} {y x : Operand} (ho : o.op = .store t y x) {k : Kd} (hkd : c.kd t = some k) (hag : k.isAgg = false) {d : Bx} {off : Nat} (hv : a.eval y = .pointer (some ⟨M1.β d, off, none⟩))
    (hlt : off < (e1.box d).length) (hone : (a.eval x).oneCell' = true) {p : PV} (hhk : ∀ i, d = .h i → hokB p = true)
    (hp : (isO p = false ∧ ∃ n0, PR M1 w e1.at_ (pv M1 a w) n0 p (a.eval x)) ∨ (∃ m k xs, p = .o m k xs ∧ OwnD M1 w (.b d off) m k xs (a.eval x) ∧ ∀ n, ¬ refs (e1.at_ n) (.b d off)))
    (hfin : K ((e1.setB d off p).putD o.dst .un) = some r) : Did P c M o a w K r := by
  have hcalm : calm c o = true → ∀ {q : Prop}, q := fun hh => by simp [calm, ho] at hh
  have hne : e1.box d ≠ [] := fun h0 => by rw [h0] at hlt; simp at hlt
  obtain ⟨C, T, b1, b2, b3⟩ := box_cells h1 hne
  obtain ⟨bb, _⟩ := h1.bk d hne
  have hrs := run_storeVar_one' (P := P) (hc _ _ hkd) hag (b3 off (by omega)).1 (frozen_of_row w (M1.β d) off C T b1) hone
  have hrun : (execOp a.eval o).run P w = .ok .skip (w.setCell ⟨M1.β d, off, none⟩ (a.eval x)) := by
    simp [execOp, ho, hv, Instr.storeAt, Instr.sureAddr, hrs]
  exact ⟨undef, M1, _, _, .inr ⟨hrun, rfl⟩, hM, putD_un (h1.setB d off hlt hhk hp) o.dst, (Bel.refl M w).setCell ((Mem.mine_key hM.1 _).1 bb) _ _, Eff.store ho hv fun g' hg' _ => heap_setCell_other w ⟨_, off, none⟩ g' _ hg', hfin⟩
theorem scrubH_no (h : St M e a w) (i o : Nat) (n : Pl) : ¬ refs (e.scrubH.at_ n) (.b (.h i) o) := by
  rcases Env.at_map e unheap rfl n with h1 | ⟨⟨i', o', rfl⟩, h1⟩
  · rw [show e.scrubH.at_ n = unheap (e.at_ n) from h1]
    cases hq : e.at_ n with
    | r m => cases m with
      | t t => exact fun hh => by cases hh
      | b d o => cases d <;> exact fun hh => by cases hh
    | ra m j p => cases m with
      | t t => exact fun hh => by cases hh
      | b d o => cases d <;> exact fun hh => by cases hh
    | ag ps =>
      show ¬ refs (if ps.any isRefH then PV.un else PV.ag ps) _
      split
      · exact id
      · rename_i hx
        intro hr
        have hr : PV.r (.b (.h i) o) ∈ ps := hr
        exact hx (List.any_eq_true.2 ⟨_, hr, rfl⟩)
    | rh k i o j p => exact id
    | _ => exact id
  · rw [show e.scrubH.at_ (.b (.h i') o') = e.at_ (.b (.h i') o') from h1]
    exact refs_hok (h.hk i' o') _
theorem one_cell {k : Kd} {p : PV} (hok : opK.okB k p = true) {at_ : Pl → PV} {q : Pl → Value} {n : Pl} {v : Value} (hp : PR M w at_ q n p v) : v.oneCell' = true := by
  cases p with
  | i k x => rw [show v = _ from hp]; rfl
  | b x => rw [show v = _ from hp]; rfl
  | s x => rw [show v = _ from hp]; rfl
  | o m k xs =>
    obtain ⟨_, _, _, how, _⟩ := hp
    rcases how.2 with ⟨hh, _⟩ | ⟨_, _, _, hh, _⟩ <;> rw [hh] <;> rfl
  | l k xs => obtain ⟨cs, ⟨A, cap, rfl, _⟩, hvx⟩ := hp; rw [hvx]; rfl
  | p x => obtain ⟨A, hA, _⟩ := ptr_val hp; rw [hA]; rfl
  | clo f cs =>
    have hp : CR M.G w (.clo f cs) v := hp
    rw [CR] at hp
    obtain ⟨vs, hv, _⟩ := hp
    rw [hv]; rfl
  | yl => have hp : CR M.G w .yl v := hp; rw [CR] at hp; rw [hp]; rfl
  | nilf => rw [show v = _ from hp]; rfl
  | e x => rcases err_val hp with ⟨_, hA⟩ | ⟨_, _, _, hA⟩ <;> rw [hA] <;> rfl
  | _ => cases k <;> simp [opK.okB] at hok
theorem okB_hok {k : Kd} {p : PV} (h : opK.okB k p = true) (hf : k = .fn → False) (ho : isO p = false) : hokB p = true := by
  cases p with
  | i _ _ => rfl
  | b _ => rfl
  | s _ => rfl
  | l _ _ => rfl
  | p _ => rfl
  | nilf => rfl
  | e _ => rfl
  | un => rfl
  | o _ _ _ => cases ho
  | _ => exfalso; cases k <;> first | exact hf rfl | (simp [opK.okB] at h; done)
theorem did_store (hc : ∀ t k, c.kd t = some k → Fits P k t) (h : St M e a w) {t : TypeId} {y x : Operand} (ho : o.op = .store t y x) (hk : opK c Y o e K = some r) : Did P c M o a w K r := by
  simp only [opK, ho] at hk
  split at hk
  · rename_i k d off hkd hq
    obtain ⟨n0, hp⟩ := ev_pr h hq
    have hv : a.eval y = .pointer (some ⟨M.β (.s d), off, none⟩) := hp
    split at hk
    · obtain ⟨⟨p, e1⟩, hpub, hk1⟩ := Option.bind_eq_some_iff.1 hk
      clear hk
      obtain ⟨x', hx', hk'⟩ := Option.bind_eq_some_iff.1 hk1
      clear hk1
      split at hk'
      case isFalse => cases hk'
      rename_i hle
      obtain ⟨G', g1, _, g2, _, _, _, g3⟩ := pub_spec h hpub
      exact store_whole hc g2 ⟨rfl, g1⟩ rfl ho hkd hv ((g3 { M with G := G' } (fun _ => .un) (fun _ => undef) (.t 0) rfl).toDen hx') hle hk'
    · rename_i hag
      have hag : k.isAgg = false := by simpa using hag
      obtain ⟨⟨p, e1⟩, hmov, hk'⟩ := Option.bind_eq_some_iff.1 hk
      clear hk
      split at hk'
      case isFalse => cases hk'
      rename_i hok
      simp only [Bool.and_eq_true, decide_eq_true_eq] at hok
      obtain ⟨hok, hlt⟩ := hok
      simp only at hok hlt hk'
      rcases mov_nil (c := c) h hmov t with ⟨m, k', xs, n, q0, q1, q2, q3⟩ | ⟨q1, q2, rfl, n1, q3⟩
      · rw [q0] at hk' hok
        have hM := Mem.Alike.ren M (a.eval x) (.inl (.b (.s d) off))
        have hst := ((q2.scrub (.b (.s d) off)).ren (q3.scrub _) ((q2.scrub (.b (.s d) off)).own_noloop q1) (.inl (.b (.s d) off)))
        refine store_one hc hst hM.le ho hkd hag (by rw [hM.2.2.1]; exact hv) (by rw [show ((e1.scrub (.b (.s d) off)).box (.s d)).length = (e1.box (.s d)).length from map_box_len e1 _ _]; exact hlt) ?_ (fun i hi => by cases hi) (.inr ⟨m, k', xs, rfl, q1.ren, fun n => scrub_no q2 (.b (.s d) off) n⟩) hk'
        exact one_cell (at_ := fun _ => .un) (q := fun _ => undef) hok (q1 : PR M w (fun _ => .un) (fun _ => undef) n (.o m k' xs) _)
      · rw [q2] at hk' hok q1
        refine store_one hc h (Mem.Le.refl M) ho hkd hag hv hlt (one_cell hok q3) (fun i hi => by cases hi) (.inl ⟨q1, n1, q3⟩) ?_
        rw [← hk']; unfold Env.putB; rw [q1]; rfl
  · rename_i k x0 hkd hq
    obtain ⟨⟨i, off⟩, hz0, hk1⟩ := Option.bind_eq_some_iff.1 hk
    clear hk
    subst hz0
    obtain ⟨n0, hp⟩ := ev_pr h hq
    obtain ⟨hv, hi⟩ := ptr_at h hp
    have hwith : ∀ {e1 : Env} {h' : Hp} {ps : List PV}, hput e1.h i off ps = some h' → 0 < ps.length ∧ off + ps.length ≤ (e1.scrubH.box (.h i)).length ∧ ((ps.zipIdx off).foldl (fun e q => e.setB (.h i) q.2 q.1) e1.scrubH) = e1.withH h' := fun {e1 h' ps} hh => hput_fold hh e1.scrubH
    split at hk1
    · obtain ⟨⟨p, e1⟩, hpub, hk2⟩ := Option.bind_eq_some_iff.1 hk1
      clear hk1
      obtain ⟨x', hx', hk3⟩ := Option.bind_eq_some_iff.1 hk2
      clear hk2
      obtain ⟨h', hput', hk'⟩ := Option.bind_eq_some_iff.1 hk3
      clear hk3
      obtain ⟨G', g1, _, g2, _, _, _, g3⟩ := pub_spec h hpub
      obtain ⟨_, w2, w3⟩ := hwith hput'
      have hrep := (g3 { M with G := G' } (fun _ => .un) (fun _ => undef) (.t 0) rfl).toDen hx'
      refine store_whole hc g2.scrubH ⟨rfl, g1⟩ rfl ho hkd hv hrep ?_ (by rw [w3]; exact hk')
      have : (split k x').length = k.size := by
        obtain ⟨cs, hr, _⟩ := hrep
        rw [(split_spec (M := { M with G := G' }) rfl hr).1]
        exact hr.len
      rw [← this]; exact w2
    · rename_i hag
      have hag : k.isAgg = false := by simpa using hag
      have fin : ∀ {M1 : Mem} {e1 : Env} {p : PV} {h' : Hp}, St M1 e1.scrubH a w → M.Le M1 → M1.β = M.β → hput e1.h i off [p] = some h' → (a.eval x).oneCell' = true → hokB p = true →
          ((isO p = false ∧ ∃ n0, PR M1 w e1.scrubH.at_ (pv M1 a w) n0 p (a.eval x)) ∨ (∃ m k xs, p = .o m k xs ∧ OwnD M1 w (.b (.h i) off) m k xs (a.eval x) ∧ ∀ n, ¬ refs (e1.scrubH.at_ n) (.b (.h i) off))) → K ((e1.withH h').putD o.dst .un) = some r → Did P c M o a w K r := fun {M1 e1 p h'} f1 f2 f3 f4 f5 f6 f7 f8 => by
        obtain ⟨_, w2, w3⟩ := hwith f4
        have w3 : e1.scrubH.setB (.h i) off p = e1.withH h' := w3
        exact store_one hc f1 f2 ho hkd hag (by rw [f3]; exact hv) (by have := w2; simp only [List.length_cons, List.length_nil] at this; omega) f5 (fun _ _ => f6) f7 (by rw [w3]; exact f8)
      split at hk1
      · obtain ⟨⟨p, e1⟩, hmov, hk2⟩ := Option.bind_eq_some_iff.1 hk1
        clear hk1
        rcases mov_nil (c := c) h hmov t with ⟨m, k', xs, n, q0, q1, q2, q3⟩ | ⟨q1, q2, rfl, n1, q3⟩
        · simp only [q0] at hk2
          cases m with
          | false => cases hk2
          | true =>
            simp only at hk2
            split at hk2
            case isFalse => cases hk2
            rename_i hok
            obtain ⟨h', hput', hk'⟩ := Option.bind_eq_some_iff.1 hk2
            have hM := Mem.Alike.ren M (a.eval x) (.inl (.b (.h i) off))
            have hst := (q2.scrubH.ren (v := a.eval x) (fun g hg hl => q3 g hg (by
              rcases hl with ⟨m, g1, g2⟩ | ⟨d, g1, g2⟩
              · rcases Env.at_map' e1 unheap unheap_spec m with g3 | ⟨g3, _⟩
                · rw [show e1.scrubH.at_ m = _ from g3] at g1; exact .inl ⟨m, g1, g2⟩
                · rw [show e1.scrubH.at_ m = _ from g3] at g1; cases g1
              · exact .inr ⟨d, fun h0 => g1 (List.eq_nil_of_length_eq_zero (by rw [show e1.scrubH.box d = (e1.map unheap).box d from rfl, map_box_len, h0]; rfl)), g2⟩)) (q2.scrubH.own_noloop q1) (.inl (.b (.h i) off)))
            exact fin hst hM.le hM.2.2.1 hput' (one_cell (at_ := fun _ => .un) (q := fun _ => undef) hok (q1 : PR M w (fun _ => .un) (fun _ => undef) n (.o true k' xs) _)) rfl (.inr ⟨true, k', xs, rfl, q1.ren, fun n => scrubH_no q2 i off n⟩) hk'
        · split at hk2
          · rename_i k' xs heq
            rw [q2] at heq; subst heq; cases q1
          · rename_i k' xs heq
            split at hk2
            case isFalse => cases hk2
            rename_i hok
            obtain ⟨h', hput', hk'⟩ := Option.bind_eq_some_iff.1 hk2
            rw [q2] at heq
            subst heq
            exact fin h.scrubH (Mem.Le.refl M) rfl hput' (one_cell hok q3) rfl (.inl ⟨rfl, .t 0, q3⟩) hk'
          · cases hk2
      · cases hk1
      · rename_i hnl hnf
        obtain ⟨⟨p, e1⟩, hpub, hk2⟩ := Option.bind_eq_some_iff.1 hk1
        clear hk1
        split at hk2
        case isFalse => cases hk2
        rename_i hok
        obtain ⟨h', hput', hk'⟩ := Option.bind_eq_some_iff.1 hk2
        obtain ⟨G', g1, _, g2, g4, _, _, g3⟩ := pub_spec h hpub
        have hpr := g3 { M with G := G' } e1.scrubH.at_ (pv { M with G := G' } a w) (.t 0) rfl
        simp only at hok hput' g4 hpr
        have hhok : hokB p = true := okB_hok hok hnf g4
        exact fin g2.scrubH ⟨rfl, g1⟩ rfl hput' (one_cell hok hpr) hhok (.inl ⟨g4, .t 0, hpr⟩) hk'
  · rename_i k k1 i o' j path hkd hq
    obtain ⟨⟨p, e1⟩, hpub, hk1⟩ := Option.bind_eq_some_iff.1 hk
    clear hk
    obtain ⟨z, hz, hk2⟩ := Option.bind_eq_some_iff.1 hk1
    clear hk1
    obtain ⟨xs, hat0, hk3⟩ := Option.bind_eq_some_iff.1 hk2
    clear hk2
    obtain ⟨q, hpa, hk4⟩ := Option.bind_eq_some_iff.1 hk3
    clear hk3
    split at hk4
    case isFalse => cases hk4
    rename_i hqk
    subst hqk
    obtain ⟨y', hy', hfin⟩ := Option.bind_eq_some_iff.1 hk4
    clear hk4
    obtain ⟨G', g1, _, g2, _, _, _, g3⟩ := pub_spec h hpub
    have hat := hown_at hat0
    obtain ⟨n0, hpr⟩ := ev_pr g2 (pub_ev hpub hq rfl)
    obtain ⟨j0, j1, g, cap, q', hpl, hpa', hv⟩ := hpr.2 xs hat
    rw [hpa] at hpa'
    injection hpa' with hpa'
    subst hpa'
    have := store_elem (K := K) hc g2 ho hat hkd hpa ((g3 { M with G := G' } (fun _ => .un) (fun _ => undef) (.t 0) rfl).toDen hz) hy' j0 j1 hpl hv hfin
    exact this.weaken ⟨rfl, g1⟩ ho
  · cases hk
  · rename_i k n j path hnh hkd hq
    obtain ⟨⟨p, e1⟩, hpub, hk1⟩ := Option.bind_eq_some_iff.1 hk
    clear hk
    obtain ⟨z, hz, hk2⟩ := Option.bind_eq_some_iff.1 hk1
    clear hk1
    simp only at hk2 hz
    split at hk2
    case h_2 => cases hk2
    rename_i k1 xs hat
    obtain ⟨q, hpa, hk4⟩ := Option.bind_eq_some_iff.1 hk2
    clear hk2
    split at hk4
    case isFalse => cases hk4
    rename_i hqk
    subst hqk
    obtain ⟨y', hy', hfin⟩ := Option.bind_eq_some_iff.1 hk4
    clear hk4
    obtain ⟨G', g1, _, g2, _, _, _, g3⟩ := pub_spec h hpub
    obtain ⟨n0, hpr⟩ := ev_pr g2 (pub_ev hpub hq rfl)
    obtain ⟨j0, j1, g, cap, q', hpl, hpa', hv⟩ := hpr.2 k1 xs hat
    rw [hpa] at hpa'
    injection hpa' with hpa'
    subst hpa'
    have := store_elem (K := K) hc g2 ho hat hkd hpa ((g3 { M with G := G' } (fun _ => .un) (fun _ => undef) (.t 0) rfl).toDen hz) hy' j0 j1 hpl hv hfin
    exact this.weaken ⟨rfl, g1⟩ ho
  · cases hk
end
end Go.Pv
