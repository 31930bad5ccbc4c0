/- A loop over a function: the law. -/
import Derived.Test.YtdfdainmpklkiaaGreatDoorG19
set_option linter.unusedVariables false
set_option linter.unusedSimpArgs false
namespace Go.Pv
open Go.RowKit
section
variable {P : Program} {c : Cx} {M : Mem} {e : Env} {a : Act} {w : World} {ρ : Type} {r : ρ} {Y : Yd ρ}
def Out.exit' : Out → Exit
  | .normal => .normal
  | .exit i => .exit i
  | .ret => .ret
/-- What comes behind code; b: it leaves what stood. -/
def After (b : Bool) (M : Mem) (w : World) {ρ : Type} (K : Out → Env → Option ρ) (r : ρ) (Q : Exit → Act → World → Prop) : Prop := ∀ x M' e' a' w', M.Le M' → St M' e' a' w' → Bel M w w' → (b = true → Ext w w') → K x e' = some r → Q x.exit' a' w'
theorem After.step {b : Bool} {K : Out → Env → Option ρ} {Q : Exit → Act → World → Prop} {M' : Mem} {w' : World} (h : After b M w K r Q) (hM : M.Le M') (hb : Bel M w w') (hx : b = true → Ext w w') : After b M' w' K r Q :=
  fun x M2 e2 a2 w2 h1 h2 h3 hx' h4 => h x M2 e2 a2 w2 (hM.trans h1) h2 (hb.trans (Bel.key hM.1 h3)) (fun hh => (hx hh).trans (hx' hh)) h4
theorem After.weaken {b b' : Bool} {K : Out → Env → Option ρ} {Q : Exit → Act → World → Prop} (h : After b M w K r Q) (hb : b = true → b' = true) : After b' M w K r Q :=
  fun x M2 e2 a2 w2 h1 h2 h3 hx h4 => h x M2 e2 a2 w2 h1 h2 h3 (fun hh => hx (hb hh)) h4
theorem endB_spec {b : Code} {n : Nat} {K : Out → Option ρ} (h : endB b n K = some r) : ∃ x, K x = some r ∧ ((x = .normal ∧ n = 0) ∨ (x = .ret ∧ n = 2) ∨ ∃ j, x = .exit j ∧ n = j + 3) := by
  unfold endB at h
  cases h0 : Nat.beq n 0 with
  | true => rw [h0, cond_true] at h; exact ⟨.normal, h, .inl ⟨rfl, Nat.eq_of_beq_eq_true h0⟩⟩
  | false =>
    rw [h0, cond_false] at h
    cases h1 : (rets b && Nat.beq n 2) with
    | true =>
      rw [h1, cond_true] at h
      rw [Bool.and_eq_true] at h1
      exact ⟨.ret, h, .inr (.inl ⟨rfl, Nat.eq_of_beq_eq_true h1.2⟩)⟩
    | false =>
      rw [h1, cond_false] at h
      have key : ∀ l : List Nat, (l.foldr (fun i r => bif Nat.beq n (i + 3) then K (.exit i) else r) none) = some r → ∃ j, K (.exit j) = some r ∧ n = j + 3 := by
        intro l
        induction l with
        | nil => intro h; cases h
        | cons i l ih =>
          intro h
          rw [List.foldr_cons] at h
          cases h2 : Nat.beq n (i + 3) with
          | true => rw [h2, cond_true] at h; exact ⟨i, h, Nat.eq_of_beq_eq_true h2⟩
          | false => rw [h2, cond_false] at h; exact ih h
      obtain ⟨j, h3, h4⟩ := key _ h
      exact ⟨.exit j, h3, .inr (.inr ⟨j, rfl, h4⟩)⟩
theorem readyB_spec {h : Hp} {i : Nat} (hr : readyB h i = true) : h[i]? = some (.lp 0) := by
  unfold readyB at hr
  rw [List.getD_eq_getElem?_getD] at hr
  cases hq : h[i]? with
  | none => rw [hq] at hr; cases hr
  | some x =>
    rw [hq] at hr
    cases x with
    | c cs => cases hr
    | lp c => rw [show c = 0 from Nat.eq_of_beq_eq_true hr]
theorem busyB_spec {h : Hp} {i : Nat} (hr : busyB h i = true) : h[i]? = some (.lp 1) := by
  unfold busyB at hr
  rw [List.getD_eq_getElem?_getD] at hr
  cases hq : h[i]? with
  | none => rw [hq] at hr; cases hr
  | some x =>
    rw [hq] at hr
    cases x with
    | c cs => cases hr
    | lp c => rw [show c = 1 from Nat.eq_of_beq_eq_true hr]
theorem lpOf_spec {h : Hp} {i n : Nat} (hr : lpOf h i = n) (hn : n ≠ 1) : h[i]? = some (.lp n) := by
  unfold lpOf at hr
  rw [List.getD_eq_getElem?_getD] at hr
  cases hq : h[i]? with
  | none => rw [hq] at hr; exact absurd hr.symm hn
  | some x =>
    rw [hq] at hr
    cases x with
    | c cs => exact absurd hr.symm hn
    | lp c => rw [show c = n from hr]
theorem noYl0_cr {l : Nat} {G : Com} {p : PV} {v : Value} (hn : noYl0 p = true) (h : CR G w p v) : CR { G with yl := l } w p v := by
  cases p with
  | l e xs => rw [CR] at h ⊢; exact h.yl
  | st k x => rw [CR] at h ⊢; exact h.yl
  | p x => rw [CR] at h ⊢; exact h.yl
  | e x => rw [CR] at h ⊢; exact h.yl
  | at_ k x => rw [CR] at h ⊢; obtain ⟨g, o, cs, hv, h1, h2⟩ := h; exact ⟨g, o, cs, hv, h1, h2.yl⟩
  | yl => cases hn
  | clo f cs => cases hn
  | ac ps off => cases hn
  | _ => first | exact h | (rw [CR] at h ⊢; exact h) | (simp [CR] at h)
theorem noYl0_crs {l : Nat} {G : Com} : ∀ {ps : List PV} {vs : List Value}, ps.all noYl0 = true → CRs G w ps vs → CRs { G with yl := l } w ps vs
  | [], [], _, _ => by rw [CRs]; trivial
  | p :: ps, v :: vs, hn, h => by
    rw [CRs] at h ⊢
    rw [List.all_cons, Bool.and_eq_true] at hn
    exact ⟨noYl0_cr hn.1 h.1, noYl0_crs hn.2 h.2⟩
  | [], _ :: _, _, h => by simp [CRs] at h
  | _ :: _, [], _, h => by simp [CRs] at h
theorem noYl_cr {l : Nat} {G : Com} {p : PV} {v : Value} (hn : noYl p = true) (h : CR G w p v) : CR { G with yl := l } w p v := by
  cases p with
  | yl => cases hn
  | clo f cs => rw [CR] at h ⊢; obtain ⟨vs, hv, h1⟩ := h; exact ⟨vs, hv, noYl0_crs hn h1⟩
  | ac ps off => rw [CR] at h ⊢; obtain ⟨g, vs, hv, h1, h2⟩ := h; exact ⟨g, vs, hv, h1, noYl0_crs hn h2⟩
  | _ => exact noYl0_cr rfl h
theorem noYl_crs {l : Nat} {G : Com} : ∀ {ps : List PV} {vs : List Value}, (∀ p ∈ ps, noYl p = true) → CRs G w ps vs → CRs { G with yl := l } w ps vs
  | [], [], _, _ => by rw [CRs]; trivial
  | p :: ps, v :: vs, hn, h => by
    rw [CRs] at h ⊢
    exact ⟨noYl_cr (hn p (List.mem_cons_self ..)) h.1, noYl_crs (fun q hq => hn q (List.mem_cons_of_mem _ hq)) h.2⟩
  | [], _ :: _, _, h => by simp [CRs] at h
  | _ :: _, [], _, h => by simp [CRs] at h
/-- What a round is handed, under another yield. -/
theorem noYl_arg {l : Nat} {h : Hp} {p : PV} {v : Value} (hn : noYl p = true) (hp : ArgH M h w p v) : ArgH (M.yl l) h w p v := by
  obtain ⟨ho, hp⟩ := hp
  refine ⟨ho, ?_⟩
  cases p with
  | l e xs => exact RepV.yl hp
  | st k x => exact RepV.yl hp
  | p x => exact RepV.yl hp
  | e x => exact RepV.yl hp
  | at_ k x => obtain ⟨g, o, cs, hv, h1, h2⟩ := hp; exact ⟨g, o, cs, hv, h1, h2.yl⟩
  | yl => cases hn
  | clo f cs => exact noYl_cr hn hp
  | ac ps off => exact noYl_cr hn hp
  | _ => first | exact hp | cases ho
theorem noYl_args {l : Nat} {h : Hp} : ∀ {ps : List PV} {vs : List Value}, ps.all noYl = true → ArgsH M h w ps vs → ArgsH (M.yl l) h w ps vs
  | [], [], _, _ => trivial
  | p :: ps, v :: vs, hn, h => by
    rw [List.all_cons, Bool.and_eq_true] at hn
    exact ⟨noYl_arg hn.1 h.1, noYl_args hn.2 h.2⟩
  | [], _ :: _, _, h => h.elim
  | _ :: _, [], _, h => h.elim
theorem unheap_idem (p : PV) : unheap (unheap p) = unheap p := by
  rcases unheap_spec p with h | ⟨h, _⟩
  · rw [h]; exact h
  · rw [h]; rfl
theorem withH_withH (e : Env) (h h' : Hp) : (e.withH h).withH h' = e.withH h' := by
  unfold Env.withH Env.scrubH Env.map
  simp only [List.map_map, Env.mk.injEq]
  refine ⟨List.map_congr_left fun p _ => unheap_idem p, List.map_congr_left fun l _ => ?_, trivial⟩
  show List.map unheap (List.map unheap l) = _
  rw [List.map_map]
  exact List.map_congr_left fun p _ => unheap_idem p
theorem fzP_h (e : Env) (h : Hp) (p : PV) : fzP { e with h := h } p = fzP e p := by
  cases p with
  | r m => cases m with
    | t n => rfl
    | b d o => cases d <;> rfl
  | _ => rfl
theorem fz_h (e : Env) (h : Hp) : ({ e with h := h } : Env).fz = { e.fz with h := h } := by
  unfold Env.fz
  simp only [Env.mk.injEq, and_true]
  exact List.map_congr_left fun p _ => fzP_h e h p
theorem lpObj_exit (r : Loop) (i : Nat) : lpObj r (i + 3) = { r with state := .done, pending := some (.exit i) } := by
  unfold lpObj
  rw [if_neg (by omega), if_neg (by omega), if_neg (by omega)]
  rfl
end
end Go.Pv
