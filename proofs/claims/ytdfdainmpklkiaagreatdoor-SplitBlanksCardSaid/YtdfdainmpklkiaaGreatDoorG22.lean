/- Code. -/
import Derived.Test.YtdfdainmpklkiaaGreatDoorG21
set_option linter.unusedVariables false
set_option linter.unusedSimpArgs false
namespace Go.Pv
open Go.RowKit
section
variable {P : Program} {c : Cx} {M : Mem} {e : Env} {a : Act} {w : World} {ρ : Type} {r : ρ} {Y : Yd ρ}
theorem Env.slot_only (e : Env) (l : List Nat) (n : Nat) : (e.only l).slot n = if l.contains n = true then e.slot n else .un := by
  unfold Env.slot Env.only
  simp only [List.getD_eq_getElem?_getD, List.getElem?_map, List.getElem?_zipIdx]
  cases h : e.t[n]? <;> simp
theorem Env.box_only (e : Env) (l : List Nat) (n : Nat) : (e.only l).box (.s n) = if l.contains n = true then e.box (.s n) else [] := by
  show (e.only l).b.getD n [] = if l.contains n = true then e.b.getD n [] else []
  unfold Env.only
  simp only [List.getD_eq_getElem?_getD, List.getElem?_map, List.getElem?_zipIdx]
  cases h : e.b[n]? <;> simp
theorem St.only (h : St M e a w) (l : List Nat) : St M (e.only l) a w := by
  have hat : ∀ n, (e.only l).at_ n = e.at_ n ∨ (e.only l).at_ n = .un := fun n => by
    cases n with
    | t n => show (e.only l).slot n = e.slot n ∨ (e.only l).slot n = _; rw [Env.slot_only]; split <;> simp
    | b d o => cases d with
      | s d => show (e.only l).cell (.s d) o = e.cell (.s d) o ∨ (e.only l).cell (.s d) o = _; unfold Env.cell; rw [Env.box_only]; split <;> simp
      | h i => exact .inl rfl
  have hk : ∀ m, Kept e.at_ (e.only l).at_ (pv M a w) (pv M a w) m := fun m hm => by
    rcases hat m with h1 | h1
    · rw [h1] at hm ⊢; exact ⟨hm, rfl, fun k xs hx => ⟨xs, hx, rfl⟩⟩
    · rw [h1] at hm; cases hm
  refine h.step (by simpa [Env.only] using h.sz) (by simpa [Env.only] using h.bz) ⟨rfl, rfl⟩ (KO.refl w) rfl (Nat.le_refl _) (fun g o hg => .inl hg) (Com.le.refl _) (Keeps.refl _ _) (fun m => ?_) (fun d hd => ?_) ⟨rfl, fun _ _ h => h, rfl, fun _ => rfl⟩ (fun _ _ _ => ⟨rfl, fun _ h => h⟩) h.hk
  · rcases hat m with h1 | h1
    · left; exact ⟨h1, rfl, fun _ _ _ => rfl, fun m _ => hk m, fun _ _ _ => ⟨rfl, rfl, fun _ => Iff.rfl⟩⟩
    · right; rw [h1]; trivial
  · cases d with
    | h i => exact h.bk (.h i) hd
    | s d =>
      rw [Env.box_only] at hd ⊢
      split at hd
      · rename_i hl; rw [if_pos hl]; exact h.bk (.s d) hd
      · exact absurd rfl hd
theorem loop_wp {L J : World → Prop} {G0 : Com} {ro : Option Nat} {n bl : Nat} {cd : Code} (ih : Walks P L J G0 c Y n r ro bl cd)
    {K : Out → Env → Option ρ} {Q : Exit → Act → World → Prop} (hQ : ∀ ch a w, ¬ Q (.panic ch) a w) :
    ∀ (m : Nat) {M : Mem} {e : Env} {a : Act} {w : World}, G0.le M.G → LW J M w → St M e a w → LW L M w → iterK c Y n bl cd K m e = some r → After (calmC c cd) M w (fun x e => match x with | .normal => none | x => K x e) r Q → Code.roundsIn (FW ro) 0 P cd Q m a w
  | 0, M, e, a, w, hG0, hJ, h, hL, hk, hA => by cases hk
  | m + 1, M, e, a, w, hG0, hJ, h, hL, hk, hA => by
    rw [roundsIn_succ]
    have hk' : codeK c Y n bl cd e (fun x e => match x with
      | .normal => iterK c Y n bl cd K m (e.only (c.live bl))
      | .exit i => K (.exit i) e
      | .ret => K .ret e) = some r := hk
    refine ih hG0 hJ h hL hk' (fun x M' e' a' w' h1 h2 h3 hx h4 => ?_) (fun ch a w => hQ ch a w)
    cases x with
    | normal => exact loop_wp ih hQ m (hG0.trans h1.2) (hJ.next h1 h3) (h2.only _) (hL.next h1 h3) h4 (hA.step h1 h3 hx)
    | exit i => exact hA (.exit i) M' e' a' w' h1 h2 h3 hx h4
    | ret => exact hA .ret M' e' a' w' h1 h2 h3 hx h4
theorem calm_all {id : Nat} {ops : Array Oper} {d : Bool} (h : calmC c (.region id ops d) = true) : Calm c ops := fun i o ho => List.all_eq_true.1 h o (Array.mem_toList_iff.2 (Array.mem_of_getElem? ho))
theorem code_wp {L J : World → Prop} {G0 : Com} (hc : CxOK P L c) (hY : YieldOK P L J G0 Y r) (hm : P.follows .mixedOrders = true) {n : Nat} : ∀ (cd : Code) (bl : Nat) (ro : Option Nat), (ro = none ∨ nests cd = false) → Walks P L J G0 c Y n r ro bl cd
  | .skip, bl, ro, hro, M, e, a, w, K, Q, hG0, hJ, h, hL, hk, hA, hQ => wpIn_skip (hA .normal M e a w (Mem.Le.refl M) h (Bel.refl _ _) (fun _ => Ext.refl w) hk)
  | .region id ops false, bl, ro, hro, M, e, a, w, K, Q, hG0, hJ, h, hL, hk, hA, hQ => by
    refine wpIn_region (ops_wp hc hY (List.range ops.size) 0 hG0 hJ h hL (K := K .normal) ?_ (fun M' e' a' w' h1 h2 h3 hx h4 => hA .normal M' e' a' w' h1 h2 h3 (fun hb => hx (calm_all hb)) h4))
    exact hk
  | .region id ops true, bl, ro, hro, M, e, a, w, K, Q, hG0, hJ, h, hL, hk, hA, hQ => by
    simp only [codeK] at hk
    split at hk
    · rename_i hsel
      have hsel' : ∀ (j : Nat) (o : Oper), ops[j]? = some o → (∀ cs b, o.op ≠ .select cs b) ∧ ∀ q, o.op ≠ .defer q := fun j o ho => by
        have := List.all_eq_true.1 hsel o (Array.mem_toList_iff.2 (Array.mem_of_getElem? ho))
        exact ⟨fun cs b hs => by simp [hs] at this, fun q hs => by simp [hs] at this⟩
      have hd : St M e a w.drew := h.drew
      split at hk
      · rename_i l hl
        refine wpIn_region_any hm (wpAny_of_E (pr := _) _ _ _ _ (any_wp hc hsel' hQ ops.size 0 [] [] [] _ M e a w.drew Y hY rfl ⟨by simp, fun j hj => by simp [less_nil, hj], fun j hj => by rw [less_nil] at hj; cases hj⟩ (fun q hq => by cases hq) Pend.nil l hl hG0 (hJ.next (Mem.Le.refl M) (Bel.drew M w)) hd (hL.next (Mem.Le.refl M) (Bel.drew M w)) hk (fun M' e' a' w' h1 h2 h3 hx h4 => hA .normal M' e' a' w' h1 h2 ((Bel.drew M w).trans h3) (fun hb g hg => hx (calm_all hb) g hg) h4)))
      · cases hk
    · cases hk
  | .seq x y, bl, ro, hro, M, e, a, w, K, Q, hG0, hJ, h, hL, hk, hA, hQ => by
    simp only [codeK] at hk
    have hro' : (ro = none ∨ nests x = false) ∧ (ro = none ∨ nests y = false) := hro.elim (fun hh => ⟨.inl hh, .inl hh⟩) (fun hh => by have := Bool.or_eq_false_iff.1 hh; exact ⟨.inr this.1, .inr this.2⟩)
    have hcs : calmC c (.seq x y) = true → calmC c x = true ∧ calmC c y = true := fun hh => Bool.and_eq_true _ _ |>.mp hh
    refine wpIn_seq (code_wp hc hY hm x bl ro hro'.1 hG0 hJ h hL hk (fun z M' e' a' w' h1 h2 h3 hx h4 => ?_) (fun ch a w => hQ ch a w))
    cases z with
    | normal => exact code_wp hc hY hm y bl ro hro'.2 (hG0.trans h1.2) (hJ.next h1 h3) h2 (hL.next h1 h3) h4 ((hA.step h1 h3 fun hh => hx (hcs hh).1).weaken fun hh => (hcs hh).2) hQ
    | exit i => exact hA (.exit i) M' e' a' w' h1 h2 h3 (fun hh => hx (hcs hh).1) h4
    | ret => exact hA .ret M' e' a' w' h1 h2 h3 (fun hh => hx (hcs hh).1) h4
  | .cond q x y, bl, ro, hro, M, e, a, w, K, Q, hG0, hJ, h, hL, hk, hA, hQ => by
    simp only [codeK] at hk
    have hro' : (ro = none ∨ nests x = false) ∧ (ro = none ∨ nests y = false) := hro.elim (fun hh => ⟨.inl hh, .inl hh⟩) (fun hh => by have := Bool.or_eq_false_iff.1 hh; exact ⟨.inr this.1, .inr this.2⟩)
    split at hk
    · rename_i z hz
      refine wpIn_cond_split (ev_b h hz) (fun ht => ?_) (fun hf => ?_)
      · subst ht; exact code_wp hc hY hm x bl ro hro'.1 hG0 hJ h hL hk (hA.weaken fun hh => (Bool.and_eq_true _ _ |>.mp hh).1) hQ
      · subst hf; exact code_wp hc hY hm y bl ro hro'.2 hG0 hJ h hL hk (hA.weaken fun hh => (Bool.and_eq_true _ _ |>.mp hh).2) hQ
    · cases hk
  | .block id x, bl, ro, hro, M, e, a, w, K, Q, hG0, hJ, h, hL, hk, hA, hQ => by
    simp only [codeK] at hk
    refine wpIn_block (code_wp hc hY hm x id ro hro hG0 hJ h hL hk (fun z M' e' a' w' h1 h2 h3 hx h4 => ?_) (fun ch a w => hQ ch a w))
    cases z with
    | normal => exact hA .normal M' e' a' w' h1 h2 h3 hx h4
    | exit i =>
      show Exit.inBlock id Q (.exit i) a' w'
      unfold Exit.inBlock
      simp only [Cx.blk] at h4
      split at h4
      · rename_i hi
        simp only [hi, if_true]
        exact hA .normal M' _ a' w' h1 (h2.only _) h3 hx h4
      · rename_i hi
        simp only [hi, if_false]
        exact hA (.exit i) M' e' a' w' h1 h2 h3 hx h4
    | ret => exact hA .ret M' e' a' w' h1 h2 h3 hx h4
  | .loop x, bl, ro, hro, M, e, a, w, K, Q, hG0, hJ, h, hL, hk, hA, hQ => by
    have hk' : iterK c Y n bl x K n (e.only (c.live bl)) = some r := hk
    refine wpIn_loop_rounds n (loop_wp (code_wp hc hY hm x bl ro hro) hQ n hG0 hJ (h.only _) hL hk' (fun z M' e' a' w' h1 h2 h3 hx h4 => ?_))
    cases z with
    | normal => cases h4
    | exit i => exact hA (.exit i) M' e' a' w' h1 h2 h3 hx h4
    | ret => exact hA .ret M' e' a' w' h1 h2 h3 hx h4
  | .exit id, bl, ro, hro, M, e, a, w, K, Q, hG0, hJ, h, hL, hk, hA, hQ => wpIn_exit (hA (.exit id) M e a w (Mem.Le.refl M) h (Bel.refl _ _) (fun _ => Ext.refl w) hk)
  | .ret, bl, ro, hro, M, e, a, w, K, Q, hG0, hJ, h, hL, hk, hA, hQ => wpIn_ret (hA .ret M e a w (Mem.Le.refl M) h (Bel.refl _ _) (fun _ => Ext.refl w) hk)
  | .goto l, bl, ro, hro, M, e, a, w, K, Q, hG0, hJ, h, hL, hk, hA, hQ => by simp [codeK] at hk
  | .label l, bl, ro, hro, M, e, a, w, K, Q, hG0, hJ, h, hL, hk, hA, hQ => by simp [codeK] at hk
  | .scope x, bl, ro, hro, M, e, a, w, K, Q, hG0, hJ, h, hL, hk, hA, hQ => by simp [codeK] at hk
  | .rangeFunc g ps x y, bl, ro, hro, M, e, a, w, K, Q, hG0, hJ, h, hL, hk, hA, hQ => by
    have hro : ro = none := hro.elim id (fun hh => by cases hh)
    subst hro
    simp only [codeK] at hk
    split at hk
    · cases hk
    rename_i hn
    simp only [Bool.or_eq_true, not_or, Bool.not_eq_true] at hn
    have ihx : ∀ l, Walks P L J G0 c Y n r (some l) bl x := fun l => code_wp hc hY hm x bl (some l) (.inr hn.1)
    have ihy : ∀ l, Walks P L J G0 c Y n r (some l) bl y := fun l => code_wp hc hY hm y bl (some l) (.inr hn.2)
    split at hk
    · rename_i f cs hx
      split at hk
      case isFalse => cases hk
      rename_i hall
      obtain ⟨n0, hp⟩ := ev_pr h hx
      have hp : CR M.G w (.clo f cs) (a.eval g) := hp
      rw [CR] at hp
      obtain ⟨vs, hv, hcr⟩ := hp
      refine range_wp hc ihx ihy hG0 hJ h hL hv hcr (fun p hp => ?_) hk hA
      have := List.all_eq_true.1 hall p hp
      rw [Bool.and_eq_true] at this
      exact this
    · rename_i f hx
      obtain ⟨n0, hp⟩ := ev_pr h hx
      refine range_wp hc ihx ihy hG0 hJ h hL (vs := []) hp (by rw [CRs]; trivial) (fun p hp => by cases hp) hk hA
    · cases hk
end
end Go.Pv
