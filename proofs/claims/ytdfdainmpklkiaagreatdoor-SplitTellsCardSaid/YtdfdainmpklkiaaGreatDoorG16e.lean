/- Boxes that are taken ahead. -/
import Derived.Test.YtdfdainmpklkiaaGreatDoorG16d
set_option linter.unusedVariables false
set_option linter.unusedSimpArgs false
namespace Go.Pv
open Go.RowKit
section
variable {P : Program} {c : Cx} {M : Mem} {e : Env} {a : Act} {w : World} {o : Oper} {ρ : Type} {d : Nat} {z : List PV} {Y : Yd ρ} {K K2 : Kt ρ} {ops : Array Oper} {r : ρ}
/-! ### A slot and its box are forgotten -/
theorem set_getD {α : Type} (l : List α) (d n : Nat) (x u : α) (hx : x = u) : (l.set d x).getD n u = if n = d then u else l.getD n u := by
  subst hx
  rw [List.getD_eq_getElem?_getD, List.getElem?_set]
  split
  · rename_i h; subst h
    rw [if_pos rfl]
    split <;> rfl
  · rename_i h
    rw [if_neg (fun hh => h hh.symm), List.getD_eq_getElem?_getD]
theorem clean_slot (e : Env) (d n : Nat) : (e.clean d).slot n = if n = d then .un else ((e.scrub (.t d)).scrubB d).slot n := set_getD _ _ _ _ _ rfl
theorem clean_box (e : Env) (d n : Nat) : (e.clean d).box (.s n) = if n = d then [] else ((e.scrub (.t d)).scrubB d).box (.s n) := set_getD _ _ _ _ _ rfl
theorem St.drop (h : St M e a w) (d : Nat) : St M { e with t := e.t.set d .un, b := e.b.set d [] } a w := by
  have hslot : ∀ n, Env.slot { e with t := e.t.set d .un, b := e.b.set d [] } n = if n = d then .un else e.slot n := fun n => set_getD _ _ _ _ _ rfl
  have hbox : ∀ n, Env.box { e with t := e.t.set d .un, b := e.b.set d [] } (.s n) = if n = d then [] else e.box (.s n) := fun n => set_getD _ _ _ _ _ rfl
  have hat : ∀ n, Env.at_ { e with t := e.t.set d .un, b := e.b.set d [] } n = e.at_ n ∨ Env.at_ { e with t := e.t.set d .un, b := e.b.set d [] } n = .un := fun n => by
    cases n with
    | t n => show Env.slot _ n = e.slot n ∨ Env.slot _ n = _; rw [hslot]; split <;> simp
    | b d' o => cases d' with
      | s d' => show Env.cell _ (.s d') o = e.cell (.s d') o ∨ Env.cell _ (.s d') o = _; unfold Env.cell; rw [hbox]; split <;> simp
      | h i => exact .inl rfl
  have hk : ∀ m, Kept e.at_ (Env.at_ { e with t := e.t.set d .un, b := e.b.set d [] }) (pv M a w) (pv M a w) m := fun m hm => by
    rcases hat m with h1 | h1
    · rw [h1] at hm ⊢; exact ⟨hm, rfl, fun k xs hx => ⟨xs, hx, rfl⟩⟩
    · rw [h1] at hm; cases hm
  refine h.step (by simpa using h.sz) (by simpa using h.bz) ⟨rfl, rfl⟩ (KO.refl w) rfl (Nat.le_refl _) (fun g o hg => .inl hg) (Com.le.refl _) (Keeps.refl _ _) (fun m => ?_) (fun d' hd => ?_) ⟨rfl, fun _ _ h => h, rfl, fun _ => rfl⟩ (fun _ _ _ => ⟨rfl, fun _ h => h⟩) h.hk
  · rcases hat m with h1 | h1
    · left; exact ⟨h1, rfl, fun _ _ _ => rfl, fun m _ => hk m, fun _ _ _ => ⟨rfl, rfl, fun _ => Iff.rfl⟩⟩
    · right; rw [h1]; trivial
  · cases d' with
    | h i => exact h.bk (.h i) hd
    | s d' =>
      rw [hbox] at hd ⊢
      split at hd
      · exact absurd rfl hd
      · rename_i hl; rw [if_neg hl]; exact h.bk (.s d') hd
theorem St.clean (h : St M e a w) (d : Nat) : St M (e.clean d) a w := ((h.scrub (.t d)).scrubB d).drop d
theorem noRef_forget (p : PV) : NoRef d (unbox d (unref (.t d) p)) := by
  have un : NoRef d .un := noRef_un
  cases p with
  | r n =>
    show NoRef d (unbox d (if n = .t d then .un else .r n))
    split
    · exact un
    · rename_i hn
      cases n with
      | t n => exact ⟨fun m hm => by cases hm; exact ⟨hn, fun o hh => by cases hh⟩, fun off hh => by cases hh⟩
      | b b o => cases b with
        | h i => exact ⟨fun m hm => by cases hm; exact ⟨hn, fun o hh => by cases hh⟩, fun off hh => by cases hh⟩
        | s b =>
          show NoRef d (if b = d then .un else .r (.b (.s b) o))
          split
          · exact un
          · rename_i hb; exact ⟨fun m hm => by cases hm; exact ⟨hn, fun o hh => by injection hh with hh; injection hh with hh; exact hb hh⟩, fun off hh => by cases hh⟩
  | ra n i q =>
    show NoRef d (unbox d (if n = .t d then .un else .ra n i q))
    split
    · exact un
    · rename_i hn
      cases n with
      | t n => exact ⟨fun m hm => by cases hm; exact ⟨hn, fun o hh => by cases hh⟩, fun off hh => by cases hh⟩
      | b b o => cases b with
        | h i => exact ⟨fun m hm => by cases hm; exact ⟨hn, fun o hh => by cases hh⟩, fun off hh => by cases hh⟩
        | s b =>
          show NoRef d (if b = d then .un else .ra (.b (.s b) o) i q)
          split
          · exact un
          · rename_i hb; exact ⟨fun m hm => by cases hm; exact ⟨hn, fun o hh => by injection hh with hh; injection hh with hh; exact hb hh⟩, fun off hh => by cases hh⟩
  | rh k i o j q => exact ⟨fun n hn => by cases hn; exact ⟨fun hh => (by cases hh), fun o hh => (by cases hh)⟩, fun off hh => by cases hh⟩
  | bx b off =>
    show NoRef d (if b = d then .un else .bx b off)
    split
    · exact un
    · rename_i hb; exact ⟨fun n hn => hn.elim, fun off hh => by injection hh with hh; exact hb hh⟩
  | ag ps =>
    show NoRef d (unbox d (if ps.any (isRef (.t d)) then .un else .ag ps))
    split
    · exact un
    · rename_i h1
      show NoRef d (if ps.any (isRefB d) then .un else .ag ps)
      split
      · exact un
      · rename_i h2
        refine ⟨fun n hn => ?_, fun off hh => by cases hh⟩
        have hn : PV.r n ∈ ps := hn
        refine ⟨fun hh => h1 (List.any_eq_true.2 ⟨_, hn, by rw [hh]; simp [isRef]⟩), fun o hh => h2 (List.any_eq_true.2 ⟨_, hn, by rw [hh]; simp [isRefB]⟩)⟩
  | _ => exact ⟨fun n hn => hn.elim, fun off hh => by cases hh⟩
theorem scrubs_map (e : Env) (d : Nat) : (e.scrub (.t d)).scrubB d = e.map fun p => unbox d (unref (.t d) p) := by
  unfold Env.scrub Env.scrubB Env.map
  simp [Function.comp_def]
theorem cln_clean (e : Env) (d : Nat) : Cln d (e.clean d) where
  slot := fun n => by
    rw [clean_slot]
    split
    · exact noRef_un
    · rw [scrubs_map, Env.slot_map _ _ rfl]; exact noRef_forget _
  cell := fun b o => by
    show NoRef d (((e.clean d).box (.s b)).getD o .un)
    rw [clean_box]
    split
    · exact noRef_un
    · rw [scrubs_map]
      show NoRef d ((e.map fun p => unbox d (unref (.t d) p)).at_ (.b (.s b) o))
      rcases Env.at_map e (fun p => unbox d (unref (.t d) p)) rfl (.b (.s b) o) with h1 | ⟨⟨i, o', hh⟩, _⟩
      · rw [h1]; exact noRef_forget _
      · cases hh
  un := by rw [clean_slot, if_pos rfl]
  em := by rw [clean_box, if_pos rfl]
/-- What is clean of a box stays so. -/
theorem Cln.clean (h : Cln d e) {b : Nat} (hb : b ≠ d) : Cln d (e.clean b) := by
  have h1 := (h.scrub (.t b)).scrubB b
  refine ⟨fun n => ?_, fun b' o => ?_, ?_, ?_⟩
  · rw [clean_slot]; split
    · exact noRef_un
    · exact h1.slot n
  · show NoRef d (((e.clean b).box (.s b')).getD o .un)
    rw [clean_box]; split
    · exact noRef_un
    · exact h1.cell b' o
  · rw [clean_slot, if_neg (Ne.symm hb)]; exact h1.un
  · rw [clean_box, if_neg (Ne.symm hb)]; exact h1.em
theorem noRef_bx {b : Nat} (hb : b ≠ d) : NoRef d (.bx b 0) := ⟨fun n hn => hn.elim, fun off hh => by injection hh with hh; exact hb hh⟩
theorem add_slot_eq (e : Env) (b : Nat) (z : List PV) (n : Nat) : (e.add b z).slot n = e.slot n ∨ (n = b ∧ (e.add b z).slot n = .bx b 0) := by
  by_cases hn : n = b
  · subst hn
    by_cases hl : n < e.t.length
    · right; exact ⟨rfl, by unfold Env.slot Env.add; simp [List.getD_eq_getElem?_getD, List.getElem?_set, hl]⟩
    · left; unfold Env.slot Env.add; simp [List.getD_eq_getElem?_getD, List.getElem?_set, hl]
  · exact .inl (slot_add hn)
theorem add_box_eq (e : Env) (b : Nat) (z : List PV) (n : Nat) : (e.add b z).box (.s n) = e.box (.s n) ∨ (n = b ∧ (e.add b z).box (.s n) = z) := by
  by_cases hn : n = b
  · subst hn
    by_cases hl : n < e.b.length
    · right; exact ⟨rfl, by unfold Env.box Env.add; simp [List.getD_eq_getElem?_getD, List.getElem?_set, hl]⟩
    · left; unfold Env.box Env.add; simp [List.getD_eq_getElem?_getD, List.getElem?_set, hl]
  · exact .inl (box_add (fun hh => by injection hh with hh; exact hn hh))
theorem Bare.noRef (hz : Bare z) {p : PV} (hp : p ∈ z) : NoRef d p := ⟨fun n hn => absurd hn ((hz p hp).1 n), fun off => (hz p hp).2.1 d off⟩
theorem Cln.add (h : Cln d e) {b : Nat} {z : List PV} (hb : b ≠ d) (hz : Bare z) : Cln d (e.add b z) where
  slot := fun n => by
    rcases add_slot_eq e b z n with h1 | ⟨_, h1⟩ <;> rw [h1]
    · exact h.slot n
    · exact noRef_bx hb
  cell := fun b' o => by
    show NoRef d (((e.add b z).box (.s b')).getD o .un)
    rcases add_box_eq e b z b' with h1 | ⟨_, h1⟩ <;> rw [h1]
    · exact h.cell b' o
    · rw [List.getD_eq_getElem?_getD]
      cases hq : z[o]? with
      | none => exact noRef_un
      | some p => exact hz.noRef (List.mem_of_getElem? hq)
  un := by rw [slot_add (Ne.symm hb)]; exact h.un
  em := by rw [box_add (fun hh => by injection hh with hh; exact hb hh.symm)]; exact h.em
theorem Cln.of_add {b : Nat} {z : List PV} (h : Cln d (e.add b z)) (hb : b ≠ d) (hc : Cln b e) : Cln d e where
  slot := fun n => by
    rcases add_slot_eq e b z n with h1 | ⟨rfl, _⟩
    · rw [← h1]; exact h.slot n
    · rw [hc.un]; exact noRef_un
  cell := fun b' o => by
    show NoRef d ((e.box (.s b')).getD o .un)
    rcases add_box_eq e b z b' with h1 | ⟨rfl, _⟩
    · rw [← h1]; exact h.cell b' o
    · rw [hc.em]; exact noRef_un
  un := by rw [← slot_add (e := e) (z := z) (Ne.symm hb)]; exact h.un
  em := by rw [← box_add (e := e) (d := b) (z := z) (fun hh => by injection hh with hh; exact hb hh.symm)]; exact h.em
theorem bare_zeros : ∀ (k : Kd), Bare (zeros k)
  | .pair a b => fun p hp => (List.mem_append.1 hp).elim (bare_zeros a p) (bare_zeros b p)
  | .unit => fun p hp => by cases hp
  | .int _ => fun p hp => by rw [List.mem_singleton.1 hp]; exact ⟨fun n hn => hn.elim, fun _ _ hh => (by cases hh), fun _ hh => (by cases hh)⟩
  | .bool => fun p hp => by rw [List.mem_singleton.1 hp]; exact ⟨fun n hn => hn.elim, fun _ _ hh => (by cases hh), fun _ hh => (by cases hh)⟩
  | .str => fun p hp => by rw [List.mem_singleton.1 hp]; exact ⟨fun n hn => hn.elim, fun _ _ hh => (by cases hh), fun _ hh => (by cases hh)⟩
  | .list _ => fun p hp => by rw [List.mem_singleton.1 hp]; exact ⟨fun n hn => hn.elim, fun _ _ hh => (by cases hh), fun _ hh => (by cases hh)⟩
  | .ptr => fun p hp => by rw [List.mem_singleton.1 hp]; exact ⟨fun n hn => hn.elim, fun _ _ hh => (by cases hh), fun _ hh => (by cases hh)⟩
  | .fn => fun p hp => by rw [List.mem_singleton.1 hp]; exact ⟨fun n hn => hn.elim, fun _ _ hh => (by cases hh), fun _ hh => (by cases hh)⟩
  | .err => fun p hp => by rw [List.mem_singleton.1 hp]; exact ⟨fun n hn => hn.elim, fun _ _ hh => (by cases hh), fun _ hh => (by cases hh)⟩
theorem clean_add (hz : Bare z) {b : Nat} (hb : b ≠ d) : (e.add d z).clean b = (e.clean b).add d z := by
  unfold Env.clean
  rw [add_scrub hz, add_scrubB hz hb]
  exact Env.ext (List.set_comm _ _ (Ne.symm hb)) (List.set_comm _ _ (Ne.symm hb)) rfl
theorem add_add {b : Nat} {y : List PV} (hb : b ≠ d) : (e.add d z).add b y = (e.add b y).add d z := Env.ext (List.set_comm _ _ (Ne.symm hb)) (List.set_comm _ _ (Ne.symm hb)) rfl
/-- What is clean is not turned by being cleaned. -/
theorem Cln.newB_eq (h : Cln d e) (z : List PV) : (e.newB d z).put d (.bx d 0) = e.add d z := by
  have hm : e.scrubB d = e := by
    have key : ∀ l : List PV, (∀ p ∈ l, NoRef d p) → l.map (unbox d) = l := fun l hl => map_id_of fun p hp => by
      have h1 := hl p hp
      have h1r : ∀ n, refs p n → ∀ o, n ≠ .b (.s d) o := fun n hn => (h1.1 n hn).2
      cases p with
      | r n => cases n with
        | t n => rfl
        | b b o => cases b with
          | h i => rfl
          | s b => exact if_neg fun hh => h1r (.b (.s b) o) rfl o (by rw [hh])
      | ra n i q => cases n with
        | t n => rfl
        | b b o => cases b with
          | h i => rfl
          | s b => exact if_neg fun hh => h1r (.b (.s b) o) rfl o (by rw [hh])
      | bx b off => exact if_neg fun hh => h1.2 off (by rw [hh])
      | ag ps =>
        refine if_neg fun hh => ?_
        obtain ⟨q, h2, h3⟩ := List.any_eq_true.1 hh
        cases q with
        | r n => cases n with
          | t n => cases h3
          | b b o => cases b with
            | h i => cases h3
            | s b => exact h1r (.b (.s b) o) h2 o (by simp only [isRefB, decide_eq_true_eq] at h3; rw [h3])
        | _ => cases h3
      | _ => rfl
    unfold Env.scrubB Env.map
    refine Env.ext (key _ fun p hp => ?_) ?_ rfl
    · obtain ⟨n, hn⟩ := List.mem_iff_getElem?.1 hp
      have := h.slot n
      unfold Env.slot at this
      rw [List.getD_eq_getElem?_getD, hn] at this; exact this
    · show e.b.map (fun l => l.map (unbox d)) = e.b
      have : ∀ l ∈ e.b, l.map (unbox d) = l := fun l hl => key l fun p hp => by
        obtain ⟨b, hb⟩ := List.mem_iff_getElem?.1 hl
        obtain ⟨o, ho⟩ := List.mem_iff_getElem?.1 hp
        have h2 := h.cell b o
        have h3 : e.at_ (.b (.s b) o) = p := by
          show (e.b.getD b []).getD o .un = p
          rw [List.getD_eq_getElem?_getD (l := e.b), hb]
          show l.getD o .un = p
          rw [List.getD_eq_getElem?_getD, ho]; rfl
        rw [h3] at h2; exact h2
      calc e.b.map (fun l => l.map (unbox d)) = e.b.map id := List.map_congr_left this
        _ = e.b := List.map_id _
  unfold Env.newB
  rw [hm]
  rfl
end
end Go.Pv
