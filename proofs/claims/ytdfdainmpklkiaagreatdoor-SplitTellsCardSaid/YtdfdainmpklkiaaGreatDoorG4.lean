/- The steps that an evaluator's state can take: a slot is written, a slice changes hands, the world grows. -/
import Derived.Test.YtdfdainmpklkiaaGreatDoorG3
set_option linter.unusedVariables false
set_option linter.unusedSimpArgs false
namespace Go.Pv
open Go.RowKit
section
variable {M : Mem} {e : Env} {a : Act} {w : World}
theorem Env.at_setT (e : Env) (t : Nat) (p : PV) (n : Pl) : (e.setT t p).at_ n = if n = .t t ∧ t < e.t.length then p else e.at_ n := by
  cases n with
  | t n =>
    show (e.setT t p).slot n = _
    rw [Env.slot_setT]
    by_cases h : t = n
    · subst h; simp [Env.at_]
    · have : ¬ (Pl.t n = Pl.t t) := fun hh => h (by injection hh with hh; exact hh.symm)
      simp [h, this, Env.at_]
  | b d o => simp [Env.at_, Env.cell, Env.box_setT]
theorem pv_put (M : Mem) (a : Act) (w : World) (t : Nat) (v : Value) (n : Pl) : pv M (a.put (some t) v) w n = if n = .t t ∧ t < a.tmps.size then v else pv M a w n := by
  cases n with
  | t n =>
    show (a.put (some t) v).tmps.getD n undef = _
    rw [Act.tmps_put]
    by_cases h : t = n
    · subst h; simp [pv]
    · have : ¬ (Pl.t n = Pl.t t) := fun hh => h (by injection hh with hh; exact hh.symm)
      simp [h, this, pv]
  | b d o => simp [pv]
theorem Env.at_setB (e : Env) (d : Bx) (o : Nat) (p : PV) (n : Pl) : (e.setB d o p).at_ n = if n = .b d o ∧ o < (e.box d).length then p else e.at_ n := by
  cases n with
  | t n => cases d <;> simp [Env.at_, Env.setB, Env.slot]
  | b d' o' =>
    show (e.setB d o p).cell d' o' = _
    rw [Env.cell_setB]
    by_cases h : d = d' ∧ o = o'
    · obtain ⟨rfl, rfl⟩ := h; simp [Env.at_]
    · have : ¬ (Pl.b d' o' = Pl.b d o) := fun hh => h (by injection hh with h1 h2; exact ⟨h1.symm, h2.symm⟩)
      have h' : ¬ (d = d' ∧ o = o' ∧ o < (e.box d).length) := fun hh => h ⟨hh.1, hh.2.1⟩
      rw [if_neg h', if_neg (fun hh => this hh.1)]
      rfl
theorem Act.put_size (a : Act) (t : Option Nat) (v : Value) : (a.put t v).tmps.size = a.tmps.size := by cases t <;> simp [Act.put]
theorem Act.put_defers' (a : Act) (t : Option Nat) (v : Value) : (a.put t v).defers = a.defers := by cases t <;> simp [Act.put]
theorem Env.setT_len (e : Env) (t : Nat) (p : PV) : (e.setT t p).t.length = e.t.length := by simp [Env.setT]
theorem Env.setB_len (e : Env) (d : Bx) (o : Nat) (p : PV) : (e.setB d o p).b.length = e.b.length := by cases d <;> simp [Env.setB]
theorem Env.setB_t (e : Env) (d : Bx) (o : Nat) (p : PV) : (e.setB d o p).t = e.t := by cases d <;> rfl
theorem Env.setB_h (e : Env) (d : Bx) (o : Nat) (p : PV) : (e.setB d o p).h.length = e.h.length := by cases d <;> simp [Env.setB]
theorem Env.setB_lp {e : Env} {d : Bx} {o : Nat} {p : PV} {i n : Nat} (h : (e.setB d o p).h[i]? = some (.lp n)) : e.h[i]? = some (.lp n) := by
  cases d with
  | s d => exact h
  | h j =>
    have h : (e.h.set j (.c ((Hcs e.h j).set o p)))[i]? = some (.lp n) := h
    rw [List.getElem?_set] at h
    split at h
    · split at h <;> cases h
    · exact h
theorem Env.set_lp {e : Env} {m : Pl} {p : PV} {i n : Nat} (h : (e.set m p).h[i]? = some (.lp n)) : e.h[i]? = some (.lp n) := by
  cases m with
  | t t => exact h
  | b d o => exact Env.setB_lp h
theorem Env.set_h (e : Env) (m : Pl) (p : PV) : (e.set m p).h.length = e.h.length := by
  cases m with
  | t t => rfl
  | b d o => exact Env.setB_h e d o p
/-- A slot gets what is not the call's own. -/
theorem St.setT (h : St M e a w) (t : Nat) {p : PV} {v : Value} {n0 : Pl} (ho : isO p = false) (hp : PR M w e.at_ (pv M a w) n0 p v) : St M (e.setT t p) (a.put (some t) v) w := by
  have hk : ∀ m, Kept e.at_ (e.setT t p).at_ (pv M a w) (pv M (a.put (some t) v) w) m := fun m hm => by
    rw [Env.at_setT] at hm ⊢
    rw [pv_put]
    by_cases hc : m = .t t ∧ t < e.t.length
    · rw [if_pos hc, ho] at hm; cases hm
    · rw [if_neg hc] at hm ⊢
      rw [if_neg (by rw [h.sz]; exact hc)]
      exact ⟨hm, rfl, fun k xs hx => ⟨xs, hx, rfl⟩⟩
  refine h.step (by rw [Act.put_size, Env.setT_len]; exact h.sz) (by rw [Env.setT_len]; exact h.bz) ⟨Act.put_defers' _ _ _, rfl⟩ (KO.refl w) rfl (Nat.le_refl _) (fun g o hg => .inl hg) (Com.le.refl _) (Keeps.refl _ _) (fun n => ?_) (fun d hd => by rw [Env.box_setT] at hd ⊢; exact h.bk d hd) ⟨rfl, fun _ _ h => h, rfl, fun _ => rfl⟩ (fun _ _ _ => ⟨rfl, fun _ h => h⟩) h.hk
  by_cases hc : n = .t t ∧ t < e.t.length
  · right
    rw [Env.at_setT, if_pos hc, pv_put, if_pos (by rw [h.sz]; exact hc)]
    exact hp.keep ho (Com.le.refl _) (Keeps.refl _ _) (fun _ _ _ => rfl) (fun m _ => hk m)
  · left
    rw [Env.at_setT, if_neg hc, pv_put, if_neg (by rw [h.sz]; exact hc)]
    exact ⟨rfl, rfl, fun _ _ _ => rfl, fun m _ => hk m, fun _ _ _ => ⟨rfl, rfl, fun _ => Iff.rfl⟩⟩
/-- A slot gets a slice of the call's own; nobody refers to the slot. -/
theorem St.setTo (h : St M e a w) (t : Nat) {m : Bool} {k : Kd} {xs : List k.den} {v : Value} (hn : ∀ n, ¬ refs (e.at_ n) (.t t)) (hp : OwnD M w (.t t) m k xs v) : St M (e.setT t (.o m k xs)) (a.put (some t) v) w := by
  have hk : ∀ m', m' ≠ .t t → Kept e.at_ (e.setT t (.o m k xs)).at_ (pv M a w) (pv M (a.put (some t) v) w) m' := fun m' hne hm => by
    rw [Env.at_setT, if_neg (fun hc => hne hc.1)] at hm ⊢
    rw [pv_put, if_neg (fun hc => hne hc.1)]
    exact ⟨hm, rfl, fun k xs hx => ⟨xs, hx, rfl⟩⟩
  refine h.step (by rw [Act.put_size, Env.setT_len]; exact h.sz) (by rw [Env.setT_len]; exact h.bz) ⟨Act.put_defers' _ _ _, rfl⟩ (KO.refl w) rfl (Nat.le_refl _) (fun g o hg => .inl hg) (Com.le.refl _) (Keeps.refl _ _) (fun n => ?_) (fun d hd => by rw [Env.box_setT] at hd ⊢; exact h.bk d hd) ⟨rfl, fun _ _ h => h, rfl, fun _ => rfl⟩ (fun _ _ _ => ⟨rfl, fun _ h => h⟩) h.hk
  by_cases hc : n = .t t ∧ t < e.t.length
  · right
    rw [Env.at_setT, if_pos hc, pv_put, if_pos (by rw [h.sz]; exact hc)]
    obtain ⟨rfl, _⟩ := hc
    exact hp
  · left
    rw [Env.at_setT, if_neg hc, pv_put, if_neg (by rw [h.sz]; exact hc)]
    exact ⟨rfl, rfl, fun _ _ _ => rfl, fun m' hm' => hk m' (fun hh => hn n (hh ▸ hm')), fun _ _ _ => ⟨rfl, rfl, fun _ => Iff.rfl⟩⟩
/-- What is at a place is forgotten. -/
theorem St.clear (h : St M e a w) (n : Pl) : St M (e.set n .un) a w := by
  have hat : ∀ m, (e.set n .un).at_ m = e.at_ m ∨ (e.set n .un).at_ m = .un := fun m => by
    cases n with
    | t t => show (e.setT t .un).at_ m = _ ∨ (e.setT t .un).at_ m = _; rw [Env.at_setT]; split <;> simp
    | b d o => show (e.setB d o .un).at_ m = _ ∨ (e.setB d o .un).at_ m = _; rw [Env.at_setB]; split <;> simp
  have hk : ∀ m, Kept e.at_ (e.set n .un).at_ (pv M a w) (pv M a w) m := fun m hm => by
    rcases hat m with h1 | h1
    · rw [h1] at hm ⊢; exact ⟨hm, rfl, fun k xs hx => ⟨xs, hx, rfl⟩⟩
    · rw [h1] at hm; cases hm
  have hbox : ∀ d, ((e.set n .un).box d).length = (e.box d).length := fun d => by
    cases n with
    | t t => show ((e.setT t .un).box d).length = _; rw [Env.box_setT]
    | b d' o => show ((e.setB d' o .un).box d).length = _; rw [Env.box_setB]; split; · rename_i hd; subst hd; simp
                · rfl
  refine h.step ?_ ?_ ⟨rfl, rfl⟩ (KO.refl w) rfl (Nat.le_refl _) (fun g o hg => .inl hg) (Com.le.refl _) (Keeps.refl _ _) (fun m => ?_) (fun d hd => ?_) ⟨Env.set_h e n _, fun _ _ h => Env.set_lp h, rfl, fun _ => rfl⟩ (fun _ _ _ => ⟨rfl, fun _ h => h⟩) (fun i o => by rcases hat (.b (.h i) o) with h1 | h1 <;> rw [h1]; exact h.hk i o; rfl)
  · cases n with
    | t t => show _ = (e.setT t .un).t.length; rw [Env.setT_len]; exact h.sz
    | b d o => rw [show (e.set (.b d o) .un).t = e.t from Env.setB_t e d o _]; exact h.sz
  · cases n with
    | t t => show _ = (e.setT t .un).t.length; rw [Env.setT_len]; exact h.bz
    | b d o => show (e.setB d o .un).b.length = (e.setB d o .un).t.length; rw [Env.setB_len, Env.setB_t]; exact h.bz
  · rcases hat m with h1 | h1
    · left; exact ⟨h1, rfl, fun _ _ _ => rfl, fun m _ => hk m, fun _ _ _ => ⟨rfl, rfl, fun _ => Iff.rfl⟩⟩
    · right; rw [h1]; trivial
  · have hne : e.box d ≠ [] := fun h0 => hd (List.eq_nil_of_length_eq_zero (by rw [hbox, h0]; rfl))
    obtain ⟨b1, ⟨C, T, b2, b3⟩, b4⟩ := h.bk d hne
    exact ⟨b1, ⟨C, T, b2, by rw [hbox]; exact b3⟩, b4⟩
/-- A block that somebody owns. -/
def Live (M : Mem) (e : Env) (a : Act) (w : World) (g : Nat) : Prop := (∃ n, isO (e.at_ n) = true ∧ (pv M a w n).ownBlock = some g) ∨ ∃ d, e.box d ≠ [] ∧ M.β d = g
/-- .. or that is a loop's record. -/
def Loopy (M : Mem) (e : Env) (g : Nat) : Prop := ∃ (i n : Nat), e.h[i]? = some (HO.lp n) ∧ M.β (.h i) = g
def Mem.own (M : Mem) (g : Nat) (o : Pl ⊕ Bx) : Mem := { M with ow := fun g' => if g' = g then some o else M.ow g' }
theorem St.own_pl (h : St M e a w) {n : Pl} (ho : isO (e.at_ n) = true) {g : Nat} (hg : (pv M a w n).ownBlock = some g) : M.ow g = some (.inl n) := by
  have := h.pr n
  cases hq : e.at_ n with
  | o m k xs => rw [hq] at this; obtain ⟨u, css, _, _, h3⟩ := this; exact (h3 g hg).1.1
  | _ => rw [hq] at ho; cases ho
theorem St.live_ow (h : St M e a w) {g : Nat} (hl : Live M e a w g) : (∃ n, M.ow g = some (.inl n) ∧ isO (e.at_ n) = true) ∨ ∃ d, M.ow g = some (.inr d) ∧ e.box d ≠ [] := by
  rcases hl with ⟨n, h1, h2⟩ | ⟨d, h1, rfl⟩
  · exact .inl ⟨n, h.own_pl h1 h2, h1⟩
  · exact .inr ⟨d, (h.bk d h1).2.2.1, h1⟩
theorem St.loopy_lt (h : St M e a w) {g : Nat} (hl : Loopy M e g) : ∃ r, w.heap[g]? = some (.loop r) := by
  obtain ⟨i, n, h1, rfl⟩ := hl
  exact ⟨_, (h.lk i n h1).2.1⟩
/-- A block that nobody owns gets a name. -/
theorem St.name (h : St M e a w) {g : Nat} (hg : ¬ Live M e a w g) (hlp : ¬ Loopy M e g) (o : Pl ⊕ Bx) : St (M.own g o) e a w := by
  refine h.step h.sz h.bz ⟨rfl, rfl⟩ (KO.refl w) rfl (Nat.le_refl _) (fun _ _ hg => .inl hg) (Com.le.refl _) (Keeps.refl _ _) (fun n => .inl ⟨rfl, rfl, fun _ _ _ => rfl, fun m _ => Kept.refl _ _ m, fun ho g' hg' => ⟨rfl, ?_, fun _ => Iff.rfl⟩⟩) (fun d hd => ?_) ⟨rfl, fun _ _ h => h, rfl, fun _ => rfl⟩ (fun i n hi => ⟨?_, fun _ h => h⟩) h.hk
  · show (if g' = g then _ else _) = _
    rw [if_neg (fun hh => hg (.inl ⟨n, ho, by rw [← hh]; exact hg'⟩))]
  · obtain ⟨b1, b2, b3, b4⟩ := h.bk d hd
    refine ⟨b1, b2, ?_, b4⟩
    show (if M.β d = g then _ else _) = _
    rw [if_neg (fun hh => hg (.inr ⟨d, hd, hh⟩))]; exact b3
  · show (if M.β (.h i) = g then _ else _) = _
    rw [if_neg (fun hh => hlp ⟨i, n, hi, hh⟩)]
/-- The world grows, and more is no more written; nobody's blocks are touched. -/
theorem St.grow (h : St M e a w) {w' : World} {G' : Com} (hs : w.heap.size ≤ w'.heap.size) (hG : M.G.le G') (hGn : G'.n = M.G.n) (cb : ∀ g o, G' g o → M.G g o ∨ (M.Mine g ∧ g < w'.heap.size)) (hw : Keeps M.G w w') (hko : KO w w')
    (hl : ∀ g, Live M e a w g → w'.heap[g]? = w.heap[g]? ∧ ∀ o, G' g o ↔ M.G g o) (hlo : ∀ g, Loopy M e g → ∀ o, G' g o → M.G g o) : St { M with G := G' } e a w' := by
  have hpv : ∀ n, (∃ d o, n = .b d o ∧ e.box d = []) ∨ pv { M with G := G' } a w' n = pv M a w n := fun n => by
    cases n with
    | t n => exact .inr rfl
    | b d o =>
      by_cases hd : e.box d = []
      · exact .inl ⟨d, o, rfl, hd⟩
      · right
        show (w'.cell? ⟨M.β d, o, none⟩).getD undef = (w.cell? ⟨M.β d, o, none⟩).getD undef
        rw [World.cell?_of_block (a := ⟨M.β d, o, none⟩) (hl (M.β d) (.inr ⟨d, hd, rfl⟩)).1]
  have hun : ∀ d o, e.box d = [] → e.at_ (.b d o) = .un := fun d o hd => by show e.cell d o = _; unfold Env.cell; rw [hd]; rfl
  refine h.step h.sz h.bz ⟨rfl, rfl⟩ hko rfl hs cb hG hw (fun n => ?_) (fun d hd => ?_) ⟨rfl, fun _ _ h => h, hGn, fun _ => rfl⟩ (fun i n hi => ⟨rfl, hlo _ ⟨i, n, hi, rfl⟩⟩) h.hk
  · rcases hpv n with ⟨d, o, rfl, hd⟩ | hn
    · right; rw [hun d o hd]; trivial
    · left
      refine ⟨rfl, hn, fun _ _ _ => rfl, fun m _ hm => ?_, fun ho g hg => ⟨(hl g (.inl ⟨n, ho, hg⟩)).1, rfl, (hl g (.inl ⟨n, ho, hg⟩)).2⟩⟩
      rcases hpv m with ⟨d, o, rfl, hd⟩ | hm'
      · rw [hun d o hd] at hm; cases hm
      · exact ⟨hm, hm', fun k xs hx => ⟨xs, hx, rfl⟩⟩
  · obtain ⟨b1, ⟨C, T, b2, b3⟩, b4, b5⟩ := h.bk d hd
    obtain ⟨l1, l2⟩ := hl (M.β d) (.inr ⟨d, hd, rfl⟩)
    exact ⟨b1, ⟨C, T, by rw [← b2]; exact l1, b3⟩, b4, fun o hg => b5 o ((l2 o).1 hg)⟩
/-- A new block is nobody's. -/
theorem St.fresh (h : St M e a w) {g : Nat} (hg : w.heap.size ≤ g) : ¬ Live M e a w g := by
  rintro (⟨n, ho, hn⟩ | ⟨d, hd, rfl⟩)
  · have := h.pr n
    cases hq : e.at_ n with
    | o m k xs => rw [hq] at this; obtain ⟨u, css, _, h2, _⟩ := this; exact absurd (h2.lt g hn).2 (by omega)
    | _ => rw [hq] at ho; cases ho
  · obtain ⟨_, ⟨C, T, b2, _⟩, _⟩ := h.bk d hd
    exact absurd (Array.getElem?_eq_some_iff.1 b2).1 (by omega)
/-- Nothing is written but what is not committed. -/
theorem keeps_of_blocks {G : Com} {w w' : World} (h : ∀ g o, G g o → w'.heap[g]? = w.heap[g]?) : Keeps G w w' := fun g o v hg hv => by
  rw [World.cell?_of_block (a := ⟨g, o, none⟩) (h g o hg)]; exact hv
theorem St.drew (h : St M e a w) : St M e a w.drew := by
  have := h.grow (w' := w.drew) (G' := M.G) (Nat.le_refl _) (Com.le.refl _) rfl (fun _ _ h => .inl h) (fun g o v _ hv => hv) (KO.refl w) (fun g _ => ⟨rfl, fun _ => Iff.rfl⟩) (fun _ _ _ h => h)
  exact this
theorem heap_drew' (w : World) : w.drew.heap = w.heap := rfl
end
end Go.Pv
