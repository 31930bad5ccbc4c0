/- Slices change hands: shared, moved, laid down. -/
import Derived.Test.YtdfdainmpklkiaaGreatDoorG4
set_option linter.unusedVariables false
set_option linter.unusedSimpArgs false
namespace Go.Pv
open Go.RowKit
section
variable {M : Mem} {e : Env} {a : Act} {w : World}
/-- Nobody owns a value's block. -/
def Free (M : Mem) (e : Env) (a : Act) (w : World) (v : Value) : Prop := ∀ g, v.ownBlock = some g → ¬ Live M e a w g
def Mem.ren (M : Mem) (v : Value) (o : Pl ⊕ Bx) : Mem := match v.ownBlock with
  | some g => M.own g o
  | none => M
theorem Mem.ren_G (M : Mem) (v : Value) (o : Pl ⊕ Bx) : (M.ren v o).G = M.G := by unfold Mem.ren; split <;> rfl
theorem Mem.ren_base (M : Mem) (v : Value) (o : Pl ⊕ Bx) : (M.ren v o).base = M.base := by unfold Mem.ren; split <;> rfl
theorem Mem.ren_dfs (M : Mem) (v : Value) (o : Pl ⊕ Bx) : (M.ren v o).dfs = M.dfs := by unfold Mem.ren; split <;> rfl
theorem Mem.ren_key (M : Mem) (v : Value) (o : Pl ⊕ Bx) : (M.ren v o).key = M.key := by unfold Mem.ren; split <;> rfl
theorem Mem.ren_β (M : Mem) (v : Value) (o : Pl ⊕ Bx) : (M.ren v o).β = M.β := by unfold Mem.ren; split <;> rfl
theorem OwnD.ren {n n' : Pl} {m : Bool} {k : Kd} {xs : List k.den} {v : Value} (h : OwnD M w n m k xs v) : OwnD (M.ren v (.inl n')) w n' m k xs v := by
  obtain ⟨u, css, h1, h2, h3⟩ := h
  refine ⟨u, css, by rw [Mem.ren_G]; exact h1, h2, fun g hg => ⟨⟨?_, (Mem.mine_key (Mem.ren_key M v _) g).2 (h3 g hg).1.2⟩, by rw [Mem.ren_G]; exact (h3 g hg).2⟩⟩
  unfold Mem.ren
  rw [hg]
  simp [Mem.own]
theorem row_cells {b : Nat} {u : TypeId} {s n : Nat} {v : Value} {xs : List Value} (h : w.ownsRow b u s v n xs) {g : Nat} (hg : v.ownBlock = some g) : ∃ C T x, w.heap[g]? = some (.cells C T x) := by
  rcases h.2 with ⟨h3, _⟩ | ⟨g', cap, cur, rfl, _, h4, _⟩
  · rw [h3] at hg; cases hg
  · have hg : g' = g := by simpa [Value.ownBlock] using hg
    subst hg
    exact ⟨_, _, _, h4⟩
theorem St.row_noloop (h : St M e a w) {b : Nat} {u : TypeId} {s n : Nat} {v : Value} {xs : List Value} (hr : w.ownsRow b u s v n xs) : ∀ g, v.ownBlock = some g → ¬ Loopy M e g := fun g hg hl => by
  obtain ⟨C, T, x, h1⟩ := row_cells hr hg
  obtain ⟨r, h2⟩ := h.loopy_lt hl
  rw [h1] at h2; cases h2
theorem St.own_noloop (h : St M e a w) {n : Pl} {m : Bool} {k : Kd} {xs : List k.den} {v : Value} (hp : OwnD M w n m k xs v) : ∀ g, v.ownBlock = some g → ¬ Loopy M e g := by
  obtain ⟨u, css, _, h2, _⟩ := hp
  exact h.row_noloop h2
theorem St.ren (h : St M e a w) {v : Value} (hf : Free M e a w v) (hlp : ∀ g, v.ownBlock = some g → ¬ Loopy M e g) (o : Pl ⊕ Bx) : St (M.ren v o) e a w := by
  unfold Mem.ren
  split
  · rename_i g hg; exact h.name (hf g hg) (hlp g hg) o
  · exact h
theorem OwnD.nil (M : Mem) (w : World) (n : Pl) (m : Bool) (k : Kd) : OwnD M w n m k [] (.slice none 0 0) := ⟨0, [], trivial, World.ownsRow_nil w 0 0 k.size, fun g hg => by cases hg⟩
/-- Two states of memory that differ in who owns what alone. -/
def Mem.Alike (M M' : Mem) : Prop := M'.key = M.key ∧ M'.G = M.G ∧ M'.β = M.β ∧ M'.dfs = M.dfs
theorem Mem.Alike.refl (M : Mem) : M.Alike M := ⟨rfl, rfl, rfl, rfl⟩
theorem Mem.Alike.ren (M : Mem) (v : Value) (o : Pl ⊕ Bx) : M.Alike (M.ren v o) := ⟨M.ren_key v o, M.ren_G v o, M.ren_β v o, M.ren_dfs v o⟩
theorem refs_hok {p : PV} (h : hokB p = true) (n : Pl) : ¬ refs p n := by cases p <;> first | exact id | cases h
theorem scrub_no (h : St M e a w) (n m : Pl) : ¬ refs ((e.scrub n).at_ m) n := by
  rcases Env.at_map e (unref n) rfl m with h1 | ⟨⟨i, o, rfl⟩, h1⟩
  · rw [show (e.scrub n).at_ m = unref n (e.at_ m) from h1]
    cases h : e.at_ m with
    | r q => simp only [unref]; split <;> simp_all [refs]
    | ra q i p => simp only [unref]; split <;> simp_all [refs]
    | ag ps =>
      simp only [unref]
      split
      · exact id
      · rename_i hx
        intro hr
        have hr : PV.r n ∈ ps := hr
        exact hx (List.any_eq_true.2 ⟨_, hr, by simp [isRef]⟩)
    | rh k i o ix p => simp only [unref]; split <;> simp_all [refs]
    | _ => simp [unref, refs]
  · rw [show (e.scrub n).at_ (.b (.h i) o) = _ from h1]
    exact refs_hok (h.hk i o) n
theorem live_scrub {n : Pl} {g : Nat} (h : Live M (e.scrub n) a w g) : Live M e a w g := by
  rcases h with ⟨m, h1, h2⟩ | ⟨d, h1, h2⟩
  · rcases Env.at_map' e (unref n) (unref_spec n) m with h3 | ⟨h3, _⟩
    · rw [show (e.scrub n).at_ m = _ from h3] at h1; exact .inl ⟨m, h1, h2⟩
    · rw [show (e.scrub n).at_ m = _ from h3] at h1; cases h1
  · exact .inr ⟨d, fun h0 => h1 (List.eq_nil_of_length_eq_zero (by rw [show (e.scrub n).box d = (e.map (unref n)).box d from rfl, map_box_len, h0]; rfl)), h2⟩
theorem Free.scrub {v : Value} (h : Free M e a w v) (n : Pl) : Free M (e.scrub n) a w v := fun g hg hl => h g hg (live_scrub hl)
/-- A slice that nobody has is laid into a slot. -/
theorem St.putO (h : St M e a w) (t : Nat) {n : Pl} {m : Bool} {k : Kd} {xs : List k.den} {v : Value} (hp : OwnD M w n m k xs v) (hf : Free M e a w v) :
    ∃ M', M.Alike M' ∧ St M' (e.put t (.o m k xs)) (a.put (some t) v) w :=
  ⟨M.ren v (.inl (.t t)), Mem.Alike.ren _ _ _, ((h.scrub (.t t)).ren (hf.scrub _) ((h.scrub (.t t)).own_noloop hp) (.inl (.t t))).setTo t (fun n => scrub_no h (.t t) n) hp.ren⟩
theorem Env.at_set (e : Env) (n : Pl) (p : PV) (m : Pl) (h : m ≠ n) : (e.set n p).at_ m = e.at_ m := by
  cases n with
  | t t => show (e.setT t p).at_ m = _; rw [Env.at_setT, if_neg (fun hh => h hh.1)]
  | b d o => show (e.setB d o p).at_ m = _; rw [Env.at_setB, if_neg (fun hh => h hh.1)]
theorem Env.at_set_un (e : Env) (n : Pl) : (e.set n .un).at_ n = .un := by
  cases n with
  | t t =>
    show (e.setT t .un).at_ _ = _
    rw [Env.at_setT]
    split
    · rfl
    · rename_i hh
      have : ¬ t < e.t.length := fun h => hh ⟨rfl, h⟩
      show e.slot t = _
      unfold Env.slot
      rw [List.getD_eq_getElem?_getD, List.getElem?_eq_none (Nat.le_of_not_lt this)]; rfl
  | b d o =>
    show (e.setB d o .un).at_ _ = _
    rw [Env.at_setB]
    split
    · rfl
    · rename_i hh
      have : ¬ o < (e.box d).length := fun h => hh ⟨rfl, h⟩
      show e.cell d o = _
      unfold Env.cell
      rw [List.getD_eq_getElem?_getD, List.getElem?_eq_none (Nat.le_of_not_lt this)]; rfl
theorem Env.box_set_len (e : Env) (n : Pl) (p : PV) (d : Bx) : ((e.set n p).box d).length = (e.box d).length := by
  cases n with
  | t t => show ((e.setT t p).box d).length = _; rw [Env.box_setT]
  | b d' o =>
    show ((e.setB d' o p).box d).length = _
    rw [Env.box_setB]
    split
    · rename_i hd; subst hd; simp
    · rfl
theorem Env.set_len (e : Env) (n : Pl) (p : PV) : (e.set n p).t.length = e.t.length ∧ (e.set n p).b.length = e.b.length := by
  cases n with
  | t t => exact ⟨Env.setT_len e t p, rfl⟩
  | b d o => exact ⟨congrArg List.length (Env.setB_t e d o p), Env.setB_len e d o p⟩
/-- A slice is taken from its place: nobody has it then. -/
theorem St.take (h : St M e a w) {n : Pl} {m : Bool} {k : Kd} {xs : List k.den} (hn : e.at_ n = .o m k xs) :
    OwnD M w n m k xs (pv M a w n) ∧ St M ((e.scrub n).set n .un) a w ∧ Free M ((e.scrub n).set n .un) a w (pv M a w n) := by
  have ho : OwnD M w n m k xs (pv M a w n) := by have := h.pr n; rw [hn] at this; exact this
  have hst := (h.scrub n).clear n
  refine ⟨ho, hst, fun g hg hl => ?_⟩
  have hw : M.ow g = some (.inl n) := by obtain ⟨_, _, _, _, h3⟩ := ho; exact (h3 g hg).1.1
  rcases hst.live_ow hl with ⟨n', h1, h2⟩ | ⟨d, h1, _⟩
  · rw [hw] at h1
    injection h1 with h1; injection h1 with h1
    subst h1
    rw [Env.at_set_un] at h2; cases h2
  · rw [hw] at h1; cases h1
/-- What a slice's cells are, once they are no more written. -/
theorem OwnD.rep {n : Pl} {m : Bool} {k : Kd} {xs : List k.den} {v : Value} (h : OwnD M w n m k xs v) {G' : Com} (hG : M.G.le G')
    (hc : ∀ g, v.ownBlock = some g → ∀ o, o < xs.length * k.size → G' g o) : RepV G' w (.list k) xs v := by
  obtain ⟨u, css, h1, h2, _⟩ := h
  rcases h2.2 with ⟨rfl, hx⟩ | ⟨g, cap, cur, rfl, hb, hg, hcap, _⟩
  · have : xs = [] := List.eq_nil_of_length_eq_zero hx
    subst this
    exact ⟨[.slice none 0 0], ⟨none, 0, rfl, Nat.le_refl _, fun hh => absurd rfl hh⟩, rfl⟩
  · refine ⟨[.slice (some ⟨g, 0, none⟩) xs.length cap], ⟨some ⟨g, 0, none⟩, cap, rfl, hcap, fun _ => ⟨g, 0, rfl, fun i hi => ?_⟩⟩, rfl⟩
    obtain ⟨c, hr, hj⟩ := h1.get i hi
    refine ⟨c, fun j hjl => ?_, hr.mono hG (Keeps.refl _ _)⟩
    have hlt : i * k.size + j < xs.length * k.size := by
      have := hr.len
      calc i * k.size + j < i * k.size + k.size := by omega
        _ = (i + 1) * k.size := by rw [Nat.succ_mul]
        _ ≤ _ := Nat.mul_le_mul_right _ hi
    refine ⟨by simpa using hc g rfl _ hlt, ?_⟩
    have hcell := h2.cellAt (g := g) (i * k.size + j) hlt
    simp only [Nat.zero_add]
    rw [hcell, hj j hjl, List.getElem?_eq_getElem hjl]
theorem Env.at_share (e : Env) (n m : Pl) : (e.share n).at_ m = if m = n then (match e.at_ n with | .o _ k xs => .o false k xs | p => p) else e.at_ m := by
  unfold Env.share
  by_cases h : m = n
  · subst h
    rw [if_pos rfl]
    cases hq : e.at_ m with
    | o b k xs =>
      simp only []
      cases m with
      | t t =>
        have hlt : t < e.t.length := Nat.lt_of_not_le fun hle => by
          have : e.at_ (.t t) = .un := by show e.slot t = _; unfold Env.slot; rw [List.getD_eq_getElem?_getD, List.getElem?_eq_none hle]; rfl
          rw [this] at hq; cases hq
        show (e.setT t (.o false k xs)).at_ (.t t) = _
        rw [Env.at_setT, if_pos ⟨rfl, hlt⟩]
      | b d o =>
        have hlt : o < (e.box d).length := Nat.lt_of_not_le fun hle => by
          have : e.at_ (.b d o) = .un := by show e.cell d o = _; unfold Env.cell; rw [List.getD_eq_getElem?_getD, List.getElem?_eq_none hle]; rfl
          rw [this] at hq; cases hq
        show (e.setB d o (.o false k xs)).at_ (.b d o) = _
        rw [Env.at_setB, if_pos ⟨rfl, hlt⟩]
    | _ => simp [hq]
  · rw [if_neg h]
    cases e.at_ n with
    | o b k xs => exact Env.at_set e n _ m h
    | _ => rfl
/-- What is at a place may be read by others from now on. -/
theorem St.share (h : St M e a w) (n : Pl) (hnh : ∀ i o, n ≠ .b (.h i) o) : ∃ G', M.G.le G' ∧ G'.n = M.G.n ∧ St { M with G := G' } (e.share n) a w ∧ ∀ m k xs, e.at_ n = .o m k xs → RepV G' w (.list k) xs (pv M a w n) := by
  by_cases ho : isO (e.at_ n) = true
  case neg =>
    refine ⟨M.G, Com.le.refl _, rfl, ?_, fun m k xs hx => by rw [hx] at ho; exact absurd rfl ho⟩
    have : e.share n = e := by unfold Env.share; cases hq : e.at_ n <;> first | rfl | (rw [hq] at ho; exact absurd rfl ho)
    rw [this]; exact h
  cases hq : e.at_ n with
  | o m k xs =>
    have hod : OwnD M w n m k xs (pv M a w n) := by have := h.pr n; rw [hq] at this; exact this
    let G' : Com := M.G.more fun g o => (pv M a w n).ownBlock = some g ∧ o < xs.length * k.size
    have hG : M.G.le G' := Com.le.more _ _
    have hGx : ∀ g, M.ow g ≠ some (.inl n) → ∀ o, G' g o ↔ M.G g o := fun g hg o => ⟨fun hh => Or.elim hh id fun hh => by
      obtain ⟨_, _, _, _, h3⟩ := hod
      exact absurd (h3 g hh.1).1.1 hg, hG.c g o⟩
    have hrep : RepV G' w (.list k) xs (pv M a w n) := hod.rep hG fun g hg o ho => Or.inr ⟨hg, ho⟩
    refine ⟨G', hG, rfl, ?_, fun m' k' xs' hx => by injection hx with h1 h2 h3; subst h2; rw [← eq_of_heq h3]; exact hrep⟩
    have hat := Env.at_share e n
    have hlen : (e.share n).t.length = e.t.length ∧ (e.share n).b.length = e.b.length ∧ ∀ d, ((e.share n).box d).length = (e.box d).length := by
      unfold Env.share; rw [hq]
      exact ⟨(Env.set_len e n _).1, (Env.set_len e n _).2, fun d => Env.box_set_len e n _ d⟩
    have hpv : ∀ n', pv { M with G := G' } a w n' = pv M a w n' := fun n' => by cases n' <;> rfl
    refine h.step (by rw [hlen.1]; exact h.sz) (by rw [hlen.1, hlen.2.1]; exact h.bz) ⟨rfl, rfl⟩ (KO.refl w) rfl (Nat.le_refl _) (fun g o hg => ?_) hG (Keeps.refl _ _) (fun n' => ?_) (fun d hd => ?_) ⟨?_, fun i n' hi => ?_, rfl, fun _ => rfl⟩ (fun i n' hi => ⟨rfl, ?_⟩) (fun i o => ?_)
    · rcases hg with hg | ⟨hg, _⟩
      · exact .inl hg
      · right
        obtain ⟨_, _, _, h2, h3⟩ := hod
        exact ⟨(h3 g hg).1.2, (h2.lt g hg).2⟩
    · by_cases hn : n' = n
      · subst hn
        right
        rw [hat, if_pos rfl, hq]
        show OwnD _ _ _ _ _ _ _
        rw [hpv]
        obtain ⟨u, css, h1, h2, h3⟩ := hod
        refine ⟨u, css, h1.mono hG (Keeps.refl _ _), h2, fun g hg => ⟨(h3 g hg).1, fun o => ⟨fun hh => Or.elim hh (fun h0 => ⟨rfl, ?_⟩) (fun h0 => ⟨rfl, h0.2⟩), fun hh => Or.inr ⟨hg, hh.2⟩⟩⟩⟩
        exact (((h3 g hg).2 o).1 h0).2
      · left
        rw [hat, if_neg hn]
        refine ⟨rfl, hpv n', fun _ _ _ => rfl, fun m' _ hm => ?_, fun ho' g hg => ⟨rfl, rfl, hGx g (fun hh => ?_)⟩⟩
        · rw [hat] at hm ⊢
          by_cases hmn : m' = n
          · subst hmn
            rw [if_pos rfl, hq] at hm ⊢
            exact ⟨rfl, hpv _, fun k xs hx => by injection hx with h1; cases h1⟩
          · rw [if_neg hmn] at hm ⊢
            exact ⟨hm, hpv _, fun k xs hx => ⟨xs, hx, rfl⟩⟩
        · rw [h.own_pl ho' hg] at hh
          injection hh with hh; injection hh with hh
          exact hn hh
    · have hne : e.box d ≠ [] := fun h0 => hd (List.eq_nil_of_length_eq_zero (by rw [hlen.2.2, h0]; rfl))
      obtain ⟨b1, ⟨C, T, b2, b3⟩, b4, b5⟩ := h.bk d hne
      exact ⟨b1, ⟨C, T, b2, by rw [hlen.2.2]; exact b3⟩, b4, fun o hg => b5 o ((hGx (M.β d) (by rw [b4]; intro hh; cases hh) o).1 hg)⟩
    · unfold Env.share; rw [hq]; exact Env.set_h e n _
    · unfold Env.share at hi; rw [hq] at hi; exact Env.set_lp hi
    · obtain ⟨_, _, l3, _⟩ := h.lk i n' hi
      exact fun o hg => (hGx _ (by rw [l3]; intro hh; cases hh) o).1 hg
    · rw [hat]
      split
      · rename_i hio; exact absurd hio.symm (hnh i o)
      · exact h.hk i o
  | _ => rw [hq] at ho; cases ho
/-- A slice that a cell of the heap's has is read by others from now on, and written by nobody. -/
theorem St.freeze (h : St M e a w) (i o : Nat) {m : Bool} {k : Kd} {xs : List k.den} (hq : e.at_ (.b (.h i) o) = .o m k xs) :
    ∃ G', M.G.le G' ∧ G'.n = M.G.n ∧ St { M with G := G' } (e.setB (.h i) o (.l k xs)) a w ∧ RepV G' w (.list k) xs (pv M a w (.b (.h i) o)) := by
  have hod : OwnD M w (.b (.h i) o) m k xs (pv M a w (.b (.h i) o)) := by have := h.pr (.b (.h i) o); rw [hq] at this; exact this
  let G' : Com := M.G.more fun g o' => (pv M a w (.b (.h i) o)).ownBlock = some g ∧ o' < xs.length * k.size
  have hG : M.G.le G' := Com.le.more _ _
  have hGx : ∀ g, M.ow g ≠ some (.inl (.b (.h i) o)) → ∀ o, G' g o ↔ M.G g o := fun g hg o => ⟨fun hh => Or.elim hh id fun hh => by
    obtain ⟨_, _, _, _, h3⟩ := hod
    exact absurd (h3 g hh.1).1.1 hg, hG.c g o⟩
  have hrep : RepV G' w (.list k) xs (pv M a w (.b (.h i) o)) := hod.rep hG fun g hg o ho => Or.inr ⟨hg, ho⟩
  refine ⟨G', hG, rfl, ?_, hrep⟩
  have hlt : o < (e.box (.h i)).length := Nat.lt_of_not_le fun hle => by
    have : e.at_ (.b (.h i) o) = .un := by show e.cell (.h i) o = _; unfold Env.cell; rw [List.getD_eq_getElem?_getD, List.getElem?_eq_none hle]; rfl
    rw [this] at hq; cases hq
  have hat : ∀ n', n' ≠ .b (.h i) o → (e.setB (.h i) o (.l k xs)).at_ n' = e.at_ n' := fun n' hn => Env.at_set e (.b (.h i) o) _ n' hn
  have hself : (e.setB (.h i) o (.l k xs)).at_ (.b (.h i) o) = .l k xs := by rw [Env.at_setB, if_pos ⟨rfl, hlt⟩]
  have hlen : (e.setB (.h i) o (.l k xs)).t.length = e.t.length ∧ (e.setB (.h i) o (.l k xs)).b.length = e.b.length ∧ ∀ d, ((e.setB (.h i) o (.l k xs)).box d).length = (e.box d).length :=
    ⟨(Env.set_len e (.b (.h i) o) _).1, (Env.set_len e (.b (.h i) o) _).2, fun d => Env.box_set_len e (.b (.h i) o) _ d⟩
  have hpv : ∀ n', pv { M with G := G' } a w n' = pv M a w n' := fun n' => by cases n' <;> rfl
  refine h.step (by rw [hlen.1]; exact h.sz) (by rw [hlen.1, hlen.2.1]; exact h.bz) ⟨rfl, rfl⟩ (KO.refl w) rfl (Nat.le_refl _) (fun g o hg => ?_) hG (Keeps.refl _ _) (fun n' => ?_) (fun d hd => ?_) ⟨Env.set_h e (.b (.h i) o) _, fun i' n' hi => (show e.h[i']? = _ from Env.set_lp (show (e.set (.b (.h i) o) (.l k xs)).h[i']? = _ from hi)), rfl, fun _ => rfl⟩ (fun i n' hi => ⟨rfl, ?_⟩) (fun i' o' => ?_)
  · rcases hg with hg | ⟨hg, _⟩
    · exact .inl hg
    · right
      obtain ⟨_, _, _, h2, h3⟩ := hod
      exact ⟨(h3 g hg).1.2, (h2.lt g hg).2⟩
  · by_cases hn : n' = .b (.h i) o
    · subst hn
      right
      rw [hself]
      show RepV _ _ _ _ _
      rw [hpv]; exact hrep
    · left
      rw [hat n' hn]
      refine ⟨rfl, hpv n', fun _ _ _ => rfl, fun m' _ hm => ?_, fun ho' g hg => ⟨rfl, rfl, hGx g (fun hh => ?_)⟩⟩
      · by_cases hmn : m' = .b (.h i) o
        · subst hmn
          rw [hself] at hm; cases hm
        · rw [hat m' hmn] at hm ⊢
          exact ⟨hm, hpv _, fun k xs hx => ⟨xs, hx, rfl⟩⟩
      · rw [h.own_pl ho' hg] at hh
        injection hh with hh; injection hh with hh
        exact hn hh
  · have hne : e.box d ≠ [] := fun h0 => hd (List.eq_nil_of_length_eq_zero (by rw [hlen.2.2, h0]; rfl))
    obtain ⟨b1, ⟨C, T, b2, b3⟩, b4, b5⟩ := h.bk d hne
    exact ⟨b1, ⟨C, T, b2, by rw [hlen.2.2]; exact b3⟩, b4, fun o hg => b5 o ((hGx (M.β d) (by rw [b4]; intro hh; cases hh) o).1 hg)⟩
  · obtain ⟨_, _, l3, _⟩ := h.lk _ n' hi
    exact fun o hg => (hGx _ (by rw [l3]; intro hh; cases hh) o).1 hg
  · by_cases hn : (Pl.b (.h i') o') = .b (.h i) o
    · rw [hn, hself]; rfl
    · rw [hat _ hn]; exact h.hk i' o'
end
end Go.Pv
