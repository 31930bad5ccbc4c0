/- Boxes: a cell is written, a box is made. -/
import Derived.Test.YtdfdainmpklkiaaGreatDoorG5
set_option linter.unusedVariables false
set_option linter.unusedSimpArgs false
namespace Go.Pv
open Go.RowKit
section
variable {M : Mem} {e : Env} {a : Act} {w : World}
theorem at_of_empty {e : Env} {d : Bx} (hd : e.box d = []) (o : Nat) : e.at_ (.b d o) = .un := by show e.cell d o = _; unfold Env.cell; rw [hd]; rfl
theorem St.box_inj (h : St M e a w) {d d' : Bx} (h1 : e.box d ≠ []) (h2 : e.box d' ≠ []) (he : M.β d = M.β d') : d = d' := by
  have a1 := (h.bk d h1).2.2.1
  have a2 := (h.bk d' h2).2.2.1
  rw [he, a2] at a1
  injection a1 with a1; injection a1 with a1; exact a1.symm
/-- A box's cell is written. -/
theorem St.setB (h : St M e a w) (d : Bx) (o : Nat) {p : PV} {v : Value} (ho : o < (e.box d).length) (hhk : ∀ i, d = .h i → hokB p = true)
    (hp : (isO p = false ∧ ∃ n0, PR M w e.at_ (pv M a w) n0 p v) ∨ (∃ m k xs, p = .o m k xs ∧ OwnD M w (.b d o) m k xs v ∧ ∀ n, ¬ refs (e.at_ n) (.b d o))) :
    St M (e.setB d o p) a (w.setCell ⟨M.β d, o, none⟩ v) := by
  have hne : e.box d ≠ [] := fun h0 => by rw [h0] at ho; simp at ho
  obtain ⟨b1, ⟨C, T, b2, b3⟩, b4, b5⟩ := h.bk d hne
  let w' := w.setCell ⟨M.β d, o, none⟩ v
  have hheap : ∀ g, g ≠ M.β d → w'.heap[g]? = w.heap[g]? := fun g hg => heap_setCell_other w ⟨M.β d, o, none⟩ g v hg
  have hsame : w'.heap[M.β d]? = some (.cells (C.setIfInBounds o v) T (0, 0)) := heap_setCell_same w (M.β d) o C T v b2
  have hpv : ∀ n, (∃ d' oq, n = .b d' oq ∧ e.box d' = []) ∨ pv M a w' n = if n = .b d o then v else pv M a w n := fun n => by
    cases n with
    | t n => right; rw [if_neg (fun hh => by cases hh)]; rfl
    | b d' oq =>
      by_cases hd' : e.box d' = []
      · exact .inl ⟨d', oq, rfl, hd'⟩
      · right
        show (w'.cell? ⟨M.β d', oq, none⟩).getD undef = _
        by_cases hdd : d' = d
        · subst hdd
          rw [cell_of_row w' _ oq _ T (0, 0) hsame, Array.getElem?_setIfInBounds]
          by_cases hoo : o = oq
          · subst hoo; rw [if_pos rfl, if_pos (by omega), if_pos rfl]; rfl
          · rw [if_neg hoo, if_neg (fun hh => hoo (by injection hh with _ hh; exact hh.symm))]
            show _ = (w.cell? ⟨M.β d', oq, none⟩).getD undef
            rw [cell_of_row w _ oq C T (0, 0) b2]
        · rw [if_neg (fun hh => hdd (by injection hh)), World.cell?_of_block (a := ⟨M.β d', oq, none⟩) (hheap _ (fun hh => hdd (h.box_inj hd' hne hh)))]
          rfl
  have hat : ∀ n, (e.setB d o p).at_ n = if n = .b d o then p else e.at_ n := fun n => by
    rw [Env.at_setB]
    by_cases hn : n = .b d o
    · rw [if_pos ⟨hn, ho⟩, if_pos hn]
    · rw [if_neg (fun hh => hn hh.1), if_neg hn]
  have hk : ∀ m, (m = .b d o → isO p = false) → Kept e.at_ (e.setB d o p).at_ (pv M a w) (pv M a w') m := fun m hm hx => by
    rw [hat] at hx ⊢
    by_cases hmn : m = .b d o
    · rw [if_pos hmn, hm hmn] at hx; cases hx
    · rw [if_neg hmn] at hx ⊢
      refine ⟨hx, ?_, fun k xs hq => ⟨xs, hq, rfl⟩⟩
      rcases hpv m with ⟨d', oq, rfl, hd'⟩ | h1
      · rw [at_of_empty hd'] at hx; cases hx
      · rw [h1, if_neg hmn]
  have hG : Keeps M.G w w' := keeps_of_blocks fun g oq hg => hheap g (fun hh => b5 oq (hh ▸ hg))
  have hown : ∀ g n, M.ow g = some (.inl n) → g ≠ M.β d := fun g n hg hh => by rw [hh, b4] at hg; cases hg
  refine h.step (by rw [Env.setB_t]; exact h.sz) (by rw [Env.setB_len, Env.setB_t]; exact h.bz) ⟨rfl, rfl⟩ (KO.but b2 hheap) rfl (by simp [World.setCell]) (fun g o hg => .inl hg) (Com.le.refl _) hG (fun n => ?_) (fun d' hd' => ?_) ⟨Env.setB_h e d o p, fun _ _ h => Env.setB_lp h, rfl, fun _ => rfl⟩ (fun _ _ _ => ⟨rfl, fun _ h => h⟩) (fun i oq => ?_)
  · by_cases hn : n = .b d o
    · subst hn
      right
      rcases hpv (.b d o) with ⟨d', oq, hh, hd'⟩ | h1
      · injection hh with hh1 hh2; subst hh1; exact absurd hd' hne
      · rw [hat, if_pos rfl, h1, if_pos rfl]
        rcases hp with ⟨hp1, n0, hp2⟩ | ⟨m, k, xs, rfl, hp2, hp3⟩
        · exact hp2.keep hp1 (Com.le.refl _) hG (fun _ _ _ => rfl) (fun m _ => hk m (fun _ => hp1))
        · refine OwnD.keep hp2 rfl (Com.le.refl _) hG (fun g hg => ⟨hheap g ?_, rfl, fun _ => Iff.rfl⟩)
          obtain ⟨_, _, _, _, h3⟩ := hp2
          exact hown g _ (h3 g hg).1.1
    · rcases hpv n with ⟨d', oq, rfl, hd'⟩ | h1
      · right; rw [hat, if_neg hn, at_of_empty hd']; trivial
      · left
        rw [hat, if_neg hn, h1, if_neg hn]
        refine ⟨rfl, rfl, fun _ _ _ => rfl, fun m hm => hk m (fun hmn => ?_), fun hio g hg => ⟨hheap g (hown g _ (h.own_pl hio hg)), rfl, fun _ => Iff.rfl⟩⟩
        subst hmn
        rcases hp with ⟨hp1, _⟩ | ⟨_, _, _, _, _, hp3⟩
        · exact hp1
        · exact absurd hm (hp3 n)
  · have hlen : ((e.setB d o p).box d').length = (e.box d').length := Env.box_set_len e (.b d o) p d'
    have hne' : e.box d' ≠ [] := fun h0 => hd' (List.eq_nil_of_length_eq_zero (by rw [hlen, h0]; rfl))
    obtain ⟨c1, ⟨C', T', c2, c3⟩, c4, c5⟩ := h.bk d' hne'
    by_cases hdd : d' = d
    · subst hdd
      refine ⟨c1, ⟨_, T, hsame, ?_⟩, c4, c5⟩
      rw [hlen, Array.size_setIfInBounds]; exact b3
    · exact ⟨c1, ⟨C', T', by rw [← c2]; exact hheap _ (fun hh => hdd (h.box_inj hne' hne hh)), by rw [hlen]; exact c3⟩, c4, c5⟩
  · rw [hat]
    split
    · rename_i hn; injection hn with hn1 hn2; exact hhk i hn1.symm
    · exact h.hk i oq
theorem unbox_hok (d : Nat) {p : PV} (h : hokB p = true) : unbox d p = p := by cases p <;> first | rfl | cases h
/-- A box is made. -/
theorem St.newB (h : St M e a w) (d : Nat) {ps : List PV} {cs : List Value} {T : TypeId} (hl : cs.length = ps.length)
    (hp : ∀ (i : Nat) (p : PV) (v : Value), ps[i]? = some p → cs[i]? = some v → (isO p = false ∧ (∀ m, ¬ refs p m) ∧ (∀ d off, p ≠ .bx d off) ∧ ∃ n0, PR M w e.at_ (pv M a w) n0 p v) ∨ (∃ m k, p = .o m k [] ∧ v = .slice none 0 0)) :
    ∃ M', M'.key = M.key ∧ M'.G = M.G ∧ M'.dfs = M.dfs ∧ M'.β (.s d) = w.heap.size ∧ St M' (e.newB d ps) a (w.alloc (.cells cs.toArray T)) := by
  let M' : Mem := { M with β := fun d' => if d' = .s d then w.heap.size else M.β d', ow := fun g => if g = w.heap.size then some (.inr (.s d)) else M.ow g }
  let w' := w.alloc (.cells cs.toArray T)
  have hbd : M'.β (.s d) = w.heap.size := by simp [M']
  have hbd' : ∀ d' : Bx, d' ≠ .s d → M'.β d' = M.β d' := fun d' hd' => by simp [M', hd']
  have how : ∀ g, g < w.heap.size → M'.ow g = M.ow g := fun g hg => by show (if g = _ then _ else _) = _; rw [if_neg (by omega)]
  have hold : ∀ g, g < w.heap.size → w'.heap[g]? = w.heap[g]? := fun g hg => heap_alloc_old w _ g hg
  have hnew : w'.heap[w.heap.size]? = some (.cells cs.toArray T (0, 0)) := heap_alloc_new w _
  have hbox : ∀ d', (e.newB d ps).box d' = if .s d = d' ∧ d < e.b.length then ps else (e.scrubB d).box d' := fun d' => by
    cases d' with
    | h i => rw [if_neg (fun hh => by cases hh.1)]; rfl
    | s d' =>
      show ((e.scrubB d).b.set d ps).getD d' [] = _
      have hlen : (e.scrubB d).b.length = e.b.length := by simp [Env.scrubB, Env.map]
      rw [List.getD_eq_getElem?_getD, List.getElem?_set]
      by_cases hdd : d = d'
      · subst hdd
        by_cases hlt : d < e.b.length
        · simp [hlen, hlt]
        · rw [if_pos rfl, if_neg (by omega), if_neg (by omega)]
          show _ = (e.scrubB d).b.getD d []
          rw [List.getD_eq_getElem?_getD, List.getElem?_eq_none (by show (e.scrubB d).b.length ≤ d; omega)]
      · rw [if_neg hdd, if_neg (fun hh => hdd (by injection hh.1))]; rw [← List.getD_eq_getElem?_getD]; rfl
  have hslot : ∀ n, (e.newB d ps).slot n = unbox d (e.slot n) := fun n => Env.slot_map e (unbox d) rfl n
  have hat : ∀ n, (∃ o, n = .b (.s d) o ∧ d < e.b.length ∧ (e.newB d ps).at_ n = ps.getD o .un) ∨ ((∀ o, d < e.b.length → n ≠ .b (.s d) o) ∧ (e.newB d ps).at_ n = unbox d (e.at_ n)) := fun n => by
    cases n with
    | t n => right; exact ⟨fun o _ hh => (by cases hh), hslot n⟩
    | b d' o =>
      by_cases hc : .s d = d' ∧ d < e.b.length
      · left
        refine ⟨o, by rw [hc.1], hc.2, ?_⟩
        show ((e.newB d ps).box d').getD o .un = _
        rw [hbox, if_pos hc]
      · right
        refine ⟨fun oq hlt hh => hc ⟨by injection hh with hh; exact hh.symm, hlt⟩, ?_⟩
        have h1 : (e.newB d ps).at_ (.b d' o) = (e.scrubB d).at_ (.b d' o) := by
          show ((e.newB d ps).box d').getD o .un = ((e.scrubB d).box d').getD o .un
          rw [hbox, if_neg hc]
        rw [h1]
        rcases Env.at_map e (unbox d) rfl (.b d' o) with h2 | ⟨⟨i, oq, hio⟩, h2⟩
        · exact h2
        · rw [show (e.scrubB d).at_ (.b d' o) = _ from h2]
          injection hio with hi1 hi2
          subst hi1
          exact (unbox_hok d (h.hk i o)).symm
  have hub : ∀ n, unbox d (e.at_ n) ≠ .un → unbox d (e.at_ n) = e.at_ n := fun n hn => (unbox_spec d (e.at_ n)).resolve_right (fun hh => hn hh.1)
  have hbz : d < e.b.length ∨ e.box (.s d) = [] := by
    by_cases hlt : d < e.b.length
    · exact .inl hlt
    · right; show e.b.getD d [] = []; rw [List.getD_eq_getElem?_getD, List.getElem?_eq_none (Nat.le_of_not_lt hlt)]; rfl
  have hpvo : ∀ n, (∀ o, n ≠ .b (.s d) o) → e.at_ n ≠ .un → pv M' a w' n = pv M a w n := fun n hn hu => by
    cases n with
    | t n => rfl
    | b d' o =>
      have hdd : d' ≠ .s d := fun hh => hn o (by rw [hh])
      have hne : e.box d' ≠ [] := fun h0 => hu (at_of_empty h0 o)
      obtain ⟨_, ⟨C, T', c2, _⟩, _⟩ := h.bk d' hne
      show (w'.cell? ⟨M'.β d', o, none⟩).getD undef = (w.cell? ⟨M.β d', o, none⟩).getD undef
      rw [hbd' d' hdd, World.cell?_of_block (a := ⟨M.β d', o, none⟩) (hold _ (Array.getElem?_eq_some_iff.1 c2).1)]
  have hne_d : ∀ n, (∀ o, d < e.b.length → n ≠ .b (.s d) o) → e.at_ n ≠ .un → ∀ o, n ≠ .b (.s d) o := fun n hn hu o hh => by
    rcases hbz with hlt | h0
    · exact hn o hlt hh
    · subst hh; exact hu (at_of_empty h0 o)
  have hkept : ∀ m, (∀ o, m ≠ .b (.s d) o) → Kept e.at_ (e.newB d ps).at_ (pv M a w) (pv M' a w') m := fun m hm hx => by
    rcases hat m with ⟨o, hh, _⟩ | ⟨_, h1⟩
    · exact absurd hh (hm o)
    · rw [h1] at hx ⊢
      have hu : unbox d (e.at_ m) ≠ .un := fun hh => by rw [hh] at hx; cases hx
      rw [hub m hu] at hx ⊢
      exact ⟨hx, hpvo m hm (fun hh => by rw [hh] at hx; cases hx), fun k xs hq => ⟨xs, hq, rfl⟩⟩
  have hkp : Keeps M.G w w' := keeps_of_blocks fun g o hg => hold g (h.cb g o hg)
  have hnh : ∀ i, M'.β (.h i) = M.β (.h i) := fun i => hbd' _ (by intro hh; cases hh)
  refine ⟨M', rfl, rfl, rfl, hbd, ?_⟩
  refine h.step (by simpa [Env.newB, Env.scrubB, Env.map] using h.sz) (by simpa [Env.newB, Env.scrubB, Env.map] using h.bz) ⟨rfl, rfl⟩ (KO.of_blocks hold) rfl (by simp) (fun g o hg => .inl hg) (Com.le.refl _) hkp (fun n => ?_) (fun d' hd' => ?_) ⟨rfl, fun _ _ h => h, rfl, hnh⟩ (fun i n hi => ⟨how _ ?_, fun _ h => h⟩) (fun i o => h.hk i o)
  · rcases hat n with ⟨o, rfl, hlt, h1⟩ | ⟨hn, h1⟩
    · right
      rw [h1]
      by_cases ho : o < ps.length
      · have e1 : ps[o]? = some ps[o] := List.getElem?_eq_getElem ho
        have e2 : cs[o]? = some (cs[o]'(by omega)) := List.getElem?_eq_getElem (by omega)
        have e3 : pv M' a w' (.b (.s d) o) = cs[o]'(by omega) := by
          show (w'.cell? ⟨M'.β (.s d), o, none⟩).getD undef = _
          rw [hbd, cell_of_row w' _ o _ T (0, 0) hnew]
          simp [e2]
        rw [List.getD_eq_getElem?_getD, e1, e3]
        rcases hp o _ _ e1 e2 with ⟨q1, q2, q3, n0, q4⟩ | ⟨m, k, q1, q2⟩
        · exact q4.keep q1 (Com.le.refl _) hkp (fun d' off hh => absurd hh (q3 d' off)) (fun m hm => absurd hm (q2 m))
        · show PR M' w' _ _ _ ps[o] _
          rw [q1, q2]; exact OwnD.nil M' w' _ m k
      · rw [List.getD_eq_getElem?_getD, List.getElem?_eq_none (by omega)]; trivial
    · by_cases hu : unbox d (e.at_ n) = .un
      · right; rw [h1, hu]; trivial
      · left
        have hu' : e.at_ n ≠ .un := fun hh => hu (by rw [hh]; rfl)
        have hnb := hne_d n hn hu'
        have hsame := hub n hu
        refine ⟨by rw [h1, hsame], hpvo n hnb hu', fun d' off hh => ?_, fun m hm => hkept m (fun o hmo => ?_), fun hio g hg => ?_⟩
        · refine hbd' (.s d') (fun hdd => hu ?_)
          injection hdd with hdd
          rw [hh, hdd]; simp [unbox]
        · subst hmo
          cases hq : e.at_ n with
          | r q => rw [hq] at hm; cases hm; exact hu (by rw [hq]; simp [unbox])
          | ra q i p => rw [hq] at hm; cases hm; exact hu (by rw [hq]; simp [unbox])
          | ag qs =>
            rw [hq] at hm
            have hm : PV.r (.b (.s d) o) ∈ qs := hm
            refine hu ?_
            rw [hq]
            show (if _ then PV.un else _) = _
            rw [if_pos (List.any_eq_true.2 ⟨_, hm, by simp [isRefB]⟩)]
          | rh k i o ix q => rw [hq] at hm; cases hm
          | _ => rw [hq] at hm; cases hm
        · have hlt : g < w.heap.size := by
            have := h.pr n
            cases hq : e.at_ n with
            | o m k xs => rw [hq] at this; obtain ⟨_, _, _, h2, _⟩ := this; exact (h2.lt g hg).2
            | _ => rw [hq] at hio; cases hio
          exact ⟨hold g hlt, how g hlt, fun _ => Iff.rfl⟩
  · rw [hbox] at hd' ⊢
    by_cases hc : .s d = d' ∧ d < e.b.length
    · rw [if_pos hc] at hd' ⊢
      obtain ⟨rfl, hlt⟩ := hc
      refine ⟨.inr (by rw [hbd]; exact h.lo), ⟨cs.toArray, T, by rw [hbd]; exact hnew, by simpa using hl⟩, by rw [hbd]; show (if _ = _ then _ else _) = _; rw [if_pos rfl], fun o hg => ?_⟩
      rw [hbd] at hg; exact absurd (h.cb _ _ hg) (by omega)
    · rw [if_neg hc] at hd' ⊢
      have hll : ((e.scrubB d).box d').length = (e.box d').length := map_box_len e _ d'
      have hne : e.box d' ≠ [] := fun h0 => hd' (List.eq_nil_of_length_eq_zero (by rw [hll, h0]; rfl))
      have hdd : d' ≠ .s d := fun hh => by
        subst hh
        rcases hbz with hlt | h0
        · exact hc ⟨rfl, hlt⟩
        · exact hne h0
      obtain ⟨c1, ⟨C', T', c2, c3⟩, c4, c5⟩ := h.bk d' hne
      have hlt := (Array.getElem?_eq_some_iff.1 c2).1
      rw [hbd' d' hdd]
      exact ⟨c1, ⟨C', T', by rw [← c2]; exact hold _ hlt, by rw [hll]; exact c3⟩, by rw [← c4]; exact how _ hlt, c5⟩
  · obtain ⟨r, hr⟩ := h.loopy_lt ⟨i, n, hi, rfl⟩
    exact (Array.getElem?_eq_some_iff.1 hr).1
theorem Hcs_append (h : Hp) (x : HO) (i : Nat) : Hcs (h ++ [x]) i = if i = h.length then x.cs else Hcs h i := by
  unfold Hcs
  rw [List.getD_eq_getElem?_getD, List.getD_eq_getElem?_getD]
  by_cases hi : i = h.length
  · subst hi; simp
  · rw [if_neg hi, List.getElem?_append]
    split
    · rfl
    · rw [List.getElem?_eq_none (by simp; omega), List.getElem?_eq_none (by omega)]
theorem Hcs_len (h : Hp) : Hcs h h.length = [] := by unfold Hcs; simp [HO.cs]
def Com.one (G : Com) (g : Nat) (r : Loop) : Com := { G with n := G.n + 1, adr := fun i => if i = G.n then g else G.adr i, lr := fun i => if i = G.n then r else G.lr i }
theorem Com.le.one (G : Com) (g : Nat) (r : Loop) : G.le (G.one g r) :=
  ⟨fun _ _ h => h, Nat.le_succ _, fun i hi => by show (if _ then _ else _) = _; rw [if_neg (by omega)], fun i hi => by show (if _ then _ else _) = _; rw [if_neg (by omega)], rfl⟩
/-- The heap gets a new object. -/
theorem St.newObj (h : St M e a w) (x : HO) (o : Obj) (r : Loop) (hx : (x = .c x.cs ∧ ∃ C T, o = .cells C T (0, 0) ∧ C.size = x.cs.length ∧
      ∀ (i : Nat) (p : PV) (v : Value), x.cs[i]? = some p → C[i]? = some v → hokB p = true ∧ ((isO p = false ∧ ∃ n0, PR M w e.at_ (pv M a w) n0 p v) ∨ ∃ m k xs, p = .o m k xs ∧ OwnD M w (.b (.h e.h.length) i) m k xs v)) ∨ ∃ n, x = .lp n ∧ o = .loop (lpObj r n)) :
    ∃ M', M'.key = M.key ∧ M'.G = M.G.one w.heap.size r ∧ M'.dfs = M.dfs ∧ M'.β (.h e.h.length) = w.heap.size ∧ St M' { e with h := e.h ++ [x] } a (w.alloc o) := by
  let N := e.h.length
  let M' : Mem := { M with G := M.G.one w.heap.size r, β := fun d' => if d' = .h N then w.heap.size else M.β d', ow := fun g => if g = w.heap.size then some (.inr (.h N)) else M.ow g }
  let w' := w.alloc o
  let e' : Env := { e with h := e.h ++ [x] }
  have hGn : M.G.n = N := h.ha.1
  have hbd : M'.β (.h N) = w.heap.size := by simp [M']
  have hbd' : ∀ d' : Bx, d' ≠ .h N → M'.β d' = M.β d' := fun d' hd' => by simp [M', hd']
  have how : ∀ g, g < w.heap.size → M'.ow g = M.ow g := fun g hg => by show (if g = _ then _ else _) = _; rw [if_neg (by omega)]
  have hold : ∀ g, g < w.heap.size → w'.heap[g]? = w.heap[g]? := fun g hg => heap_alloc_old w _ g hg
  have hnew : w'.heap[w.heap.size]? = some o := heap_alloc_new w _
  have hG : M.G.le M'.G := Com.le.one _ _ _
  have hbox : ∀ d', e'.box d' = if d' = .h N then x.cs else e.box d' := fun d' => by
    cases d' with
    | s d' => rw [if_neg (by intro hh; cases hh)]; rfl
    | h i =>
      show Hcs (e.h ++ [x]) i = _
      rw [Hcs_append]
      by_cases hi : i = N
      · rw [if_pos hi, if_pos (by rw [hi])]
      · rw [if_neg hi, if_neg (by intro hh; injection hh with hh; exact hi hh)]; rfl
  have hN : e.box (.h N) = [] := Hcs_len e.h
  have hat : ∀ n, (∃ o, n = .b (.h N) o ∧ e'.at_ n = x.cs.getD o .un) ∨ ((∀ o, n ≠ .b (.h N) o) ∧ e'.at_ n = e.at_ n) := fun n => by
    cases n with
    | t n => exact .inr ⟨fun o hh => (by cases hh), rfl⟩
    | b d' o =>
      by_cases hd : d' = .h N
      · subst hd
        exact .inl ⟨o, rfl, by show (e'.box _).getD o .un = _; rw [hbox, if_pos rfl]⟩
      · exact .inr ⟨fun oq hh => hd (by injection hh), by show (e'.box d').getD o .un = _; rw [hbox, if_neg hd]; rfl⟩
  have hpvo : ∀ n, (∀ o, n ≠ .b (.h N) o) → e.at_ n ≠ .un → pv M' a w' n = pv M a w n := fun n hn hu => by
    cases n with
    | t n => rfl
    | b d' o =>
      have hdd : d' ≠ .h N := fun hh => hn o (by rw [hh])
      have hne : e.box d' ≠ [] := fun h0 => hu (at_of_empty h0 o)
      obtain ⟨_, ⟨C, T', c2, _⟩, _⟩ := h.bk d' hne
      show (w'.cell? ⟨M'.β d', o, none⟩).getD undef = (w.cell? ⟨M.β d', o, none⟩).getD undef
      rw [hbd' d' hdd, World.cell?_of_block (a := ⟨M.β d', o, none⟩) (hold _ (Array.getElem?_eq_some_iff.1 c2).1)]
  have hkept : ∀ m, (∀ o, m ≠ .b (.h N) o) → Kept e.at_ e'.at_ (pv M a w) (pv M' a w') m := fun m hm hx' => by
    rcases hat m with ⟨o, hh, _⟩ | ⟨_, h1⟩
    · exact absurd hh (hm o)
    · rw [h1] at hx' ⊢
      exact ⟨hx', hpvo m hm (fun hh => by rw [hh] at hx'; cases hx'), fun k xs hq => ⟨xs, hq, rfl⟩⟩
  have hkp : Keeps M.G w w' := keeps_of_blocks fun g o hg => hold g (h.cb g o hg)
  have hnoref : ∀ n m, refs (e.at_ n) m → ∀ o, m ≠ .b (.h N) o ∨ e.at_ m = .un := fun n m _ o => by
    by_cases hm : m = .b (.h N) o
    · right; subst hm; exact at_of_empty hN o
    · exact .inl hm
  refine ⟨M', rfl, rfl, rfl, hbd, ?_⟩
  refine h.step' h.sz h.bz ⟨h.df.1, fun D hD => KO.of_blocks hold D _ (h.df.2 D hD) rfl⟩ h.nd rfl (by simp) (fun g o hg => .inl hg) hG hkp (fun n => ?_) (fun d' hd' => ?_) (fun i n hi => ?_) ⟨?_, fun i hi => ?_⟩ (fun i o => ?_)
  · rcases hat n with ⟨oq, rfl, h1⟩ | ⟨hn, h1⟩
    · right
      show PR M' w' e'.at_ (pv M' a w') _ (e'.at_ _) _
      rw [h1]
      rcases hx with ⟨hx0, C, T, rfl, hC, hp⟩ | ⟨n, rfl, _⟩
      · by_cases ho : oq < x.cs.length
        · have e1 : x.cs[oq]? = some x.cs[oq] := List.getElem?_eq_getElem ho
          have e2 : C[oq]? = some (C[oq]'(by omega)) := Array.getElem?_eq_getElem (by omega)
          have e3 : pv M' a w' (.b (.h N) oq) = C[oq]'(by omega) := by
            show (w'.cell? ⟨M'.β (.h N), oq, none⟩).getD undef = _
            rw [hbd, cell_of_row w' _ oq _ T (0, 0) hnew]
            simp [e2]
          rw [List.getD_eq_getElem?_getD, e1, e3]
          obtain ⟨q0, q⟩ := hp oq _ _ e1 e2
          rcases q with ⟨q1, n0, q4⟩ | ⟨m, k, xs, q1, q2⟩
          · refine q4.keep q1 hG hkp (fun d' off hh => ?_) (fun m hm => absurd hm (refs_hok q0 m))
            rw [hh] at q0; cases q0
          · show PR M' w' _ _ _ x.cs[oq] _
            rw [q1]
            have hlt : ∀ g, (C[oq]'(by omega)).ownBlock = some g → g < w.heap.size := fun g hg => by
              obtain ⟨_, _, _, r2, _⟩ := q2; exact (r2.lt g hg).2
            exact OwnD.keep q2 rfl hG hkp (fun g hg => ⟨hold g (hlt g hg), how g (hlt g hg), fun _ => Iff.rfl⟩)
        · rw [List.getD_eq_getElem?_getD, List.getElem?_eq_none (by omega)]; trivial
      · show PR M' w' _ _ _ (([] : List PV).getD oq .un) _; trivial
    · by_cases hu : e.at_ n = .un
      · right; show PR M' w' e'.at_ (pv M' a w') n (e'.at_ n) _; rw [h1, hu]; trivial
      · left
        refine ⟨h1, hpvo n hn hu, fun d' off _ => hbd' _ (by intro hh; cases hh), fun m hm => ?_, fun hio g hg => ?_⟩
        · refine hkept m (fun o hh => ?_)
          have := (h.pr n).okH hm
          rw [hh] at this
          have : N < M.G.n := this
          omega
        · have hlt : g < w.heap.size := by
            have := h.pr n
            cases hq : e.at_ n with
            | o m k xs => rw [hq] at this; obtain ⟨_, _, _, h2, _⟩ := this; exact (h2.lt g hg).2
            | _ => rw [hq] at hio; cases hio
          exact ⟨hold g hlt, how g hlt, fun _ => Iff.rfl⟩
  · rw [hbox] at hd' ⊢
    by_cases hc : d' = .h N
    · rw [if_pos hc] at hd' ⊢
      subst hc
      rcases hx with ⟨hx0, C, T, rfl, hC, hp⟩ | ⟨n, rfl, _⟩
      · refine ⟨.inr (by rw [hbd]; exact h.lo), ⟨C, T, by rw [hbd]; exact hnew, hC⟩, by rw [hbd]; show (if _ = _ then _ else _) = _; rw [if_pos rfl], fun o hg => ?_⟩
        rw [hbd] at hg; exact absurd (h.cb _ _ hg) (by omega)
      · exact absurd rfl hd'
    · rw [if_neg hc] at hd' ⊢
      obtain ⟨c1, ⟨C', T', c2, c3⟩, c4, c5⟩ := h.bk d' hd'
      have hlt := (Array.getElem?_eq_some_iff.1 c2).1
      rw [hbd' d' hc]
      exact ⟨c1, ⟨C', T', by rw [← c2]; exact hold _ hlt, c3⟩, by rw [← c4]; exact how _ hlt, c5⟩
  · have hi : (e.h ++ [x])[i]? = some (HO.lp n) := hi
    rw [List.getElem?_append] at hi
    by_cases hiN : i < N
    · rw [if_pos hiN] at hi
      obtain ⟨l1, l2, l3, l4⟩ := h.lk i n hi
      have hlt := (Array.getElem?_eq_some_iff.1 l2).1
      have hne : (Bx.h i) ≠ .h N := by intro hh; injection hh; omega
      rw [hbd' _ hne]
      refine ⟨l1, ?_, by rw [how _ hlt]; exact l3, l4⟩
      rw [hold _ hlt, l2]
      show some (Obj.loop (lpObj (M.G.lr i) n)) = some (Obj.loop (lpObj (if i = M.G.n then r else M.G.lr i) n))
      rw [if_neg (by omega)]
    · rw [if_neg hiN] at hi
      have hiN' : i = N := by
        have := (List.getElem?_eq_some_iff.1 hi).1
        simp at this; omega
      subst hiN'
      have hx1 : x = .lp n := by
        rw [show N - e.h.length = 0 by omega] at hi
        simpa using hi
      subst hx1
      rcases hx with ⟨hx0, _⟩ | ⟨n', hn, ho⟩
      · cases hx0
      · injection hn with hn
        subst hn
        subst ho
        refine ⟨.inr (by rw [hbd]; exact h.lo), ?_, by rw [hbd]; show (if _ = _ then _ else _) = _; rw [if_pos rfl], fun o hg => ?_⟩
        · rw [hbd, hnew]
          show some (Obj.loop (lpObj r n)) = some (Obj.loop (lpObj (if N = M.G.n then r else M.G.lr N) n))
          rw [if_pos hGn.symm]
        · rw [hbd] at hg; exact absurd (h.cb _ _ hg) (by omega)
  · show M.G.n + 1 = (e.h ++ [x]).length
    rw [List.length_append, hGn]; rfl
  · show (if i = M.G.n then w.heap.size else M.G.adr i) = (if Bx.h i = Bx.h N then w.heap.size else M.β (.h i))
    have hi : i < M.G.n + 1 := hi
    by_cases hiN : i = N
    · rw [if_pos (by omega), if_pos (by rw [hiN])]
    · rw [if_neg (by omega), if_neg (by intro hh; injection hh with hh; exact hiN hh)]; exact h.ha.2 i (by omega)
  · rcases hat (.b (.h i) o) with ⟨oq, hh, h1⟩ | ⟨_, h1⟩
    · show hokB (e'.at_ _) = true
      injection hh with hh1 hh2
      subst hh2
      rw [h1]
      rcases hx with ⟨hx0, C, T, rfl, hC, hp⟩ | ⟨n, rfl, _⟩
      · by_cases ho : o < x.cs.length
        · have e1 : x.cs[o]? = some x.cs[o] := List.getElem?_eq_getElem ho
          have e2 : C[o]? = some (C[o]'(by omega)) := Array.getElem?_eq_getElem (by omega)
          rw [List.getD_eq_getElem?_getD, e1]
          exact (hp o _ _ e1 e2).1
        · rw [List.getD_eq_getElem?_getD, List.getElem?_eq_none (by omega)]; rfl
      · rfl
    · show hokB (e'.at_ _) = true
      rw [h1]; exact h.hk i o
end
end Go.Pv
