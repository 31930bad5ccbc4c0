/- A loop over a function: its record, its frozen frame, its rounds. -/
import Derived.Test.YtdfdainmpklkiaaGreatDoorG17
set_option linter.unusedVariables false
set_option linter.unusedSimpArgs false
namespace Go.Pv
open Go.RowKit
section
variable {P : Program} {c : Cx} {M : Mem} {e : Env} {a : Act} {w : World} {ρ : Type} {r : ρ}
/-! ### The yield that is in force -/
def Mem.yl (M : Mem) (l : Nat) : Mem := { M with G := { M.G with yl := l }, dfs := [] }
theorem Holds.yl {G : Com} {l g o : Nat} {ds : List Value} (h : Holds G w g o ds) : Holds { G with yl := l } w g o ds := h
theorem Rep.yl {G : Com} {l : Nat} : ∀ {k : Kd} {x : k.den} {cs : List Value}, Rep G w k x cs → Rep { G with yl := l } w k x cs
  | .int _, _, _, h => h
  | .bool, _, _, h => h
  | .str, _, _, h => h
  | .unit, _, _, h => h
  | .pair a b, x, cs, h => by
    obtain ⟨c1, c2, h0, h1, h2⟩ := h
    exact ⟨c1, c2, h0, h1.yl, h2.yl⟩
  | .ptr, _, _, h => h
  | .fn, _, _, h => h
  | .err, _, _, h => h
  | .list e, xs, cs, h => by
    obtain ⟨A, c, h0, h1, h2⟩ := h
    refine ⟨A, c, h0, h1, fun hne => ?_⟩
    obtain ⟨g, o, h3, h4⟩ := h2 hne
    refine ⟨g, o, h3, fun i hi => ?_⟩
    obtain ⟨ds, h5, h6⟩ := h4 i hi
    exact ⟨ds, h5, h6.yl⟩
theorem RepV.yl {G : Com} {l : Nat} {k : Kd} {x : k.den} {v : Value} (h : RepV G w k x v) : RepV { G with yl := l } w k x v := by
  obtain ⟨cs, h1, h2⟩ := h
  exact ⟨cs, h1.yl, h2⟩
theorem Elems.yl {G : Com} {l : Nat} {k : Kd} : ∀ {xs : List k.den} {cs : List (List Value)}, Elems G w k xs cs → Elems { G with yl := l } w k xs cs
  | [], [], _ => trivial
  | _ :: _, _ :: _, h => ⟨h.1.yl, Elems.yl h.2⟩
theorem OwnD.yl {l : Nat} {n : Pl} {m : Bool} {k : Kd} {xs : List k.den} {v : Value} (h : OwnD M w n m k xs v) : OwnD (M.yl l) w n m k xs v := by
  obtain ⟨u, css, h1, h2, h3⟩ := h
  exact ⟨u, css, h1.yl, h2, h3⟩
/-- What a heap's cell may hold does not hang on the yield, nor on where it is looked at from. -/
theorem PR.hok {l : Nat} {at_ at_' : Pl → PV} {q q' : Pl → Value} {n : Pl} {p : PV} {v : Value} (ho : hokB p = true) (h : PR M w at_ q n p v) : PR (M.yl l) w at_' q' n p v := by
  cases p with
  | i k x => exact h
  | b x => exact h
  | s x => exact h
  | l e xs => exact RepV.yl h
  | o m k xs => exact OwnD.yl h
  | p x => exact RepV.yl h
  | e x => exact RepV.yl h
  | nilf => exact h
  | un => trivial
  | _ => cases ho
/-- The heap alone, under another yield. -/
theorem St.heap (h : St M e a w) (l : Nat) : HS (M.yl l) e.h w where
  sz := rfl
  bz := rfl
  df := ⟨rfl, fun D hD => by cases hD⟩
  nd := ⟨List.nodup_nil, fun D hD => by cases hD⟩
  lo := h.lo
  cb := h.cb
  fr := h.fr
  pr := fun n => by
    cases n with
    | t n => trivial
    | b d o =>
      cases d with
      | s d => trivial
      | h i => exact PR.hok (h.hk i o) (h.pr (.b (.h i) o))
  bk := fun d hd => by
    cases d with
    | s d => exact absurd rfl hd
    | h i => exact h.bk (.h i) hd
  lk := h.lk
  ha := h.ha
  hk := h.hk
theorem HS.yl {h : Hp} (hs : HS M h w) (l : Nat) : HS (M.yl l) h w := St.heap (e := hEnv h) hs l
theorem Mem.yl_key (M : Mem) (l : Nat) : (M.yl l).key = M.key := rfl
theorem Com.le.toYl {G G' : Com} (h : G.le G') (l : Nat) : ({ G with yl := l } : Com).le { G' with yl := l } := ⟨h.c, h.n, h.adr, h.lr, rfl⟩
/-! ### A frame that is frozen -/
def closedP : PV → Bool
  | .o _ _ _ => false
  | .r _ => false
  | .ra _ _ _ => false
  | .rh _ _ _ _ _ => false
  | .bx _ _ => false
  | .ag _ => false
  | _ => true
theorem PR.closed {M' : Mem} {w' : World} {at_ at_' : Pl → PV} {q q' : Pl → Value} {n n' : Pl} {p : PV} {v : Value} (hc : closedP p = true) (hG : M.G.le M'.G) (hw : Keeps M.G w w') (h : PR M w at_ q n p v) : PR M' w' at_' q' n' p v :=
  h.keep (by cases p <;> first | rfl | cases hc) hG hw (fun d off hh => by subst hh; cases hc) (fun m hm => by cases p <;> first | exact hm.elim | cases hc)
theorem fzP_cases (e : Env) (p : PV) : closedP (fzP e p) = true ∨ ∃ i o, p = .r (.b (.h i) o) ∧ fzP e p = p := by
  cases p with
  | r m =>
    cases m with
    | t n => left; show closedP (match e.at_ (.t n) with | .o _ k xs => .l k xs | _ => .un) = true; split <;> rfl
    | b d o =>
      cases d with
      | s d => left; show closedP (match e.at_ (.b (.s d) o) with | .o _ k xs => .l k xs | _ => .un) = true; split <;> rfl
      | h i => exact .inr ⟨i, o, rfl, rfl⟩
  | _ => exact .inl rfl
theorem unheap_closed {p : PV} (h : closedP p = true) : unheap p = p := by cases p <;> first | rfl | cases h
theorem fzu_closed (e : Env) (p : PV) : closedP (unheap (fzP e p)) = true := by
  rcases fzP_cases e p with h | ⟨i, o, rfl, h⟩
  · rw [unheap_closed h]; exact h
  · rw [h]; rfl
theorem fz_slot (e : Env) (n : Nat) : e.fz.slot n = fzP e (e.slot n) := by
  unfold Env.slot Env.fz
  simp only [List.getD_eq_getElem?_getD, List.getElem?_map]
  cases e.t[n]? <;> rfl
theorem fz_box (e : Env) (d : Nat) : e.fz.box (.s d) = [] := by
  show (List.replicate e.b.length []).getD d [] = _
  rw [List.getD_eq_getElem?_getD, List.getElem?_replicate]
  split <;> rfl
/-- Nothing of the call's own is written any more but the heap. -/
theorem St.fz (h : St M e a w) : ∃ G', M.G.le G' ∧ G'.n = M.G.n ∧ G'.lr = M.G.lr ∧ G'.adr = M.G.adr ∧ St { M with G := G' } e.fz a w := by
  let G' := M.G.more fun g _ => NH M e a w g
  have hG : M.G.le G' := Com.le.more _ _
  have hat : ∀ i o, e.fz.at_ (.b (.h i) o) = e.at_ (.b (.h i) o) := fun i o => rfl
  have hats : ∀ d o, e.fz.at_ (.b (.s d) o) = .un := fun d o => at_of_empty (fz_box e d) o
  have hnl : ∀ g, HL M e a w g → ∀ o, G' g o ↔ M.G g o := fun g hg o => ⟨fun hh => hh.elim id fun hn => absurd hg (NH.spec h hn).2.2, fun hh => .inl hh⟩
  have hown : ∀ n, (∀ i o, n ≠ .b (.h i) o) → ∀ m k xs, e.at_ n = .o m k xs → RepV G' w (.list k) xs (pv M a w n) := fun n hn m k xs hq => by
    have hp := h.pr n
    rw [hq] at hp
    exact OwnD.rep hp hG fun g hg o _ => .inr (.inl ⟨n, hn, by rw [hq]; rfl, hg⟩)
  have plain : ∀ (n n' : Pl) (p : PV) (v : Value), closedP p = true → PR M w e.at_ (pv M a w) n p v → PR { M with G := G' } w e.fz.at_ (pv { M with G := G' } a w) n' p v := fun n n' p v hc hp => PR.closed hc hG (Keeps.refl _ _) hp
  -- what is in a box, from now on
  have hcell : ∀ d o v, e.box (.s d) ≠ [] → PR M w e.at_ (pv M a w) (.b (.s d) o) (e.at_ (.b (.s d) o)) v → v = pv M a w (.b (.s d) o) → CR G' w (fzC (e.at_ (.b (.s d) o))) v := fun d o v _ hp hv => by
    cases hq : e.at_ (.b (.s d) o) with
    | o m k xs =>
      subst hv
      show CR G' w (.l k xs) _
      rw [CR]; exact hown _ (fun i o hh => by cases hh) m k xs hq
    | _ => rw [hq] at hp; first | (show CR G' w .un _; rw [CR]; trivial) | (exact CR.mono hG (Keeps.refl _ _) (show CR M.G w _ v from by first | exact hp | (rw [CR]; exact hp)))
  refine ⟨G', hG, rfl, rfl, rfl, ?_⟩
  refine h.step (by simpa [Env.fz] using h.sz) (by simpa [Env.fz] using h.bz) ⟨rfl, rfl⟩ (KO.refl w) rfl (Nat.le_refl _) (fun g o hg => hg.imp id fun hn => ⟨(NH.spec h hn).1, (NH.spec h hn).2.1⟩) hG (Keeps.refl _ _) (fun n => ?_) (fun d hd => ?_) ⟨rfl, fun _ _ h => h, rfl, fun _ => rfl⟩ (fun i n hi => ⟨rfl, fun o hg => (hnl _ (.inr (.inr ⟨i, n, hi, rfl⟩)) o).1 hg⟩) h.hk
  · cases n with
    | b d o =>
      cases d with
      | s d => right; rw [hats]; trivial
      | h i =>
        left
        exact ⟨rfl, rfl, fun _ _ _ => rfl, fun m hm => absurd hm (refs_hok (h.hk i o) m), fun ho g hg => ⟨rfl, rfl, hnl g (.inl ⟨i, o, ho, hg⟩)⟩⟩
    | t n =>
      right
      have hp := h.pr (.t n)
      show PR _ w _ _ _ (e.fz.slot n) (pv M a w (.t n))
      rw [fz_slot]
      cases hq : e.slot n with
      | o m k xs => exact hown (.t n) (fun i o hh => by cases hh) m k xs hq
      | r m =>
        rw [show e.at_ (.t n) = _ from hq] at hp
        obtain ⟨h1, h2⟩ := hp
        by_cases hm : ∃ i o, m = .b (.h i) o
        · obtain ⟨i, o, rfl⟩ := hm
          exact ⟨h1, h2⟩
        · have hm : ∀ i o, m ≠ .b (.h i) o := fun i o hh => hm ⟨i, o, hh⟩
          have : fzP e (.r m) = (match e.at_ m with | .o _ k xs => .l k xs | _ => .un) := by
            cases m with
            | t n => rfl
            | b d o => cases d with
              | s d => rfl
              | h i => exact absurd rfl (hm i o)
          rw [this]
          split
          · rename_i m' k xs hq'
            rw [h2 (by rw [hq']; rfl)]
            exact hown m hm m' k xs hq'
          · trivial
      | bx d off =>
        rw [show e.at_ (.t n) = _ from hq] at hp
        have hp : pv M a w (.t n) = .pointer (some ⟨M.β (.s d), off, none⟩) := hp
        show CR G' w (.ac _ off) _
        rw [CR]
        by_cases hb : e.box (.s d) = []
        · refine ⟨M.β (.s d), [], hp, fun j hj => (by cases hj), ?_⟩
          rw [show e.b.getD d [] = [] from hb]
          show CRs G' w [] []
          rw [CRs]; trivial
        · obtain ⟨C, T, c1, c2, c3⟩ := box_cells h hb
          refine ⟨M.β (.s d), C.toList, hp, fun j hj => ⟨.inr (.inr ⟨d, hb, rfl⟩), ?_⟩, ?_⟩
          · have hj' : j < C.size := by simpa using hj
            rw [Nat.zero_add, (c3 j hj').1, Array.getElem_toList]
          · refine CRs.of (by simp [c2]; rfl) fun i p v hp' hv' => ?_
            rw [List.getElem?_map] at hp'
            obtain ⟨q, hq1, rfl⟩ := Option.map_eq_some_iff.1 hp'
            have hlt := (List.getElem?_eq_some_iff.1 hv').1
            have hlt' : i < C.size := by simpa using hlt
            have hv2 : v = pv M a w (.b (.s d) i) := by
              rw [(c3 i hlt').2]
              rw [List.getElem?_eq_getElem hlt] at hv'
              injection hv' with hv'
              rw [← hv', Array.getElem_toList]
            have hat' : e.at_ (.b (.s d) i) = q := by
              show (e.b.getD d []).getD i .un = q
              rw [List.getD_eq_getElem?_getD, hq1]; rfl
            have hpi := h.pr (.b (.s d) i)
            rw [← hat']
            exact hcell d i v hb (by rw [hv2]; exact hpi) hv2
      | _ => rw [show e.at_ (.t n) = _ from hq] at hp; first | trivial | exact plain (.t n) _ _ _ rfl hp
  · cases d with
    | s d => exact absurd (fz_box e d) hd
    | h i =>
      obtain ⟨b1, b2, b3, b4⟩ := h.bk (.h i) hd
      exact ⟨b1, b2, b3, fun o hg => b4 o ((hnl _ (.inr (.inl ⟨i, hd, rfl⟩)) o).1 hg)⟩
end
end Go.Pv
