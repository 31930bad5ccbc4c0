/- Calls, and the law for all operations. -/
import Derived.Test.YtdfdainmpklkiaaGreatDoorG14b
import Derived.RangeFuncLeaves
import Derived.OrdersIn
import Derived.LoopNIn
set_option linter.unusedVariables false
set_option linter.unusedSimpArgs false
namespace Go.Pv
open Go.RowKit
/-- A fence that lets in all; in a loop's round, or in none. -/
abbrev FW (ro : Option Nat) : Fence := { Fence.wide with round := ro }
def ArgsR (G : Com) (w : World) : List PV → List Value → Prop := CRs G w
/-- What a call hands back, as a machine's value. -/
def Res (G : Com) (B : Nat) (w : World) : PV → Value → Prop
  | .o m k xs, v => ∃ u css, Elems G w k xs css ∧ w.ownsRow B u k.size v xs.length css.flatten ∧ ∀ g, v.ownBlock = some g → ∀ o, G g o ↔ m = false ∧ o < xs.length * k.size
  | .tup ps, v => ∃ vs, v = .tuple vs ∧ ∀ (j : Nat) (q : (k : Kd) × k.den), ps[j]? = some q → ∃ u, vs[j]? = some u ∧ RepV G w q.1 q.2 u
  | p, v => CR G w p v
/-- What is asked of a function that is called. -/
def fnOK (P : Program) (f : FuncId) : Prop := ∃ fn, P.funcs[f]? = some fn ∧ (fn.name == "runtime.NumGoroutine") = false ∧ fn.body.isSome = true
/-- How a call ends. -/
def Ends (G : Com) (w : World) {ρ : Type} (K : PV → Option ρ) (r : ρ) : Ending → World → Prop
  | .returned v, w' => ∃ p G', K p = some r ∧ G.le G' ∧ G'.n = G.n ∧ (∀ g o, G' g o → G g o ∨ (w.heap.size ≤ g ∧ g < w'.heap.size)) ∧ Below w.heap.size w w' ∧ Res G' w.heap.size w' p v
  | _, _ => False
/-- A condition on worlds that hangs on what stood at a call's beginning alone. -/
def Stays (L : World → Prop) : Prop := ∀ w0, L w0 → ∀ w w', L w → Below w0.heap.size w w' → L w'
/-- A function that does what is told of it, in worlds that meet L. -/
def CallOK (P : Program) (L : World → Prop) (f : FuncId) (F : {ρ : Type} → List PV → (PV → Option ρ) → Option ρ) : Prop :=
  ∀ (ρ : Type) args (K : PV → Option ρ) r, F args K = some r → fnOK P f ∧ ∀ (G : Com) (w : World) (vs : Array Value), L w → (∀ g o, G g o → g < w.heap.size) → ArgsR G w args vs.toList → Calls P f vs w (Ends G w K r)

/-! ### Functions that turn the heap -/
/-- Nothing but the heap. -/
def hEnv (h : Hp) : Env := ⟨[], [], h⟩
def act0 : Act := { tmps := #[], defers := [] }
def HS (M : Mem) (h : Hp) (w : World) : Prop := St M (hEnv h) act0 w
def ArgH (M : Mem) (h : Hp) (w : World) (p : PV) (v : Value) : Prop := okArg p = true ∧ PR M w (hEnv h).at_ (pv M act0 w) (.t 0) p v
def ArgsH (M : Mem) (h : Hp) (w : World) : List PV → List Value → Prop
  | [], [] => True
  | p :: ps, v :: vs => ArgH M h w p v ∧ ArgsH M h w ps vs
  | _, _ => False
def ResH (M : Mem) (h : Hp) (w : World) : PV → Value → Prop
  | .o m k xs, v => ∃ n, OwnD M w n m k xs v ∧ Free M (hEnv h) act0 w v
  | .tup ps, v => ∃ vs, v = .tuple vs ∧ ∀ (j : Nat) (q : (k : Kd) × k.den), ps[j]? = some q → ∃ u, vs[j]? = some u ∧ RepV M.G w q.1 q.2 u
  | p, v => ArgH M h w p v
/-- The world meets L, and goes on doing so. -/
def LW (L : World → Prop) (M : Mem) (w : World) : Prop := ∀ w', Bel M w w' → L w'
theorem LW.here {L : World → Prop} {M : Mem} {w : World} (h : LW L M w) : L w := h w (Bel.refl M w)
theorem LW.mono {L L' : World → Prop} {M : Mem} {w : World} (h : LW L M w) (hl : ∀ w, L w → L' w) : LW L' M w := fun w' hb => hl w' (h w' hb)
theorem LW.next {L : World → Prop} {M M' : Mem} {w w' : World} (h : LW L M w) (hM : M.Le M') (hb : Bel M w w') : LW L M' w' := fun w2 h2 => h w2 (hb.trans (Bel.key hM.1 h2))
/-- How such a call begins. -/
structure Begin (L : World → Prop) (M : Mem) (h : Hp) (w : World) : Prop where
  hs : HS M h w
  base : M.base = w.heap.size
  df : M.dfs = []
  lw : LW L M w
/-- .. and ends. -/
def EndsH (M : Mem) (w : World) {ρ : Type} (K : PV → Hp → Option ρ) (r : ρ) : Ending → World → Prop
  | .returned v, w' => ∃ p h' M', K p h' = some r ∧ M.Le M' ∧ HS M' h' w' ∧ Bel M w w' ∧ ResH M' h' w' p v
  | _, _ => False
def CallH (P : Program) (L : World → Prop) (f : FuncId) (F : {ρ : Type} → List PV → Hp → (PV → Hp → Option ρ) → Option ρ) : Prop :=
  ∀ (ρ : Type) args h (K : PV → Hp → Option ρ) r, F args h K = some r → fnOK P f ∧ ∀ (M : Mem) (w : World) (vs : Array Value), Begin L M h w → ArgsH M h w args vs.toList → Calls P f vs w (EndsH M w K r)
/-- .. of a call that reads the heap, and leaves it. -/
def EndsR (M : Mem) (h : Hp) (w : World) {ρ : Type} (K : PV → Option ρ) (r : ρ) : Ending → World → Prop
  | .returned v, w' => ∃ p M', K p = some r ∧ isO p = false ∧ M.Le M' ∧ HS M' h w' ∧ Bel M w w' ∧ Ext w w' ∧ ResH M' h w' p v
  | _, _ => False
def CallR (P : Program) (L : World → Prop) (f : FuncId) (F : {ρ : Type} → List PV → Hp → (PV → Option ρ) → Option ρ) : Prop :=
  ∀ (ρ : Type) args h (K : PV → Option ρ) r, F args h K = some r → fnOK P f ∧ ∀ (M : Mem) (w : World) (vs : Array Value), Begin L M h w → ArgsH M h w args vs.toList → Calls P f vs w (EndsR M h w K r)
/-- What is asked of a yield. -/
def YieldOK (P : Program) (L J : World → Prop) (G0 : Com) {ρ : Type} (Y : Yd ρ) (r : ρ) : Prop :=
  ∀ as h k, Y as h k = some r → ∀ (M : Mem) (w : World) (vs : Array Value), G0.le M.G → Begin L M h w → LW J M w → ArgsH M h w as vs.toList →
    ∃ fn tmps assign body, (Instr.yield G0.yl vs).run P w = .ok (.round G0.yl fn tmps assign body) w ∧ RoundIn (FW none) 0 P G0.yl fn tmps assign body w fun e w' =>
      ∃ b M' h', e = .returned (.bool b) ∧ k b h' = some r ∧ M.Le M' ∧ HS M' h' w' ∧ Bel M w w'
def EndsI (M : Mem) (w : World) {ρ : Type} (fin : Hp → Option ρ) (r : ρ) : Ending → World → Prop
  | .returned _, w' => ∃ M' h', fin h' = some r ∧ M.Le M' ∧ HS M' h' w' ∧ Bel M w w'
  | _, _ => False
/-- A function that a loop goes over. -/
def IterOK (P : Program) (L : World → Prop) (f : FuncId) (I : {ρ : Type} → List PV → Hp → Yd ρ → (Hp → Option ρ) → Option ρ) : Prop :=
  ∀ (ρ : Type) args h (Y : Yd ρ) fin r, I args h Y fin = some r → fnOK P f ∧ ∀ (M : Mem) (w : World) (vs : Array Value) (J : World → Prop), Begin L M h w → ArgsH M h w args vs.toList → LW J M w → YieldOK P L J M.G Y r →
    Calls P f (#[.func (.yield M.G.yl) #[] #[]] ++ vs) w (EndsI M w fin r)
structure CxOK (P : Program) (L : World → Prop) (c : Cx) : Prop where
  kd : ∀ t k, c.kd t = some k → Fits P k t
  eq : ∀ t k, c.eq t = true → c.kd t = some k → EqOK P k t
  call : ∀ f, CallOK P L f fun a K => c.call f a K
  callH : ∀ f, CallH P L f fun a h K => c.callH f a h K
  callR : ∀ f, CallR P L f fun a h K => c.callR f a h K
  iter : ∀ f, IterOK P L f fun a h Y fin => c.iter f a h Y fin
section
variable {P : Program} {c : Cx} {M : Mem} {e : Env} {a : Act} {w : World} {o : Oper} {ρ : Type} {K : Kt ρ} {r : ρ} {Y : Yd ρ}
/-! ### The heap alone, and back -/
/-- The blocks that are the heap's. -/
def HL (M : Mem) (e : Env) (a : Act) (w : World) (g : Nat) : Prop :=
  (∃ i o, isO (e.at_ (.b (.h i) o)) = true ∧ (pv M a w (.b (.h i) o)).ownBlock = some g) ∨ (∃ i, e.box (.h i) ≠ [] ∧ M.β (.h i) = g) ∨ Loopy M e g
theorem HL.mine (h : St M e a w) {g : Nat} (hg : HL M e a w g) : M.Mine g ∧ g < w.heap.size ∧ (∀ o, ¬ M.G g o) ∧ ∃ i, M.ow g = some (.inr (.h i)) ∨ ∃ o, M.ow g = some (.inl (.b (.h i) o)) := by
  rcases hg with ⟨i, o, h1, h2⟩ | ⟨i, h1, rfl⟩ | ⟨i, n, h1, rfl⟩
  · have hp := h.pr (.b (.h i) o)
    have hk := h.hk i o
    cases hq : e.at_ (.b (.h i) o) with
    | o m k xs =>
      rw [hq] at hp hk
      obtain ⟨_, _, _, h3, h4⟩ := hp
      cases m with
      | false => cases hk
      | true => exact ⟨(h4 g h2).1.2, (h3.lt g h2).2, fun o' hg => (by have := ((h4 g h2).2 o').1 hg; cases this.1), i, .inr ⟨o, (h4 g h2).1.1⟩⟩
    | _ => rw [hq] at h1; cases h1
  · obtain ⟨b1, ⟨C, T, b2, _⟩, b3, b4⟩ := h.bk _ h1
    exact ⟨b1, (Array.getElem?_eq_some_iff.1 b2).1, b4, i, .inl b3⟩
  · obtain ⟨b1, b2, b3, b4⟩ := h.lk i n h1
    exact ⟨b1, (Array.getElem?_eq_some_iff.1 b2).1, b4, i, .inl b3⟩
/-- What a call has that may turn the heap. -/
def Mem.sub (M : Mem) (e : Env) (a : Act) (w : World) : Mem := { M with base := w.heap.size, G0 := M.G, O0 := HL M e a w, dfs := [] }
theorem hEnv_box (e : Env) (d : Bx) : (hEnv e.h).box d = (match d with | .s _ => [] | .h i => e.box (.h i)) := by cases d <;> rfl
theorem hEnv_at (e : Env) (n : Pl) : (hEnv e.h).at_ n = (match n with | .b (.h i) o => e.at_ (.b (.h i) o) | _ => .un) := by
  cases n with
  | t n => rfl
  | b d o => cases d <;> rfl
theorem HS.of (h : St M e a w) : HS (M.sub e a w) e.h w where
  sz := rfl
  bz := rfl
  df := ⟨rfl, fun D hD => by cases hD⟩
  nd := ⟨List.nodup_nil, fun D hD => by cases hD⟩
  lo := Nat.le_refl _
  cb := h.cb
  fr := fun g o hg => .inl hg
  pr := fun n => by
    rw [hEnv_at]
    cases n with
    | t n => trivial
    | b d o =>
      cases d with
      | s d => trivial
      | h i =>
        have hp := h.pr (.b (.h i) o)
        have hk := h.hk i o
        show PR _ w _ _ _ (e.at_ (.b (.h i) o)) (pv M a w (.b (.h i) o))
        cases hq : e.at_ (.b (.h i) o) with
        | o m k xs =>
          rw [hq] at hp
          obtain ⟨u, css, h1, h2, h3⟩ := hp
          exact ⟨u, css, h1, h2, fun g hg => ⟨⟨(h3 g hg).1.1, .inl (.inl ⟨i, o, by rw [hq]; rfl, hg⟩)⟩, (h3 g hg).2⟩⟩
        | _ => rw [hq] at hp hk; first | exact hp | cases hk
  bk := fun d hd => by
    cases d with
    | s d => exact absurd rfl hd
    | h i =>
      obtain ⟨b1, b2, b3, b4⟩ := h.bk (.h i) hd
      exact ⟨.inl (.inr (.inl ⟨i, hd, rfl⟩)), b2, b3, b4⟩
  lk := fun i n hi => by
    obtain ⟨b1, b2, b3, b4⟩ := h.lk i n hi
    exact ⟨.inl (.inr (.inr ⟨i, n, hi, rfl⟩)), b2, b3, b4⟩
  ha := h.ha
  hk := h.hk
theorem Bel.of_sub (h : St M e a w) {w1 w2 : World} (hb : Bel (M.sub e a w) w1 w2) : Bel M w1 w2 :=
  ⟨hb.os, hb.tape, hb.output, hb.size, fun k hk hO => hb.block k (Nat.lt_of_lt_of_le hk h.lo) (fun hh => by
    have := (HL.mine h hh).1
    exact this.elim hO (by omega))⟩
theorem LW.sub {L : World → Prop} (h : St M e a w) (hL : LW L M w) : LW L (M.sub e a w) w := fun w2 h2 => hL w2 (Bel.of_sub h h2)
theorem Begin.of {L : World → Prop} (h : St M e a w) (hL : LW L M w) : Begin L (M.sub e a w) e.h w := ⟨HS.of h, rfl, rfl, hL.sub h⟩
/-- A value that is handed over to a call that may turn the heap. -/
theorem ArgH.of (h : St M e a w) {p : PV} (ho : okArg p = true) {n0 : Pl} {v : Value} (hp : PR M w e.at_ (pv M a w) n0 p v) : ArgH (M.sub e a w) e.h w p v := by
  refine ⟨ho, ?_⟩
  cases p with
  | r m => cases m with
    | t n => cases ho
    | b d o => cases d with
      | s d => cases ho
      | h i => exact hp
  | _ => first | exact hp | cases ho
/-- What is the call's own beside the heap. -/
def NH (M : Mem) (e : Env) (a : Act) (w : World) (g : Nat) : Prop :=
  (∃ n, (∀ i o, n ≠ .b (.h i) o) ∧ isO (e.at_ n) = true ∧ (pv M a w n).ownBlock = some g) ∨ ∃ d, e.box (.s d) ≠ [] ∧ M.β (.s d) = g
theorem NH.spec (h : St M e a w) {g : Nat} (hg : NH M e a w g) : M.Mine g ∧ g < w.heap.size ∧ ¬ HL M e a w g := by
  have key : ∀ {x : Pl ⊕ Bx}, M.ow g = some x → (∀ i, x ≠ .inr (.h i)) → (∀ i o, x ≠ .inl (.b (.h i) o)) → ¬ HL M e a w g := fun {x} hx h1 h2 hh => by
    obtain ⟨_, _, _, i, h3 | ⟨o, h3⟩⟩ := HL.mine h hh
    · rw [hx] at h3; injection h3 with h3; exact h1 i h3
    · rw [hx] at h3; injection h3 with h3; exact h2 i o h3
  rcases hg with ⟨n, h1, h2, h3⟩ | ⟨d, h1, rfl⟩
  · have hp := h.pr n
    cases hq : e.at_ n with
    | o m k xs =>
      rw [hq] at hp
      obtain ⟨_, _, _, h4, h5⟩ := hp
      exact ⟨(h5 g h3).1.2, (h4.lt g h3).2, key (h5 g h3).1.1 (fun i hh => by cases hh) (fun i o hh => by injection hh with hh; exact h1 i o hh)⟩
    | _ => rw [hq] at h2; cases h2
  · obtain ⟨b1, ⟨C, T, b2, _⟩, b3, b4⟩ := h.bk _ h1
    exact ⟨b1, (Array.getElem?_eq_some_iff.1 b2).1, key b3 (fun i hh => by cases hh) (fun i o hh => by cases hh)⟩
open Classical in
/-- The memory behind a call that has turned the heap. -/
noncomputable def Mem.join (M : Mem) (e : Env) (a : Act) (w : World) (M' : Mem) : Mem :=
  { M with G := M'.G, β := fun d => match d with | .s d => M.β (.s d) | .h i => M'.β (.h i), ow := fun g => if NH M e a w g then M.ow g else M'.ow g }
theorem join_nh {M' : Mem} {g : Nat} (hg : NH M e a w g) : (M.join e a w M').ow g = M.ow g := by
  unfold Mem.join
  exact if_pos hg
theorem join_hl (h : St M e a w) {M' : Mem} (hM : M'.key = (M.sub e a w).key) {g : Nat} (hg : M'.Mine g) : (M.join e a w M').ow g = M'.ow g ∧ M.Mine g := by
  have hg := (Mem.mine_key hM g).1 hg
  have hn : ¬ NH M e a w g := fun hh => by
    obtain ⟨_, h2, h3⟩ := NH.spec h hh
    exact hg.elim h3 (fun h4 => by have h4 : w.heap.size ≤ g := h4; omega)
  refine ⟨?_, ?_⟩
  · unfold Mem.join; exact if_neg hn
  · exact hg.elim (fun hh => (HL.mine h hh).1) (fun hh => .inr (Nat.le_trans h.lo hh))
/-- .. and the state. -/
theorem St.join (h : St M e a w) {M' : Mem} {h' : Hp} {w' : World} (hM : (M.sub e a w).Le M') (hs : HS M' h' w') (hb : Bel (M.sub e a w) w w') : St (M.join e a w M') (e.withH h') a w' := by
  have hG : M.G.le M'.G := hM.2
  have hblk : ∀ g, g < w.heap.size → ¬ HL M e a w g → w'.heap[g]? = w.heap[g]? := fun g hg hn => hb.block g hg hn
  have hkp : Keeps M.G w w' := keeps_of_blocks fun g o hg => hblk g (h.cb g o hg) (fun hh => (HL.mine h hh).2.2.1 o hg)
  have hGm : ∀ g o, M'.G g o → M.G g o ∨ M'.Mine g := fun g o hg => by
    have := hs.fr g o hg
    rw [show M'.G0 = M.G from congrArg (fun x => x.2.1) hM.1] at this
    exact this
  have hat : ∀ n, (e.withH h').at_ n = (match n with | .b (.h i) o => (hEnv h').at_ (.b (.h i) o) | n => e.scrubH.at_ n) := fun n => by
    cases n with
    | t n => rfl
    | b d o => cases d <;> rfl
  have hsc : ∀ n, (∀ i o, n ≠ .b (.h i) o) → (e.withH h').at_ n = e.scrubH.at_ n := fun n hn => by
    cases n with
    | t n => rfl
    | b d o => cases d with
      | s d => rfl
      | h i => exact absurd rfl (hn i o)
  have hpvs : ∀ n, (∀ i o, n ≠ .b (.h i) o) → e.at_ n ≠ .un → pv (M.join e a w M') a w' n = pv M a w n := fun n hn hu => by
    cases n with
    | t n => rfl
    | b d o => cases d with
      | h i => exact absurd rfl (hn i o)
      | s d =>
        have hne : e.box (.s d) ≠ [] := fun h0 => hu (at_of_empty h0 o)
        obtain ⟨_, h2, h3⟩ := NH.spec h (.inr ⟨d, hne, rfl⟩)
        show (w'.cell? ⟨M.β (.s d), o, none⟩).getD undef = (w.cell? ⟨M.β (.s d), o, none⟩).getD undef
        rw [World.cell?_of_block (a := ⟨M.β (.s d), o, none⟩) (hblk _ h2 h3)]
  have hGn : ∀ g, NH M e a w g → ∀ o, M'.G g o ↔ M.G g o := fun g hg o => ⟨fun hh => (hGm g o hh).elim id (fun hm => by
    obtain ⟨_, h2, h3⟩ := NH.spec h hg
    have := (Mem.mine_key hM.1 g).1 hm
    exact this.elim (fun h4 => absurd h4 h3) (fun h4 => by have h4 : w.heap.size ≤ g := h4; omega)), hG.c g o⟩
  refine h.step' (by simpa [Env.withH, Env.scrubH, Env.map] using h.sz) (by simpa [Env.withH, Env.scrubH, Env.map] using h.bz) ⟨h.df.1, fun D hD => ?_⟩ h.nd rfl hb.size (fun g o hg => ?_) hG hkp (fun n => ?_) (fun d hd => ?_) (fun i n hi => ?_) ?_ (fun i o => hs.hk i o)
  · have h1 := h.df.2 D hD
    rw [hblk D (Array.getElem?_eq_some_iff.1 h1).1 (fun hh => ?_)]; exact h1
    rcases hh with ⟨i, o, h2, h3⟩ | ⟨i, h2, rfl⟩ | ⟨i, n, h2, rfl⟩
    · have hp := h.pr (.b (.h i) o)
      cases hq : e.at_ (.b (.h i) o) with
      | o m k xs =>
        rw [hq] at hp
        obtain ⟨_, _, _, h4, _⟩ := hp
        obtain ⟨C, T, x, h5⟩ := row_cells h4 h3
        rw [h5] at h1; cases h1
      | _ => rw [hq] at h2; cases h2
    · obtain ⟨_, ⟨C, T, b2, _⟩, _⟩ := h.bk _ h2
      rw [b2] at h1; cases h1
    · obtain ⟨_, b2, _⟩ := h.lk i n h2
      rw [b2] at h1; cases h1
  · refine (hGm g o hg).imp id fun hm => ⟨(join_hl h hM.1 hm).2, hs.cb g o hg⟩
  · by_cases hn : ∃ i o, n = .b (.h i) o
    · obtain ⟨i, o, rfl⟩ := hn
      right
      have hp := hs.pr (.b (.h i) o)
      have hk := hs.hk i o
      show PR _ w' _ _ _ ((hEnv h').at_ (.b (.h i) o)) (pv M' act0 w' (.b (.h i) o))
      cases hq : (hEnv h').at_ (.b (.h i) o) with
      | o m k xs =>
        rw [hq] at hp
        obtain ⟨u, css, h1, h2, h3⟩ := hp
        exact ⟨u, css, h1, h2, fun g hg => ⟨⟨by rw [(join_hl h hM.1 (h3 g hg).1.2).1]; exact (h3 g hg).1.1, (join_hl h hM.1 (h3 g hg).1.2).2⟩, (h3 g hg).2⟩⟩
      | _ => rw [hq] at hp hk; first | exact hp | cases hk
    · have hn : ∀ i o, n ≠ .b (.h i) o := fun i o hh => hn ⟨i, o, hh⟩
      rw [hsc n hn]
      rcases Env.at_map' e unheap unheap_spec n with h1 | ⟨h1, _⟩
      · by_cases hu : e.at_ n = .un
        · right; rw [show e.scrubH.at_ n = _ from h1, hu]; trivial
        left
        refine ⟨h1, hpvs n hn hu, fun _ _ _ => rfl, fun m hm hx => ?_, fun hio g hg => ?_⟩
        · have hmn : ∀ i o, m ≠ .b (.h i) o := fun i o hh => by
            subst hh
            have := scrubH_no h i o n
            rw [show e.scrubH.at_ n = _ from h1] at this
            exact this hm
          rw [hsc m hmn] at hx ⊢
          rcases Env.at_map' e unheap unheap_spec m with h2 | ⟨h2, _⟩
          · rw [show e.scrubH.at_ m = _ from h2] at hx ⊢
            exact ⟨hx, hpvs m hmn (fun hh => by rw [hh] at hx; cases hx), fun k xs hq => ⟨xs, hq, rfl⟩⟩
          · rw [show e.scrubH.at_ m = _ from h2] at hx; cases hx
        · have hnh : NH M e a w g := .inl ⟨n, hn, hio, hg⟩
          obtain ⟨_, h2, h3⟩ := NH.spec h hnh
          exact ⟨hblk g h2 h3, join_nh hnh, hGn g hnh⟩
      · right; rw [show e.scrubH.at_ n = _ from h1]; trivial
  · cases d with
    | s d =>
      have hd' : e.box (.s d) ≠ [] := fun h0 => hd (List.eq_nil_of_length_eq_zero (by
        show ((e.map unheap).box (.s d)).length = 0
        rw [map_box_len, h0]; rfl))
      have hnh : NH M e a w (M.β (.s d)) := .inr ⟨d, hd', rfl⟩
      obtain ⟨_, h2, h3⟩ := NH.spec h hnh
      obtain ⟨b1, ⟨C, T, b2, b3⟩, b4, b5⟩ := h.bk _ hd'
      refine ⟨b1, ⟨C, T, (hblk _ h2 h3).trans b2, ?_⟩, (join_nh hnh).trans b4, fun o hg => b5 o ((hGn _ hnh o).1 hg)⟩
      show _ = ((e.map unheap).box (.s d)).length
      rw [map_box_len]; exact b3
    | h i =>
      obtain ⟨b1, b2, b3, b4⟩ := hs.bk (.h i) hd
      exact ⟨(join_hl h hM.1 b1).2, b2, by rw [(show (M.join e a w M').β (.h i) = M'.β (.h i) from rfl), (join_hl h hM.1 b1).1]; exact b3, b4⟩
  · obtain ⟨b1, b2, b3, b4⟩ := hs.lk i n hi
    exact ⟨(join_hl h hM.1 b1).2, b2, by rw [(show (M.join e a w M').β (.h i) = M'.β (.h i) from rfl), (join_hl h hM.1 b1).1]; exact b3, b4⟩
  · exact hs.ha
theorem join_le {M' : Mem} (hM : (M.sub e a w).Le M') : M.Le (M.join e a w M') := ⟨rfl, hM.2⟩
end
end Go.Pv
