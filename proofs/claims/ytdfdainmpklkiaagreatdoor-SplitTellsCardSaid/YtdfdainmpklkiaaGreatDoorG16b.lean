/- A box more that nobody refers to makes no difference (of the evaluator alone). -/
import Derived.Test.YtdfdainmpklkiaaGreatDoorG16
set_option linter.unusedVariables false
set_option linter.unusedSimpArgs false
namespace Go.Pv
open Go.RowKit
section
variable {c : Cx} {e : Env} {o : Oper} {ρ : Type} {d : Nat} {z : List PV}
/-- A value that does not speak of slot d, nor of box d. -/
def NoRef (d : Nat) (p : PV) : Prop := (∀ n, refs p n → n ≠ .t d ∧ ∀ o, n ≠ .b (.s d) o) ∧ ∀ off, p ≠ .bx d off
structure Cln (d : Nat) (e : Env) : Prop where
  slot : ∀ n, NoRef d (e.slot n)
  cell : ∀ b o, NoRef d (e.at_ (.b (.s b) o))
  un : e.slot d = .un
  em : e.box (.s d) = []
theorem noRef_const (v : Value) : NoRef d (ofConst v) := by
  unfold ofConst
  split <;> exact ⟨fun n hn => hn.elim, fun off hh => by cases hh⟩
theorem slot_add {n : Nat} (h : n ≠ d) : (e.add d z).slot n = e.slot n := by
  unfold Env.slot Env.add
  rw [List.getD_eq_getElem?_getD, List.getD_eq_getElem?_getD, List.getElem?_set, if_neg (Ne.symm h)]
theorem box_add {b : Bx} (h : b ≠ .s d) : (e.add d z).box b = e.box b := by
  cases b with
  | h i => rfl
  | s b =>
    show (e.b.set d z).getD b [] = e.b.getD b []
    rw [List.getD_eq_getElem?_getD, List.getD_eq_getElem?_getD, List.getElem?_set, if_neg (fun hh => h (by rw [hh]))]
theorem at_add {n : Pl} (h1 : n ≠ .t d) (h2 : ∀ o, n ≠ .b (.s d) o) : (e.add d z).at_ n = e.at_ n := by
  cases n with
  | t n => exact slot_add (fun hh => h1 (by rw [hh]))
  | b b o => show ((e.add d z).box b).getD o .un = (e.box b).getD o .un; rw [box_add (fun hh => h2 o (by rw [hh]))]
theorem ev_add {x : Operand} (h : x ≠ .tmp d) : ev (e.add d z) x = ev e x := by
  cases x with
  | tmp t => exact slot_add (fun hh => h (by rw [hh]))
  | _ => rfl
theorem Cln.ev (h : Cln d e) (x : Operand) : NoRef d (Pv.ev e x) := by
  cases x with
  | tmp t => exact h.slot t
  | const v => exact noRef_const v
  | _ => exact ⟨fun n hn => hn.elim, fun off hh => by cases hh⟩
theorem cp_add {x : Operand} (h : x ≠ .tmp d) : cp (e.add d z) x = cp e x := by
  unfold cp
  rw [ev_add h]
theorem Cln.cp (h : Cln d e) {x : Operand} (hx : x ≠ .tmp d) : NoRef d (Pv.cp e x) := by
  unfold Pv.cp
  split
  · rename_i t _
    exact ⟨fun n hn => by cases hn; exact ⟨fun hh => hx (by injection hh with hh; rw [hh]), fun o hh => by cases hh⟩, fun off hh => by cases hh⟩
  · exact ⟨fun n hn => hn.elim, fun off hh => by cases hh⟩
  · exact h.ev _
theorem NoRef.at {p : PV} (h : NoRef d p) {n : Pl} (hn : refs p n) : (e.add d z).at_ n = e.at_ n := at_add (h.1 n hn).1 (h.1 n hn).2
theorem listOf_add (h : Cln d e) {x : Operand} (hx : x ≠ .tmp d) : listOf (e.add d z) x = listOf e x := by
  unfold listOf
  rw [ev_add hx]
  split
  · rfl
  · rename_i m _ hm
    rw [NoRef.at (h.ev x) (by rw [hm]; rfl)]
  · rfl
  · rfl
  · rfl
theorem listC_add (h : Cln d e) {k : Kd} {x : Operand} (hx : x ≠ .tmp d) (K : (k : Kd) × List k.den → Option ρ) : listC k (e.add d z) x K = listC k e x K := by
  unfold listC
  rw [ev_add hx, listOf_add h hx]
  rfl
theorem asm_box {b : Nat} (h : Bx.s b ≠ .s d) : (e.add d z).box (.s b) = e.box (.s b) := box_add h
theorem fillR_add (k : Kd) : ∀ (ps : List (Nat × Operand)) (x : k.den), (∀ q ∈ ps, q.2 ≠ .tmp d) → fillR k (e.add d z) x ps = fillR k e x ps
  | [], x, _ => rfl
  | (f, y) :: ps, x, h => by
    simp only [fillR, ev_add (h (f, y) (List.mem_cons_self ..))]
    congr 1
    funext w
    exact fillR_add k ps w (fun q hq => h q (List.mem_cons_of_mem _ hq))
theorem map_ev_add : ∀ {xs : List Operand}, (∀ x ∈ xs, x ≠ .tmp d) → xs.map (ev (e.add d z)) = xs.map (ev e)
  | [], _ => rfl
  | x :: xs, h => by rw [List.map_cons, List.map_cons, ev_add (h x (List.mem_cons_self ..)), map_ev_add (fun y hy => h y (List.mem_cons_of_mem _ hy))]
/-- What an operation that only reads comes to does not hang on such a box. -/
theorem rd_add (h : Cln d e) (hx : ∀ x ∈ o.op.operands, x ≠ .tmp d) (K : PV → Option ρ) : rdK c o (e.add d z) K = rdK c o e K := by
  cases ho : o.op with
  | move x => simp only [rdK, ho]; rw [cp_add (hx x (by simp [ho, Op.operands]))]
  | pick q x y =>
    have h1 := hx q (by simp [ho, Op.operands])
    have h2 := hx x (by simp [ho, Op.operands])
    have h3 := hx y (by simp [ho, Op.operands])
    simp only [rdK, ho, ev_add h1, ev_add h2, ev_add h3, cp_add h2, cp_add h3]
  | load t x =>
    have h1 := hx x (by simp [ho, Op.operands])
    have hv := h.ev x
    simp only [rdK, ho, ev_add h1]
    cases hk : c.kd t with
    | none => rfl
    | some k =>
      cases hq : ev e x with
      | bx b off =>
        have hb : Bx.s b ≠ .s d := fun hh => by injection hh with hh; subst hh; exact hv.2 off hq
        simp only [box_add hb, Env.cell]
      | ra n j path =>
        rw [hq] at hv
        simp only [NoRef.at hv (show refs (.ra n j path) n from rfl)]
      | _ => rfl
  | nilCheck x =>
    have h1 := hx x (by simp [ho, Op.operands])
    have hv := h.ev x
    simp only [rdK, ho, ev_add h1]
    cases hq : ev e x with
    | ra n j path =>
      rw [hq] at hv
      simp only [NoRef.at hv (show refs (.ra n j path) n from rfl)]
    | _ => rfl
  | fieldAddr t x f =>
    have h1 := hx x (by simp [ho, Op.operands])
    have hv := h.ev x
    simp only [rdK, ho, ev_add h1]
    cases hk : c.kd t with
    | none => rfl
    | some k =>
      cases hq : ev e x with
      | ra n j path =>
        rw [hq] at hv
        simp only [NoRef.at hv (show refs (.ra n j path) n from rfl)]
      | _ => rfl
  | field t x f =>
    have h1 := hx x (by simp [ho, Op.operands])
    simp only [rdK, ho, ev_add h1]
  | indexAddr t x ix =>
    have h1 := hx x (by simp [ho, Op.operands])
    have h2 := hx ix (by simp [ho, Op.operands])
    have hv := h.cp h1
    simp only [rdK, ho, ev_add h2, cp_add h1]
    cases hk : c.kd t with
    | none => rfl
    | some k =>
      cases k with
      | list k0 =>
        cases hq2 : ev e ix with
        | i kk n =>
          cases hq : cp e x with
          | r m =>
            rw [hq] at hv
            by_cases hm : ∃ i o, m = .b (.h i) o
            · obtain ⟨i, o', rfl⟩ := hm; rfl
            · cases m with
              | t m => simp only [NoRef.at hv (show refs (.r (.t m)) (.t m) from rfl)]
              | b b o' => cases b with
                | s b => simp only [NoRef.at hv (show refs (.r (.b (.s b) o')) (.b (.s b) o') from rfl)]
                | h i => rfl
          | _ => rfl
        | _ => rfl
      | _ => rfl
  | index t x ix =>
    have h1 := hx x (by simp [ho, Op.operands])
    have h2 := hx ix (by simp [ho, Op.operands])
    simp only [rdK, ho, ev_add h1, ev_add h2]
  | extract x j =>
    have h1 := hx x (by simp [ho, Op.operands])
    simp only [rdK, ho, ev_add h1]
  | unOp op t x =>
    have h1 := hx x (by simp [ho, Op.operands])
    simp only [rdK, ho, ev_add h1]
  | convert s t x =>
    have h1 := hx x (by simp [ho, Op.operands])
    simp only [rdK, ho, ev_add h1]
  | binOp op t x y sh =>
    have h1 := hx x (by simp [ho, Op.operands])
    have h2 := hx y (by simp [ho, Op.operands])
    simp only [rdK, ho, ev_add h1, ev_add h2]
    rfl
  | build t ps =>
    have h1 : ∀ q ∈ ps.toList, q.2 ≠ .tmp d := fun q hq => hx q.2 (by simp only [ho, Op.operands, List.mem_toArray, List.mem_map]; exact ⟨q, hq, rfl⟩)
    simp only [rdK, ho, fillR_add _ _ _ h1]
  | slice t x lo hi mx =>
    have h1 := hx x (by simp [ho, Op.operands])
    have h2 : lo.map (ev (e.add d z)) = lo.map (ev e) := by
      cases lo with
      | none => rfl
      | some y => simp only [Option.map_some, ev_add (hx y (by simp [ho, Op.operands]))]
    have h3 : hi.map (ev (e.add d z)) = hi.map (ev e) := by
      cases hi with
      | none => rfl
      | some y => simp only [Option.map_some, ev_add (hx y (by simp [ho, Op.operands]))]
    simp only [rdK, ho, ev_add h1, h2, h3]
  | call q =>
    have hq : ∀ x ∈ q.args.toList, x ≠ .tmp d := fun x hm => hx x (by simp only [ho, Op.operands, Call.operands]; simp; exact .inr (by simpa using hm))
    simp only [rdK, ho]
    cases hc : q.callee with
    | builtin b =>
      cases b with
      | len =>
        simp only
        cases hk : c.kd (q.argTypes.getD 0 0) with
        | none => rfl
        | some k =>
          cases ha : q.args.toList with
          | nil => cases k <;> rfl
          | cons x xs =>
            cases xs with
            | nil =>
              have h1 : x ≠ .tmp d := hq x (by rw [ha]; exact List.mem_cons_self ..)
              generalize q.argTypes.size = m
              rcases m with _ | _ | m
              · cases k <;> rfl
              · cases k <;> first | rfl | (show (match ev (e.add d z) x with | .s s => _ | _ => none) = _; rw [ev_add h1]; rfl) | exact listC_add h h1 _
              · cases k <;> rfl
            | cons _ _ => cases k <;> rfl
      | min => simp only [map_ev_add hq]
      | max => simp only [map_ev_add hq]
      | _ => rfl
    | _ => rfl
  | makeFunc f first caps =>
    cases f with
    | func f =>
      have h1 : ∀ x ∈ caps.toList, x ≠ .tmp d := fun x hm => hx x (by simp [ho, Op.operands]; exact .inr (by simpa using hm))
      simp only [rdK, ho]
      have key : ∀ (l : List Operand), (∀ x ∈ l, x ≠ .tmp d) → (l.mapM fun x => match ev (e.add d z) x with
          | .p y => some (PV.p y)
          | .ac ps off => some (PV.ac ps off)
          | .clo g cs => some (PV.clo g cs)
          | _ => none) = (l.mapM fun x => match ev e x with
          | .p y => some (PV.p y)
          | .ac ps off => some (PV.ac ps off)
          | .clo g cs => some (PV.clo g cs)
          | _ => none) := by
        intro l
        induction l with
        | nil => intro _; rfl
        | cons x l ih =>
          intro hl
          rw [List.mapM_cons, List.mapM_cons, ev_add (hl x (List.mem_cons_self ..)), ih (fun y hy => hl y (List.mem_cons_of_mem _ hy))]
      by_cases hf : first.size = 0
      · simp only [hf, if_true]; exact congrArg (fun l => Option.bind l fun cs => K (.clo f cs)) (key _ h1)
      · simp only [hf, if_false]
    | _ => simp only [rdK, ho]
  | _ => simp only [rdK, ho]
/-! ### Steps of the environment -/
theorem Env.ext {a b : Env} (h1 : a.t = b.t) (h2 : a.b = b.b) (h3 : a.h = b.h) : a = b := by cases a; cases b; simp at *; exact ⟨h1, h2, h3⟩
theorem add_setT {t : Nat} {p : PV} (h : t ≠ d) : (e.add d z).setT t p = (e.setT t p).add d z := Env.ext (List.set_comm _ _ (Ne.symm h)) rfl rfl
/-- What a map does not change. -/
def Fixes (d : Nat) (z : List PV) (f : PV → PV) : Prop := f (.bx d 0) = .bx d 0 ∧ z.map f = z
theorem add_map {f : PV → PV} (h : Fixes d z f) : (e.add d z).map f = (e.map f).add d z := by
  refine Env.ext ?_ ?_ rfl
  · show (e.t.set d (.bx d 0)).map f = (e.t.map f).set d (.bx d 0)
    rw [List.map_set, h.1]
  · show (e.b.set d z).map (fun l => l.map f) = (e.b.map fun l => l.map f).set d z
    rw [List.map_set, h.2]
/-- The cells of a new box: nothing refers to anything. -/
def Bare (z : List PV) : Prop := ∀ p ∈ z, (∀ n, ¬ refs p n) ∧ (∀ b off, p ≠ .bx b off) ∧ (∀ ps, p ≠ .ag ps)
theorem map_id_of {f : PV → PV} : ∀ {l : List PV}, (∀ p ∈ l, f p = p) → l.map f = l
  | [], _ => rfl
  | p :: l, h => by rw [List.map_cons, h p (List.mem_cons_self ..), map_id_of (fun q hq => h q (List.mem_cons_of_mem _ hq))]
theorem unref_bare {n : Pl} {p : PV} (h : (∀ n, ¬ refs p n) ∧ (∀ b off, p ≠ .bx b off) ∧ (∀ ps, p ≠ .ag ps)) : unref n p = p := by
  cases p with
  | ag ps => exact absurd rfl (h.2.2 ps)
  | r m => exact absurd rfl (h.1 m)
  | ra m i q => exact absurd rfl (h.1 m)
  | rh k i o j q => exact absurd rfl (h.1 (.b (.h i) o))
  | _ => rfl
theorem unbox_bare {b : Nat} {p : PV} (h : (∀ n, ¬ refs p n) ∧ (∀ b off, p ≠ .bx b off) ∧ (∀ ps, p ≠ .ag ps)) : unbox b p = p := by
  cases p with
  | ag ps => exact absurd rfl (h.2.2 ps)
  | r m => exact absurd rfl (h.1 m)
  | ra m i q => exact absurd rfl (h.1 m)
  | bx b off => exact absurd rfl (h.2.1 b off)
  | _ => rfl
theorem unheap_bare {p : PV} (h : (∀ n, ¬ refs p n) ∧ (∀ b off, p ≠ .bx b off) ∧ (∀ ps, p ≠ .ag ps)) : unheap p = p := by
  cases p with
  | ag ps => exact absurd rfl (h.2.2 ps)
  | r m => exact absurd rfl (h.1 m)
  | ra m i q => exact absurd rfl (h.1 m)
  | rh k i o j q => exact absurd rfl (h.1 (.b (.h i) o))
  | _ => rfl
theorem fix_unref (hz : Bare z) (n : Pl) : Fixes d z (unref n) := ⟨rfl, map_id_of fun p hp => unref_bare (hz p hp)⟩
theorem fix_unbox (hz : Bare z) {b : Nat} (h : b ≠ d) : Fixes d z (unbox b) := ⟨if_neg (Ne.symm h), map_id_of fun p hp => unbox_bare (hz p hp)⟩
theorem fix_unheap (hz : Bare z) : Fixes d z unheap := ⟨rfl, map_id_of fun p hp => unheap_bare (hz p hp)⟩
theorem add_scrub (hz : Bare z) (n : Pl) : (e.add d z).scrub n = (e.scrub n).add d z := add_map (fix_unref hz n)
theorem add_scrubB (hz : Bare z) {b : Nat} (h : b ≠ d) : (e.add d z).scrubB b = (e.scrubB b).add d z := add_map (fix_unbox hz h)
theorem add_withH (hz : Bare z) (h : Hp) : (e.add d z).withH h = (e.withH h).add d z := by
  unfold Env.withH Env.scrubH
  rw [add_map (fix_unheap hz)]
  rfl
theorem add_put (hz : Bare z) {t : Nat} {p : PV} (h : t ≠ d) : (e.add d z).put t p = (e.put t p).add d z := by
  unfold Env.put
  split
  · rw [add_scrub hz, add_setT h]
  · rw [add_setT h]
theorem add_putD (hz : Bare z) {t : Option Nat} {p : PV} (h : t ≠ some d) : (e.add d z).putD t p = (e.putD t p).add d z := by
  cases t with
  | none => rfl
  | some t => exact add_put hz (fun hh => h (by rw [hh]))
theorem add_setB {b : Bx} {o : Nat} {p : PV} (h : b ≠ .s d) : (e.add d z).setB b o p = (e.setB b o p).add d z := by
  cases b with
  | h i => rfl
  | s b =>
    have hb : b ≠ d := fun hh => h (by rw [hh])
    refine Env.ext rfl ?_ rfl
    show (e.b.set d z).set b (((e.b.set d z).getD b []).set o p) = (e.b.set b ((e.b.getD b []).set o p)).set d z
    rw [show (e.b.set d z).getD b [] = e.b.getD b [] from box_add (e := e) (d := d) (z := z) h, List.set_comm _ _ (Ne.symm hb)]
theorem add_set {n : Pl} {p : PV} (h1 : n ≠ .t d) (h2 : ∀ o, n ≠ .b (.s d) o) : (e.add d z).set n p = (e.set n p).add d z := by
  cases n with
  | t n => exact add_setT (fun hh => h1 (by rw [hh]))
  | b b o => exact add_setB (fun hh => h2 o (by rw [hh]))
theorem add_share {n : Pl} (h1 : n ≠ .t d) (h2 : ∀ o, n ≠ .b (.s d) o) : (e.add d z).share n = (e.share n).add d z := by
  unfold Env.share
  rw [at_add h1 h2]
  split
  · exact add_set h1 h2
  · rfl
theorem add_newB (hz : Bare z) {b : Nat} {ps : List PV} (h : b ≠ d) : (e.add d z).newB b ps = (e.newB b ps).add d z := by
  unfold Env.newB
  rw [add_scrubB hz h]
  exact Env.ext rfl (List.set_comm _ _ (Ne.symm h)) rfl
theorem add_newH (ps : List PV) : (e.add d z).newH ps = (e.newH ps).add d z := rfl
/-! ### What is handed over -/
abbrev addQ {α : Type} (d : Nat) (z : List PV) (q : α × Env) : α × Env := (q.1, q.2.add d z)
theorem pub_add (h : Cln d e) {x : Operand} (hx : x ≠ .tmp d) : pub (e.add d z) x = (pub e x).map (addQ d z) := by
  have hv := h.ev x
  unfold pub
  rw [ev_add hx]
  cases hq : ev e x with
  | r n =>
    rw [hq] at hv
    have h1 := (hv.1 n rfl).1
    have h2 := (hv.1 n rfl).2
    cases n with
    | t n =>
      simp only [at_add h1 h2, add_share h1 h2]
      cases e.at_ (.t n) <;> rfl
    | b b o => cases b with
      | h i => rfl
      | s b =>
        simp only [at_add h1 h2, add_share h1 h2]
        cases e.at_ (.b (.s b) o) <;> rfl
  | o m k xs =>
    cases x with
    | tmp t =>
      have h1 : Pl.t t ≠ .t d := fun hh => hx (by injection hh with hh; rw [hh])
      simp only [add_share h1 (fun o hh => by cases hh)]
      rfl
    | _ => rfl
  | _ => rfl
theorem mov_add (hz : Bare z) (h : Cln d e) {x : Operand} (hx : x ≠ .tmp d) : mov (e.add d z) x = (mov e x).map (addQ d z) := by
  have hv := h.ev x
  unfold mov
  rw [ev_add hx]
  cases hq : ev e x with
  | r n =>
    rw [hq] at hv
    have h1 := (hv.1 n rfl).1
    have h2 := (hv.1 n rfl).2
    cases n with
    | t n =>
      simp only [at_add h1 h2, add_scrub hz, add_set h1 h2]
      cases e.at_ (.t n) <;> rfl
    | b b o => cases b with
      | h i => rfl
      | s b =>
        simp only [at_add h1 h2, add_scrub hz, add_set h1 h2]
        cases e.at_ (.b (.s b) o) <;> rfl
  | o m k xs =>
    cases x with
    | tmp t =>
      have h1 : t ≠ d := fun hh => hx (by rw [hh])
      simp only [add_scrub hz, add_setT h1]
      rfl
    | _ => rfl
  | _ => rfl
/-! ### Cleanness is kept -/
theorem noRef_un : NoRef d .un := ⟨fun n hn => hn.elim, fun off hh => by cases hh⟩
theorem NoRef.of_o {m : Bool} {k : Kd} {xs : List k.den} : NoRef d (.o m k xs) := ⟨fun n hn => hn.elim, fun off hh => by cases hh⟩
theorem Cln.setT (h : Cln d e) {t : Nat} {p : PV} (ht : t ≠ d) (hp : NoRef d p) : Cln d (e.setT t p) where
  slot := fun n => by rw [Env.slot_setT]; split; exact hp; exact h.slot n
  cell := fun b o => h.cell b o
  un := by rw [Env.slot_setT, if_neg (fun hh => ht hh.1)]; exact h.un
  em := h.em
theorem Cln.setB (h : Cln d e) {b : Bx} {o : Nat} {p : PV} (hb : b ≠ .s d) (hp : NoRef d p) : Cln d (e.setB b o p) where
  slot := fun n => by have := h.slot n; cases b <;> exact this
  cell := fun b' o' => by
    rw [Env.at_setB]
    split
    · exact hp
    · exact h.cell b' o'
  un := by have := h.un; cases b <;> exact this
  em := by rw [Env.box_setB, if_neg hb]; exact h.em
theorem Cln.set (h : Cln d e) {n : Pl} {p : PV} (h1 : n ≠ .t d) (h2 : ∀ o, n ≠ .b (.s d) o) (hp : NoRef d p) : Cln d (e.set n p) := by
  cases n with
  | t n => exact h.setT (fun hh => h1 (by rw [hh])) hp
  | b b o => exact h.setB (fun hh => h2 o (by rw [hh])) hp
theorem Cln.map (h : Cln d e) {f : PV → PV} (h0 : f .un = .un) (hf : ∀ p, NoRef d p → NoRef d (f p)) : Cln d (e.map f) where
  slot := fun n => by rw [Env.slot_map e f h0]; exact hf _ (h.slot n)
  cell := fun b o => by
    rcases Env.at_map e f h0 (.b (.s b) o) with h1 | ⟨⟨i, o', hh⟩, _⟩
    · rw [h1]; exact hf _ (h.cell b o)
    · cases hh
  un := by rw [Env.slot_map e f h0, h.un, h0]
  em := by rw [Env.box_map, h.em]; rfl
theorem Cln.forget (h : Cln d e) {f : PV → PV} (h0 : f .un = .un) (hf : ∀ p, f p = p ∨ f p = .un) : Cln d (e.map f) := h.map h0 fun p hp => by
  rcases hf p with h1 | h1 <;> rw [h1]
  · exact hp
  · exact noRef_un
theorem Cln.scrub (h : Cln d e) (n : Pl) : Cln d (e.scrub n) := h.forget rfl fun p => (unref_spec n p).imp id (·.1)
theorem Cln.scrubB (h : Cln d e) (b : Nat) : Cln d (e.scrubB b) := h.forget rfl fun p => (unbox_spec b p).imp id (·.1)
theorem Cln.withH (h : Cln d e) (x : Hp) : Cln d (e.withH x) := by
  have := h.forget (f := unheap) rfl fun p => (unheap_spec p).imp id (·.1)
  exact ⟨this.slot, this.cell, this.un, this.em⟩
theorem Cln.put (h : Cln d e) {t : Nat} {p : PV} (ht : t ≠ d) (hp : NoRef d p) : Cln d (e.put t p) := by
  unfold Env.put
  split
  · exact (h.scrub _).setT ht hp
  · exact h.setT ht hp
theorem Cln.putD (h : Cln d e) {t : Option Nat} {p : PV} (ht : t ≠ some d) (hp : NoRef d p) : Cln d (e.putD t p) := by
  cases t with
  | none => exact h
  | some t => exact h.put (fun hh => ht (by rw [hh])) hp
theorem Cln.share (h : Cln d e) (n : Pl) : Cln d (e.share n) := by
  unfold Env.share
  split
  · rename_i m k xs hq
    refine h.set (fun hh => ?_) (fun o hh => ?_) NoRef.of_o
    · subst hh; rw [show e.at_ (.t d) = _ from h.un] at hq; cases hq
    · subst hh; rw [at_of_empty h.em] at hq; cases hq
  · exact h
theorem Cln.shareB (h : Cln d e) (b : Nat) : Cln d (e.shareB b) := by
  have key : ∀ (l : List Nat) {e : Env}, Cln d e → Cln d (l.foldl (fun e o => e.share (.b (.s b) o)) e) := by
    intro l
    induction l with
    | nil => intro e h; exact h
    | cons o l ih => intro e h; exact ih (h.share _)
  exact key _ h
theorem Cln.newB (h : Cln d e) {b : Nat} {ps : List PV} (hb : b ≠ d) (hp : ∀ p ∈ ps, NoRef d p) : Cln d (e.newB b ps) := by
  have h1 := h.scrubB b
  unfold Env.newB
  refine ⟨h1.slot, fun b' o => ?_, h1.un, ?_⟩
  · have hg : ((e.scrubB b).b.set b ps).getD b' [] = if b = b' ∧ b < (e.scrubB b).b.length then ps else (e.scrubB b).b.getD b' [] := by
      rw [List.getD_eq_getElem?_getD, List.getD_eq_getElem?_getD, List.getElem?_set]
      by_cases q1 : b = b'
      · subst q1
        by_cases q2 : b < (e.scrubB b).b.length
        · simp [q2]
        · simp [q2, List.getElem?_eq_none (Nat.le_of_not_lt q2)]
      · simp [q1]
    show NoRef d ((((e.scrubB b).b.set b ps).getD b' []).getD o .un)
    rw [hg]
    split
    · rw [List.getD_eq_getElem?_getD]
      cases hq : ps[o]? with
      | none => exact noRef_un
      | some p => exact hp p (List.mem_of_getElem? hq)
    · exact h1.cell b' o
  · show ((e.scrubB b).b.set b ps).getD d [] = []
    rw [List.getD_eq_getElem?_getD, List.getElem?_set, if_neg hb, ← List.getD_eq_getElem?_getD]
    exact h1.em
theorem Cln.newH (h : Cln d e) (ps : List PV) : Cln d (e.newH ps) := ⟨h.slot, h.cell, h.un, h.em⟩
/-- A box more tells the clean state that it stands beside. -/
theorem add_inj {e1 e2 : Env} (h1 : Cln d e1) (h2 : Cln d e2) (h : e1.add d z = e2.add d z) (ht : e1.t.length = e2.t.length) (hb : e1.b.length = e2.b.length) : e1 = e2 := by
  have a1 : e1.t.set d (.bx d 0) = e2.t.set d (.bx d 0) := congrArg Env.t h
  have a2 : e1.b.set d z = e2.b.set d z := congrArg Env.b h
  have a3 : e1.h = e2.h := by have := congrArg Env.h h; exact this
  refine Env.ext (List.ext_getElem? fun n => ?_) (List.ext_getElem? fun n => ?_) a3
  · by_cases hn : d = n
    · subst hn
      have q1 := h1.un
      have q2 := h2.un
      unfold Env.slot at q1 q2
      rw [List.getD_eq_getElem?_getD] at q1 q2
      by_cases hl : d < e1.t.length
      · rw [List.getElem?_eq_getElem hl] at q1 ⊢
        rw [List.getElem?_eq_getElem (by omega)] at q2 ⊢
        simp only [Option.getD_some] at q1 q2
        rw [q1, q2]
      · rw [List.getElem?_eq_none (by omega), List.getElem?_eq_none (by omega)]
    · have := congrArg (fun l => l[n]?) a1
      simp only [List.getElem?_set, if_neg hn] at this
      exact this
  · by_cases hn : d = n
    · subst hn
      have q1 : e1.b.getD d [] = [] := h1.em
      have q2 : e2.b.getD d [] = [] := h2.em
      rw [List.getD_eq_getElem?_getD] at q1 q2
      by_cases hl : d < e1.b.length
      · rw [List.getElem?_eq_getElem hl] at q1 ⊢
        rw [List.getElem?_eq_getElem (by omega)] at q2 ⊢
        simp only [Option.getD_some] at q1 q2
        rw [q1, q2]
      · rw [List.getElem?_eq_none (by omega), List.getElem?_eq_none (by omega)]
    · have := congrArg (fun l => l[n]?) a2
      simp only [List.getElem?_set, if_neg hn] at this
      exact this
theorem pub_cln (h : Cln d e) {x : Operand} {q : PV × Env} (hq : pub e x = some q) : Cln d q.2 := by
  have he := pub_env (p := q.1) (e1 := q.2) hq
  rcases he with h1 | ⟨n, h1⟩
  · rw [h1]; exact h
  · rw [h1]; exact h.share n
theorem mov_cln (h : Cln d e) {x : Operand} {q : PV × Env} (hq : mov e x = some q) (hx : x ≠ .tmp d) : Cln d q.2 := by
  unfold mov at hq
  split at hq
  · simp only [Option.some.injEq] at hq; rw [← hq]; exact h
  · rename_i n _ hn
    have hv : NoRef d (.r n) := hn ▸ h.ev _
    split at hq
    · simp only [Option.some.injEq] at hq; rw [← hq]
      exact (h.scrub _).set (hv.1 n rfl).1 (hv.1 n rfl).2 noRef_un
    · cases hq
  · rename_i t _
    simp only [Option.some.injEq] at hq; rw [← hq]
    exact (h.scrub _).setT (fun hh => hx (by rw [hh])) noRef_un
  · cases hq
  · cases hq
  · simp only [Option.some.injEq] at hq; rw [← hq]; exact h
theorem pubs_add : ∀ (xs : List Operand) (ts : List Nat) {e : Env}, Cln d e → (∀ x ∈ xs, x ≠ .tmp d) → pubs c (e.add d z) xs ts = (pubs c e xs ts).map (addQ d z)
  | [], ts, e, h, hx => rfl
  | x :: xs, ts, e, h, hx => by
    simp only [pubs]
    rw [pub_add h (hx x (List.mem_cons_self ..))]
    cases hp : pub e x with
    | none => rfl
    | some q =>
      simp only [Option.map_some, Option.bind_some]
      rw [pubs_add xs ts.tail (pub_cln h hp) (fun y hy => hx y (List.mem_cons_of_mem _ hy))]
      cases pubs c q.2 xs ts.tail <;> rfl
theorem pubs_cln : ∀ (xs : List Operand) (ts : List Nat) {e : Env} {q : List PV × Env}, Cln d e → pubs c e xs ts = some q → Cln d q.2
  | [], ts, e, q, h, hq => by simp only [pubs, Option.some.injEq] at hq; rw [← hq]; exact h
  | x :: xs, ts, e, q, h, hq => by
    simp only [pubs] at hq
    obtain ⟨p, h1, hq1⟩ := Option.bind_eq_some_iff.1 hq
    obtain ⟨p2, h2, hq2⟩ := Option.bind_eq_some_iff.1 hq1
    simp only [Option.some.injEq] at hq2
    rw [← hq2]
    exact pubs_cln (q := p2) xs ts.tail (pub_cln h h1) h2
theorem pubH_add (h : Cln d e) {x : Operand} (hx : x ≠ .tmp d) : pubH (e.add d z) x = (pubH e x).map (addQ d z) := by
  unfold pubH
  rw [ev_add hx, pub_add h hx]
  split <;> rfl
theorem pubH_cln (h : Cln d e) {x : Operand} {q : PV × Env} (hq : pubH e x = some q) : Cln d q.2 := by
  unfold pubH at hq
  split at hq
  · simp only [Option.some.injEq] at hq; rw [← hq]; exact h
  · simp only [Option.some.injEq] at hq; rw [← hq]; exact h
  · exact pub_cln h hq
theorem pubsH_add : ∀ (xs : List Operand) (ts : List Nat) {e : Env}, Cln d e → (∀ x ∈ xs, x ≠ .tmp d) → pubsH c (e.add d z) xs ts = (pubsH c e xs ts).map (addQ d z)
  | [], ts, e, h, hx => rfl
  | x :: xs, ts, e, h, hx => by
    simp only [pubsH]
    rw [pubH_add h (hx x (List.mem_cons_self ..))]
    cases hp : pubH e x with
    | none => rfl
    | some q =>
      simp only [Option.map_some, Option.bind_some]
      rw [pubsH_add xs ts.tail (pubH_cln h hp) (fun y hy => hx y (List.mem_cons_of_mem _ hy))]
      cases pubsH c q.2 xs ts.tail <;> rfl
theorem pubsH_cln : ∀ (xs : List Operand) (ts : List Nat) {e : Env} {q : List PV × Env}, Cln d e → pubsH c e xs ts = some q → Cln d q.2
  | [], ts, e, q, h, hq => by simp only [pubsH, Option.some.injEq] at hq; rw [← hq]; exact h
  | x :: xs, ts, e, q, h, hq => by
    simp only [pubsH] at hq
    obtain ⟨p, h1, hq1⟩ := Option.bind_eq_some_iff.1 hq
    obtain ⟨p2, h2, hq2⟩ := Option.bind_eq_some_iff.1 hq1
    simp only [Option.some.injEq] at hq2
    rw [← hq2]
    exact pubsH_cln (q := p2) xs ts.tail (pubH_cln h h1) h2
theorem fillK_add (k : Kd) : ∀ (ps : List (Nat × Operand)) {e : Env} (x : k.den), Cln d e → (∀ q ∈ ps, q.2 ≠ .tmp d) → fillK c k (e.add d z) x ps = (fillK c k e x ps).map (addQ d z)
  | [], e, x, h, hx => rfl
  | (f, y) :: ps, e, x, h, hx => by
    simp only [fillK]
    rw [pub_add h (hx (f, y) (List.mem_cons_self ..))]
    cases hp : pub e y with
    | none => rfl
    | some q =>
      simp only [Option.map_some, Option.bind_some]
      cases setComp k x f q.1 with
      | none => rfl
      | some w => exact fillK_add k ps w (pub_cln h hp) (fun y hy => hx y (List.mem_cons_of_mem _ hy))
theorem pubC_add (k : Kd) {K2 K : k.den → Env → Option ρ} (hA : ∀ x e1, Cln d e1 → K2 x (e1.add d z) = K x e1) (h : Cln d e) {y : Operand} (hy : y ≠ .tmp d) : pubC k (e.add d z) y K2 = pubC k e y K := by
  have gen : ((pub (e.add d z) y).bind fun p => (toDen k p.1).bind fun x => K2 x p.2) = ((pub e y).bind fun p => (toDen k p.1).bind fun x => K x p.2) := by
    rw [pub_add h hy]
    cases hp : pub e y with
    | none => rfl
    | some q =>
      simp only [Option.map_some, Option.bind_some]
      cases toDen k q.1 with
      | none => rfl
      | some w => exact hA w _ (pub_cln h hp)
  unfold pubC
  rw [ev_add hy]
  cases hq : ev e y with
  | r n => cases n with
    | t n => cases k <;> exact gen
    | b b o => cases b with
      | s b => cases k <;> exact gen
      | h i => cases k with
        | list k0 =>
          show (hown k0 e.h i o).bind _ = (hown k0 e.h i o).bind _
          cases hown k0 e.h i o with
          | none => rfl
          | some xs =>
            simp only [Option.bind_some]
            rw [add_setB (fun hh => by cases hh)]
            exact hA xs _ (h.setB (fun hh => by cases hh) ⟨fun n hn => hn.elim, fun off hh => by cases hh⟩)
        | _ => exact gen
  | _ => cases k <;> exact gen
theorem elemsC_add (k : Kd) : ∀ (ps : List (Nat × Operand)) {e : Env} (n : Nat) {K2 K : List k.den → Env → Option ρ}, (∀ x e1, Cln d e1 → K2 x (e1.add d z) = K x e1) → Cln d e → (∀ q ∈ ps, q.2 ≠ .tmp d) → elemsC k (e.add d z) n ps K2 = elemsC k e n ps K
  | [], e, n, K2, K, hA, h, hx => hA [] e h
  | (j, y) :: ps, e, n, K2, K, hA, h, hx => by
    simp only [elemsC]
    split
    · exact pubC_add k (fun x e1 h1 => elemsC_add k ps (n + 1) (fun xs e2 h2 => hA (x :: xs) e2 h2) h1 fun y hy => hx y (List.mem_cons_of_mem _ hy)) h (hx (j, y) (List.mem_cons_self ..))
    · rfl
theorem fillK_cln (k : Kd) : ∀ (ps : List (Nat × Operand)) {e : Env} (x : k.den) {q : k.den × Env}, Cln d e → fillK c k e x ps = some q → Cln d q.2
  | [], e, x, q, h, hq => by simp only [fillK, Option.some.injEq] at hq; rw [← hq]; exact h
  | (f, y) :: ps, e, x, q, h, hq => by
    simp only [fillK] at hq
    obtain ⟨p, h1, hq1⟩ := Option.bind_eq_some_iff.1 hq
    obtain ⟨w, h2, hq2⟩ := Option.bind_eq_some_iff.1 hq1
    exact fillK_cln k ps w (pub_cln h h1) hq2
theorem shareB_add {b : Nat} (hb : b ≠ d) : (e.add d z).shareB b = (e.shareB b).add d z := by
  have key : ∀ (l : List Nat) {e : Env}, l.foldl (fun e o => e.share (.b (.s b) o)) (e.add d z) = (l.foldl (fun e o => e.share (.b (.s b) o)) e).add d z := by
    intro l
    induction l with
    | nil => intro e; rfl
    | cons o l ih =>
      intro e
      rw [List.foldl_cons, List.foldl_cons, add_share (fun hh => by cases hh) (fun o' hh => by injection hh with hh; injection hh with hh; exact hb hh), ih]
  unfold Env.shareB
  rw [box_add (fun hh => by injection hh with hh; exact hb hh)]
  exact key _
theorem setBs_add {b : Nat} (hb : b ≠ d) : ∀ (l : List (PV × Nat)) {e : Env}, l.foldl (fun e q => e.setB (.s b) q.2 q.1) (e.add d z) = (l.foldl (fun e q => e.setB (.s b) q.2 q.1) e).add d z
  | [], e => rfl
  | q :: l, e => by
    rw [List.foldl_cons, List.foldl_cons, add_setB (fun hh => by injection hh with hh; exact hb hh), setBs_add hb l]
theorem setBs_cln {b : Nat} (hb : b ≠ d) : ∀ (l : List (PV × Nat)) {e : Env}, (∀ q ∈ l, NoRef d q.1) → Cln d e → Cln d (l.foldl (fun e q => e.setB (.s b) q.2 q.1) e)
  | [], e, _, h => h
  | q :: l, e, hl, h => by
    rw [List.foldl_cons]
    exact setBs_cln hb l (fun r hr => hl r (List.mem_cons_of_mem _ hr)) (h.setB (fun hh => by injection hh with hh; exact hb hh) (hl q (List.mem_cons_self ..)))
theorem agK_add (h : Cln d e) (k : Kd) : ∀ (ps : List (Nat × Operand)) (l : List PV), (∀ q ∈ ps, q.2 ≠ .tmp d) → opK.agK (e.add d z) l k ps = opK.agK e l k ps
  | [], l, hx => rfl
  | (f, y) :: ps, l, hx => by
    have hy := hx (f, y) (List.mem_cons_self ..)
    have hcp := h.cp (x := y) hy
    have hok : ∀ k', opK.okA k' (e.add d z) (cp e y) = opK.okA k' e (cp e y) := fun k' => by
      cases hq : cp e y with
      | r n =>
        cases n with
        | t n =>
          rw [hq] at hcp
          have hn : n ≠ d := fun hh => (hcp.1 (.t n) rfl).1 (by rw [hh])
          unfold opK.okA
          simp only [slot_add hn]
        | b b o => rfl
      | _ => rfl
    simp only [opK.agK, cp_add hy, hok]
    congr 1
    funext q
    split
    · exact agK_add h k ps _ (fun q hq => hx q (List.mem_cons_of_mem _ hq))
    · rfl
theorem layK_add (hz : Bare z) : ∀ (ps : List PV) {e : Env}, Cln d e → (∀ n, .r n ∈ ps → n ≠ .t d) → opK.layK (e.add d z) ps = (opK.layK e ps).map (addQ d z)
  | [], e, h, hp => rfl
  | p :: ps, e, h, hp => by
    have hps : ∀ n, .r n ∈ ps → n ≠ .t d := fun n hn => hp n (List.mem_cons_of_mem _ hn)
    have plain : ∀ {p : PV}, (∀ n, p ≠ .r n) → opK.layK (e.add d z) (p :: ps) = (opK.layK e (p :: ps)).map (addQ d z) := fun {p} hr => by
      have e1 : ∀ e : Env, opK.layK e (p :: ps) = if hokB p && !isO p then (opK.layK e ps).bind fun q => some (p :: q.1, q.2) else none := fun e => by
        cases p <;> first | rfl | exact absurd rfl (hr _)
      rw [e1, e1, layK_add hz ps h hps]
      split
      · cases opK.layK e ps <;> rfl
      · rfl
    cases p with
    | r n =>
      cases n with
      | t n =>
        have hn : n ≠ d := fun hh => hp (.t n) (List.mem_cons_self ..) (by rw [hh])
        simp only [opK.layK, slot_add hn]
        cases hq : e.slot n with
        | o m k xs =>
          cases m with
          | true =>
            simp only [add_scrub hz, add_setT hn]
            rw [layK_add hz ps ((h.scrub _).setT hn noRef_un) hps]
            cases opK.layK ((e.scrub (.t n)).setT n .un) ps <;> rfl
          | false => rfl
        | _ => rfl
      | b b o => rfl
    | _ => exact plain (fun n hh => by cases hh)
theorem layK_cln : ∀ (ps : List PV) {e : Env} {q : List PV × Env}, Cln d e → (∀ n, .r n ∈ ps → n ≠ .t d) → opK.layK e ps = some q → Cln d q.2
  | [], e, q, h, hp, hq => by simp only [opK.layK, Option.some.injEq] at hq; rw [← hq]; exact h
  | p :: ps, e, q, h, hp, hq => by
    have hps : ∀ n, .r n ∈ ps → n ≠ .t d := fun n hn => hp n (List.mem_cons_of_mem _ hn)
    have plain : (if hokB p && !isO p then (opK.layK e ps).bind fun q => some (p :: q.1, q.2) else none) = some q → Cln d q.2 := fun hq => by
      split at hq
      · obtain ⟨v, h1, h2⟩ := Option.bind_eq_some_iff.1 hq
        simp only [Option.some.injEq] at h2
        rw [← h2]
        exact layK_cln (q := v) ps h hps h1
      · cases hq
    cases p with
    | r n =>
      cases n with
      | t n =>
        have hn : n ≠ d := fun hh => hp (.t n) (List.mem_cons_self ..) (by rw [hh])
        simp only [opK.layK] at hq
        split at hq
        · obtain ⟨v, h1, h2⟩ := Option.bind_eq_some_iff.1 hq
          simp only [Option.some.injEq] at h2
          rw [← h2]
          exact layK_cln (q := v) ps ((h.scrub _).setT hn noRef_un) hps h1
        · cases hq
      | b b o => simp only [opK.layK] at hq; cases hq
    | _ => exact plain hq
theorem add_putB (hz : Bare z) {b : Bx} {o : Nat} {p : PV} (hb : b ≠ .s d) : (e.add d z).putB b o p = (e.putB b o p).add d z := by
  unfold Env.putB
  split
  · rw [add_scrub hz, add_setB hb]
  · rw [add_setB hb]
theorem Cln.putB (h : Cln d e) {b : Bx} {o : Nat} {p : PV} (hb : b ≠ .s d) (hp : NoRef d p) : Cln d (e.putB b o p) := by
  unfold Env.putB
  split
  · exact (h.scrub _).setB hb hp
  · exact h.setB hb hp
theorem agK_noRef (h : Cln d e) (k : Kd) : ∀ (ps : List (Nat × Operand)) (l q : List PV), (∀ q ∈ ps, q.2 ≠ .tmp d) → (∀ n, .r n ∈ l → n ≠ .t d ∧ ∀ o, n ≠ .b (.s d) o) → opK.agK e l k ps = some q → ∀ n, .r n ∈ q → n ≠ .t d ∧ ∀ o, n ≠ .b (.s d) o
  | [], l, q, _, hl, hq => by simp only [opK.agK, Option.some.injEq] at hq; rw [← hq]; exact hl
  | (f, y) :: ps, l, q, hx, hl, hq => by
    simp only [opK.agK] at hq
    obtain ⟨w, h1, hq1⟩ := Option.bind_eq_some_iff.1 hq
    split at hq1
    · refine agK_noRef h k ps _ q (fun q hq => hx q (List.mem_cons_of_mem _ hq)) (fun n hn => ?_) hq1
      rcases List.mem_or_eq_of_mem_set hn with hn | hn
      · exact hl n hn
      · exact (h.cp (hx (f, y) (List.mem_cons_self ..))).1 n (by rw [← hn]; rfl)
    · cases hq1
theorem hzeros_noR (b : Bool) : ∀ (k : Kd) (n : Pl), PV.r n ∉ hzeros b k
  | .pair x y, n => fun h => (List.mem_append.1 h).elim (hzeros_noR b x n) (hzeros_noR b y n)
  | .unit, n => fun h => by cases h
  | .int _, n => fun h => by cases List.mem_singleton.1 h
  | .bool, n => fun h => by cases List.mem_singleton.1 h
  | .str, n => fun h => by cases List.mem_singleton.1 h
  | .list _, n => fun h => by cases b <;> cases List.mem_singleton.1 h
  | .ptr, n => fun h => by cases List.mem_singleton.1 h
  | .fn, n => fun h => by cases List.mem_singleton.1 h
  | .err, n => fun h => by cases List.mem_singleton.1 h
theorem fzB_add (hz : Bare z) {b : Nat} (hb : b ≠ d) : (e.add d z).fzB b = (e.fzB b).add d z := by
  have hg : (e.add d z).b.getD b [] = e.b.getD b [] := box_add (e := e) (d := d) (z := z) (b := .s b) (fun hh => by injection hh with hh; exact hb hh)
  have hf : Fixes d z (toAc b ((e.b.getD b []).map fzC)) := ⟨if_neg (Ne.symm hb), map_id_of fun p hp => by
    have h1 := hz p hp
    rcases toAc_cases b ((e.b.getD b []).map fzC) p with h2 | ⟨h2, _⟩ | ⟨off, h2, _⟩
    · exact h2
    · have h3 : toAc b ((e.b.getD b []).map fzC) p = unbox b p := by cases p <;> first | rfl | exact absurd rfl (h1.2.1 _ _)
      rw [h3]; exact unbox_bare h1
    · exact absurd h2 (h1.2.1 b off)⟩
  unfold Env.fzB
  rw [hg]
  simp only
  rw [add_map hf]
  exact Env.ext rfl (List.set_comm _ _ (Ne.symm hb)) rfl
theorem fzB_cln (h : Cln d e) {b : Nat} (hb : b ≠ d) : Cln d (e.fzB b) := by
  have h1 : Cln d (e.map (toAc b ((e.b.getD b []).map fzC))) := h.map rfl fun p hp => by
    rcases toAc_cases b ((e.b.getD b []).map fzC) p with h2 | ⟨h2, _⟩ | ⟨off, _, h2⟩
    · rw [h2]; exact hp
    · rw [h2]; exact noRef_un
    · rw [h2]; exact ⟨fun n hn => hn.elim, fun off hh => by cases hh⟩
  refine ⟨h1.slot, fun b' o => ?_, h1.un, ?_⟩
  · by_cases hbb : b' = b
    · subst hbb
      rw [at_of_empty (fzB_box e b') o]; exact noRef_un
    · show NoRef d (((e.fzB b).box (.s b')).getD o .un)
      rw [fzB_box' e b (.s b') (fun hh => by injection hh with hh; exact hbb hh)]
      exact h1.cell b' o
  · rw [fzB_box' e b (.s d) (fun hh => by injection hh with hh; exact hb hh.symm)]
    exact h1.em
theorem capsK_add (hz : Bare z) : ∀ (xs : List Operand) {e : Env}, Cln d e → (∀ x ∈ xs, x ≠ .tmp d) → capsK (e.add d z) xs = (capsK e xs).map (addQ d z)
  | [], e, h, hx => rfl
  | x :: xs, e, h, hx => by
    have hv := h.ev x
    have hxs := fun y hy => hx y (List.mem_cons_of_mem _ hy)
    simp only [capsK, ev_add (hx x (List.mem_cons_self ..))]
    cases hq : ev e x with
    | p y => simp only [capsK_add hz xs h hxs]; cases capsK e xs <;> rfl
    | ac ps off => simp only [capsK_add hz xs h hxs]; cases capsK e xs <;> rfl
    | clo g cs => simp only [capsK_add hz xs h hxs]; cases capsK e xs <;> rfl
    | bx b off =>
      have hb : b ≠ d := fun hh => by subst hh; exact hv.2 off hq
      have hg : (e.add d z).b.getD b [] = e.b.getD b [] := box_add (e := e) (d := d) (z := z) (b := .s b) (fun hh => by injection hh with hh; exact hb hh)
      simp only [fzB_add hz hb, hg]
      rw [capsK_add hz xs (fzB_cln h hb) hxs]
      cases capsK (e.fzB b) xs <;> rfl
    | _ => rfl
theorem capsK_cln : ∀ (xs : List Operand) {e : Env} {q : List PV × Env}, Cln d e → capsK e xs = some q → Cln d q.2
  | [], e, q, h, hq => by simp only [capsK, Option.some.injEq] at hq; rw [← hq]; exact h
  | x :: xs, e, q, h, hq => by
    have hv := h.ev x
    have plain : ∀ {p : PV} {e : Env}, Cln d e → ((capsK e xs).bind fun q => some (p :: q.1, q.2)) = some q → Cln d q.2 := fun {p e} h hq => by
      obtain ⟨v, h1, h2⟩ := Option.bind_eq_some_iff.1 hq
      simp only [Option.some.injEq] at h2
      rw [← h2]
      exact capsK_cln (q := v) xs h h1
    simp only [capsK] at hq
    split at hq
    · exact plain h hq
    · exact plain h hq
    · exact plain h hq
    · rename_i b off hx
      have hb : b ≠ d := fun hh => by subst hh; exact hv.2 off hx
      exact plain (fzB_cln h hb) hq
    · cases hq
end
end Go.Pv
