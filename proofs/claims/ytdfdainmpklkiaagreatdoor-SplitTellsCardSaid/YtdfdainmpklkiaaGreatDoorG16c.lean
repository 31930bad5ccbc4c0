/- A box more that nobody refers to makes no difference: all operations. -/
import Derived.Test.YtdfdainmpklkiaaGreatDoorG16b
set_option linter.unusedVariables false
set_option linter.unusedSimpArgs false
namespace Go.Pv
open Go.RowKit
section
variable {c : Cx} {e : Env} {o : Oper} {ρ : Type} {d : Nat} {z : List PV} {Y : Yd ρ} {K K2 : Kt ρ}
theorem noRef_ofDen (k : Kd) (x : k.den) : NoRef d (ofDen k x) := ⟨fun n hn => absurd hn (refs_ofDen k x n), fun off => bx_ofDen k x d off⟩
theorem noRef_res {p : PV} (h : okRes p = true) : NoRef d p := by
  cases p with
  | r m => cases m with
    | t n => cases h
    | b b o => cases b with
      | s b => cases h
      | h i => exact ⟨fun n hn => by cases hn; exact ⟨fun hh => (by cases hh), fun o hh => (by cases hh)⟩, fun off hh => by cases hh⟩
  | rh k i o j q => exact ⟨fun n hn => by cases hn; exact ⟨fun hh => (by cases hh), fun o hh => (by cases hh)⟩, fun off hh => by cases hh⟩
  | ra m i q => cases h
  | bx b off => cases h
  | ag ps => cases h
  | un => cases h
  | _ => exact ⟨fun n hn => hn.elim, fun off hh => by cases hh⟩
/-- Two continuations that agree. -/
def Agree (d : Nat) (z : List PV) {ρ : Type} (K2 K : Kt ρ) : Prop := ∀ e1, Cln d e1 → K2 (e1.add d z) = K e1
theorem bind_add {α : Type} {X : Option (α × Env)} {f g : α × Env → Option ρ} (hX : ∀ q, X = some q → f (addQ d z q) = g q) : (X.map (addQ d z)).bind f = X.bind g := by
  cases X with
  | none => rfl
  | some q => exact hX q rfl
theorem Agree.put (hA : Agree d z K2 K) (hz : Bare z) {e1 : Env} (h : Cln d e1) {t : Option Nat} (ht : t ≠ some d) {p : PV} (hp : NoRef d p) : K2 ((e1.add d z).putD t p) = K (e1.putD t p) := by
  rw [add_putD hz ht]
  exact hA _ (h.putD ht hp)
theorem callG_add (hA : Agree d z K2 K) (hz : Bare z) (h : Cln d e) (hd : o.dst ≠ some d) {q : Call} (hq : ∀ x ∈ q.args.toList, x ≠ .tmp d) (g : Nat) (cs : List PV) :
    opK.callG c o (e.add d z) q g cs (fun e p => K2 (e.putD o.dst p)) = opK.callG c o e q g cs (fun e p => K (e.putD o.dst p)) := by
  unfold opK.callG
  split
  · rw [pubsH_add _ _ h hq]
    refine bind_add fun a ha => ?_
    have hc := pubsH_cln _ _ h ha
    show c.callH g (a.1 ++ cs) a.2.h _ = c.callH g (a.1 ++ cs) a.2.h _
    congr 1
    funext r h'
    split
    · rename_i hr
      show K2 (((a.2.add d z).withH h').putD o.dst r) = _
      rw [add_withH hz]
      exact hA.put hz (hc.withH h') hd (noRef_res hr)
    · rfl
  · split
    · rw [pubsH_add _ _ h hq]
      refine bind_add fun a ha => ?_
      have hc := pubsH_cln _ _ h ha
      show c.callR g (a.1 ++ cs) a.2.h _ = c.callR g (a.1 ++ cs) a.2.h _
      congr 1
      funext r
      split
      · rename_i hr; exact hA.put hz hc hd (noRef_res hr)
      · rfl
    · rw [pubs_add _ _ h hq]
      refine bind_add fun a ha => ?_
      have hc := pubs_cln _ _ h ha
      show c.call g (a.1 ++ cs) _ = c.call g (a.1 ++ cs) _
      congr 1
      funext r
      split
      · rename_i hr; exact hA.put hz hc hd (noRef_res hr)
      · rfl
/-- A read may come with whatever it hands on. -/
theorem rd_agree (hA : Agree d z K2 K) (hz : Bare z) (h : Cln d e) (hd : o.dst ≠ some d) (hx : ∀ x ∈ o.op.operands, x ≠ .tmp d) (hr : ∀ (f g : PV → Option ρ), (∀ p, NoRef d p → f p = g p) → rdK c o e f = rdK c o e g) :
    rdK c o (e.add d z) (fun p => K2 ((e.add d z).putD o.dst p)) = rdK c o e (fun p => K (e.putD o.dst p)) := by
  rw [rd_add h hx]
  exact hr _ _ fun p hp => hA.put hz h hd hp
theorem assign_add (hA : Agree d z K2 K) (hz : Bare z) (h : Cln d e) (hd : o.dst ≠ some d) {x : Operand} (ho : o.op = .assign x) (hx : x ≠ .tmp d) (hn : ∀ p, NoRef d p → NoRef d (ownNil c o.type p)) (hm : ∀ q, mov e x = some q → NoRef d q.1) :
    opK c Y o (e.add d z) K2 = opK c Y o e K := by
  simp only [opK, ho]
  rw [mov_add hz h hx]
  exact bind_add fun q hq => hA.put hz (mov_cln h hq hx) hd (hn _ (hm q hq))
theorem mov_noRef (h : Cln d e) {x : Operand} {q : PV × Env} (hq : mov e x = some q) : NoRef d q.1 := by
  have hv := h.ev x
  unfold mov at hq
  split at hq
  · rename_i i o hx
    simp only [Option.some.injEq] at hq; rw [← hq]; rw [hx] at hv; exact hv
  · split at hq
    · simp only [Option.some.injEq] at hq; rw [← hq]; exact NoRef.of_o
    · cases hq
  · simp only [Option.some.injEq] at hq; rw [← hq]; exact NoRef.of_o
  · cases hq
  · cases hq
  · simp only [Option.some.injEq] at hq; rw [← hq]; exact hv
theorem noRef_nil (t : Nat) {p : PV} (hp : NoRef d p) : NoRef d (ownNil c t p) := by
  unfold ownNil
  split
  · split
    · exact NoRef.of_o
    · exact hp
  · exact hp
def closedP0 : PV → Bool
  | .r _ => false
  | .ra _ _ _ => false
  | .rh _ _ _ _ _ => false
  | .bx _ _ => false
  | .ag _ => false
  | _ => true
theorem bif_congr {b : Bool} {x y u : Option ρ} (h : x = y) : (bif b then x else u) = (bif b then y else u) := by rw [h]
theorem obind_congr {α : Type} {X : Option α} {f g : α → Option ρ} (h : ∀ a, X = some a → f a = g a) : X.bind f = X.bind g := by
  cases X with
  | none => rfl
  | some a => exact h a rfl
theorem NoRef.plain {p : PV} (h : closedP0 p = true) : NoRef d p := by
  cases p <;> first | (cases h; done) | exact ⟨fun n hn => hn.elim, fun off hh => by cases hh⟩
theorem bif_congr2 {b : Bool} {x y u v : Option ρ} (h : x = y) (k : u = v) : (bif b then x else u) = (bif b then y else v) := by rw [h, k]
theorem shift_ext {f g : PV → Option ρ} (plain : ∀ {p : PV}, closedP0 p = true → f p = g p) (op : BinOp) (k : IntKind) (x y : Int) : shiftK op k x y f = shiftK op k x y g := by
  unfold shiftK
  refine bif_congr2 rfl ?_
  split <;> first | exact plain rfl | rfl
theorem arith_ext {f g : PV → Option ρ} (plain : ∀ {p : PV}, closedP0 p = true → f p = g p) (op : BinOp) (k : IntKind) (x y : Int) : arith op k x y f = arith op k x y g := by
  unfold arith
  split <;> first | exact plain rfl | exact bif_congr2 rfl (plain rfl) | rfl
theorem bin_ext {f g : PV → Option ρ} (plain : ∀ {p : PV}, closedP0 p = true → f p = g p) (op : BinOp) (p q : PV) : binK op p q f = binK op p q g := by
  unfold binK
  split
  · split
    · exact shift_ext plain _ _ _ _
    · exact shift_ext plain _ _ _ _
    · split
      · exact arith_ext plain _ _ _ _
      · rfl
  · unfold strOp; split <;> first | exact bif_congr (plain rfl) | exact plain rfl | rfl
  · split <;> first | exact plain rfl | rfl
  · rfl
/-- What a read hands on does not speak of the box. -/
theorem rd_ext (h : Cln d e) (hx : ∀ x ∈ o.op.operands, x ≠ .tmp d) {f g : PV → Option ρ} (hfg : ∀ p, NoRef d p → f p = g p) : rdK c o e f = rdK c o e g := by
  have plain : ∀ {p : PV}, closedP0 p = true → f p = g p := fun {p} hp => hfg p (NoRef.plain hp)
  have den : ∀ (k : Kd) (x : k.den), f (ofDen k x) = g (ofDen k x) := fun k x => hfg _ (noRef_ofDen k x)
  cases ho : o.op with
  | move x => simp only [rdK, ho]; exact hfg _ (h.cp (hx x (by simp [ho, Op.operands])))
  | pick q x y =>
    have h2 := hx x (by simp [ho, Op.operands])
    have h3 := hx y (by simp [ho, Op.operands])
    simp only [rdK, ho]
    split
    · split
      · exact plain rfl
      · rw [hfg _ (h.cp h2), hfg _ (h.cp h3)]
    · rfl
  | nilCheck x =>
    have hv := h.ev x
    simp only [rdK, ho]
    split
    · rename_i hq; rw [hq] at hv; exact hfg _ hv
    · exact plain rfl
    · exact obind_congr fun a _ => plain rfl
    · exact plain rfl
    · rename_i hq; rw [hq] at hv; exact obind_congr fun a _ => hfg _ hv
    · rename_i hq
      rw [hq] at hv
      split
      · exact hfg _ hv
      · rfl
    · rfl
  | field t x fi =>
    simp only [rdK, ho]
    split
    · split
      · exact obind_congr fun a _ => den _ _
      · rfl
    · rfl
  | extract x j =>
    simp only [rdK, ho]
    split
    · split
      · exact den _ _
      · rfl
    · rfl
  | load t x =>
    have hv := h.ev x
    simp only [rdK, ho]
    split
    · rename_i k b off _ hq
      rw [hq] at hv
      have hb : b ≠ d := fun hh => by subst hh; exact hv.2 off rfl
      split
      · split
        · exact obind_congr fun a _ => den _ _
        · rfl
      · have hcl : NoRef d (e.cell (.s b) off) := h.cell b off
        split
        · exact hfg _ ⟨fun n hn => by cases hn; exact ⟨fun hh => (by cases hh), fun o hh => (by injection hh with hh; injection hh with hh; exact hb hh)⟩, fun off hh => by cases hh⟩
        · rfl
        · exact hfg _ hcl
    · refine obind_congr fun q _ => ?_
      split
      · exact obind_congr fun a _ => den _ _
      · split
        · split
          · exact obind_congr fun a _ => hfg _ ⟨fun n hn => by cases hn; exact ⟨fun hh => (by cases hh), fun o hh => (by cases hh)⟩, fun off hh => by cases hh⟩
          · rfl
        · exact obind_congr fun a _ => den _ _
    · split
      · exact obind_congr fun a _ => den _ _
      · split
        · rfl
        · split
          · rename_i hp; exact hfg _ (noRef_res hp)
          · rfl
    · exact obind_congr fun a _ => obind_congr fun y _ => by split <;> first | exact den _ _ | rfl
    · split <;> first | exact den _ _ | rfl
    · split
      · exact obind_congr fun y _ => by split <;> first | exact den _ _ | rfl
      · rfl
    · rfl
  | index t x ix =>
    simp only [rdK, ho]
    split
    · exact bif_congr (plain rfl)
    · rfl
  | build t ps =>
    simp only [rdK, ho]
    split
    · split
      · exact obind_congr fun a _ => plain rfl
      · rfl
    · rfl
  | convert s t x =>
    simp only [rdK, ho]
    split <;> first | exact plain rfl | rfl
  | unOp op t x =>
    simp only [rdK, ho, unK]
    split <;> first | exact plain rfl | rfl
  | fieldAddr t x fi =>
    have hv := h.ev x
    simp only [rdK, ho]
    split
    · rename_i hq; rw [hq] at hv
      refine obind_congr fun q _ => ?_
      split
      · rfl
      · exact hfg _ ⟨fun n hn => hn.elim, fun off hh => by injection hh with hh; exact hv.2 _ (by rw [hh])⟩
    · exact obind_congr fun z _ => obind_congr fun q _ => by split <;> first | rfl | exact plain rfl
    · exact obind_congr fun q _ => by split <;> first | rfl | exact plain rfl
    · rename_i hq; rw [hq] at hv
      refine obind_congr fun q _ => ?_
      split
      · refine obind_congr fun y _ => ?_
        split
        · rfl
        · exact obind_congr fun _ _ => hfg _ ⟨fun n hn => hv.1 n hn, fun off hh => by cases hh⟩
      · rfl
    · split
      · exact obind_congr fun y _ => by split <;> first | rfl | exact plain rfl
      · rfl
    · rename_i hq; rw [hq] at hv
      split
      · refine obind_congr fun q _ => ?_
        split
        · refine obind_congr fun y _ => ?_
          split
          · rfl
          · exact hfg _ ⟨fun n hn => hv.1 n hn, fun off hh => by cases hh⟩
        · rfl
      · rfl
    · rfl
  | indexAddr t x ix =>
    have hv := h.cp (hx x (by simp [ho, Op.operands]))
    simp only [rdK, ho]
    split
    · split
      · exact obind_congr fun a _ => bif_congr (hfg _ ⟨fun n hn => by cases hn; exact ⟨fun hh => (by cases hh), fun o hh => (by cases hh)⟩, fun off hh => by cases hh⟩)
      · rename_i hq; rw [hq] at hv
        split
        · split
          · exact bif_congr (hfg _ ⟨fun n hn => hv.1 n hn, fun off hh => by cases hh⟩)
          · rfl
        · split
          · exact bif_congr (plain rfl)
          · rfl
        · rfl
      · split
        · exact bif_congr (plain rfl)
        · rfl
      · rfl
    · rfl
  | makeFunc fn first caps =>
    cases fn with
    | func fn =>
      simp only [rdK, ho]
      split
      · exact obind_congr fun a _ => plain rfl
      · rfl
    | _ => simp only [rdK, ho]
  | call q =>
    simp only [rdK, ho]
    split
    · split
      · split
        · exact plain rfl
        · rfl
      · unfold listC
        split
        · exact obind_congr fun a _ => plain rfl
        · exact obind_congr fun a _ => plain rfl
      · rfl
    · unfold rdK.mmK
      split
      · exact obind_congr fun a _ => plain rfl
      · rfl
    · unfold rdK.mmK
      split
      · exact obind_congr fun a _ => plain rfl
      · rfl
    · rfl
  | slice t x lo hi mx =>
    have bnd : ∀ (x : Option PV) (m : Int) {F G : Int → Option ρ}, (∀ n, F n = G n) → rdK.bndK x m F = rdK.bndK x m G := fun x m {F G} hFG => by
      unfold rdK.bndK
      split
      · exact hFG _
      · exact hFG _
      · rfl
    simp only [rdK, ho]
    split
    · rfl
    · split
      · exact bnd _ _ fun a => bnd _ _ fun b => bif_congr (plain rfl)
      · rfl
  | binOp op t x y sh =>
    simp only [rdK, ho]
    split
    · unfold rdK.nilP; split <;> first | exact plain rfl | exact obind_congr fun _ _ => plain rfl | rfl
    · unfold rdK.nilF; split <;> first | exact plain rfl | rfl
    · split
      · unfold rdK.nilE; split <;> first | exact plain rfl | rfl
      · rfl
    · split
      · split
        · unfold rdK.eqK; split <;> first | exact plain rfl | rfl
        · rfl
      · split
        · exact bin_ext (fun hp => plain hp) op _ _
        · rfl
    · rfl
  | _ => simp only [rdK, ho]
/-- A read, as an operation. -/
theorem rd_op (hA : Agree d z K2 K) (hz : Bare z) (h : Cln d e) (hd : o.dst ≠ some d) (hx : ∀ x ∈ o.op.operands, x ≠ .tmp d) :
    rdK c o (e.add d z) (fun p => K2 ((e.add d z).putD o.dst p)) = rdK c o e (fun p => K (e.putD o.dst p)) := by
  rw [rd_add h hx]
  exact rd_ext h hx fun p hp => hA.put hz h hd hp
end
end Go.Pv
