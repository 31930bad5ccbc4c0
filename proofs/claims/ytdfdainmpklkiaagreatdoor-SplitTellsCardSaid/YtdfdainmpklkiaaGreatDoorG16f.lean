/- Boxes that are taken ahead: many of them. -/
import Derived.Test.YtdfdainmpklkiaaGreatDoorG16e
set_option linter.unusedVariables false
set_option linter.unusedSimpArgs false
namespace Go.Pv
open Go.RowKit
/-- A box that is taken ahead: its operation, its slot, what it has. -/
structure Pb where
  i : Nat
  d : Nat
  z : List PV
def adds (e : Env) : List Pb → Env
  | [] => e
  | q :: B => (adds e B).add q.d q.z
open Classical in
noncomputable def Kadd {ρ : Type} : List Pb → Kt ρ → Kt ρ
  | [], K => K
  | q :: B, K => Kadd B fun e1 => if Cln q.d e1 then K (e1.add q.d q.z) else none
/-- An operation that a box at d does not touch. -/
def Off (ops : Array Oper) (o : Oper) (d : Nat) : Prop := o.dst ≠ some d ∧ (∀ x ∈ o.op.operands, x ≠ .tmp d) ∧ ∀ j want, o.guard = some (j, want) → (ops[j]?).bind (·.dst) ≠ some d
section
variable {P : Program} {c : Cx} {M : Mem} {e : Env} {a : Act} {w : World} {o : Oper} {ρ : Type} {d : Nat} {z : List PV} {Y : Yd ρ} {K K2 : Kt ρ} {ops : Array Oper} {r : ρ} {B : List Pb}
theorem off_of_apart {x y : Oper} (h : apart ops x y = true) (hy : y.dst = some d) : Off ops x d := by
  unfold apart at h
  rw [hy] at h
  simp only [Bool.and_eq_true, Bool.not_eq_true', List.contains_eq_mem, decide_eq_false_iff_not] at h
  obtain ⟨h1, h2⟩ := h
  unfold looksAt at h2
  rw [List.mem_append, not_or] at h2
  refine ⟨fun hh => ?_, fun u hu hh => h2.1 ?_, fun j want hg hh => h2.2 ?_⟩
  · rw [hh] at h1
    simp at h1
  · subst hh
    exact List.mem_filterMap.2 ⟨_, by simpa using hu, rfl⟩
  · rw [hg]
    simp only [hh]
    simp
theorem guard_nat {f : Env → Kt ρ → Option ρ} (hf : ∀ e1, Cln d e1 → f (e1.add d z) K2 = f e1 K) (hA : Agree d z K2 K) (hz : Bare z) (h : Cln d e) (ho : Off ops o d) : guardK ops o f (e.add d z) K2 = guardK ops o f e K := by
  have put : ∀ {e1 : Env}, Cln d e1 → K2 ((e1.add d z).putD o.dst (.tup [])) = K (e1.putD o.dst (.tup [])) := fun h1 => hA.put hz h1 ho.1 (NoRef.plain rfl)
  unfold guardK
  split
  · exact hf e h
  · rename_i j want hg
    split
    · rename_i dg hdg
      have hne : dg ≠ d := fun hh => ho.2.2 j want hg (by rw [hdg, hh])
      rw [slot_add hne]
      split
      · rename_i x _
        have hs : ∀ v, Cln d (e.setT dg (.b v)) := fun v => h.setT hne (NoRef.plain rfl)
        simp only [add_setT hne, hf _ (hs _), put (hs _)]
      · exact put h
      · rfl
    · rfl
theorem op_off (ho : Off ops o d) (hA : Agree d z K2 K) (hz : Bare z) (h : Cln d e) : opK c Y o (e.add d z) K2 = opK c Y o e K := nat hA hz h ho.1 ho.2.1
theorem tk_load {t : TypeId} {x : Operand} (ho : o.op = .load t x) (e : Env) (K : Kt ρ) : tkK c o e K = opK c Y o e K := by simp only [tkK, opK, ho]
theorem tk_reads (hr : reads o = true) (hl : ∀ t x, o.op ≠ .load t x) (e : Env) (K : Kt ρ) : tkK c o e K = rdK c o e fun p => K (e.putD o.dst p) := by
  unfold tkK
  split
  · rename_i t ht
    unfold reads at hr; rw [ht] at hr; cases hr
  · rename_i t x ht; exact absurd ht (hl t x)
  · rfl
theorem tk_off (hr : reads o = true) (ho : Off ops o d) (hA : Agree d z K2 K) (hz : Bare z) (h : Cln d e) : tkK c o (e.add d z) K2 = tkK c o e K := by
  by_cases hl : ∃ t x, o.op = .load t x
  · obtain ⟨t, x, hl⟩ := hl
    rw [tk_load (Y := fun _ _ _ => none) hl, tk_load (Y := fun _ _ _ => none) hl]
    exact op_off ho hA hz h
  · have hl : ∀ t x, o.op ≠ .load t x := fun t x hh => hl ⟨t, x, hh⟩
    rw [tk_reads hr hl, tk_reads hr hl]
    exact rd_op hA hz h ho.1 ho.2.1
theorem guard_adds {f : Env → Kt ρ → Option ρ} (hf : ∀ {d : Nat} {z : List PV} {K K2 : Kt ρ} {e : Env}, Off ops o d → Agree d z K2 K → Bare z → Cln d e → f (e.add d z) K2 = f e K) :
    ∀ (B : List Pb) (K : Kt ρ), (∀ q ∈ B, Off ops o q.d ∧ Bare q.z ∧ Cln q.d e) → B.Pairwise (fun a b => a.d ≠ b.d) → guardK ops o f (adds e B) K = guardK ops o f e (Kadd B K)
  | [], K, _, _ => rfl
  | q :: B, K, hB, hp => by
    obtain ⟨h1, h2, h3⟩ := hB q (List.mem_cons_self ..)
    have hp := List.pairwise_cons.1 hp
    have hq : Cln q.d (adds e B) := by
      have key : ∀ (L : List Pb), (∀ b ∈ L, b.d ≠ q.d ∧ Bare b.z) → Cln q.d (adds e L) := by
        intro L
        induction L with
        | nil => intro _; exact h3
        | cons b L ih => intro hL; exact (ih fun x hx => hL x (List.mem_cons_of_mem _ hx)).add (hL b (List.mem_cons_self ..)).1 (hL b (List.mem_cons_self ..)).2
      exact key B fun b hb => ⟨(hp.1 b hb).symm, (hB b (List.mem_cons_of_mem _ hb)).2.1⟩
    show guardK ops o f ((adds e B).add q.d q.z) K = _
    have hA : Agree q.d q.z K (fun e1 => @ite _ (Cln q.d e1) (Classical.propDecidable _) (K (e1.add q.d q.z)) none) := fun e1 h1 => by
      exact (if_pos h1).symm
    rw [guard_nat (K2 := K) (fun e1 he1 => hf h1 hA h2 he1) hA h2 hq h1]
    exact guard_adds hf B _ (fun b hb => hB b (List.mem_cons_of_mem _ hb)) hp.2
theorem cln_adds (h : Cln d e) : ∀ (L : List Pb), (∀ b ∈ L, b.d ≠ d ∧ Bare b.z) → Cln d (adds e L)
  | [], _ => h
  | b :: L, hL => (cln_adds h L fun x hx => hL x (List.mem_cons_of_mem _ hx)).add (hL b (List.mem_cons_self ..)).1 (hL b (List.mem_cons_self ..)).2
theorem cln_of_adds : ∀ (L : List Pb), Cln d (adds e L) → (∀ b ∈ L, b.d ≠ d ∧ Bare b.z ∧ Cln b.d e) → L.Pairwise (fun a b => a.d ≠ b.d) → Cln d e
  | [], h, _, _ => h
  | b :: L, h, hL, hp => by
    have hp := List.pairwise_cons.1 hp
    have hb := hL b (List.mem_cons_self ..)
    have hc : Cln b.d (adds e L) := cln_adds hb.2.2 L fun x hx => ⟨(hp.1 x hx).symm, (hL x (List.mem_cons_of_mem _ hx)).2.1⟩
    exact cln_of_adds L (h.of_add hb.1 hc) (fun x hx => hL x (List.mem_cons_of_mem _ hx)) hp.2
theorem Kadd_some : ∀ (B : List Pb) {K : Kt ρ} {e : Env}, Kadd B K e = some r → (∀ q ∈ B, Bare q.z) → B.Pairwise (fun a b => a.d ≠ b.d) → (∀ q ∈ B, Cln q.d e) ∧ K (adds e B) = some r
  | [], K, e, h, _, _ => ⟨fun q hq => (by cases hq), h⟩
  | q :: B, K, e, h, hz, hp => by
    have hp := List.pairwise_cons.1 hp
    have hzB : ∀ b ∈ B, Bare b.z := fun b hb => hz b (List.mem_cons_of_mem _ hb)
    obtain ⟨h1, h2⟩ := Kadd_some B (K := fun e1 => @ite _ (Cln q.d e1) (Classical.propDecidable _) (K (e1.add q.d q.z)) none) h hzB hp.2
    have h2 : (@ite _ (Cln q.d (adds e B)) (Classical.propDecidable _) (K ((adds e B).add q.d q.z)) none) = some r := h2
    split at h2
    · rename_i hc
      refine ⟨fun b hb => ?_, h2⟩
      rcases List.mem_cons.1 hb with rfl | hb
      · exact cln_of_adds B hc (fun x hx => ⟨(hp.1 x hx).symm, hzB x hx, h1 x hx⟩) hp.2
      · exact h1 b hb
    · cases h2
theorem adds_append (e : Env) : ∀ (A B : List Pb), adds e (A ++ B) = adds (adds e B) A
  | [], B => rfl
  | q :: A, B => by show (adds e (A ++ B)).add q.d q.z = _; rw [adds_append e A B]; rfl
theorem adds_add : ∀ (B : List Pb) {e : Env}, (∀ q ∈ B, q.d ≠ d) → (adds e B).add d z = adds (e.add d z) B
  | [], e, _ => rfl
  | q :: B, e, h => by
    show ((adds e B).add q.d q.z).add d z = (adds (e.add d z) B).add q.d q.z
    rw [← adds_add B fun x hx => h x (List.mem_cons_of_mem _ hx)]
    exact (add_add (h q (List.mem_cons_self ..))).symm
theorem adds_clean : ∀ (B : List Pb) {e : Env}, (∀ q ∈ B, q.d ≠ d ∧ Bare q.z) → (adds e B).clean d = adds (e.clean d) B
  | [], e, _ => rfl
  | q :: B, e, h => by
    show ((adds e B).add q.d q.z).clean d = (adds (e.clean d) B).add q.d q.z
    rw [← adds_clean B fun x hx => h x (List.mem_cons_of_mem _ hx)]
    exact clean_add (h q (List.mem_cons_self ..)).2 (Ne.symm (h q (List.mem_cons_self ..)).1)
theorem adds_mid {A : List Pb} {b : Pb} (h : ∀ q ∈ A ++ B, q.d ≠ b.d) : adds e (A ++ b :: B) = adds (e.add b.d b.z) (A ++ B) := by
  rw [adds_append, adds_append]
  show adds ((adds e B).add b.d b.z) A = _
  rw [adds_add B fun q hq => h q (List.mem_append_right _ hq)]
/-- What is known of boxes that are taken ahead. -/
structure Pend (c : Cx) (ops : Array Oper) (e : Env) (B : List Pb) : Prop where
  op : ∀ q ∈ B, ∃ o t k, ops[q.i]? = some o ∧ o.guard = none ∧ o.op = .alloc t ∧ c.kd t = some k ∧ o.dst = some q.d ∧ c.esc q.d = false ∧ q.z = zeros k
  cl : ∀ q ∈ B, Cln q.d e
  nd : B.Pairwise fun a b => a.d ≠ b.d
theorem Pend.bare (h : Pend c ops e B) : ∀ q ∈ B, Bare q.z := fun q hq => by
  obtain ⟨o, t, k, _, _, _, _, _, _, h7⟩ := h.op q hq
  rw [h7]; exact bare_zeros k
theorem Pend.nil : Pend c ops e [] := ⟨fun q hq => (by cases hq), fun q hq => (by cases hq), List.Pairwise.nil⟩
theorem Pend.at {e' : Env} (h : Pend c ops e B) (hc : ∀ q ∈ B, Cln q.d e') : Pend c ops e' B := ⟨h.op, hc, h.nd⟩
/-- The alloc itself, where it is clean. -/
theorem alloc_eq {t : Nat} {k : Kd} (ho : o.op = .alloc t) (hk : c.kd t = some k) (hd : o.dst = some d) (he : c.esc d = false) (h : Cln d e) (K : Kt ρ) : opK c Y o e K = K (e.add d (zeros k)) := by
  simp only [opK, ho, hk, hd, he]
  rw [← h.newB_eq (zeros k)]
  rfl
end
end Go.Pv
