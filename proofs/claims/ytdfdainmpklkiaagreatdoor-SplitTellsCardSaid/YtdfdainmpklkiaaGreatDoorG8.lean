/- What an operation that only reads does. -/
import Derived.Test.YtdfdainmpklkiaaGreatDoorG7
import Derived.Laws.StructEq
import Derived.Laws.Entries
import Derived.Deep.MidRow
set_option linter.unusedVariables false
set_option linter.unusedSimpArgs false
namespace Go.Pv
open Go.RowKit
/-- Every block that stood is as it was. -/
def Ext (w w' : World) : Prop := ∀ g, g < w.heap.size → w'.heap[g]? = w.heap[g]?
theorem Ext.refl (w : World) : Ext w w := fun _ _ => rfl
theorem Ext.cell {w w' : World} (h : Ext w w') {g o : Nat} {v : Value} (hc : w.cell? ⟨g, o, none⟩ = some v) : w'.cell? ⟨g, o, none⟩ = some v := by
  rw [World.cell?_of_block (a := ⟨g, o, none⟩) (h g (World.block_lt_of_cell? w _ hc))]; exact hc
section
variable {P : Program} {c : Cx} {M : Mem} {e : Env} {a : Act} {w : World}
def blockOf : Value → Option Nat
  | .pointer (some ⟨g, _, none⟩) => some g
  | _ => none
/-- A load finds what it looks at as it was. -/
def Sees (o : Oper) (a : Act) (w w2 : World) : Prop := ∀ t x g, o.op = .load t x → blockOf (a.eval x) = some g → g < w.heap.size → w2.heap[g]? = w.heap[g]?
theorem Sees.refl {o : Oper} {a : Act} {w : World} : Sees o a w w := fun _ _ _ _ _ _ => rfl
theorem Sees.of {o : Oper} {a : Act} {w w2 : World} (h : isLoad o = true → Ext w w2) : Sees o a w w2 := fun t x g ho _ hg => h (by unfold isLoad; rw [ho]) g hg
theorem Sees.cell {o : Oper} {w w2 : World} (h : Sees o a w w2) {t : TypeId} {x : Operand} (ho : o.op = .load t x) {g of : Nat} (hv : a.eval x = .pointer (some ⟨g, of, none⟩)) {o' : Nat} {v : Value} (hc : w.cell? ⟨g, o', none⟩ = some v) : w2.cell? ⟨g, o', none⟩ = some v := by
  rw [World.cell?_of_block (a := ⟨g, o', none⟩) (h t x g ho (by rw [hv]; rfl) (World.block_lt_of_cell? w _ hc))]; exact hc
/-- An operation that only reads: what it yields, in every world that has what this one has. -/
def Reads (P : Program) (M : Mem) (o : Oper) (e : Env) (a : Act) (w : World) {ρ : Type} (K : PV → Option ρ) (r : ρ) : Prop :=
  ∃ v p n0, isO p = false ∧ PR M w e.at_ (pv M a w) n0 p v ∧ (∀ w2, Sees o a w w2 → (execOp a.eval o).run P w2 = .ok (.value v) w2) ∧ K p = some r
theorem ev_spec (h : St M e a w) (x : Operand) : ∃ n0, PR M w e.at_ (pv M a w) n0 (ev e x) (a.eval x) ∧ (isO (ev e x) = true → ∃ t, x = .tmp t ∧ n0 = .t t) := by
  cases x with
  | tmp t => exact ⟨.t t, h.pr (.t t), fun _ => ⟨t, rfl, rfl⟩⟩
  | const v =>
    refine ⟨.t 0, ?_, fun hh => ?_⟩
    · show PR M w _ _ _ (ofConst v) v
      unfold ofConst
      split <;> first | rfl | trivial | exact ⟨_, .inl ⟨rfl, rfl⟩, rfl⟩
    · exfalso
      have : isO (ofConst v) = false := by unfold ofConst; split <;> rfl
      rw [show ev e (.const v) = ofConst v from rfl, this] at hh; cases hh
  | func f => exact ⟨.t 0, rfl, fun hh => by cases hh⟩
  | global g => exact ⟨.t 0, trivial, fun hh => by cases hh⟩
theorem cp_spec (h : St M e a w) (x : Operand) : isO (cp e x) = false ∧ ∃ n0, PR M w e.at_ (pv M a w) n0 (cp e x) (a.eval x) := by
  obtain ⟨n0, h1, h2⟩ := ev_spec h x
  unfold cp
  cases hq : ev e x with
  | o m k xs =>
    rw [hq] at h1 h2
    obtain ⟨t, rfl, rfl⟩ := h2 rfl
    exact ⟨rfl, .t 0, trivial, fun _ => rfl⟩
  | _ => rw [hq] at h1; exact ⟨rfl, n0, h1⟩
theorem ev_i (h : St M e a w) {x : Operand} {k : IntKind} {n : Int} (hx : ev e x = .i k n) : a.eval x = .int k n := by
  obtain ⟨n0, h1, _⟩ := ev_spec h x; rw [hx] at h1; exact h1
theorem ev_b (h : St M e a w) {x : Operand} {b : Bool} (hx : ev e x = .b b) : a.eval x = .bool b := by
  obtain ⟨n0, h1, _⟩ := ev_spec h x; rw [hx] at h1; exact h1
theorem ev_s (h : St M e a w) {x : Operand} {s : ByteArray} (hx : ev e x = .s s) : a.eval x = .string s := by
  obtain ⟨n0, h1, _⟩ := ev_spec h x; rw [hx] at h1; exact h1
theorem ev_pr (h : St M e a w) {x : Operand} {p : PV} (hx : ev e x = p) : ∃ n0, PR M w e.at_ (pv M a w) n0 p (a.eval x) := by
  obtain ⟨n0, h1, _⟩ := ev_spec h x; rw [hx] at h1; exact ⟨n0, h1⟩
theorem run_isAgg {k : Kd} {t : TypeId} (hf : Fits P k t) (w : World) : (isAgg t).run P w = .ok k.isAgg w := by
  obtain ⟨d, h1, h2⟩ := hf.agg
  unfold isAgg
  rw [Sem.run_bind, run_underlying h1]
  rw [← h2]
  cases d <;> rfl
theorem run_typeInfo' {k : Kd} {t : TypeId} (hf : Fits P k t) (w : World) : ∃ i, P.info? t = some i ∧ (typeInfo t).run P w = .ok i w ∧ i.size = k.size ∧ i.bytes ≤ k.bytes ∧ i.zero = some (valOf k (zcells k)) := by
  obtain ⟨i, h1, h2, h3, h4⟩ := hf.info
  exact ⟨i, h1, by simp [typeInfo, h1], h2, h3, h4⟩
theorem run_sizeOf' {k : Kd} {t : TypeId} (hf : Fits P k t) (w : World) : (sizeOf t).run P w = .ok k.size w := by
  obtain ⟨i, _, h2, h3, _⟩ := run_typeInfo' hf w
  simp [sizeOf, h2, h3]
/-- A variable is read. -/
theorem run_loadVar_rep {k : Kd} {t : TypeId} (hf : Fits P k t) {G : Com} {w0 : World} {x : k.den} {cs : List Value} (hr : Rep G w0 k x cs) {w : World} {g o : Nat} (hc : ∀ j (h : j < cs.length), w.cell? ⟨g, o + j, none⟩ = some cs[j]) :
    (loadVar t ⟨g, o, none⟩).run P w = .ok (valOf k cs) w := by
  have hl := run_loadCells_list (P := P) w ⟨g, o, none⟩ cs (fun j v hv => by
    obtain ⟨hj, hv⟩ := List.getElem?_eq_some_iff.1 hv
    rw [Addr.add_lit, hc j hj, hv])
  rw [hr.len] at hl
  unfold loadVar
  rw [Sem.run_bind, run_isAgg hf]
  unfold valOf
  cases hk : k.isAgg
  · have hlen := hr.len
    have h1 : cs.length = 1 := by rw [hlen]; cases k <;> first | rfl | cases hk
    cases cs with
    | nil => simp at h1
    | cons v cs =>
      have := hc 0 (by simp)
      simp only [Nat.add_zero] at this
      simp [this]
  · simp [run_sizeOf' hf, hl]
/-- Where a part of a place's element is. -/
theorem OwnD.at_elem {n : Pl} {m : Bool} {k : Kd} {xs : List k.den} {v : Value} (h : OwnD M w n m k xs v) {g cap : Nat} (hv : v = .slice (some ⟨g, 0, none⟩) xs.length cap) {i : Nat} (hi : i < xs.length) :
    ∃ cs, Rep M.G w k xs[i] cs ∧ ∀ j (h : j < cs.length), w.cell? ⟨g, i * k.size + j, none⟩ = some cs[j] := by
  obtain ⟨u, css, h1, h2, _⟩ := h
  subst hv
  obtain ⟨cs, hr, hj⟩ := h1.get i hi
  refine ⟨cs, hr, fun j hjl => ?_⟩
  have hlt : i * k.size + j < xs.length * k.size := by
    have := hr.len
    calc i * k.size + j < i * k.size + k.size := by omega
      _ = (i + 1) * k.size := by rw [Nat.succ_mul]
      _ ≤ _ := Nat.mul_le_mul_right _ hi
  rw [h2.cellAt _ hlt, hj j hjl, List.getElem?_eq_getElem hjl]
theorem nth_eq {k : Kd} {xs : List k.den} {n : Int} (h0 : 0 ≤ n) (h1 : n < xs.length) : nth xs n = xs[n.toNat]'(by omega) := by
  unfold nth
  rw [List.getD_eq_getElem?_getD, List.getElem?_eq_getElem (by omega)]; rfl

variable {o : Oper} {ρ : Type} {K : PV → Option ρ} {r : ρ}
theorem Reads.i {k : IntKind} {n : Int} (h : ∀ w2, Sees o a w w2 → (execOp a.eval o).run P w2 = .ok (.value (.int k n)) w2) (hk : K (.i k n) = some r) : Reads P M o e a w K r := ⟨.int k n, .i k n, .t 0, rfl, rfl, h, hk⟩
theorem Reads.b {x : Bool} (h : ∀ w2, Sees o a w w2 → (execOp a.eval o).run P w2 = .ok (.value (.bool x)) w2) (hk : K (.b x) = some r) : Reads P M o e a w K r := ⟨.bool x, .b x, .t 0, rfl, rfl, h, hk⟩
theorem Reads.s {x : ByteArray} (h : ∀ w2, Sees o a w w2 → (execOp a.eval o).run P w2 = .ok (.value (.string x)) w2) (hk : K (.s x) = some r) : Reads P M o e a w K r := ⟨.string x, .s x, .t 0, rfl, rfl, h, hk⟩
theorem rd_move (h : St M e a w) {x : Operand} (ho : o.op = .move x) (hk : K (cp e x) = some r) : Reads P M o e a w K r := by
  obtain ⟨h1, n0, h2⟩ := cp_spec h x
  exact ⟨_, _, n0, h1, h2, fun w2 _ => by simp [execOp, ho], hk⟩
/-- What the heap's cells have. -/
theorem hown_at {e : Env} {k : Kd} {i o : Nat} {xs : List k.den} (h : hown k e.h i o = some xs) : e.at_ (.b (.h i) o) = .o true k xs := by
  unfold hown at h
  show (Hcs e.h i).getD o .un = _
  split at h
  · rename_i k' ys hq
    split at h
    · rename_i hk
      subst hk
      injection h with h
      subst h
      exact hq
    · cases h
  · cases h
theorem hcell_at {e : Env} {k : Kd} {i o : Nat} {x : k.den} (h : hcell k e.h i o = some x) : toDen k (e.at_ (.b (.h i) o)) = some x := h
theorem rd_nilCheck (h : St M e a w) {x : Operand} (ho : o.op = .nilCheck x) (hk : rdK c o e K = some r) : Reads P M o e a w K r := by
  simp only [rdK, ho] at hk
  obtain ⟨n0, h1, h2⟩ := ev_spec h x
  cases hq : ev e x <;> rw [hq] at hk h1 <;> simp only at hk <;> try (exact absurd hk (by simp))
  · rename_i k y
    have h1' := h1
    obtain ⟨g, of, cs, hv, _⟩ := h1
    exact ⟨_, _, n0, rfl, h1', fun w2 _ => by simp [execOp, ho, hv], hk⟩
  · rename_i n j p
    split at hk
    · rename_i k xs hat
      have h1' := h1
      obtain ⟨_, _, g, cc, q, _, _, hv⟩ := h1.2 k xs hat
      exact ⟨_, _, n0, rfl, h1', fun w2 _ => by simp [execOp, ho, hv], hk⟩
    · cases hk
  · have h1' := h1
    have hv : a.eval x = _ := h1
    exact ⟨_, _, n0, rfl, h1', fun w2 _ => by simp [execOp, ho, hv], hk⟩
  · rename_i y
    obtain ⟨q, rfl, hk⟩ := Option.bind_eq_some_iff.1 hk
    have h1' := h1
    obtain ⟨cs, hc1 | ⟨i, off, hc0, hc1, rfl⟩, hv⟩ := h1
    · cases hc1.1
    · cases hc0
      have hv : a.eval x = .pointer _ := hv
      exact ⟨_, _, n0, rfl, h1', fun w2 _ => by simp [execOp, ho, hv], hk⟩
  · have h1' : CR M.G w _ (a.eval x) := h1
    rw [CR] at h1'
    obtain ⟨g, vs, hv, _⟩ := h1'
    exact ⟨_, _, n0, rfl, h1, fun w2 _ => by simp [execOp, ho, hv], hk⟩
  · rename_i k i of ix p
    obtain ⟨xs, hat, hk⟩ := Option.bind_eq_some_iff.1 hk
    have h1' := h1
    obtain ⟨_, _, g, cc, q, _, _, hv⟩ := h1.2 xs (hown_at hat)
    exact ⟨_, _, n0, rfl, h1', fun w2 _ => by simp [execOp, ho, hv], hk⟩
theorem rd_pick (h : St M e a w) {q x y : Operand} (ho : o.op = .pick q x y) (hk : rdK c o e K = some r) : Reads P M o e a w K r := by
  simp only [rdK, ho] at hk
  split at hk
  · rename_i z hz
    have hq := ev_b h hz
    have hrun : ∀ w2, (execOp a.eval o).run P w2 = .ok (.value (if z then a.eval x else a.eval y)) w2 := fun w2 => by cases z <;> simp [execOp, ho, hq, asBool]
    have gen : (bif z then K (cp e x) else K (cp e y)) = some r → Reads P M o e a w K r := fun hk => by
      cases z with
      | false =>
        obtain ⟨h1, n0, h2⟩ := cp_spec h y
        exact ⟨_, _, n0, h1, h2, fun w2 _ => by rw [hrun]; rfl, hk⟩
      | true =>
        obtain ⟨h1, n0, h2⟩ := cp_spec h x
        exact ⟨_, _, n0, h1, h2, fun w2 _ => by rw [hrun]; rfl, hk⟩
    split at hk
    · rename_i u v hu hv
      refine Reads.b (fun w2 _ => ?_) hk
      rw [hrun, ev_b h hu, ev_b h hv]; cases z <;> rfl
    · exact gen hk
  · cases hk
theorem rd_extract (h : St M e a w) {x : Operand} {j : Nat} (ho : o.op = .extract x j) (hk : rdK c o e K = some r) : Reads P M o e a w K r := by
  simp only [rdK, ho] at hk
  split at hk
  · rename_i ps hq
    obtain ⟨n0, vs, hv, hp⟩ := ev_pr h hq
    split at hk
    · rename_i q hj
      obtain ⟨u, hu, hr⟩ := hp j q hj
      exact ⟨u, _, n0, isO_ofDen _ _, PR.ofDen hr, fun w2 _ => by simp [execOp, ho, hv, Instr.extract, hu], hk⟩
    · cases hk
  · cases hk
theorem rd_unOp (h : St M e a w) {op : UnOp} {t : TypeId} {x : Operand} (ho : o.op = .unOp op t x) (hk : rdK c o e K = some r) : Reads P M o e a w K r := by
  simp only [rdK, ho, unK] at hk
  split at hk
  · rename_i k n hq
    exact Reads.i (fun w2 _ => by simp [execOp, ho, ev_i h hq, Op.unary, Op.intArith]) hk
  · rename_i b hq
    exact Reads.b (fun w2 _ => by simp [execOp, ho, ev_b h hq, Op.unary]) hk
  · cases hk
theorem rd_convert (hc : ∀ t k, c.kd t = some k → Fits P k t) (h : St M e a w) {s t : TypeId} {x : Operand} (ho : o.op = .convert s t x) (hk : rdK c o e K = some r) : Reads P M o e a w K r := by
  simp only [rdK, ho] at hk
  split at hk
  · rename_i k1 k n h1 h2 hq
    have u1 := (hc _ _ h1).int
    have u2 := (hc _ _ h2).int
    exact Reads.i (fun w2 _ => by simp [execOp, ho, convert, run_underlying u1, run_underlying u2, ev_i h hq, Conv.intToInt]) hk
  · rename_i x' h1 h2 hq
    have u1 := (hc _ _ h1).str
    have u2 := (hc _ _ h2).str
    exact Reads.s (fun w2 _ => by simp [execOp, ho, convert, run_underlying u1, run_underlying u2, ev_s h hq]) hk
  · cases hk
theorem run_equal_bool {t : TypeId} (hu : P.underlying t = some .bool) (x y : Bool) (w : World) : (Op.equal t (.bool x) (.bool y)).run P w = .ok (x == y) w := by
  unfold Op.equal
  rw [show Op.maxDepth = 9999 + 1 from rfl]
  unfold Op.equalIn
  rw [Sem.run_bind, run_underlying hu]
  rfl
theorem Fits.ptr' {t : TypeId} (h : Fits P .ptr t) : ∃ u, P.underlying t = some (.pointer u) := by
  unfold Fits at h
  simp only [fitsB, Bool.and_eq_true] at h
  have h2 := h.2
  split at h2
  · rename_i u hu; exact ⟨u, hu⟩
  · cases h2
theorem Fits.fn' {t : TypeId} (h : Fits P .fn t) : ∃ u v x, P.underlying t = some (.func u v x) := by
  unfold Fits at h
  simp only [fitsB, Bool.and_eq_true] at h
  have h2 := h.2
  split at h2
  · rename_i u v x hu; exact ⟨u, v, x, hu⟩
  · cases h2
theorem Fits.err' {t : TypeId} (h : Fits P .err t) : ∃ u, P.underlying t = some (.interface u) := by
  unfold Fits at h
  simp only [fitsB, Bool.and_eq_true] at h
  have h2 := h.2
  split at h2
  · rename_i u hu; exact ⟨u, hu⟩
  · cases h2
theorem rd_cmp {op : BinOp} {t : TypeId} {x y : Operand} {sh : TypeId} (ho : o.op = .binOp op t x y sh) (u v : Value) (b : Bool) (hu : a.eval x = u) (hv : a.eval y = v)
    (hb : binOp .eql t u v = (do pure (.bool (← Op.equal t u v)))) (hb' : binOp .neq t u v = (do pure (.bool (!(← Op.equal t u v))))) (hg : ∀ w2, (eqGuard op t x y u v).run P w2 = .ok () w2) (hq : ∀ w2, (Op.equal t u v).run P w2 = .ok b w2) :
    (op = .eql → K (.b b) = some r → Reads P M o e a w K r) ∧ (op = .neq → K (.b (!b)) = some r → Reads P M o e a w K r) := by
  refine ⟨fun hop hk => Reads.b (fun w2 _ => ?_) hk, fun hop hk => Reads.b (fun w2 _ => ?_) hk⟩
  · subst hop
    simp only [execOp, ho, hu, hv, Sem.run_bind, hg, Result.andThen_ok, hb, hq, Sem.run_pure]
  · subst hop
    simp only [execOp, ho, hu, hv, Sem.run_bind, hg, Result.andThen_ok, hb', hq, Sem.run_pure]
theorem ptr_val {G : Com} {x : Option (Nat × Nat)} {v : Value} (h : RepV G w .ptr x v) : ∃ A, v = .pointer A ∧ A.isSome = x.isSome := by
  obtain ⟨cs, ⟨rfl, rfl⟩ | ⟨i, off, rfl, _, rfl⟩, rfl⟩ := h
  · exact ⟨none, rfl, rfl⟩
  · exact ⟨some _, rfl, rfl⟩
theorem err_val {G : Com} {x : Bool} {v : Value} (h : RepV G w .err x v) : (x = false ∧ v = .nilIface) ∨ (x = true ∧ ∃ t u, v = .iface t u) := by
  obtain ⟨cs, ⟨rfl, rfl⟩ | ⟨t, u, rfl, rfl⟩, rfl⟩ := h
  · exact .inl ⟨rfl, rfl⟩
  · exact .inr ⟨rfl, t, u, rfl⟩
theorem run_equal_ptr {t u : TypeId} (hu : P.underlying t = some (.pointer u)) (A : Option Addr) (w2 : World) : (Op.equal t (.pointer A) (.pointer none)).run P w2 = .ok (!A.isSome) w2 := by
  unfold Op.equal
  rw [show Op.maxDepth = 9999 + 1 from rfl]
  unfold Op.equalIn
  rw [Sem.run_bind, run_underlying hu]
  cases A <;> rfl
theorem rd_nilP (hc : ∀ t k, c.kd t = some k → Fits P k t) (h : St M e a w) {op : BinOp} {t : TypeId} {x y : Operand} {sh : TypeId} (ho : o.op = .binOp op t x y sh)
    (hkd : c.kd t = some .ptr) (hk : rdK.nilP e op (ev e x) (ev e y) K = some r) : Reads P M o e a w K r := by
  obtain ⟨u, hu⟩ := (hc _ _ hkd).ptr'
  have key : ∀ (A : Option Addr), a.eval x = .pointer A → ev e y = .p none → (op = .eql → K (.b (!A.isSome)) = some r → Reads P M o e a w K r) ∧ (op = .neq → K (.b (!!A.isSome)) = some r → Reads P M o e a w K r) := fun A hx hy => by
    obtain ⟨n0, hp⟩ := ev_pr h hy
    obtain ⟨B, hv, hB⟩ := ptr_val hp
    have : B = none := by cases B; rfl; cases hB
    subst this
    exact rd_cmp ho (.pointer A) (.pointer none) _ hx hv rfl rfl (fun w2 => by rw [eqGuard_at_pointer]; rfl) (run_equal_ptr hu A)
  unfold rdK.nilP at hk
  split at hk
  · rename_i y' hy hx
    obtain ⟨n0, hp⟩ := ev_pr h hx
    obtain ⟨A, hA, hs⟩ := ptr_val hp
    exact (key A hA hy).1 rfl (by rw [hs]; exact hk)
  · rename_i k i of j p hy hx
    obtain ⟨xs, hat, hk⟩ := Option.bind_eq_some_iff.1 hk
    obtain ⟨n0, hp⟩ := ev_pr h hx
    obtain ⟨_, _, g, cc, q, _, _, hv⟩ := hp.2 xs (hown_at hat)
    exact (key _ hv hy).1 rfl hk
  · rename_i y' hy hx
    obtain ⟨n0, hp⟩ := ev_pr h hx
    obtain ⟨A, hA, hs⟩ := ptr_val hp
    exact (key A hA hy).2 rfl (by rw [hs, Bool.not_not]; exact hk)
  · rename_i k i of j p hy hx
    obtain ⟨xs, hat, hk⟩ := Option.bind_eq_some_iff.1 hk
    obtain ⟨n0, hp⟩ := ev_pr h hx
    obtain ⟨_, _, g, cc, q, _, _, hv⟩ := hp.2 xs (hown_at hat)
    exact (key _ hv hy).2 rfl hk
  · cases hk
theorem rd_nilF (hc : ∀ t k, c.kd t = some k → Fits P k t) (h : St M e a w) {op : BinOp} {t : TypeId} {x y : Operand} {sh : TypeId} (ho : o.op = .binOp op t x y sh)
    (hkd : c.kd t = some .fn) (hk : rdK.nilF op (ev e x) (ev e y) K = some r) : Reads P M o e a w K r := by
  obtain ⟨u1, u2, u3, hu⟩ := (hc _ _ hkd).fn'
  have hy' : ev e y = .nilf → a.eval y = .nilFunc := fun hy => by obtain ⟨n0, hp⟩ := ev_pr h hy; exact hp
  have hx0 : ev e x = .nilf → a.eval x = .nilFunc := fun hy => by obtain ⟨n0, hp⟩ := ev_pr h hy; exact hp
  have hx1 : ∀ f cs, ev e x = .clo f cs → ∃ vs : List Value, a.eval x = .func (.func f) #[] vs.toArray := fun f cs hx => by
    obtain ⟨n0, hp⟩ := ev_pr h hx
    have hp : CR M.G w (.clo f cs) (a.eval x) := hp
    rw [CR] at hp
    obtain ⟨vs, hv, _⟩ := hp
    exact ⟨vs, hv⟩
  have q0 : ∀ w2, (Op.equal t .nilFunc .nilFunc).run P w2 = .ok true w2 := fun w2 => by
    unfold Op.equal
    rw [show Op.maxDepth = 9999 + 1 from rfl]
    unfold Op.equalIn
    rw [Sem.run_bind, run_underlying hu]
    rfl
  have q1 : ∀ f x y w2, (Op.equal t (.func f x y) .nilFunc).run P w2 = .ok false w2 := fun f x y w2 => by
    unfold Op.equal
    rw [show Op.maxDepth = 9999 + 1 from rfl]
    unfold Op.equalIn
    rw [Sem.run_bind, run_underlying hu]
    rfl
  unfold rdK.nilF at hk
  split at hk
  · rename_i f cs hy hx
    obtain ⟨vs, hv⟩ := hx1 _ _ hx
    exact (rd_cmp ho _ _ _ hv (hy' hy) rfl rfl (fun w2 => by rw [eqGuard_at_func]; rfl) (q1 _ _ _)).1 rfl hk
  · rename_i hy hx
    exact (rd_cmp ho _ _ _ (hx0 hx) (hy' hy) rfl rfl (fun w2 => by rw [eqGuard_at_nilFunc]; rfl) q0).1 rfl hk
  · rename_i f cs hy hx
    obtain ⟨vs, hv⟩ := hx1 _ _ hx
    exact (rd_cmp ho _ _ _ hv (hy' hy) rfl rfl (fun w2 => by rw [eqGuard_at_func]; rfl) (q1 _ _ _)).2 rfl hk
  · rename_i hy hx
    exact (rd_cmp ho _ _ _ (hx0 hx) (hy' hy) rfl rfl (fun w2 => by rw [eqGuard_at_nilFunc]; rfl) q0).2 rfl hk
  · cases hk
theorem rd_nilE (hc : ∀ t k, c.kd t = some k → Fits P k t) (h : St M e a w) {op : BinOp} {t : TypeId} {x y : Operand} {sh : TypeId} (ho : o.op = .binOp op t x y sh)
    (hkd : c.kd t = some .err) (hcy : rdK.isC y = true) (hk : rdK.nilE op (ev e x) (ev e y) K = some r) : Reads P M o e a w K r := by
  obtain ⟨u, hu⟩ := (hc _ _ hkd).err'
  have hy' : ev e y = .e false → a.eval y = .nilIface := fun hy => by
    obtain ⟨n0, hp⟩ := ev_pr h hy
    rcases err_val hp with ⟨_, h1⟩ | ⟨h1, _⟩
    · exact h1
    · cases h1
  have hg : ∀ u w2, (eqGuard op t x y u .nilIface).run P w2 = .ok () w2 := fun u w2 => by
    cases y with
    | const v =>
      unfold eqGuard
      cases op <;> first | rfl | (cases u <;> first | rfl | simp)
    | _ => cases hcy
  have q0 : ∀ w2, (Op.equal t .nilIface .nilIface).run P w2 = .ok true w2 := fun w2 => by
    unfold Op.equal
    rw [show Op.maxDepth = 9999 + 1 from rfl]
    unfold Op.equalIn
    rw [Sem.run_bind, run_underlying hu]
    rfl
  have q1 : ∀ x y w2, (Op.equal t (.iface x y) .nilIface).run P w2 = .ok false w2 := fun x y w2 => by
    unfold Op.equal
    rw [show Op.maxDepth = 9999 + 1 from rfl]
    unfold Op.equalIn
    rw [Sem.run_bind, run_underlying hu]
    rfl
  have key : ∀ z, ev e x = .e z → ev e y = .e false → (op = .eql → K (.b (!z)) = some r → Reads P M o e a w K r) ∧ (op = .neq → K (.b (!!z)) = some r → Reads P M o e a w K r) := fun z hx hy => by
    obtain ⟨n0, hp⟩ := ev_pr h hx
    rcases err_val hp with ⟨rfl, h1⟩ | ⟨rfl, x1, x2, h1⟩
    · exact rd_cmp ho _ _ _ h1 (hy' hy) rfl rfl (hg _) q0
    · exact rd_cmp ho _ _ _ h1 (hy' hy) rfl rfl (hg _) (q1 _ _)
  unfold rdK.nilE at hk
  split at hk
  · rename_i z hy hx
    exact (key z hx hy).1 rfl hk
  · rename_i z hy hx
    exact (key z hx hy).2 rfl (by rw [Bool.not_not]; exact hk)
  · cases hk
theorem run_part_rep {k : Kd} {t : TypeId} (hf : Fits P k t) {G : Com} {w0 : World} {x : k.den} {c1 c2 c3 : List Value} (hr : Rep G w0 k x c2) (w : World) :
    (part t (c1 ++ c2 ++ c3).toArray c1.length).run P w = .ok (valOf k c2) w := by
  have hlen := hr.len
  unfold part
  simp only [run_isAgg hf, run_sizeOf' hf, Sem.run_bind, Result.andThen_ok, Sem.run_ite]
  unfold valOf
  cases hk : k.isAgg
  · have h1 : c2.length = 1 := by rw [hlen]; cases k <;> first | rfl | cases hk
    cases c2 with
    | nil => simp at h1
    | cons v c2 => simp
  · simp [← hlen]
theorem fits_inl {a b : Kd} {t : TypeId} (h : Fits P (.pair a b) t) : ∃ fs, P.underlying t = some (.struct fs) ∧ fitsB P (.pair a b) (.inr (fs.toList, 0)) = true := by
  unfold Fits at h
  simp only [fitsB, Bool.and_eq_true] at h
  have h2 := h.2
  split at h2
  · rename_i fs hu
    split at h2
    · rename_i f fs' hfs
      exact ⟨fs, hu, by rw [hfs]; simpa [fitsB] using h2⟩
    · cases h2
  · cases h2
/-- Two plain values: are they the same? -/
theorem eqD_run {G : Com} : ∀ (k : Kd) (d : Nat), (∀ t, eqB P k (.inl t) = true → Fits P k t → ∀ f, eqD k = some f → ∀ (x y : k.den) (u v : Value), RepV G w k x u → RepV G w k y v → k.depth ≤ d → ∀ w2, (Op.equalIn d t u v).run P w2 = .ok (f x y) w2) ∧
    (∀ fs o, eqB P k (.inr fs) = true → fitsB P k (.inr (fs, o)) = true → ∀ f, eqD k = some f → ∀ (x y : k.den) (c1 c2 d1 d2 : List Value), Rep G w k x c2 → Rep G w k y d2 → c1.length = o → d1.length = o → k.depth ≤ d + 1 → ∀ w2, (Op.eqFields d (c1 ++ c2).toArray (d1 ++ d2).toArray fs).run P w2 = .ok (f x y) w2)
  | .int k, d => by
    refine ⟨fun t _ hf f hfe x y u v hu hv hd w2 => ?_, fun fs o h => by simp [eqB] at h⟩
    simp only [eqD, Option.some.injEq] at hfe
    subst hfe
    obtain ⟨_, h1, rfl⟩ := hu
    obtain ⟨_, h2, rfl⟩ := hv
    rw [show _ = _ from h1, show _ = _ from h2]
    cases d with
    | zero => simp [Kd.depth] at hd
    | succ d => exact run_equalIn_int w2 d t k k x y hf.int
  | .bool, d => by
    refine ⟨fun t _ hf f hfe x y u v hu hv hd w2 => ?_, fun fs o h => by simp [eqB] at h⟩
    simp only [eqD, Option.some.injEq] at hfe
    subst hfe
    obtain ⟨_, h1, rfl⟩ := hu
    obtain ⟨_, h2, rfl⟩ := hv
    rw [show _ = _ from h1, show _ = _ from h2]
    have hub : P.underlying t = some .bool := by
      unfold Fits at hf
      simp only [fitsB, Bool.and_eq_true] at hf
      have h2 := hf.2
      split at h2
      · rename_i hu; exact hu
      · cases h2
    cases d with
    | zero => simp [Kd.depth] at hd
    | succ d => exact run_equalIn_bool' w2 d t x y hub
  | .str, d => by
    refine ⟨fun t _ hf f hfe x y u v hu hv hd w2 => ?_, fun fs o h => by simp [eqB] at h⟩
    simp only [eqD, Option.some.injEq] at hfe
    subst hfe
    obtain ⟨_, h1, rfl⟩ := hu
    obtain ⟨_, h2, rfl⟩ := hv
    rw [show _ = _ from h1, show _ = _ from h2]
    cases d with
    | zero => simp [Kd.depth] at hd
    | succ d => exact run_equalIn_string w2 d t x y hf.str
  | .unit, d => by
    refine ⟨fun t he hf f hfe x y u v hu hv hd w2 => ?_, fun fs o he _ f hfe x y c1 c2 d1 d2 _ _ _ _ _ w2 => ?_⟩
    · simp only [eqD, Option.some.injEq] at hfe
      subst hfe
      simp only [eqB, Bool.and_eq_true, Bool.not_eq_true'] at he
      obtain ⟨_, h1, rfl⟩ := hu
      obtain ⟨_, h2, rfl⟩ := hv
      rw [show _ = _ from h1, show _ = _ from h2]
      obtain ⟨he1, he2⟩ := he
      split at he2
      · rename_i fs hu
        have hfo : P.fieldsOf t = fs := by unfold Program.fieldsOf; rw [hu]
        cases d with
        | zero => simp [Kd.depth] at hd
        | succ d =>
          show (Op.equalIn (d + 1) t (.agg #[]) (.agg #[])).run P w2 = _
          rw [run_equalIn_struct w2 d t _ _ (by rw [hfo]; exact hu) he1, hfo]
          have : fs.toList = [] := by simpa using he2
          rw [this]; rfl
      · cases he2
    · simp only [eqD, Option.some.injEq] at hfe
      subst hfe
      have : fs = [] := by simpa [eqB] using he
      subst this
      rfl
  | .pair a b, d => by
    have fields : ∀ (d : Nat) fs o, eqB P (.pair a b) (.inr fs) = true → fitsB P (.pair a b) (.inr (fs, o)) = true → ∀ f, eqD (.pair a b) = some f → ∀ (x y : (Kd.pair a b).den) (c1 c2 d1 d2 : List Value), Rep G w (.pair a b) x c2 → Rep G w (.pair a b) y d2 → c1.length = o → d1.length = o → (Kd.pair a b).depth ≤ d + 1 → ∀ w2, (Op.eqFields d (c1 ++ c2).toArray (d1 ++ d2).toArray fs).run P w2 = .ok (f x y) w2 := fun d fs o he hf f hfe x y c1 c2 d1 d2 hx hy hc1 hd1 hd w2 => by
      match fs, he, hf with
      | fl :: fs, he, hf =>
        simp only [eqB, Bool.and_eq_true, bne_iff_ne, ne_eq] at he
        simp only [fitsB, Bool.and_eq_true, beq_iff_eq] at hf
        simp only [Kd.depth] at hd
        simp only [eqD] at hfe
        split at hfe
        · rename_i fa fb hfa hfb
          simp only [Option.some.injEq] at hfe
          subst hfe
          obtain ⟨p1, p2, rfl, hp1, hp2⟩ := hx
          obtain ⟨q1, q2, rfl, hq1, hq2⟩ := hy
          have e1 := run_part_rep (P := P) hf.1.2 hp1 (c1 := c1) (c3 := p2) w2
          have e2 := run_part_rep (P := P) hf.1.2 hq1 (c1 := d1) (c3 := q2) w2
          rw [hc1, List.append_assoc] at e1
          rw [hd1, List.append_assoc] at e2
          have e3 := (eqD_run a d).1 fl.type he.1.2 hf.1.2 fa hfa x.1 y.1 _ _ ⟨p1, hp1, rfl⟩ ⟨q1, hq1, rfl⟩ (by omega) w2
          have e4 := (eqD_run b d).2 fs (o + a.size) he.2 hf.2 fb hfb x.2 y.2 (c1 ++ p1) p2 (d1 ++ q1) q2 hp2 hq2 (by rw [List.length_append, hp1.len, hc1]) (by rw [List.length_append, hq1.len, hd1]) (by omega) w2
          rw [List.append_assoc, List.append_assoc] at e4
          rw [Op.eqFields]
          simp only [ne_eq, he.1.1, not_false_eq_true, if_true, hf.1.1, Sem.run_bind, e1, e2, e3, Result.andThen_ok]
          cases hb : fa x.1 y.1
          · simp
          · simp only [Bool.not_true, Bool.false_eq_true, if_false, Bool.true_and]
            exact e4
        · cases hfe
      | [], he, hf => simp [eqB] at he
    refine ⟨fun t he hf f hfe x y u v hu hv hd w2 => ?_, fields d⟩
    obtain ⟨cs, hcs, rfl⟩ := hu
    obtain ⟨ds, hds, rfl⟩ := hv
    obtain ⟨fs, hu, hfi⟩ := fits_inl hf
    simp only [eqB, Bool.and_eq_true, Bool.not_eq_true'] at he
    obtain ⟨he1, he2⟩ := he
    rw [hu] at he2
    simp only at he2
    have hfo : P.fieldsOf t = fs := by unfold Program.fieldsOf; rw [hu]
    cases d with
    | zero => simp [Kd.depth] at hd
    | succ d =>
      show (Op.equalIn (d + 1) t (.agg cs.toArray) (.agg ds.toArray)).run P w2 = _
      rw [run_equalIn_struct w2 d t _ _ (by rw [hfo]; exact hu) he1, hfo]
      have he3 : eqB P (.pair a b) (.inr fs.toList) = true := by
        split at he2
        · rename_i f' fs' hfs; rw [hfs]; simpa [eqB] using he2
        · cases he2
      have := fields d fs.toList 0 he3 hfi f hfe x y [] cs [] ds hcs hds rfl rfl hd w2
      simpa using this
  | .list _, d => ⟨fun t h => by simp [eqB] at h, fun fs o h => by simp [eqB] at h⟩
  | .ptr, d => ⟨fun t h => by simp [eqB] at h, fun fs o h => by simp [eqB] at h⟩
  | .fn, d => ⟨fun t h => by simp [eqB] at h, fun fs o h => by simp [eqB] at h⟩
  | .err, d => ⟨fun t h => by simp [eqB] at h, fun fs o h => by simp [eqB] at h⟩
/-- What is asked of a type whose values are compared. -/
def EqOK (P : Program) (k : Kd) (t : TypeId) : Prop := eqB P k (.inl t) = true ∧ P.eqGuardType P.depth t = false ∧ k.depth ≤ 10000
theorem rd_eq (hc : ∀ t k, c.kd t = some k → Fits P k t) (he : ∀ t k, c.eq t = true → c.kd t = some k → EqOK P k t) (h : St M e a w) {op : BinOp} {t : TypeId} {x y : Operand} {sh : TypeId} (ho : o.op = .binOp op t x y sh) {k : Kd}
    (hkd : c.kd t = some k) (hag : k.isAgg = true) (hce : c.eq t = true) (hk : rdK.eqK k op (ev e x) (ev e y) K = some r) : Reads P M o e a w K r := by
  obtain ⟨e1, e2, e3⟩ := he t k hce hkd
  have key : ∀ x1 y1 f, toDen k (ev e x) = some x1 → toDen k (ev e y) = some y1 → eqD k = some f → (op = .eql → K (.b (f x1 y1)) = some r → Reads P M o e a w K r) ∧ (op = .neq → K (.b (!(f x1 y1))) = some r → Reads P M o e a w K r) := fun x1 y1 f hx hy hf => by
    obtain ⟨n0, hp⟩ := ev_pr h (x := x) rfl
    obtain ⟨n1, hq⟩ := ev_pr h (x := y) rfl
    have hp := hp.toDen hx
    have hq := hq.toDen hy
    obtain ⟨cs, hcs, hu⟩ := hp
    obtain ⟨ds, hds, hv⟩ := hq
    have hu' : valOf k cs = .agg cs.toArray := by unfold valOf; rw [if_pos hag]
    have hv' : valOf k ds = .agg ds.toArray := by unfold valOf; rw [if_pos hag]
    rw [hu'] at hu
    rw [hv'] at hv
    exact rd_cmp ho _ _ _ hu hv rfl rfl (fun w2 => run_eqGuard_agg w2 op t x y _ _ e2) (fun w2 => by
      have := (eqD_run (P := P) (w := w) (G := M.G) k 10000).1 t e1 (hc _ _ hkd) f hf x1 y1 _ _ ⟨cs, hcs, rfl⟩ ⟨ds, hds, rfl⟩ e3 w2
      rw [hu', hv'] at this
      exact this)
  unfold rdK.eqK at hk
  split at hk
  · rename_i x1 y1 f h1 h2 h3
    exact (key x1 y1 f h1 h2 h3).1 rfl hk
  · rename_i x1 y1 f h1 h2 h3
    exact (key x1 y1 f h1 h2 h3).2 rfl hk
  · cases hk
theorem rd_binOp (hc : ∀ t k, c.kd t = some k → Fits P k t) (he : ∀ t k, c.eq t = true → c.kd t = some k → EqOK P k t) (h : St M e a w) {op : BinOp} {t : TypeId} {x y : Operand} {sh : TypeId} (ho : o.op = .binOp op t x y sh) (hk : rdK c o e K = some r) : Reads P M o e a w K r := by
  simp only [rdK, ho] at hk
  split at hk
  case h_5 => cases hk
  · rename_i hkd; exact rd_nilP hc h ho hkd hk
  · rename_i hkd; exact rd_nilF hc h ho hkd hk
  · rename_i hkd
    split at hk
    · rename_i hcy; exact rd_nilE hc h ho hkd hcy hk
    · cases hk
  rename_i k _ _ _ hkd
  split at hk
  · rename_i hag
    split at hk
    · rename_i hceq; exact rd_eq hc he h ho hkd hag hceq hk
    · cases hk
  split at hk
  case isFalse => cases hk
  rename_i hbase
  unfold binK at hk
  split at hk
  · rename_i k1 x1 k2 y1 hx hy
    have ex := ev_i h hx
    have ey := ev_i h hy
    have hrun : ∀ w2, (execOp a.eval o).run P w2 = ((binOp op t (.int k1 x1) (.int k2 y1)).run P w2).andThen fun v w' => .ok (.value v) w' := fun w2 => by
      simp [execOp, ho, ex, ey, eqGuard_at_int]
    split at hk
    · simp only [shiftK] at hk
      cases hd : decide (y1 < 0)
      · rw [hd] at hk
        exact Reads.i (fun w2 _ => by rw [hrun]; simp [binOp, Op.shift, show ¬ y1 < 0 by simpa using hd]) hk
      · rw [hd] at hk; cases hk
    · simp only [shiftK] at hk
      cases hd : decide (y1 < 0)
      · rw [hd] at hk
        exact Reads.i (fun w2 _ => by rw [hrun]; simp [binOp, Op.shift, show ¬ y1 < 0 by simpa using hd]) hk
      · rw [hd] at hk; cases hk
    · rename_i hn1 hn2
      split at hk
      case isFalse => cases hk
      rename_i hkk
      subst hkk
      unfold arith at hk
      split at hk
      · exact Reads.i (fun w2 _ => by rw [hrun]; simp [binOp, Op.intArith]) hk
      · exact Reads.i (fun w2 _ => by rw [hrun]; simp [binOp, Op.intArith]) hk
      · exact Reads.i (fun w2 _ => by rw [hrun]; simp [binOp, Op.intArith]) hk
      · cases hd : decide (y1 = 0)
        · rw [hd] at hk
          exact Reads.i (fun w2 _ => by rw [hrun]; simp [binOp, Op.intDiv, show ¬ y1 = 0 by simpa using hd]) hk
        · rw [hd] at hk; cases hk
      · cases hd : decide (y1 = 0)
        · rw [hd] at hk
          exact Reads.i (fun w2 _ => by rw [hrun]; simp [binOp, Op.intDiv, show ¬ y1 = 0 by simpa using hd]) hk
        · rw [hd] at hk; cases hk
      · exact Reads.b (fun w2 _ => by rw [hrun]; simp [binOp, Op.intCmp]; rfl) hk
      · exact Reads.b (fun w2 _ => by rw [hrun]; simp [binOp, Op.intCmp]; rfl) hk
      · exact Reads.b (fun w2 _ => by rw [hrun]; simp [binOp, Op.intCmp]) hk
      · exact Reads.b (fun w2 _ => by rw [hrun]; simp [binOp, Op.intCmp]) hk
      · exact Reads.b (fun w2 _ => by rw [hrun]; simp [binOp, Op.intCmp]) hk
      · exact Reads.b (fun w2 _ => by rw [hrun]; simp [binOp, Op.intCmp]) hk
      · exact Reads.i (fun w2 _ => by rw [hrun]; simp [binOp, Op.intBits, arith.bitsOf]) hk
      · exact Reads.i (fun w2 _ => by rw [hrun]; simp [binOp, Op.intBits, arith.bitsOf]) hk
      · exact Reads.i (fun w2 _ => by rw [hrun]; simp [binOp, Op.intBits, arith.bitsOf]) hk
      · cases hk
  · rename_i x1 y1 hx hy
    have ex := ev_s h hx
    have ey := ev_s h hy
    have hrun : ∀ w2, (execOp a.eval o).run P w2 = ((binOp op t (.string x1) (.string y1)).run P w2).andThen fun v w' => .ok (.value v) w' := fun w2 => by
      simp [execOp, ho, ex, ey, eqGuard_at_string]
    unfold strOp at hk
    split at hk
    · cases hd : decide (x1.size + y1.size ≤ 9223372036854775807)
      · rw [hd] at hk; cases hk
      · rw [hd] at hk
        have hd' : x1.size + y1.size ≤ 9223372036854775807 := by simpa using hd
        exact Reads.s (fun w2 _ => by rw [hrun]; simp [binOp, Op.stringOp]; omega) hk
    · exact Reads.b (fun w2 _ => by rw [hrun]; simp [binOp, Op.stringOp]) hk
    · exact Reads.b (fun w2 _ => by rw [hrun]; simp [binOp, Op.stringOp]) hk
    · cases hk
  · rename_i x1 y1 hx hy
    have ex := ev_b h hx
    have ey := ev_b h hy
    have hu : P.underlying t = some .bool := by
      rw [hx] at hbase
      cases k <;> simp [rdK.baseB] at hbase
      have := hc _ _ hkd
      unfold Fits at this
      simp only [fitsB, Bool.and_eq_true] at this
      have h2 := this.2
      split at h2
      · rename_i hu; exact hu
      · cases h2
    have hrun : ∀ w2, (execOp a.eval o).run P w2 = ((binOp op t (.bool x1) (.bool y1)).run P w2).andThen fun v w' => .ok (.value v) w' := fun w2 => by
      simp [execOp, ho, ex, ey, eqGuard_at_bool]
    have he := run_equal_bool hu x1 y1
    split at hk
    · exact Reads.b (fun w2 _ => by rw [hrun, show binOp .eql t (.bool x1) (.bool y1) = (do pure (.bool (← Op.equal t (.bool x1) (.bool y1)))) from rfl, Sem.run_bind, he]; rfl) hk
    · exact Reads.b (fun w2 _ => by rw [hrun, show binOp .neq t (.bool x1) (.bool y1) = (do pure (.bool (!(← Op.equal t (.bool x1) (.bool y1))))) from rfl, Sem.run_bind, he]; rfl) hk
    · cases hk
  · cases hk
end
end Go.Pv
