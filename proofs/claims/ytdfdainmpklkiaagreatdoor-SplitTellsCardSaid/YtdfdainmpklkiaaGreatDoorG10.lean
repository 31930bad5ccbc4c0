/- What an operation that only reads does: indices, slices of strings, lengths; and the law for all of them. -/
import Derived.Test.YtdfdainmpklkiaaGreatDoorG9
set_option linter.unusedVariables false
set_option linter.unusedSimpArgs false
namespace Go.Pv
open Go.RowKit
/-! ### Filling cells -/
theorem foldl_set (off : Nat) : ∀ (l : List Value) (k : Nat) (cells : Array Value), off + k + l.length ≤ cells.size →
    (l.zipIdx k).foldl (fun cs p => cs.setIfInBounds (off + p.2) p.1) cells = (cells.toList.take (off + k) ++ l ++ cells.toList.drop (off + k + l.length)).toArray
  | [], k, cells, h => by simp
  | v :: l, k, cells, h => by
    simp only [List.length_cons] at h
    rw [List.zipIdx_cons, List.foldl_cons, foldl_set off l (k + 1) _ (by rw [Array.size_setIfInBounds]; omega)]
    have hlt : off + k < cells.toList.length := by simp; omega
    congr 1
    simp only [Array.toList_setIfInBounds]
    have t1 : (cells.toList.set (off + k) v).take (off + (k + 1)) = cells.toList.take (off + k) ++ [v] := by
      rw [show off + (k + 1) = (off + k) + 1 by omega, List.take_add_one, List.take_set_of_le (Nat.le_refl _), List.getElem?_set_self hlt]; rfl
    have t2 : (cells.toList.set (off + k) v).drop (off + (k + 1) + l.length) = cells.toList.drop (off + k + (v :: l).length) := by
      rw [List.drop_set_of_lt (by omega), List.length_cons]; congr 1; omega
    rw [t1, t2]
    simp
theorem fill_step {place : Nat → Option (Nat × Nat)} {cells : List Value} {i off size : Nat} {v : Value} {cs : List Value} {rest : List (Nat × Value)} (hp : place i = some (off, size)) (hv : v.cells = cs.toArray) (hs : cs.length = size) (hle : off + size ≤ cells.length) :
    Instr.fill place cells.toArray ((i, v) :: rest) = Instr.fill place (cells.take off ++ cs ++ cells.drop (off + size)).toArray rest := by
  have hf := foldl_set off cs 0 cells.toArray (by simp; omega)
  simp only [Nat.add_zero, List.toList_toArray] at hf
  have hz : v.cells.zipIdx.foldl (fun cs p => cs.setIfInBounds (off + p.2) p.1) cells.toArray = (cells.take off ++ cs ++ cells.drop (off + size)).toArray := by
    rw [hv, ← Array.foldl_toList, ← hs, ← hf]
    congr 1
    simp
  rw [Instr.fill, hp]
  simp only []
  rw [if_neg (by rw [hv]; simp; omega)]
  rw [← hz]
section
variable {P : Program}
/-! ### Structs -/
theorem fits_places : ∀ {k : Kd} {fs : List Field} {o : Nat}, fitsB P k (.inr (fs, o)) = true →
    ∃ places, fs.mapM (fun f => (P.info? f.type).map fun i => (f.offset, i.size)) = some places ∧ ∀ f k' q, fieldAt k f = some (k', q) → places[f]? = some (o + q, k'.size)
  | .pair a b, f :: fs, o, h => by
    simp only [fitsB, Bool.and_eq_true, beq_iff_eq] at h
    obtain ⟨places, h1, h2⟩ := fits_places h.2
    obtain ⟨i, i1, i2, _⟩ := Fits.info (P := P) h.1.2
    refine ⟨(f.offset, i.size) :: places, by simp [i1, h1], fun j k' q hj => ?_⟩
    cases j with
    | zero =>
      simp only [fieldAt, Option.some.injEq, Prod.mk.injEq] at hj
      obtain ⟨rfl, rfl⟩ := hj
      simp [h.1.1, i2]
    | succ j =>
      simp only [fieldAt, Option.map_eq_some_iff, Prod.mk.injEq] at hj
      obtain ⟨⟨k1, q1⟩, h3, rfl, rfl⟩ := hj
      have := h2 j k1 q1 h3
      simp only [List.getElem?_cons_succ, this]
      congr 2; omega
  | .unit, fs, o, h => by
    have : fs = [] := by simpa [fitsB] using h
    subst this
    exact ⟨[], rfl, fun _ _ _ hj => by cases hj⟩
  | .int _, _, _, h => by simp [fitsB] at h
  | .bool, _, _, h => by simp [fitsB] at h
  | .str, _, _, h => by simp [fitsB] at h
  | .list _, _, _, h => by simp [fitsB] at h
  | .ptr, _, _, h => by simp [fitsB] at h
  | .fn, _, _, h => by simp [fitsB] at h
  | .err, _, _, h => by simp [fitsB] at h
  | .pair _ _, [], _, h => by simp [fitsB] at h
theorem fits_struct {k : Kd} {t : TypeId} (hf : Fits P k t) (hk : k.isAgg = true) : ∃ fs places, P.underlying t = some (.struct fs) ∧ fs.toList.mapM (fun f => (P.info? f.type).map fun i => (f.offset, i.size)) = some places ∧ ∀ f k' q, fieldAt k f = some (k', q) → places[f]? = some (q, k'.size) := by
  have key : ∃ fs, P.underlying t = some (.struct fs) ∧ fitsB P k (.inr (fs.toList, 0)) = true := by
    unfold Fits at hf
    cases k with
    | unit =>
      simp only [fitsB, Bool.and_eq_true] at hf
      have h2 := hf.2
      split at h2
      · rename_i fs hu; exact ⟨fs, hu, by simpa [fitsB] using h2⟩
      · cases h2
    | pair a b =>
      simp only [fitsB, Bool.and_eq_true] at hf
      have h2 := hf.2
      split at h2
      · rename_i fs hu
        split at h2
        · rename_i x xs hx
          simp only [Bool.and_eq_true, beq_iff_eq] at h2
          exact ⟨fs, hu, by rw [hx]; simp [fitsB, h2.1.1, h2.1.2, h2.2]⟩
        · cases h2
      · cases h2
    | _ => cases hk
  obtain ⟨fs, h1, h2⟩ := key
  obtain ⟨places, h3, h4⟩ := fits_places h2
  exact ⟨fs, places, h1, h3, fun f k' q hj => by have := h4 f k' q hj; simpa using this⟩
end
section
variable {P : Program} {c : Cx} {M : Mem} {e : Env} {a : Act} {w : World} {o : Oper} {ρ : Type} {K : PV → Option ρ} {r : ρ}
theorem bif_none {α : Type} {b : Bool} {x : Option α} {r : α} (h : (bif b then x else none) = some r) : b = true ∧ x = some r := by cases b <;> simp_all
theorem run_indexAt {k : Kd} {t : TypeId} (hf : Fits P (.list k) t) {ik : IntKind} {n : Int} {g of len cap : Nat} (h0 : 0 ≤ n) (h1 : n < len) (w : World) :
    (Instr.indexAt t (.slice (some ⟨g, of, none⟩) len cap) (.int ik n)).run P w = .ok (.pointer (some ⟨g, of + n.toNat * k.size, none⟩)) w := by
  obtain ⟨u, hu, hfu⟩ := hf.elem
  simp [Instr.indexAt, asIntOf, run_underlying hu, run_sizeOf' hfu, h0, h1, Addr.add_lit]
theorem cp_pr (h : St M e a w) {x : Operand} {p : PV} (hx : cp e x = p) : ∃ n0, PR M w e.at_ (pv M a w) n0 p (a.eval x) := by
  obtain ⟨_, n0, h1⟩ := cp_spec h x; rw [hx] at h1; exact ⟨n0, h1⟩
theorem rd_indexAddr (hc : ∀ t k, c.kd t = some k → Fits P k t) (h : St M e a w) {t : TypeId} {x ix : Operand} (ho : o.op = .indexAddr t x ix) (hk : rdK c o e K = some r) : Reads P M o e a w K r := by
  simp only [rdK, ho] at hk
  split at hk
  case h_2 => cases hk
  rename_i k0 ik n hkd hix
  have eix := ev_i h hix
  have hrun : ∀ {g of len cap : Nat} {w2 : World}, a.eval x = .slice (some ⟨g, of, none⟩) len cap → 0 ≤ n → n < len → (execOp a.eval o).run P w2 = .ok (.value (.pointer (some ⟨g, of + n.toNat * k0.size, none⟩))) w2 := fun hv h0 h1 => by
    simp [execOp, ho, hv, eix, run_indexAt (hc _ _ hkd) h0 h1]
  split at hk
  · rename_i i of hx
    obtain ⟨xs, hat0, hk1⟩ := Option.bind_eq_some_iff.1 hk
    clear hk
    have hat := hown_at hat0
    obtain ⟨hb, hk2⟩ := bif_none hk1
    simp only [Bool.and_eq_true, decide_eq_true_eq] at hb
    obtain ⟨n0, hp⟩ := cp_pr h hx
    have hv : a.eval x = pv M a w (.b (.h i) of) := hp.2 (by rw [hat]; rfl)
    have hown : OwnD M w (.b (.h i) of) true k0 xs (pv M a w (.b (.h i) of)) := by have := h.pr (.b (.h i) of); rw [hat] at this; exact this
    obtain ⟨u, css, h1, h2, h3⟩ := hown
    rcases h2.2 with ⟨_, hl⟩ | ⟨g, cap, cur, hsl, _⟩
    · omega
    · refine ⟨_, .rh k0 i of n [], n0, rfl, ⟨hp.1, fun xs2 hat2 => ?_⟩, fun w2 _ => hrun (hv.trans hsl) hb.1 hb.2, hk2⟩
      rw [hat] at hat2
      injection hat2 with q1 q2 q3
      rw [q3] at hb hsl
      exact ⟨hb.1, hb.2, g, cap, (k0, 0), hsl, rfl, by simp⟩
  · rename_i m _ hx
    obtain ⟨n0, hp⟩ := cp_pr h hx
    split at hk
    · rename_i k xs hat
      split at hk
      case isFalse => cases hk
      rename_i hkk
      subst hkk
      obtain ⟨hb, hk⟩ := bif_none hk
      simp only [Bool.and_eq_true, decide_eq_true_eq] at hb
      have hv : a.eval x = pv M a w m := hp.2 (by rw [hat]; rfl)
      have hown : OwnD M w m true k xs (pv M a w m) := by have := h.pr m; rw [hat] at this; exact this
      have hown' := hown
      obtain ⟨u, css, h1, h2, h3⟩ := hown
      rcases h2.2 with ⟨_, hl⟩ | ⟨g, cap, cur, hsl, _⟩
      · omega
      · refine ⟨_, .ra m n [], n0, rfl, ⟨hp.1, fun k2 xs2 hat2 => ?_⟩, fun w2 _ => hrun (hv.trans hsl) hb.1 hb.2, hk⟩
        rw [hat] at hat2
        injection hat2 with q1 q2 q3
        subst q2
        rw [eq_of_heq q3] at hb hsl
        exact ⟨hb.1, hb.2, g, cap, (k, 0), hsl, rfl, by simp⟩
    · rename_i k xs hat
      split at hk
      case isFalse => cases hk
      rename_i hkk
      subst hkk
      obtain ⟨hb, hk⟩ := bif_none hk
      simp only [Bool.and_eq_true, decide_eq_true_eq] at hb
      have hv : a.eval x = pv M a w m := hp.2 (by rw [hat]; rfl)
      have hown : OwnD M w m false k xs (pv M a w m) := by have := h.pr m; rw [hat] at this; exact this
      have hown' := hown
      obtain ⟨u, css, h1, h2, h3⟩ := hown
      rcases h2.2 with ⟨_, hl⟩ | ⟨g, cap, cur, hsl, _⟩
      · omega
      · obtain ⟨cs, hr, hcs⟩ := hown'.at_elem hsl (i := n.toNat) (by omega)
        refine ⟨_, .at_ k (nth xs n), n0, rfl, ⟨g, 0 + n.toNat * k.size, cs, rfl, fun j hj => ⟨?_, ?_⟩, by rw [nth_eq hb.1 (by omega)]; exact hr⟩, fun w2 _ => hrun (hv.trans hsl) hb.1 hb.2, hk⟩
        · have hlt : n.toNat * k.size + j < xs.length * k.size := by
            have := hr.len
            calc n.toNat * k.size + j < n.toNat * k.size + k.size := by omega
              _ = (n.toNat + 1) * k.size := by rw [Nat.succ_mul]
              _ ≤ _ := Nat.mul_le_mul_right _ (by omega)
          exact ((h3 g (by rw [hsl]; rfl)).2 _).2 ⟨rfl, by omega⟩
        · have := hcs j hj
          rw [show 0 + n.toNat * k.size + j = n.toNat * k.size + j by omega]; exact this
    · cases hk
  · rename_i k xs hx
    split at hk
    case isFalse => cases hk
    rename_i hkk
    subst hkk
    obtain ⟨hb, hk⟩ := bif_none hk
    simp only [Bool.and_eq_true, decide_eq_true_eq] at hb
    obtain ⟨n0, cs, ⟨A, cap, rfl, hcap, hx2⟩, hv⟩ := cp_pr h hx
    obtain ⟨g, of, rfl, hi⟩ := hx2 (fun h0 => by rw [h0] at hb; simp at hb; omega)
    obtain ⟨ds, hh, hr⟩ := hi n.toNat (by omega)
    exact ⟨_, .at_ k (nth xs n), n0, rfl, ⟨g, of + n.toNat * k.size, ds, rfl, hh, by rw [nth_eq hb.1 (by omega)]; exact hr⟩, fun w2 _ => hrun hv hb.1 hb.2, hk⟩
  · cases hk
theorem rd_index (hc : ∀ t k, c.kd t = some k → Fits P k t) (h : St M e a w) {t : TypeId} {x ix : Operand} (ho : o.op = .index t x ix) (hk : rdK c o e K = some r) : Reads P M o e a w K r := by
  simp only [rdK, ho] at hk
  split at hk
  case h_2 => cases hk
  rename_i s ik n hkd hx hix
  obtain ⟨hb, hk⟩ := bif_none hk
  simp only [Bool.and_eq_true, decide_eq_true_eq] at hb
  have hu := (hc _ _ hkd).str
  have hlt : n.toNat < s.size := by omega
  refine Reads.i (fun w2 _ => ?_) hk
  have hg : s[n.toNat]? = some (s[n.toNat]'hlt) := by
    rw [getElem?_pos]
  simp [execOp, ho, ev_s h hx, ev_i h hix, Instr.index, asIntOf, run_underlying hu, hb.1, hg, byteAt, hlt]
theorem run_sliceBound {n : Int} {k : IntKind} {y : Nat} {code : BoundsCode} (h0 : 0 ≤ n) (h1 : n ≤ y) (w : World) : (Instr.sliceBound (.int k n) y code).run P w = .ok n.toNat w := by
  simp [Instr.sliceBound, asIntOf, h0, h1]
/-- The bounds of a slice, as they are given. -/
theorem run_sliceBounds (h : St M e a w) {lo hi : Option Operand} {b : Bool} {len cap : Nat} {x y : Int}
    (hlo : (lo = none ∧ x = 0) ∨ ∃ q, lo = some q ∧ ev e q = .i .i64 x) (hhi : (hi = none ∧ y = len) ∨ ∃ q, hi = some q ∧ ev e q = .i .i64 y) (h0 : 0 ≤ x) (h1 : x ≤ y) (h2 : y ≤ len) (hcap : len ≤ cap) (w2 : World) :
    (Instr.sliceBounds b len cap (lo.map a.eval) (hi.map a.eval) none).run P w2 = .ok (x.toNat, y.toNat, cap) w2 := by
  rcases hlo with ⟨rfl, rfl⟩ | ⟨q, rfl, hq⟩ <;> rcases hhi with ⟨rfl, rfl⟩ | ⟨q', rfl, hq'⟩
  · simp [Instr.sliceBounds]
  · have e1 := ev_i h hq'
    simp [Instr.sliceBounds, e1, run_sliceBound (P := P) (show 0 ≤ y by omega) (show y ≤ cap by omega)]
  · have e1 := ev_i h hq
    simp [Instr.sliceBounds, e1, run_sliceBound (P := P) h0 (show x ≤ len by omega)]
  · have e1 := ev_i h hq
    have e2 := ev_i h hq'
    simp [Instr.sliceBounds, e1, e2, run_sliceBound (P := P) (show 0 ≤ y by omega) (show y ≤ cap by omega), run_sliceBound (P := P) h0 (show x ≤ y.toNat by omega)]
theorem bndK_spec {lo : Option Operand} {d : Int} {K : Int → Option ρ} (hk : rdK.bndK (lo.map (ev e)) d K = some r) : ∃ x, ((lo = none ∧ x = d) ∨ ∃ q, lo = some q ∧ ev e q = .i .i64 x) ∧ K x = some r := by
  unfold rdK.bndK at hk
  split at hk
  · rename_i hn
    exact ⟨d, .inl ⟨by simpa using hn, rfl⟩, hk⟩
  · rename_i n hn
    obtain ⟨q, h1, h2⟩ := Option.map_eq_some_iff.1 hn
    exact ⟨n, .inr ⟨q, h1, h2⟩, hk⟩
  · cases hk
theorem rd_slice (hc : ∀ t k, c.kd t = some k → Fits P k t) (h : St M e a w) {t : TypeId} {x : Operand} {lo hi mx : Option Operand} (ho : o.op = .slice t x lo hi mx) (hk : rdK c o e K = some r) : Reads P M o e a w K r := by
  simp only [rdK, ho] at hk
  split at hk
  · cases hk
  rename_i hmx
  have hmx' : mx = none := by cases mx <;> simp_all
  subst hmx'
  split at hk
  case h_2 => cases hk
  rename_i s hkd hx
  obtain ⟨p, hp, hk⟩ := bndK_spec hk
  obtain ⟨q, hq, hk⟩ := bndK_spec hk
  obtain ⟨hb, hk⟩ := bif_none hk
  simp only [Bool.and_eq_true, decide_eq_true_eq] at hb
  have hu := (hc _ _ hkd).str
  refine Reads.s (fun w2 _ => ?_) hk
  have hsb := run_sliceBounds (P := P) (b := false) h hp hq hb.1.1 hb.1.2 hb.2 (Nat.le_refl _) w2
  simp [execOp, ho, ev_s h hx, Instr.sliceAt, run_underlying hu, Instr.slice, hsb]
theorem call_args {q : Call} {b : Builtin} (hq : q.callee = .builtin b) (ρ : Operand → Value) (o : Oper) (ho : o.op = .call q) :
    execOp ρ o = builtin b q.argTypes o.type (q.args.map fun | .const _ => true | _ => false) (q.args.map ρ) := by
  unfold execOp
  simp only [ho, resolve, hq]
  rfl
theorem rd_len (hc : ∀ t k, c.kd t = some k → Fits P k t) (h : St M e a w) {q : Call} (hq : q.callee = .builtin .len) (ho : o.op = .call q) (hk : rdK c o e K = some r) : Reads P M o e a w K r := by
  simp only [rdK, ho, hq] at hk
  generalize ht0 : q.argTypes.getD 0 0 = t0 at hk
  have hlen : ∀ {x : Operand} {v : Value} {n : Nat} {w2 : World}, q.args.toList = [x] → q.argTypes.size = 1 → a.eval x = v → (Builtin.len_ #[t0] o.type #[v]).run P w2 = .ok (goInt n) w2 → (execOp a.eval o).run P w2 = .ok (.value (goInt n)) w2 := fun {x v n w2} h1 h2 h3 h4 => by
    have e1 : q.args = #[x] := Array.toList_inj.1 (by simpa using h1)
    have e2 : q.argTypes = #[t0] := by
      apply Array.ext
      · simpa using h2
      · intro i hi1 hi2
        have : i = 0 := by omega
        subst this
        rw [← ht0]
        simp [hi1]
    rw [call_args hq a.eval o ho, e1, e2]
    simp only [builtin, List.map_toArray, List.map_cons, List.map_nil, h3, Sem.run_bind, h4, Result.andThen_ok, Sem.run_pure]
  split at hk
  · rename_i x hkd hargs hsz
    split at hk
    · rename_i s hx
      have hu := (hc _ _ hkd).str
      exact Reads.i (fun w2 _ => hlen hargs hsz (ev_s h hx) (n := s.size) (by simp [Builtin.len_, run_underlying hu])) hk
    · cases hk
  · rename_i k0 x hkd hargs hsz
    obtain ⟨u, hu, _⟩ := (hc _ _ hkd).elem
    have hown : ∀ {n : Pl} {m : Bool} {k : Kd} {xs : List k.den}, e.at_ n = .o m k xs → ∃ A cap, pv M a w n = .slice A xs.length cap := fun {n m k xs} hat => by
      have := h.pr n
      rw [hat] at this
      obtain ⟨u, css, _, h2, _⟩ := this
      rcases h2.2 with ⟨h3, h4⟩ | ⟨g, cap, cur, h3, _⟩
      · exact ⟨none, 0, by rw [h3, h4]⟩
      · exact ⟨_, cap, h3⟩
    have hv : ∃ ys : (k : Kd) × List k.den, (∃ A cap, a.eval x = .slice A ys.2.length cap) ∧ K (.i .i64 (ys.2.length : Int)) = some r := by
      unfold listC at hk
      split at hk
      · rename_i i of hx
        obtain ⟨xs, hat0, hk1⟩ := Option.bind_eq_some_iff.1 hk
        have hat := hown_at hat0
        obtain ⟨n0, hp⟩ := ev_pr h hx
        refine ⟨⟨k0, xs⟩, ?_, hk1⟩
        rw [hp.2 (by rw [hat]; rfl)]; exact hown hat
      · obtain ⟨ys, hys, hk1⟩ := Option.bind_eq_some_iff.1 hk
        refine ⟨ys, ?_, hk1⟩
        unfold listOf at hys
        split at hys
        · cases hys
        · rename_i n _ hx
          obtain ⟨n0, hp⟩ := ev_pr h hx
          split at hys
          · rename_i m k xs hat
            simp only [Option.some.injEq] at hys
            subst hys
            rw [hp.2 (by rw [hat]; rfl)]; exact hown hat
          · cases hys
        · rename_i m k xs hx
          simp only [Option.some.injEq] at hys
          subst hys
          obtain ⟨n0, h1, h2⟩ := ev_spec h x
          rw [hx] at h1 h2
          obtain ⟨t, rfl, rfl⟩ := h2 rfl
          exact hown (n := .t t) hx
        · rename_i k xs hx
          simp only [Option.some.injEq] at hys
          subst hys
          obtain ⟨n0, cs, ⟨A, cap, rfl, _⟩, hv⟩ := ev_pr h hx
          exact ⟨A, cap, hv⟩
        · cases hys
    obtain ⟨ys, ⟨A, cap, hv⟩, hk⟩ := hv
    exact Reads.i (fun w2 _ => hlen hargs hsz hv (n := ys.2.length) (by simp [Builtin.len_, run_underlying hu])) hk
  · cases hk
theorem mmF_spec (h : St M e a w) {f : Int → Int → Int} {g : Value → Value → Sem Value} (hg : ∀ k x k' y w, (g (.int k x) (.int k' y)).run P w = .ok (.int k (f x y)) w) (k : IntKind) : ∀ (l : List Operand) (x z : Int), rdK.mmF f k x (l.map (ev e)) = some z →
    ∀ w2, ((l.map a.eval).foldlM g (.int k x)).run P w2 = .ok (.int k z) w2
  | [], x, z, hz, w2 => by simp only [List.map_nil, rdK.mmF, Option.some.injEq] at hz; subst hz; rfl
  | y :: l, x, z, hz, w2 => by
    simp only [List.map_cons] at hz
    cases hq : ev e y with
    | i k' n =>
      rw [hq] at hz
      simp only [rdK.mmF] at hz
      split at hz
      · have := ev_i h hq
        simp only [List.map_cons, List.foldlM_cons, this, Sem.run_bind, hg, Result.andThen_ok]
        exact mmF_spec h hg k l _ z hz w2
      · cases hz
    | _ => rw [hq] at hz; simp [rdK.mmF] at hz
theorem rd_mm (h : St M e a w) {q : Call} (ho : o.op = .call q) {f : Int → Int → Int} {g : Value → Value → Sem Value} (hg : ∀ k x k' y w, (g (.int k x) (.int k' y)).run P w = .ok (.int k (f x y)) w)
    (hx : ∀ w2 l v, (q.args.map a.eval).toList = v :: l → (execOp a.eval o).run P w2 = ((l.foldlM g v : Sem Value).run P w2).andThen fun v w' => .ok (.value v) w') (hk : rdK.mmK f (q.args.toList.map (ev e)) K = some r) : Reads P M o e a w K r := by
  unfold rdK.mmK at hk
  split at hk
  · rename_i k x l hl
    obtain ⟨z, hz, hk'⟩ := Option.bind_eq_some_iff.1 hk
    clear hk
    cases hql : q.args.toList with
    | nil => rw [hql] at hl; cases hl
    | cons y ys =>
      rw [hql] at hl
      simp only [List.map_cons, List.cons.injEq] at hl
      obtain ⟨h1, rfl⟩ := hl
      refine Reads.i (fun w2 _ => ?_) hk'
      rw [hx w2 (ys.map a.eval) (.int k x) (by rw [Array.toList_map, hql, List.map_cons, ev_i h h1]), mmF_spec h hg k ys x z hz w2]
      rfl
  · cases hk
theorem fillR_spec (h : St M e a w) {k : Kd} {places : List (Nat × Nat)} (hp : ∀ f k' q, fieldAt k f = some (k', q) → places[f]? = some (q, k'.size)) :
    ∀ (ps : List (Nat × Operand)) {x z : k.den} {cs : List Value}, Rep M.G w k x cs → fillR k e x ps = some z →
      ∃ cs', Rep M.G w k z cs' ∧ Instr.fill (places.toArray[·]?) cs.toArray (ps.map fun q => (q.1, a.eval q.2)) = some cs'.toArray
  | [], x, z, cs, hr, hk => by
    simp only [fillR, Option.some.injEq] at hk
    subst hk
    exact ⟨cs, hr, by simp [Instr.fill]⟩
  | (f, y) :: ps, x, z, cs, hr, hk => by
    simp only [fillR] at hk
    obtain ⟨z1, hz1, hk⟩ := Option.bind_eq_some_iff.1 hk
    obtain ⟨k', q, zz, f1, f2, f3, f4⟩ := hr.setComp hz1
    obtain ⟨n0, hpr⟩ := ev_pr h rfl
    obtain ⟨c2, r2, _, hc2⟩ := (hpr.toDen f2).cells
    obtain ⟨cs', g3, g4⟩ := fillR_spec h hp ps (f4 c2 r2) hk
    refine ⟨cs', g3, ?_⟩
    have hl := hr.len
    rw [List.map_cons, fill_step (by simpa using hp f k' q f1) hc2 r2.len (by omega)]
    exact g4
theorem rd_build (hc : ∀ t k, c.kd t = some k → Fits P k t) (h : St M e a w) {t : TypeId} {ps : Array (Nat × Operand)} (ho : o.op = .build t ps) (hk : rdK c o e K = some r) : Reads P M o e a w K r := by
  simp only [rdK, ho] at hk
  split at hk
  case h_2 => cases hk
  rename_i k hkd
  split at hk
  case isFalse => cases hk
  rename_i hag
  obtain ⟨x, hf, hk'⟩ := Option.bind_eq_some_iff.1 hk
  clear hk
  obtain ⟨fs, places, h1, h2, h3⟩ := fits_struct (hc _ _ hkd) hag
  obtain ⟨i, i1, i2, i3, i4, i5⟩ := run_typeInfo' (hc _ _ hkd) w
  obtain ⟨cs', g3, g4⟩ := fillR_spec h h3 ps.toList (Rep.dflt k) hf
  have hz : (valOf k (zcells k)).cells = (zcells k).toArray := by unfold valOf; rw [if_pos hag]; rfl
  have hb : P.built t (ps.map fun (i, x) => (i, a.eval x)).toList = some cs'.toArray := by
    unfold Program.built
    simp only [i1, h1, i5, h2, hz, Array.toList_map]
    exact g4
  refine ⟨.agg cs'.toArray, .st k x, .t 0, rfl, ⟨cs', g3, by unfold valOf; rw [if_pos hag]⟩, fun w2 _ => ?_, hk'⟩
  unfold execOp
  simp only [ho, Sem.run_bind, run_build w2 t _ _ hb, Result.andThen_ok]
  rfl
theorem caps_spec (h : St M e a w) : ∀ (l : List Operand) (cs : List PV), (l.mapM fun x => match ev e x with
      | .p y => some (PV.p y)
      | .ac ps off => some (PV.ac ps off)
      | .clo g cs => some (PV.clo g cs)
      | _ => none) = some cs → CRs M.G w cs (l.map a.eval)
  | [], cs, hl => by
    simp only [List.mapM_nil, Option.pure_def, Option.some.injEq] at hl
    subst hl
    simp [CRs]
  | x :: l, cs, hl => by
    simp only [List.mapM_cons, Option.bind_eq_bind, Option.bind_eq_some_iff, Option.pure_def, Option.some.injEq] at hl
    obtain ⟨p, hp, cs', hcs, rfl⟩ := hl
    obtain ⟨n0, hpr⟩ := ev_pr h (x := x) rfl
    simp only [List.map_cons, CRs]
    refine ⟨?_, caps_spec h l cs' hcs⟩
    split at hp
    · rename_i y hx; rw [hx] at hpr; injection hp with hp; subst hp; rw [CR]; exact hpr
    · rename_i ps off hx; rw [hx] at hpr; injection hp with hp; subst hp; exact hpr
    · rename_i g cs hx; rw [hx] at hpr; injection hp with hp; subst hp; exact hpr
    · cases hp
theorem rd_makeFunc (h : St M e a w) {f : Fn} {first caps : Array Operand} (ho : o.op = .makeFunc f first caps) (hk : rdK c o e K = some r) : Reads P M o e a w K r := by
  cases f with
  | func f =>
    simp only [rdK, ho] at hk
    split at hk
    case isFalse => cases hk
    rename_i hf
    obtain ⟨cs, hcs, hk1⟩ := Option.bind_eq_some_iff.1 hk
    have hcr := caps_spec h _ _ hcs
    have hfi : first = #[] := Array.eq_empty_of_size_eq_zero hf
    refine ⟨.func (.func f) #[] (caps.toList.map a.eval).toArray, .clo f cs, .t 0, rfl, ?_, fun w2 _ => ?_, hk1⟩
    · show CR M.G w (.clo f cs) _
      rw [CR]
      exact ⟨_, rfl, hcr⟩
    · subst hfi
      simp [execOp, ho, Instr.makeFunc]
      rw [← Array.toList_map, Array.toArray_toList]
  | _ => simp [rdK, ho] at hk
/-- The law for all that only read. -/
theorem rd_sound (hc : ∀ t k, c.kd t = some k → Fits P k t) (he : ∀ t k, c.eq t = true → c.kd t = some k → EqOK P k t) (h : St M e a w) (hk : rdK c o e K = some r) : Reads P M o e a w K r := by
  cases ho : o.op with
  | move x => exact rd_move h ho (by simpa only [rdK, ho] using hk)
  | pick q x y => exact rd_pick h ho hk
  | load t x => exact rd_load hc h ho hk
  | nilCheck x => exact rd_nilCheck h ho hk
  | fieldAddr t x f => exact rd_fieldAddr hc h ho hk
  | field t x f => exact rd_field hc h ho hk
  | indexAddr t x ix => exact rd_indexAddr hc h ho hk
  | index t x ix => exact rd_index hc h ho hk
  | slice t x lo hi mx => exact rd_slice hc h ho hk
  | extract x j => exact rd_extract h ho hk
  | binOp op t x y sh => exact rd_binOp hc he h ho hk
  | makeFunc f x y => exact rd_makeFunc h ho hk
  | unOp op t x => exact rd_unOp h ho hk
  | build t ps => exact rd_build hc h ho hk
  | convert s t x => exact rd_convert hc h ho hk
  | call q =>
    cases hq : q.callee with
    | builtin b =>
      cases b with
      | len => exact rd_len hc h hq ho hk
      | min =>
        simp only [rdK, ho, hq] at hk
        refine rd_mm h ho (g := Builtin.min2) (fun k x k' y w => ?_) (fun w2 l v hl => ?_) hk
        · simp only [Builtin.min2, Sem.run_pure]
          by_cases hxy : y < x <;> simp [hxy]
        · rw [call_args hq a.eval o ho]
          simp only [builtin, Sem.run_bind, Builtin.min_, hl]
          cases (List.foldlM Builtin.min2 v l).run P w2 <;> rfl
      | max =>
        simp only [rdK, ho, hq] at hk
        refine rd_mm h ho (g := Builtin.max2) (fun k x k' y w => ?_) (fun w2 l v hl => ?_) hk
        · simp only [Builtin.max2, Sem.run_pure]
          by_cases hxy : x < y <;> simp [hxy, show (y > x) = (x < y) from rfl]
        · rw [call_args hq a.eval o ho]
          simp only [builtin, Sem.run_bind, Builtin.max_, hl]
          cases (List.foldlM Builtin.max2 v l).run P w2 <;> rfl
      | _ => simp [rdK, ho, hq] at hk
    | value f => simp [rdK, ho, hq] at hk
    | invoke x m => simp [rdK, ho, hq] at hk
  | _ => simp [rdK, ho] at hk
end
end Go.Pv
