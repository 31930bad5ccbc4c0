/- What an operation does: make, slice, append. -/
import Derived.Test.YtdfdainmpklkiaaGreatDoorG12
set_option linter.unusedVariables false
set_option linter.unusedSimpArgs false
namespace Go.Pv
open Go.RowKit
section
variable {P : Program} {c : Cx} {M : Mem} {e : Env} {a : Act} {w : World} {o : Oper} {ρ : Type} {K : Kt ρ} {r : ρ} {Y : Yd ρ}
theorem Elems.replicate {G : Com} (k : Kd) : ∀ n : Nat, Elems G w k (List.replicate n k.dflt) (List.replicate n (zcells k))
  | 0 => trivial
  | n + 1 => ⟨Rep.dflt k, Elems.replicate k n⟩
theorem madeCells_take (z : List Value) (hz : 0 < z.length) : ∀ n : Nat, (madeCells z.toArray (n * z.length)).toList = (List.replicate n z).flatten
  | 0 => by simp [madeCells, Array.range_zero']
  | n + 1 => by
    have ih := madeCells_take z hz n
    unfold madeCells at ih ⊢
    rw [Nat.succ_mul]
    simp only [Array.toList_map, Array.toList_range] at ih ⊢
    rw [List.range_add, List.map_append, ih, List.replicate_succ', List.flatten_append]
    congr 1
    simp only [List.flatten_cons, List.flatten_nil, List.append_nil, List.map_map]
    apply List.ext_getElem
    · simp
    · intro i h1 h2
      simp only [List.length_map, List.length_range] at h1
      have hm : (n * z.length + i) % z.length = i := by rw [Nat.mul_comm, Nat.mul_add_mod, Nat.mod_eq_of_lt h1]
      simp [hm, h1]
theorem lim_le {k : Kd} {n : Nat} (h : n < lim k) : n * k.bytes ≤ 140737488355328 ∧ n ≤ maxLen := by
  unfold lim at h
  have h1 : n ≤ 140737488355328 / max 1 k.bytes := Nat.le_of_lt h
  have h2 : n * max 1 k.bytes ≤ 140737488355328 := (Nat.le_div_iff_mul_le (by omega)).1 h1
  have h3 : n * k.bytes ≤ n * max 1 k.bytes := Nat.mul_le_mul_left _ (by omega)
  have h4 : n * 1 ≤ n * max 1 k.bytes := Nat.mul_le_mul_left _ (by omega)
  refine ⟨by omega, ?_⟩
  simp only [maxLen]; omega
theorem did_makeSlice (hc : ∀ t k, c.kd t = some k → Fits P k t) (h : St M e a w) {t : TypeId} {n m : Operand} (ho : o.op = .makeSlice t n m) (hk : opK c Y o e K = some r) : Did P c M o a w K r := by
  simp only [opK, ho] at hk
  split at hk
  case h_2 => cases hk
  rename_i k x y hkd hx hy
  split at hk
  case isFalse => cases hk
  rename_i hs
  obtain ⟨hb, hk⟩ := bif_none hk
  simp only [Bool.and_eq_true, decide_eq_true_eq] at hb
  obtain ⟨⟨b1, b2⟩, b3⟩ := hb
  obtain ⟨u, hu, hfu⟩ := (hc _ _ hkd).elem
  obtain ⟨i, i1, i2, i3, i4, i5⟩ := run_typeInfo' hfu w
  obtain ⟨l1, l2⟩ := lim_le (k := k) (n := y.toNat) (by omega)
  have hby : i.bytes * y.toNat ≤ 140737488355328 := Nat.le_trans (Nat.mul_le_mul_right _ i4) (by rw [Nat.mul_comm]; exact l1)
  have hbi : (i.bytes : Int) * y ≤ 281474976710656 := by
    have : ((i.bytes * y.toNat : Nat) : Int) = (i.bytes : Int) * y := by rw [Int.natCast_mul]; congr 1; omega
    omega
  have hm63 : y ≤ 9223372036854775807 := by simp only [maxLen] at l2; omega
  have hzc : (valOf k (zcells k)).cells = (zcells k).toArray := by unfold valOf; cases k <;> rfl
  have hzl : (zcells k).length = k.size := (zeros_spec (M := M) (w := w) k).2.1
  have hrun : (execOp a.eval o).run P w = .ok (.value (.slice (some ⟨w.heap.size, 0, none⟩) x.toNat y.toNat)) (w.alloc (.cells (List.replicate y.toNat (zcells k)).flatten.toArray u)) := by
    have := run_make (P := P) w t u i _ hu i1 i5 .i64 .i64 x y b1 b2 hbi hm63
    rw [hzc, i3, ← hzl] at this
    have hmc := madeCells_take (zcells k) (by omega) y.toNat
    unfold execOp
    simp only [ho, ev_i h hx, ev_i h hy, Sem.run_bind, this, Result.andThen_ok]
    rw [← hmc]; simp
  have hrepl : (List.replicate y.toNat (zcells k)).flatten.length = y.toNat * k.size := by simp [hzl]
  have hsplit : (List.replicate y.toNat (zcells k)).flatten.take (x.toNat * k.size) = (List.replicate x.toNat (zcells k)).flatten := by
    rw [show y.toNat = x.toNat + (y.toNat - x.toNat) by omega, ← List.replicate_append_replicate, List.flatten_append, List.take_append, List.take_of_length_le (by simp [hzl]), List.length_flatten]
    simp [hzl]
  obtain ⟨M', hM, hst⟩ := h.newRow o.dst (u := u) (cs := (List.replicate y.toNat (zcells k)).flatten) (n := x.toNat) (cap := y.toNat) (Elems.replicate k x.toNat) (by simp) (by omega) l2 hrepl hsplit
  exact ⟨_, M', _, _, .inl hrun, hM, hst, Bel.alloc' h _, Eff.of (Ext.alloc w _) (by simp [ho]), hk⟩
/-! ### A slice of a slice -/
theorem RepV.slice {G : Com} {k : Kd} {xs : List k.den} {v : Value} (hv : RepV G w (.list k) xs v) {A : Option Addr} {cap : Nat} (hA : v = .slice A xs.length cap) {x y : Nat} (h1 : x ≤ y) (h2 : y ≤ xs.length) :
    xs.length ≤ cap ∧ RepV G w (.list k) ((xs.take y).drop x) (.slice (if cap = x then A else A.map (·.add (x * k.size))) (y - x) (cap - x)) := by
  obtain ⟨cs, ⟨A', cap', rfl, hcap, hx⟩, hv⟩ := hv
  have hv' : v = .slice A' xs.length cap' := hv
  rw [hA] at hv'
  injection hv' with e1 e2 e3
  subst e1; subst e3
  refine ⟨hcap, [.slice (if cap = x then A else A.map (·.add (x * k.size))) ((xs.take y).drop x).length (cap - x)], ⟨_, _, rfl, ?_, fun hne => ?_⟩, ?_⟩
  · simp; omega
  · have hlen : ((xs.take y).drop x).length = y - x := by simp; omega
    have hlt : x < y := Nat.lt_of_not_le fun hle => hne (List.eq_nil_of_length_eq_zero (by omega))
    obtain ⟨g, of, rfl, hi⟩ := hx (fun h0 => by rw [h0] at h2; simp at h2; omega)
    refine ⟨g, of + x * k.size, ?_, fun i hil => ?_⟩
    · rw [if_neg (by omega)]; simp [Addr.add_lit]
    · obtain ⟨ds, hh, hr⟩ := hi (x + i) (by omega)
      refine ⟨ds, ?_, by simpa using hr⟩
      rw [Nat.add_mul] at hh
      rw [show of + x * k.size + i * k.size = of + (x * k.size + i * k.size) by omega]; exact hh
  · show Value.slice _ _ _ = Value.slice _ _ _
    congr 1
    simp; omega
theorem did_slice (hc : ∀ t k, c.kd t = some k → Fits P k t) (he : ∀ t k, c.eq t = true → c.kd t = some k → EqOK P k t) (h : St M e a w) {t : TypeId} {x : Operand} {lo hi mx : Option Operand} (ho : o.op = .slice t x lo hi mx) (hk : opK c Y o e K = some r) : Did P c M o a w K r := by
  have hk0 := hk
  simp only [opK, ho] at hk
  split at hk
  · cases hk
  rename_i hmx
  have hmx' : mx = none := by cases mx <;> simp_all
  subst hmx'
  split at hk
  · exact (rd_sound hc he h hk).did h (fun _ => rfl) (by simp [ho])
  · rename_i k0 hkd
    obtain ⟨⟨p, e1⟩, hp, hk'⟩ := Option.bind_eq_some_iff.1 hk
    clear hk
    simp only at hk'
    split at hk'
    case h_2 => cases hk'
    rename_i k xs
    split at hk'
    case isFalse => cases hk'
    rename_i hkk
    subst hkk
    obtain ⟨q, hq, hk'⟩ := bndK_spec hk'
    obtain ⟨z, hz, hk'⟩ := bndK_spec hk'
    obtain ⟨hb, hk'⟩ := bif_none hk'
    simp only [Bool.and_eq_true, decide_eq_true_eq] at hb
    obtain ⟨⟨b1, b2⟩, b3⟩ := hb
    obtain ⟨G', hG, _, hst, _, _, _, hpr⟩ := pub_spec h hp
    have hrv : RepV G' w (.list k) xs (a.eval x) := hpr { M with G := G' } (fun _ => .un) (fun _ => undef) (.t 0) rfl
    obtain ⟨u, hu, hfu⟩ := (hc _ _ hkd).elem
    have hrv' := hrv
    obtain ⟨cs, ⟨A, cap, rfl, hcap, hx⟩, hv⟩ := hrv
    have hv : a.eval x = .slice A xs.length cap := hv
    obtain ⟨_, hres⟩ := hrv'.slice hv (x := q.toNat) (y := z.toNat) (by omega) (by omega)
    have hsb := run_sliceBounds (P := P) (b := true) (len := xs.length) (cap := cap) h hq hz b1 b2 b3 hcap w
    have hrun : (execOp a.eval o).run P w = .ok (.value (.slice (if cap = q.toNat then A else A.map (·.add (q.toNat * k.size))) (z.toNat - q.toNat) (cap - q.toNat))) w := by
      simp [execOp, ho, hv, Instr.sliceAt, run_underlying hu, Instr.slice, hsb, run_sizeOf' hfu]
    exact ⟨_, { M with G := G' }, _, w, .inl hrun, ⟨rfl, hG⟩, hst.putD o.dst (p := .l k ((xs.take z.toNat).drop q.toNat)) (n0 := .t 0) rfl hres, Bel.refl _ _, Eff.of (Ext.refl w) (by simp [ho]), hk'⟩
  · cases hk
/-! ### Append -/
theorem run_append_any (base : Nat) (t ty u e : TypeId) (i : TypeInfo) (z : Value) (size bytes : Nat) (ht : P.underlying t = some (.slice e)) (hi : P.info? e = some i) (hz : i.zero = some z)
    (hsize : i.size = size) (hby : i.bytes = bytes) (hzs : z.cells.size = size) (hsz : 0 < size)
    (v : Value) (n : Nat) (xs : List Value) (hown : w.ownsRow base u size v n xs)
    (a : Addr) (m c : Nat) (news : List Value) (hl : news.length = m * size) (hnews : ∀ j u, news[j]? = some u → w.cell? (a.add j) = some u) (h1 : ∀ u ∈ news, u.oneCell' = true)
    (h63 : n + m ≤ maxLen) (hbytes : (n + m) * bytes ≤ 140737488355328) (hbase : base ≤ w.heap.size) :
    ∃ v' w' u', (Builtin.append_ #[t, t] ty #[v, .slice (some a) m c]).run P w = .ok v' w' ∧ w'.ownsRow base u' size v' (n + m) (xs ++ news) ∧ ((v'.ownBlock = v.ownBlock ∧ w.grownBy w' v.ownBlock) ∨ (v'.ownBlock = some w.heap.size ∧ w.grownBy w' none)) := by
  subst hsize
  subst hby
  have hlen : (xs ++ news).length = (n + m) * i.size := by rw [List.length_append, hown.1, hl, Nat.add_mul]
  have hsmall : n + m ≤ 9223372036854775807 := by simp only [maxLen] at h63; omega
  have grown : ∀ (old : Nat), old < n + m → ∀ (row : Option Nat),
      (w.drew.alloc (.cells (xs.toArray ++ news.toArray ++ Builtin.zeroCells z.cells (grownCap w (n + m) old e - (n + m))) e)).ownsRow base e i.size
        (.slice (some ⟨w.heap.size, 0, none⟩) (n + m) (grownCap w (n + m) old e)) (n + m) (xs ++ news) ∧
      w.grownBy (w.drew.alloc (.cells (xs.toArray ++ news.toArray ++ Builtin.zeroCells z.cells (grownCap w (n + m) old e - (n + m))) e)) row := by
    intro old ho row
    have hge := grownCap_ge w (n + m) old e
    have hcm : grownCap w (n + m) old e ≤ maxLen := grownCap_le_maxLen w (n + m) old e h63
    refine ⟨⟨hlen, .inr ⟨w.heap.size, _, _, rfl, hbase, heap_alloc_new w.drew _, hge, hcm, ?_, ?_⟩⟩, ⟨rfl, rfl, rfl, by simp, fun k hk _ => heap_alloc_old w.drew _ k hk⟩⟩
    · simp only [Array.size_append, List.size_toArray, size_zeroCells, hzs, hown.1, hl, ← Nat.add_mul]
      congr 1
      omega
    · simp only [Array.toList_append, List.append_assoc]
      rw [← List.append_assoc, ← hlen]
      exact List.take_left
  rcases hown.2 with ⟨rfl, rfl⟩ | ⟨g, cap, cur, rfl, hbg, hg, hnc, hcm, hcs, htake⟩
  · have hx : xs = [] := List.eq_nil_of_length_eq_zero (by simpa using hown.1)
    subst hx
    by_cases hm : m = 0
    · subst hm
      have hn : news = [] := List.eq_nil_of_length_eq_zero (by simpa using hl)
      subst hn
      refine ⟨.slice none 0 0, w, e, ?_, World.ownsRow_nil w base e i.size, .inl ⟨rfl, rfl, rfl, rfl, Nat.le_refl _, fun _ _ _ => rfl⟩⟩
      simp [Builtin.append_, run_underlying ht, sizeOf, typeInfo, hi, Builtin.lenOf, Builtin.firstCells, loadCells, loadCellsFrom]
    · have hr := run_append_nil (P := P) w t ty e i z ht hi hz a m c news hl hnews (by omega) (by omega) (by have hb := hbytes; simp only [Nat.zero_add] at hb; omega)
      have hgr := grown 0 (by omega) none
      simp only [Nat.zero_add, List.nil_append, Array.empty_append] at hgr ⊢
      exact ⟨_, _, _, hr, hgr.1, .inr ⟨rfl, hgr.2⟩⟩
  · by_cases hroom : n + m ≤ cap
    · have hfit : n * i.size + news.length ≤ cur.size := by rw [hl, hcs, ← Nat.add_mul]; exact Nat.mul_le_mul_right _ hroom
      have hr : (Builtin.append_ #[t, t] ty #[.slice (some ⟨g, 0, none⟩) n cap, .slice (some a) m c]).run P w =
          .ok (.slice (some ⟨g, 0, none⟩) (n + m) cap) (w.setRow g (cur.toList.take (n * i.size) ++ news ++ cur.toList.drop (n * i.size + news.length)).toArray) := by
        have hf := run_firstCells_some (P := P) w i.size m a m c news hl hnews
        have hst := run_storeCells_at P g (n * i.size) u news 0 cur w hg (by simpa using hfit) h1
        simp only [Nat.add_zero] at hst
        simp [Builtin.append_, run_underlying ht, sizeOf, typeInfo, hi, Builtin.lenOf, hroom, hf, Addr.add_lit, hst]
      refine ⟨_, _, u, hr, ⟨hlen, .inr ⟨g, cap, _, rfl, hbg, setRow_heap w g cur _ u _ hg, hroom, hcm, ?_, ?_⟩⟩, .inl ⟨rfl, rfl, rfl, rfl, by simp, fun k _ hk => setRow_other w g k _ (fun e => hk (by simp [Value.ownBlock, e]))⟩⟩
      · simp only [List.size_toArray, List.length_append, List.length_take, List.length_drop, Array.length_toList]
        omega
      · rw [htake, ← hlen]
        exact List.take_left
    · have holds : ∀ j u, xs[j]? = some u → w.cell? ((⟨g, 0, none⟩ : Addr).add j) = some u := hown.cells (g := g) rfl
      have hr := run_append_grow (P := P) w t ty e i z ht hi hz ⟨g, 0, none⟩ n cap xs hown.1 holds a m c news hl hnews (by omega) (by omega) (growslice_fits (by omega) hbytes)
      have hgr := grown cap (by omega) none
      exact ⟨_, _, _, hr, hgr.1, .inr ⟨rfl, hgr.2⟩⟩
theorem run_append_none (base : Nat) (t ty e : TypeId) (i : TypeInfo) (ht : P.underlying t = some (.slice e)) (hi : P.info? e = some i) (u : TypeId) (size : Nat)
    (v : Value) (n c : Nat) (xs : List Value) (hown : w.ownsRow base u size v n xs) :
    (Builtin.append_ #[t, t] ty #[v, .slice none 0 c]).run P w = .ok v w := by
  rcases hown.2 with ⟨rfl, rfl⟩ | ⟨g, cap, cur, rfl, _, _, hnc, _⟩
  · simp [Builtin.append_, run_underlying ht, sizeOf, typeInfo, hi, Builtin.lenOf, Builtin.firstCells]
  · simp [Builtin.append_, run_underlying ht, sizeOf, typeInfo, hi, Builtin.lenOf, Builtin.firstCells, hnc, storeCells]
theorem elems_of_holds {G : Com} {k : Kd} {g : Nat} : ∀ {xs : List k.den} {of : Nat}, (∀ i (h : i < xs.length), ∃ ds, Holds G w g (of + i * k.size) ds ∧ Rep G w k xs[i] ds) →
    ∃ css, Elems G w k xs css ∧ ∀ (j : Nat) (v : Value), css.flatten[j]? = some v → w.cell? ⟨g, of + j, none⟩ = some v
  | [], _, _ => ⟨[], trivial, fun j v h => by simp at h⟩
  | x :: xs, of, h => by
    obtain ⟨ds, h1, h2⟩ := h 0 (by simp)
    obtain ⟨css, e1, e2⟩ := elems_of_holds (xs := xs) (of := of + k.size) (fun i hi => by
      obtain ⟨ds, q1, q2⟩ := h (i + 1) (by simpa using hi)
      refine ⟨ds, ?_, by simpa using q2⟩
      rw [Nat.succ_mul] at q1
      rw [show of + k.size + i * k.size = of + (i * k.size + k.size) by omega]; exact q1)
    refine ⟨ds :: css, ⟨by simpa using h2, e1⟩, fun j v hj => ?_⟩
    have hl := h2.len
    rw [List.flatten_cons, List.getElem?_append] at hj
    split at hj
    · rename_i hlt
      have := (h1 j hlt).2
      rw [List.getElem?_eq_getElem hlt] at hj
      injection hj with hj
      rw [hj] at this
      simpa using this
    · rename_i hge
      have := e2 _ _ hj
      rw [show of + k.size + (j - ds.length) = of + j by omega] at this
      exact this
/-- Elements that can be read: their cells. -/
theorem list_spec (h : St M e a w) {x : Operand} {ys : (k : Kd) × List k.den} (hx : listOf e x = some ys) :
    ∃ A cap css, a.eval x = .slice A ys.2.length cap ∧ Elems M.G w ys.1 ys.2 css ∧ (A = none → ys.2 = []) ∧ ∀ ad, A = some ad → ∀ (j : Nat) (v : Value), css.flatten[j]? = some v → w.cell? (ad.add j) = some v := by
  have own : ∀ {n : Pl} {m : Bool} {k : Kd} {xs : List k.den}, e.at_ n = .o m k xs →
      ∃ A cap css, pv M a w n = .slice A xs.length cap ∧ Elems M.G w k xs css ∧ (A = none → xs = []) ∧ ∀ ad, A = some ad → ∀ (j : Nat) (v : Value), css.flatten[j]? = some v → w.cell? (ad.add j) = some v := fun {n m k xs} hat => by
    have := h.pr n
    rw [hat] at this
    obtain ⟨u, css, h1, h2, _⟩ := this
    have h2' := h2
    rcases h2.2 with ⟨h3, h4⟩ | ⟨g, cap, cur, h3, _⟩
    · exact ⟨none, 0, css, by rw [h3, h4], h1, fun _ => List.eq_nil_of_length_eq_zero h4, fun ad hh => by cases hh⟩
    · exact ⟨_, cap, css, h3, h1, fun hh => (by cases hh), fun ad hh j v hj => by injection hh with hh; subst hh; exact h2'.cells (g := g) (by rw [h3]; rfl) j v hj⟩
  unfold listOf at hx
  split at hx
  · cases hx
  · rename_i n _ hq
    obtain ⟨n0, hp⟩ := ev_pr h hq
    split at hx
    · rename_i m k xs hat
      simp only [Option.some.injEq] at hx
      subst hx
      rw [hp.2 (by rw [hat]; rfl)]; exact own hat
    · cases hx
  · rename_i m k xs hq
    simp only [Option.some.injEq] at hx
    subst hx
    obtain ⟨n0, h1, h2⟩ := ev_spec h x
    rw [hq] at h1 h2
    obtain ⟨t, rfl, rfl⟩ := h2 rfl
    exact own (n := .t t) hq
  · rename_i k xs hq
    simp only [Option.some.injEq] at hx
    subst hx
    obtain ⟨n0, cs, ⟨A, cap, rfl, hcap, hxs⟩, hv⟩ := ev_pr h hq
    by_cases hne : xs = []
    · subst hne
      exact ⟨A, cap, [], hv, trivial, fun _ => rfl, fun ad _ j v hj => by simp at hj⟩
    · obtain ⟨g, of, rfl, hi⟩ := hxs hne
      obtain ⟨css, e1, e2⟩ := elems_of_holds hi
      exact ⟨_, cap, css, hv, e1, fun hh => (by cases hh), fun ad hh j v hj => by injection hh with hh; subst hh; rw [Addr.add_lit]; exact e2 j v hj⟩
  · cases hx
/-- .. those of a slice that the heap has, too. -/
theorem listC_spec (h : St M e a w) {x : Operand} {k0 : Kd} {σ : Type} {K : (k : Kd) × List k.den → Option σ} {z : σ} (hx : listC k0 e x K = some z) :
    ∃ ys : (k : Kd) × List k.den, K ys = some z ∧ ∃ A cap css, a.eval x = .slice A ys.2.length cap ∧ Elems M.G w ys.1 ys.2 css ∧ (A = none → ys.2 = []) ∧ ∀ ad, A = some ad → ∀ (j : Nat) (v : Value), css.flatten[j]? = some v → w.cell? (ad.add j) = some v := by
  unfold listC at hx
  split at hx
  · rename_i i of hq
    obtain ⟨xs, hat0, hk⟩ := Option.bind_eq_some_iff.1 hx
    have hat := hown_at hat0
    obtain ⟨n0, hp⟩ := ev_pr h hq
    refine ⟨⟨k0, xs⟩, hk, ?_⟩
    rw [hp.2 (by rw [hat]; rfl)]
    have := h.pr (.b (.h i) of)
    rw [hat] at this
    obtain ⟨u, css, h1, h2, _⟩ := this
    have h2' := h2
    rcases h2.2 with ⟨h3, h4⟩ | ⟨g, cap, cur, h3, _⟩
    · exact ⟨none, 0, css, by rw [h3, h4], h1, fun _ => List.eq_nil_of_length_eq_zero h4, fun ad hh => by cases hh⟩
    · exact ⟨_, cap, css, h3, h1, fun hh => (by cases hh), fun ad hh j v hj => by injection hh with hh; subst hh; exact h2'.cells (g := g) (by rw [h3]; rfl) j v hj⟩
  · obtain ⟨ys, hys, hk⟩ := Option.bind_eq_some_iff.1 hx
    exact ⟨ys, hk, list_spec h hys⟩
theorem live_grow (h : St M e a w) {w' : World} {G' : Com} (hl : ∀ g, Live M e a w g → w'.heap[g]? = w.heap[g]?) {g : Nat} (hg : Live { M with G := G' } e a w' g) : Live M e a w g := by
  rcases hg with ⟨n, h1, h2⟩ | ⟨d, h1, h2⟩
  · refine .inl ⟨n, h1, ?_⟩
    rw [← h2]
    cases n with
    | t n => rfl
    | b d o =>
      have hne : e.box d ≠ [] := fun h0 => by rw [at_of_empty h0] at h1; cases h1
      show ((w.cell? ⟨M.β d, o, none⟩).getD undef).ownBlock = ((w'.cell? ⟨M.β d, o, none⟩).getD undef).ownBlock
      rw [World.cell?_of_block (a := ⟨M.β d, o, none⟩) (hl _ (.inr ⟨d, hne, rfl⟩))]
  · exact .inr ⟨d, h1, h2⟩
theorem did_append (hc : ∀ t k, c.kd t = some k → Fits P k t) (h : St M e a w) {q : Call} (hq : q.callee = .builtin .append) (ho : o.op = .call q) (hk : opK c Y o e K = some r) : Did P c M o a w K r := by
  simp only [opK, ho, hq] at hk
  split at hk
  case h_2 => cases hk
  rename_i x y t t' hargs htys
  split at hk
  case isFalse => cases hk
  rename_i htt
  subst htt
  split at hk
  case h_2 => cases hk
  rename_i k0 hkd
  obtain ⟨⟨p, e1⟩, hp, hk'⟩ := Option.bind_eq_some_iff.1 hk
  clear hk
  simp only at hk'
  split at hk'
  case h_2 => cases hk'
  rename_i m k xs hown
  have hk0 := hk'
  clear hk'
  rcases mov_nil (c := c) h hp t with ⟨m', k', xs', n, h0, h1, h2, h3⟩ | ⟨h1, _⟩
  case inr => rw [hown] at h1; cases h1
  obtain ⟨ys, hk', hlist⟩ := listC_spec h2 hk0
  clear hk0
  split at hk'
  case isFalse => cases hk'
  rename_i hcond
  obtain ⟨hk1, hk2, hs⟩ := hcond
  obtain ⟨ky, ys⟩ := ys
  simp only at hk1
  subst hk1
  subst hk2
  obtain ⟨hb, hk'⟩ := bif_none hk'
  simp only [decide_eq_true_eq] at hb
  rw [hown] at h0
  injection h0 with q1 q2 q3
  subst q1; subst q2
  have q3 := eq_of_heq q3
  subst q3
  obtain ⟨u, hu, hfu⟩ := (hc _ _ hkd).elem
  obtain ⟨i, i1, i2, i3, i4, i5⟩ := run_typeInfo' hfu w
  obtain ⟨l1, l2⟩ := lim_le (k := ky) hb
  obtain ⟨A, cap, csy, hv, hey, hAn, hAs⟩ := hlist
  have hexec : ∀ {v' w'}, (Builtin.append_ #[t, t] o.type #[a.eval x, .slice A ys.length cap]).run P w = .ok v' w' → (execOp a.eval o).run P w = .ok (.value v') w' := fun {v' w'} hh => by
    have ea : q.args = #[x, y] := Array.toList_inj.1 (by simpa using hargs)
    have et : q.argTypes = #[t, t] := Array.toList_inj.1 (by simpa using htys)
    rw [call_args hq a.eval o ho, ea, et]
    simp only [builtin, List.map_toArray, List.map_cons, List.map_nil, show a.eval y = .slice A ys.length cap from hv, Sem.run_bind, hh, Result.andThen_ok, Sem.run_pure]
  obtain ⟨u0, css, hex, how, hgi⟩ := h1
  cases A with
  | none =>
    have hye : ys = [] := hAn rfl
    subst hye
    have hrun := hexec (run_append_none (P := P) 0 t o.type u i hu i1 u0 ky.size (a.eval x) xs.length cap _ how)
    obtain ⟨M', hM, hst⟩ := h2.putDo o.dst (m := m) (k := ky) (xs := xs) ⟨u0, css, hex, how, hgi⟩ h3
    exact ⟨_, M', _, w, .inl hrun, hM.le, hst, Bel.refl _ _, Eff.of (Ext.refl w) (by simp [ho]), by simpa using hk'⟩
  | some ad =>
    have hzc : (valOf ky (zcells ky)).cells = (zcells ky).toArray := by unfold valOf; cases ky <;> rfl
    have hzl : (zcells ky).length = ky.size := (zeros_spec (M := M) (w := w) ky).2.1
    have hyl : csy.flatten.length = ys.length * ky.size := hey.flat
    have hby : (xs.length + ys.length) * i.bytes ≤ 140737488355328 := Nat.le_trans (Nat.mul_le_mul_left _ i4) l1
    obtain ⟨v', w', u', r1, r2, r3⟩ := run_append_any (P := P) (w := w) 0 t o.type u0 u i _ ky.size i.bytes hu i1 i5 i3 rfl (by rw [hzc]; simpa using hzl) hs (a.eval x) xs.length css.flatten how ad ys.length cap csy.flatten hyl (hAs ad rfl) hey.one l2 hby (Nat.zero_le _)
    have hrun := hexec r1
    have hlen : (xs ++ ys).length = xs.length + ys.length := List.length_append
    let G' : Com := M.G.more fun g o => m = false ∧ v'.ownBlock = some g ∧ o < (xs ++ ys).length * ky.size
    have hvfree : ∀ g, v'.ownBlock = some g → ¬ Live M e1 a w g := fun g hg hl => by
      rcases r3 with ⟨r4, _⟩ | ⟨r4, _⟩
      · exact h3 g (by rw [← r4]; exact hg) hl
      · rw [r4] at hg; injection hg with hg; subst hg; exact h2.fresh (Nat.le_refl _) hl
    have hlive : ∀ g, Live M e1 a w g → w'.heap[g]? = w.heap[g]? ∧ ∀ o, G' g o ↔ M.G g o := fun g hl => by
      have hlt : g < w.heap.size := Nat.lt_of_not_le fun hle => h2.fresh hle hl
      refine ⟨?_, fun o => ⟨fun hh => Or.elim hh id fun hh => absurd hl (hvfree g hh.2.1), Or.inl⟩⟩
      rcases r3 with ⟨_, r5⟩ | ⟨_, r5⟩
      · exact r5.block g hlt (fun hh => h3 g hh.symm hl)
      · exact r5.block g hlt (fun hh => by cases hh)
    have hkp : Keeps M.G w w' := fun g o' v hg hcell => by
      have hlt := h2.cb g o' hg
      rcases r3 with ⟨r4, r5⟩ | ⟨_, r5⟩
      · by_cases hgg : (a.eval x).ownBlock = some g
        · obtain ⟨_, hio⟩ := hgi g hgg
          obtain ⟨hm, ho'⟩ := (hio o').1 hg
          rcases how.2 with ⟨hx0, _⟩ | ⟨g', cap1, cur1, hx1, _⟩
          · rw [hx0] at hgg; cases hgg
          · rw [hx1] at hgg
            injection hgg with hgg
            have hgg : g' = g := hgg
            subst hgg
            have c1 := (show w.ownsRow 0 u0 ky.size (.slice (some ⟨g', 0, none⟩) xs.length cap1) xs.length css.flatten by rw [← hx1]; exact how).cellAt o' ho'
            rcases r2.2 with ⟨hv0, _⟩ | ⟨g2, cap2, cur2, hv2, _⟩
            · rw [hv0, hx1] at r4; cases r4
            · rw [hv2, hx1] at r4
              injection r4 with r4
              have r4 : g2 = g' := r4
              subst r4
              have c2 := (show w'.ownsRow 0 u' ky.size (.slice (some ⟨g2, 0, none⟩) (xs.length + ys.length) cap2) (xs.length + ys.length) (css.flatten ++ csy.flatten) by rw [← hv2]; exact r2).cellAt o' (Nat.lt_of_lt_of_le ho' (Nat.mul_le_mul_right _ (by omega)))
              rw [c2, List.getElem?_append_left (by rw [hex.flat]; exact ho'), ← c1]; exact hcell
        · rw [World.cell?_of_block (a := ⟨g, o', none⟩) (r5.block g hlt (fun hh => hgg hh.symm))]; exact hcell
      · rw [World.cell?_of_block (a := ⟨g, o', none⟩) (r5.block g hlt (fun hh => by cases hh))]; exact hcell
    have hsz : w.heap.size ≤ w'.heap.size := by rcases r3 with ⟨_, r5⟩ | ⟨_, r5⟩ <;> exact r5.size
    have hG : M.G.le G' := Com.le.more _ _
    have hmine : ∀ g, v'.ownBlock = some g → M.Mine g := fun g hg => by
      rcases r3 with ⟨r4, _⟩ | ⟨r4, _⟩
      · exact (hgi g (by rw [← r4]; exact hg)).1.2
      · rw [r4] at hg; injection hg with hg; subst hg; exact .inr h.lo
    have hko : KO w w' := by
      rcases r3 with ⟨_, r5⟩ | ⟨_, r5⟩
      · intro g o hg ho
        have hne : some g ≠ (a.eval x).ownBlock := fun hh => by
          obtain ⟨C, T, y, hc⟩ := row_cells how hh.symm
          rw [hc] at hg; cases hg; cases ho
        rw [r5.block g (Array.getElem?_eq_some_iff.1 hg).1 hne]; exact hg
      · intro g o hg ho
        rw [r5.block g (Array.getElem?_eq_some_iff.1 hg).1 (fun hh => by cases hh)]; exact hg
    have hvlp : ∀ g, v'.ownBlock = some g → ¬ Loopy M e1 g := fun g hg hl => by
      obtain ⟨r', hr'⟩ := h2.loopy_lt hl
      rcases r3 with ⟨r4, _⟩ | ⟨r4, _⟩
      · obtain ⟨C, T, y, hc⟩ := row_cells how (by rw [← r4]; exact hg)
        rw [hc] at hr'; cases hr'
      · rw [r4] at hg; injection hg with hg; subst hg
        exact absurd (Array.getElem?_eq_some_iff.1 hr').1 (by omega)
    have hst := h2.grow (w' := w') (G' := G') hsz hG rfl (fun g o' hg => Or.imp id (fun hh => ⟨hmine g hh.2.1, (r2.lt g hh.2.1).2⟩) hg) hkp hko hlive (fun g hl o hg => Or.elim hg id fun hh => absurd hl (hvlp g hh.2.1))
    have hfree' : ∀ g, v'.ownBlock = some g → ¬ Live { M with G := G' } e1 a w' g := fun g hg hl => hvfree g hg (live_grow h2 (fun g hl => (hlive g hl).1) hl)
    -- the block gets its name
    have hst2 := hst.ren (v := v') hfree' hvlp (.inl (.t 0))
    have hM2 := Mem.Alike.ren { M with G := G' } v' (.inl (.t 0))
    have hown' : OwnD (({ M with G := G' } : Mem).ren v' (.inl (.t 0))) w' (.t 0) m ky (xs ++ ys) v' := by
      refine ⟨u', css ++ csy, ?_, ?_, fun g hg => ⟨⟨?_, (Mem.mine_key hM2.1 g).2 (hmine g hg)⟩, fun o' => ?_⟩⟩
      · rw [hM2.2.1]; exact (hex.mono hG hkp).append (hey.mono hG hkp)
      · rw [List.flatten_append, hlen]; exact r2
      · unfold Mem.ren; rw [hg]; simp [Mem.own]
      · rw [hM2.2.1]
        refine ⟨fun hh => Or.elim hh (fun hgo => ?_) (fun hh => ⟨hh.1, hh.2.2⟩), fun hh => Or.inr ⟨hh.1, hg, hh.2⟩⟩
        rcases r3 with ⟨r4, _⟩ | ⟨r4, _⟩
        · obtain ⟨_, hio⟩ := hgi g (by rw [← r4]; exact hg)
          obtain ⟨hm, hlt⟩ := (hio o').1 hgo
          exact ⟨hm, Nat.lt_of_lt_of_le hlt (Nat.mul_le_mul_right _ (by omega))⟩
        · rw [r4] at hg; injection hg with hg; subst hg; exact absurd (h2.cb _ _ hgo) (by omega)
    obtain ⟨M', hM, hst3⟩ := hst2.putDo o.dst hown' (fun g hg hl => hfree' g hg (by
      rcases hl with ⟨n, z1, z2⟩ | ⟨d, z1, z2⟩
      · refine .inl ⟨n, z1, ?_⟩
        cases n with
        | t n => exact z2
        | b d o' => rw [show pv { M with G := G' } a w' (.b d o') = pv (({ M with G := G' } : Mem).ren v' (.inl (.t 0))) a w' (.b d o') by show (w'.cell? ⟨M.β d, o', none⟩).getD undef = (w'.cell? ⟨(({ M with G := G' } : Mem).ren v' (.inl (.t 0))).β d, o', none⟩).getD undef; rw [hM2.2.2.1]]; exact z2
      · exact .inr ⟨d, z1, by rw [← z2, hM2.2.2.1]⟩))
    have hbelow : Bel M w w' := by
      rcases r3 with ⟨_, r5⟩ | ⟨_, r5⟩
      · cases hob : (a.eval x).ownBlock with
        | none => rw [hob] at r5; exact ⟨r5.os, r5.tape, r5.output, r5.size, fun k hk _ => r5.block k (Nat.lt_of_lt_of_le hk h.lo) (fun hh => by cases hh)⟩
        | some g => rw [hob] at r5; exact Bel.one (hgi g hob).1.2 r5.os r5.tape r5.output r5.size (fun g' hg' hne => r5.block g' hg' (fun hh => hne (by injection hh))) h.lo
      · exact ⟨r5.os, r5.tape, r5.output, r5.size, fun k hk _ => r5.block k (Nat.lt_of_lt_of_le hk h.lo) (fun hh => by cases hh)⟩
    refine ⟨_, M', _, w', .inl hrun, ⟨hM.1.trans hM2.1, by rw [hM.2.1, hM2.2.1]; exact hG⟩, hst3, hbelow, Eff.hot (by simp [calm, ho, hq]) (by simp [ho]) (by simp [ho]) (fun q' f h1 h2 => by rw [ho] at h1; injection h1 with h1; subst h1; rw [hq] at h2; cases h2), hk'⟩
end
end Go.Pv
