/- Parts of values, and elements that are written. -/
import Derived.Test.YtdfdainmpklkiaaGreatDoorG6
set_option linter.unusedVariables false
set_option linter.unusedSimpArgs false
namespace Go.Pv
open Go.RowKit
section
variable {M : Mem} {e : Env} {a : Act} {w : World}
theorem toDen_ofDen : ∀ (k : Kd) (x : k.den), toDen k (ofDen k x) = some x
  | .int k, n => by simp [ofDen, toDen]
  | .bool, _ => rfl
  | .str, _ => rfl
  | .list e, xs => by simp [ofDen, toDen]
  | .unit, _ => rfl
  | .pair a b, x => by simp [ofDen, toDen]
  | .ptr, _ => rfl
  | .fn, _ => rfl
  | .err, _ => rfl
theorem isO_ofDen (k : Kd) (x : k.den) : isO (ofDen k x) = false := by cases k <;> rfl
theorem refs_ofDen (k : Kd) (x : k.den) (m : Pl) : ¬ refs (ofDen k x) m := by cases k <;> exact id
theorem bx_ofDen (k : Kd) (x : k.den) (d off : Nat) : ofDen k x ≠ .bx d off := by cases k <;> exact fun h => by cases h
theorem PR.ofDen {at_ : Pl → PV} {q : Pl → Value} {n : Pl} {k : Kd} {x : k.den} {v : Value} (h : RepV M.G w k x v) : PR M w at_ q n (ofDen k x) v := by
  cases k with
  | int k => obtain ⟨cs, h1, rfl⟩ := h; rw [show cs = _ from h1]; rfl
  | bool => obtain ⟨cs, h1, rfl⟩ := h; rw [show cs = _ from h1]; rfl
  | str => obtain ⟨cs, h1, rfl⟩ := h; rw [show cs = _ from h1]; rfl
  | list e => exact h
  | unit => exact h
  | pair a b => exact h
  | ptr => exact h
  | err => exact h
  | fn => obtain ⟨cs, h1, rfl⟩ := h; rw [show cs = _ from h1]; rfl
/-- What is told of a value that is no slice of the call's own. -/
theorem PR.toDen {at_ : Pl → PV} {q : Pl → Value} {n : Pl} {p : PV} {v : Value} (h : PR M w at_ q n p v) {k : Kd} {x : k.den} (hx : toDen k p = some x) : RepV M.G w k x v := by
  cases k with
  | int k =>
    cases p <;> simp [Pv.toDen] at hx
    obtain ⟨rfl, rfl⟩ := hx
    exact ⟨_, rfl, by rw [show v = _ from h]; rfl⟩
  | bool => cases p <;> simp [Pv.toDen] at hx; subst hx; exact ⟨_, rfl, by rw [show v = _ from h]; rfl⟩
  | str => cases p <;> simp [Pv.toDen] at hx; subst hx; exact ⟨_, rfl, by rw [show v = _ from h]; rfl⟩
  | list e =>
    cases p <;> simp [Pv.toDen] at hx
    · obtain ⟨rfl, rfl⟩ := hx; exact h
    · subst hx
      exact ⟨_, ⟨none, 0, rfl, Nat.le_refl _, fun hh => absurd rfl hh⟩, by rw [show v = _ from h]; rfl⟩
  | unit =>
    cases p with
    | st k' y => cases k' <;> simp [Pv.toDen] at hx; exact h
    | _ => simp [Pv.toDen] at hx
  | pair a b =>
    cases p <;> simp [Pv.toDen] at hx
    obtain ⟨rfl, rfl⟩ := hx; exact h
  | ptr => cases p <;> simp [Pv.toDen] at hx; subst hx; exact h
  | err => cases p <;> simp [Pv.toDen] at hx; subst hx; exact h
  | fn => cases p <;> simp [Pv.toDen] at hx; exact ⟨_, rfl, by rw [show v = _ from h]; rfl⟩
theorem Rep.path {G : Com} : ∀ {path : List Nat} {k : Kd} {x : k.den} {cs : List Value} {y : (k' : Kd) × k'.den}, Rep G w k x cs → getPath k x path = some y →
    ∃ q, pathAt k path = some (y.1, q) ∧ ∃ c1 c2 c3, cs = c1 ++ c2 ++ c3 ∧ c1.length = q ∧ Rep G w y.1 y.2 c2
  | [], k, x, cs, y, h, hy => by
    simp only [getPath, Option.some.injEq] at hy
    subst hy
    exact ⟨0, rfl, [], cs, [], by simp, rfl, h⟩
  | f :: fs, k, x, cs, y, h, hy => by
    simp only [getPath, Option.bind_eq_some_iff] at hy
    obtain ⟨z, hz, hy⟩ := hy
    obtain ⟨q1, hq1⟩ := comp_fieldAt hz
    obtain ⟨c1, c2, c3, rfl, hl, hr⟩ := h.comp hz hq1
    obtain ⟨q, hq, d1, d2, d3, rfl, hl', hr'⟩ := Rep.path hr hy
    refine ⟨q1 + q, by simp [pathAt, hq1, hq], c1 ++ d1, d2, d3 ++ c3, by simp, by simp [hl, hl'], hr'⟩
theorem Rep.setComp {G : Com} : ∀ {k : Kd} {x : k.den} {cs : List Value} {f : Nat} {p : PV} {y : k.den}, Rep G w k x cs → setComp k x f p = some y →
    ∃ k' q z, fieldAt k f = some (k', q) ∧ toDen k' p = some z ∧ q + k'.size ≤ k.size ∧ ∀ c2, Rep G w k' z c2 → Rep G w k y (cs.take q ++ c2 ++ cs.drop (q + k'.size))
  | .pair a b, x, cs, 0, p, y, h, hy => by
    obtain ⟨c1, c2, rfl, h1, h2⟩ := h
    simp only [Pv.setComp, Option.map_eq_some_iff] at hy
    obtain ⟨z, hz, rfl⟩ := hy
    refine ⟨a, 0, z, rfl, hz, by simp [Kd.size], fun d hd => ?_⟩
    rw [Nat.zero_add, ← h1.len, List.drop_left, List.take_zero, List.nil_append]
    exact ⟨d, c2, rfl, hd, h2⟩
  | .pair a b, x, cs, f + 1, p, y, h, hy => by
    obtain ⟨c1, c2, rfl, h1, h2⟩ := h
    simp only [Pv.setComp, Option.map_eq_some_iff] at hy
    obtain ⟨y2, hy2, rfl⟩ := hy
    obtain ⟨k', q, z, e1, e2, e3, e4⟩ := Rep.setComp h2 hy2
    refine ⟨k', a.size + q, z, by simp [fieldAt, e1], e2, by simp only [Kd.size]; omega, fun d hd => ?_⟩
    refine ⟨c1, c2.take q ++ d ++ c2.drop (q + k'.size), ?_, h1, e4 d hd⟩
    have := h1.len
    rw [List.take_append, List.drop_append, List.take_of_length_le (by omega), List.drop_eq_nil_of_le (by omega)]
    simp only [List.nil_append, List.append_assoc]
    congr 3
    · congr 1; omega
    · congr 2; omega
  | .unit, _, _, _, _, _, _, h => by cases h
  | .int _, _, _, _, _, _, _, h => by cases h
  | .bool, _, _, _, _, _, _, h => by cases h
  | .str, _, _, _, _, _, _, h => by cases h
  | .list _, _, _, _, _, _, _, h => by cases h
  | .ptr, _, _, _, _, _, _, h => by cases h
  | .fn, _, _, _, _, _, _, h => by cases h
  | .err, _, _, _, _, _, _, h => by cases h
theorem Rep.setPath {G : Com} : ∀ {path : List Nat} {k : Kd} {x : k.den} {cs : List Value} {p : PV} {y : k.den}, Rep G w k x cs → setPath k x path p = some y →
    ∃ k' q z, pathAt k path = some (k', q) ∧ toDen k' p = some z ∧ q + k'.size ≤ k.size ∧ ∀ c2, Rep G w k' z c2 → Rep G w k y (cs.take q ++ c2 ++ cs.drop (q + k'.size))
  | [], k, x, cs, p, y, h, hy => by
    refine ⟨k, 0, y, rfl, hy, by simp, fun d hd => ?_⟩
    rw [List.take_zero, List.nil_append, Nat.zero_add, ← h.len, List.drop_length, List.append_nil]; exact hd
  | f :: fs, k, x, cs, p, y, h, hy => by
    simp only [Pv.setPath, Option.bind_eq_some_iff] at hy
    obtain ⟨u, hu, z, hz, hy⟩ := hy
    obtain ⟨q1, hq1⟩ := comp_fieldAt hu
    obtain ⟨c1, c2, c3, rfl, hl, hr⟩ := h.comp hu hq1
    obtain ⟨k', q, z', e1, e2, e3, e4⟩ := Rep.setPath hr hz
    obtain ⟨k2, q2, z2, g1, g2, g3, g4⟩ := h.setComp hy
    rw [hq1] at g1
    simp only [Option.some.injEq, Prod.mk.injEq] at g1
    obtain ⟨rfl, rfl⟩ := g1
    rw [toDen_ofDen] at g2
    injection g2 with g2
    subst g2
    refine ⟨k', q1 + q, z', by simp [pathAt, hq1, e1], e2, by omega, fun d hd => ?_⟩
    have := g4 _ (e4 d hd)
    have hlen := hr.len
    have t1 : (c1 ++ c2 ++ c3).take q1 = c1 := by rw [List.append_assoc, ← hl, List.take_left]
    have t2 : (c1 ++ c2 ++ c3).drop (q1 + u.1.size) = c3 := by rw [← hlen, ← hl, ← List.length_append, List.drop_left]
    rw [t1, t2] at this
    have t3 : (c1 ++ c2 ++ c3).take (q1 + q) = c1 ++ c2.take q := by
      rw [List.append_assoc, List.take_append, List.take_of_length_le (by omega), List.take_append, show q1 + q - c1.length = q by omega, show q - c2.length = 0 by omega, List.take_zero, List.append_nil]
    have t4 : (c1 ++ c2 ++ c3).drop (q1 + q + k'.size) = c2.drop (q + k'.size) ++ c3 := by
      rw [List.append_assoc, List.drop_append, List.drop_eq_nil_of_le (by omega), List.nil_append, show q1 + q + k'.size - c1.length = q + k'.size by omega, List.drop_append, show q + k'.size - c2.length = 0 by omega, List.drop_zero]
    rw [t3, t4]
    simpa using this
/-- One element of a row is another one. -/
theorem Elems.set {G : Com} {k : Kd} : ∀ {xs : List k.den} {cs : List (List Value)} (i : Nat) {y : k.den} {c : List Value}, Elems G w k xs cs → i < xs.length → Rep G w k y c →
    Elems G w k (xs.set i y) (cs.set i c) ∧ (cs.set i c).flatten = cs.flatten.take (i * k.size) ++ c ++ cs.flatten.drop (i * k.size + k.size)
  | x :: xs, c0 :: cs, 0, y, c, h, _, hc => by
    refine ⟨⟨hc, h.2⟩, ?_⟩
    have := h.1.len
    simp [List.drop_append, List.drop_eq_nil_of_le, this]
  | x :: xs, c0 :: cs, i + 1, y, c, h, hi, hc => by
    obtain ⟨h1, h2⟩ := Elems.set i h.2 (by simpa using hi) hc
    refine ⟨⟨h.1, h1⟩, ?_⟩
    have := h.1.len
    have e1 : (c0 ++ cs.flatten).take (i * k.size + k.size) = c0 ++ cs.flatten.take (i * k.size) := by
      rw [List.take_append, List.take_of_length_le (by omega)]; congr 2; omega
    have e2 : (c0 ++ cs.flatten).drop (i * k.size + k.size + k.size) = cs.flatten.drop (i * k.size + k.size) := by
      rw [List.drop_append, List.drop_eq_nil_of_le (by omega), List.nil_append]; congr 1; omega
    rw [List.set_cons_succ, List.flatten_cons, h2, List.flatten_cons, Nat.succ_mul, e1, e2]
    simp
theorem Rep.one {G : Com} : ∀ {k : Kd} {x : k.den} {cs : List Value}, Rep G w k x cs → ∀ v ∈ cs, v.oneCell' = true
  | .int _, _, _, h, v, hv => by rw [show _ = _ from h] at hv; simp at hv; subst hv; rfl
  | .bool, _, _, h, v, hv => by rw [show _ = _ from h] at hv; simp at hv; subst hv; rfl
  | .str, _, _, h, v, hv => by rw [show _ = _ from h] at hv; simp at hv; subst hv; rfl
  | .unit, _, _, h, v, hv => by rw [show _ = _ from h] at hv; cases hv
  | .pair a b, x, cs, h, v, hv => by
    obtain ⟨c1, c2, rfl, h1, h2⟩ := h
    exact (List.mem_append.1 hv).elim (h1.one v) (h2.one v)
  | .list e, xs, cs, h, v, hv => by obtain ⟨A, c, rfl, _⟩ := h; simp at hv; subst hv; rfl
  | .ptr, _, _, h, v, hv => by obtain ⟨_, rfl⟩ | ⟨_, _, _, _, rfl⟩ := h <;> (simp at hv; subst hv; rfl)
  | .fn, _, _, h, v, hv => by rw [show _ = _ from h] at hv; simp at hv; subst hv; rfl
  | .err, _, _, h, v, hv => by obtain ⟨_, rfl⟩ | ⟨_, _, _, rfl⟩ := h <;> (simp at hv; subst hv; rfl)
theorem Elems.one {G : Com} {k : Kd} : ∀ {xs : List k.den} {cs : List (List Value)}, Elems G w k xs cs → ∀ v ∈ cs.flatten, v.oneCell' = true
  | [], [], _, v, hv => by simp at hv
  | x :: xs, c :: cs, h, v, hv => by
    rw [List.flatten_cons] at hv
    exact (List.mem_append.1 hv).elim (h.1.one v) (Elems.one h.2 v)
/-- A value's cells, told one by one. -/
theorem split_spec {G : Com} (hG : M.G = G) : ∀ {k : Kd} {x : k.den} {cs : List Value}, Rep G w k x cs → (split k x).length = cs.length ∧
    ∀ (i : Nat) (p : PV) (v : Value), (split k x)[i]? = some p → cs[i]? = some v → isO p = false ∧ (∀ m, ¬ refs p m) ∧ (∀ d off, p ≠ .bx d off) ∧ ∀ at_ q n0, PR M w at_ q n0 p v
  | .ptr, x, cs, h => by
    have h0 := h
    have hl : cs.length = 1 := Rep.len h
    match cs, hl with
    | [c], _ =>
      refine ⟨rfl, fun i p v hp hv => ?_⟩
      cases i with
      | zero => simp [split] at hp hv; subst hp; subst hv; exact ⟨rfl, fun _ => id, fun _ _ h => (by cases h), fun _ _ _ => by show RepV M.G w _ _ _; rw [hG]; exact ⟨_, h0, rfl⟩⟩
      | succ i => simp [split] at hp
  | .err, x, cs, h => by
    have h0 := h
    have hl : cs.length = 1 := Rep.len h
    match cs, hl with
    | [c], _ =>
      refine ⟨rfl, fun i p v hp hv => ?_⟩
      cases i with
      | zero => simp [split] at hp hv; subst hp; subst hv; exact ⟨rfl, fun _ => id, fun _ _ h => (by cases h), fun _ _ _ => by show RepV M.G w _ _ _; rw [hG]; exact ⟨_, h0, rfl⟩⟩
      | succ i => simp [split] at hp
  | .fn, x, cs, h => by
    rw [show cs = _ from h]
    refine ⟨rfl, fun i p v hp hv => ?_⟩
    cases i with
    | zero => simp [split] at hp hv; subst hp; subst hv; exact ⟨rfl, fun _ => id, fun _ _ h => (by cases h), fun _ _ _ => rfl⟩
    | succ i => simp [split] at hp
  | .int k, x, cs, h => by
    rw [show cs = _ from h]
    refine ⟨rfl, fun i p v hp hv => ?_⟩
    cases i with
    | zero => simp [split] at hp hv; subst hp; subst hv; exact ⟨rfl, fun _ => id, fun _ _ h => (by cases h), fun _ _ _ => rfl⟩
    | succ i => simp [split] at hp
  | .bool, x, cs, h => by
    rw [show cs = _ from h]
    refine ⟨rfl, fun i p v hp hv => ?_⟩
    cases i with
    | zero => simp [split] at hp hv; subst hp; subst hv; exact ⟨rfl, fun _ => id, fun _ _ h => (by cases h), fun _ _ _ => rfl⟩
    | succ i => simp [split] at hp
  | .str, x, cs, h => by
    rw [show cs = _ from h]
    refine ⟨rfl, fun i p v hp hv => ?_⟩
    cases i with
    | zero => simp [split] at hp hv; subst hp; subst hv; exact ⟨rfl, fun _ => id, fun _ _ h => (by cases h), fun _ _ _ => rfl⟩
    | succ i => simp [split] at hp
  | .unit, x, cs, h => by
    rw [show cs = _ from h]
    exact ⟨rfl, fun i p v hp hv => by simp [split] at hp⟩
  | .list k, x, cs, h => by
    have h0 := h
    obtain ⟨A, c, rfl, _⟩ := h
    refine ⟨rfl, fun i p v hp hv => ?_⟩
    cases i with
    | zero => simp [split] at hp hv; subst hp; subst hv; exact ⟨rfl, fun _ => id, fun _ _ h => (by cases h), fun _ _ _ => by show RepV M.G w _ _ _; rw [hG]; exact ⟨_, h0, rfl⟩⟩
    | succ i => simp [split] at hp
  | .pair a b, x, cs, h => by
    obtain ⟨c1, c2, rfl, h1, h2⟩ := h
    obtain ⟨l1, s1⟩ := split_spec hG h1
    obtain ⟨l2, s2⟩ := split_spec hG h2
    refine ⟨by simp [split, l1, l2], fun i p v hp hv => ?_⟩
    simp only [split, List.getElem?_append] at hp hv
    by_cases hi : i < (split a x.1).length
    · rw [if_pos hi] at hp; rw [if_pos (by omega)] at hv; exact s1 i p v hp hv
    · rw [if_neg hi] at hp; rw [if_neg (by omega)] at hv; rw [l1] at hp; exact s2 _ p v hp hv
theorem split_hok : ∀ (k : Kd) (x : k.den), ∀ p ∈ split k x, hokB p = true
  | .int _, _, p, h => by simp [split] at h; subst h; rfl
  | .bool, _, p, h => by simp [split] at h; subst h; rfl
  | .str, _, p, h => by simp [split] at h; subst h; rfl
  | .list _, _, p, h => by simp [split] at h; subst h; rfl
  | .unit, _, p, h => by simp [split] at h
  | .ptr, _, p, h => by simp [split] at h; subst h; rfl
  | .fn, _, p, h => by simp [split] at h; subst h; rfl
  | .err, _, p, h => by simp [split] at h; subst h; rfl
  | .pair a b, x, p, h => by
    simp only [split, List.mem_append] at h
    exact h.elim (split_hok a x.1 p) (split_hok b x.2 p)
theorem zeros_spec : ∀ (k : Kd), (zcells k).length = (zeros k).length ∧ (zcells k).length = k.size ∧
    ∀ (i : Nat) (p : PV) (v : Value), (zeros k)[i]? = some p → (zcells k)[i]? = some v → (isO p = false ∧ (∀ m, ¬ refs p m) ∧ (∀ d off, p ≠ .bx d off) ∧ ∀ at_ q n0, PR M w at_ q n0 p v) ∨ (∃ m k, p = .o m k [] ∧ v = .slice none 0 0)
  | .int k => by
    refine ⟨rfl, rfl, fun i p v hp hv => ?_⟩
    cases i with
    | zero => simp [zeros, zcells] at hp hv; subst hp; subst hv; exact .inl ⟨rfl, fun _ => id, fun _ _ h => (by cases h), fun _ _ _ => rfl⟩
    | succ i => simp [zeros] at hp
  | .bool => by
    refine ⟨rfl, rfl, fun i p v hp hv => ?_⟩
    cases i with
    | zero => simp [zeros, zcells] at hp hv; subst hp; subst hv; exact .inl ⟨rfl, fun _ => id, fun _ _ h => (by cases h), fun _ _ _ => rfl⟩
    | succ i => simp [zeros] at hp
  | .str => by
    refine ⟨rfl, rfl, fun i p v hp hv => ?_⟩
    cases i with
    | zero => simp [zeros, zcells] at hp hv; subst hp; subst hv; exact .inl ⟨rfl, fun _ => id, fun _ _ h => (by cases h), fun _ _ _ => rfl⟩
    | succ i => simp [zeros] at hp
  | .unit => ⟨rfl, rfl, fun i p v hp hv => by simp [zeros] at hp⟩
  | .ptr => by
    refine ⟨rfl, rfl, fun i p v hp hv => ?_⟩
    cases i with
    | zero => simp [zeros, zcells] at hp hv; subst hp; subst hv; exact .inl ⟨rfl, fun _ => id, fun _ _ h => (by cases h), fun _ _ _ => ⟨_, .inl ⟨rfl, rfl⟩, rfl⟩⟩
    | succ i => simp [zeros] at hp
  | .err => by
    refine ⟨rfl, rfl, fun i p v hp hv => ?_⟩
    cases i with
    | zero => simp [zeros, zcells] at hp hv; subst hp; subst hv; exact .inl ⟨rfl, fun _ => id, fun _ _ h => (by cases h), fun _ _ _ => ⟨_, .inl ⟨rfl, rfl⟩, rfl⟩⟩
    | succ i => simp [zeros] at hp
  | .fn => by
    refine ⟨rfl, rfl, fun i p v hp hv => ?_⟩
    cases i with
    | zero => simp [zeros, zcells] at hp hv; subst hp; subst hv; exact .inl ⟨rfl, fun _ => id, fun _ _ h => (by cases h), fun _ _ _ => rfl⟩
    | succ i => simp [zeros] at hp
  | .list k => by
    refine ⟨rfl, rfl, fun i p v hp hv => ?_⟩
    cases i with
    | zero => simp [zeros, zcells] at hp hv; subst hp; subst hv; exact .inr ⟨_, _, rfl, rfl⟩
    | succ i => simp [zeros] at hp
  | .pair a b => by
    obtain ⟨l1, m1, s1⟩ := zeros_spec a
    obtain ⟨l2, m2, s2⟩ := zeros_spec b
    refine ⟨by simp [zeros, zcells, l1, l2], by simp [zcells, m1, m2, Kd.size], fun i p v hp hv => ?_⟩
    simp only [zeros, zcells, List.getElem?_append] at hp hv
    by_cases hi : i < (zeros a).length
    · rw [if_pos hi] at hp; rw [if_pos (by omega)] at hv; exact s1 i p v hp hv
    · rw [if_neg hi] at hp; rw [if_neg (by omega)] at hv; rw [l1] at hv; exact s2 _ p v hp hv
theorem hzeros_spec (b : Bool) : ∀ (k : Kd), (zcells k).length = (hzeros b k).length ∧
    ∀ (i : Nat) (p : PV) (v : Value), (hzeros b k)[i]? = some p → (zcells k)[i]? = some v → hokB p = true ∧ ((isO p = false ∧ ∀ at_ q n0, PR M w at_ q n0 p v) ∨ (∃ k, p = .o true k [] ∧ v = .slice none 0 0))
  | .int k => by
    refine ⟨rfl, fun i p v hp hv => ?_⟩
    cases i with
    | zero => simp [hzeros, zcells] at hp hv; subst hp; subst hv; exact ⟨rfl, .inl ⟨rfl, fun _ _ _ => rfl⟩⟩
    | succ i => simp [hzeros] at hp
  | .bool => by
    refine ⟨rfl, fun i p v hp hv => ?_⟩
    cases i with
    | zero => simp [hzeros, zcells] at hp hv; subst hp; subst hv; exact ⟨rfl, .inl ⟨rfl, fun _ _ _ => rfl⟩⟩
    | succ i => simp [hzeros] at hp
  | .str => by
    refine ⟨rfl, fun i p v hp hv => ?_⟩
    cases i with
    | zero => simp [hzeros, zcells] at hp hv; subst hp; subst hv; exact ⟨rfl, .inl ⟨rfl, fun _ _ _ => rfl⟩⟩
    | succ i => simp [hzeros] at hp
  | .unit => ⟨rfl, fun i p v hp hv => by simp [hzeros] at hp⟩
  | .ptr => by
    refine ⟨rfl, fun i p v hp hv => ?_⟩
    cases i with
    | zero => simp [hzeros, zcells] at hp hv; subst hp; subst hv; exact ⟨rfl, .inl ⟨rfl, fun _ _ _ => ⟨_, .inl ⟨rfl, rfl⟩, rfl⟩⟩⟩
    | succ i => simp [hzeros] at hp
  | .err => by
    refine ⟨rfl, fun i p v hp hv => ?_⟩
    cases i with
    | zero => simp [hzeros, zcells] at hp hv; subst hp; subst hv; exact ⟨rfl, .inl ⟨rfl, fun _ _ _ => ⟨_, .inl ⟨rfl, rfl⟩, rfl⟩⟩⟩
    | succ i => simp [hzeros] at hp
  | .fn => by
    refine ⟨rfl, fun i p v hp hv => ?_⟩
    cases i with
    | zero => simp [hzeros, zcells] at hp hv; subst hp; subst hv; exact ⟨rfl, .inl ⟨rfl, fun _ _ _ => rfl⟩⟩
    | succ i => simp [hzeros] at hp
  | .list k => by
    refine ⟨by simp [hzeros, zcells], fun i p v hp hv => ?_⟩
    cases i with
    | zero =>
      simp [hzeros, zcells] at hp hv; subst hp; subst hv
      cases b
      · exact ⟨rfl, .inl ⟨rfl, fun _ _ _ => ⟨_, ⟨none, 0, rfl, Nat.le_refl _, fun hh => absurd rfl hh⟩, rfl⟩⟩⟩
      · exact ⟨rfl, .inr ⟨_, rfl, rfl⟩⟩
    | succ i => simp [hzeros] at hp
  | .pair x y => by
    obtain ⟨l1, s1⟩ := hzeros_spec b x
    obtain ⟨l2, s2⟩ := hzeros_spec b y
    refine ⟨by simp [hzeros, zcells, l1, l2], fun i p v hp hv => ?_⟩
    simp only [hzeros, zcells, List.getElem?_append] at hp hv
    by_cases hi : i < (hzeros b x).length
    · rw [if_pos hi] at hp; rw [if_pos (by omega)] at hv; exact s1 i p v hp hv
    · rw [if_neg hi] at hp; rw [if_neg (by omega)] at hv; rw [l1] at hv; exact s2 _ p v hp hv
theorem Rep.dflt {G : Com} : ∀ (k : Kd), Rep G w k k.dflt (zcells k)
  | .int _ => rfl
  | .bool => rfl
  | .str => rfl
  | .unit => rfl
  | .list _ => ⟨none, 0, rfl, Nat.le_refl _, fun hh => absurd rfl hh⟩
  | .pair a b => ⟨_, _, rfl, Rep.dflt a, Rep.dflt b⟩
  | .ptr => .inl ⟨rfl, rfl⟩
  | .fn => rfl
  | .err => .inl ⟨rfl, rfl⟩
/-- What can be read at a cell. -/
def RD (G : Com) (w : World) : PV → Value → Prop
  | .o _ k xs, v => RepV G w (.list k) xs v
  | p, v => ∀ (k : Kd) (x : k.den), toDen k p = some x → RepV G w k x v
theorem RepV.one {G : Com} {k : Kd} {x : k.den} {v : Value} (h : RepV G w k x v) (hk : k.isAgg = false) : Rep G w k x [v] := by
  obtain ⟨cs, h1, rfl⟩ := h
  cases k with
  | int _ => rw [show cs = _ from h1]; rfl
  | bool => rw [show cs = _ from h1]; rfl
  | str => rw [show cs = _ from h1]; rfl
  | list e => obtain ⟨A, c, rfl, h2⟩ := h1; exact ⟨A, c, rfl, h2⟩
  | unit => cases hk
  | pair a b => cases hk
  | ptr => have hl : cs.length = 1 := Rep.len h1; match cs, hl with | [c], _ => exact h1
  | err => have hl : cs.length = 1 := Rep.len h1; match cs, hl with | [c], _ => exact h1
  | fn => rw [show cs = _ from h1]; rfl
theorem asm_spec {G : Com} : ∀ {k : Kd} {ps : List PV} {cs : List Value} {x : k.den} {r : List PV}, ps.length = cs.length → (∀ (i : Nat) (p : PV) (v : Value), ps[i]? = some p → cs[i]? = some v → RD G w p v) → asm k ps = some (x, r) →
    k.size ≤ ps.length ∧ r = ps.drop k.size ∧ Rep G w k x (cs.take k.size)
  | .unit, ps, cs, x, r, hl, hp, h => by
    simp only [asm, Option.some.injEq, Prod.mk.injEq] at h
    exact ⟨Nat.zero_le _, by rw [← h.2]; rfl, rfl⟩
  | .pair a b, ps, cs, x, r, hl, hp, h => by
    simp only [asm, Option.bind_eq_some_iff, Option.some.injEq, Prod.mk.injEq] at h
    obtain ⟨⟨x1, r1⟩, h1, ⟨x2, r2⟩, h2, rfl, rfl⟩ := h
    obtain ⟨l1, rfl, p1⟩ := asm_spec hl hp h1
    obtain ⟨l2, rfl, p2⟩ := asm_spec (cs := cs.drop a.size) (by simp [hl]) (fun i p v hi hv => hp (a.size + i) p v (by simpa using hi) (by simpa using hv)) h2
    refine ⟨by simp at l2; simp only [Kd.size]; omega, by simp [Kd.size], cs.take a.size, (cs.drop a.size).take b.size, ?_, p1, p2⟩
    rw [show (Kd.pair a b).size = a.size + b.size from rfl, List.take_add]
  | .list e, p :: ps, cs, x, r, hl, hp, h => by
    cases cs with
    | nil => simp at hl
    | cons c cs =>
      have hrd := hp 0 p c rfl rfl
      have key : ∀ x', RepV G w (.list e) x' c → x' = x → ps = r → (Kd.list e).size ≤ (p :: ps).length ∧ r = (p :: ps).drop (Kd.list e).size ∧ Rep G w (.list e) x ((c :: cs).take (Kd.list e).size) := fun x' h1 h2 h3 => by
        subst h2; subst h3
        exact ⟨by simp [Kd.size], rfl, by simpa [Kd.size] using h1.one rfl⟩
      cases p with
      | l e' xs =>
        simp only [asm] at h
        split at h
        · rename_i he; subst he
          simp only [Option.some.injEq, Prod.mk.injEq] at h
          exact key _ (hrd (.list e') xs (by simp [toDen])) h.1 h.2
        · cases h
      | o m e' xs =>
        simp only [asm] at h
        split at h
        · rename_i he; subst he
          simp only [Option.some.injEq, Prod.mk.injEq] at h
          exact key _ hrd h.1 h.2
        · cases h
      | nil =>
        simp only [asm, Option.map_eq_some_iff, Prod.mk.injEq] at h
        obtain ⟨y, hy, h1, h2⟩ := h
        exact key y (hrd (.list e) y hy) h1 h2
      | _ => simp [asm, toDen] at h
  | .int k, p :: ps, cs, x, r, hl, hp, h => by
    cases cs with
    | nil => simp at hl
    | cons c cs =>
      simp only [asm, Option.map_eq_some_iff, Prod.mk.injEq] at h
      obtain ⟨y, hy, rfl, rfl⟩ := h
      have hrd := hp 0 p c rfl rfl
      cases p <;> simp [toDen] at hy
      obtain ⟨rfl, rfl⟩ := hy
      exact ⟨by simp [Kd.size], rfl, by simpa [Kd.size] using (hrd (.int k) _ (by simp [toDen])).one rfl⟩
  | .bool, p :: ps, cs, x, r, hl, hp, h => by
    cases cs with
    | nil => simp at hl
    | cons c cs =>
      simp only [asm, Option.map_eq_some_iff, Prod.mk.injEq] at h
      obtain ⟨y, hy, rfl, rfl⟩ := h
      have hrd := hp 0 p c rfl rfl
      cases p <;> simp [toDen] at hy
      exact ⟨by simp [Kd.size], rfl, by simpa [Kd.size] using (hrd .bool _ (by simp [toDen, hy])).one rfl⟩
  | .str, p :: ps, cs, x, r, hl, hp, h => by
    cases cs with
    | nil => simp at hl
    | cons c cs =>
      simp only [asm, Option.map_eq_some_iff, Prod.mk.injEq] at h
      obtain ⟨y, hy, rfl, rfl⟩ := h
      have hrd := hp 0 p c rfl rfl
      cases p <;> simp [toDen] at hy
      exact ⟨by simp [Kd.size], rfl, by simpa [Kd.size] using (hrd .str _ (by simp [toDen, hy])).one rfl⟩
  | .int _, [], _, _, _, _, _, h => by simp [asm] at h
  | .bool, [], _, _, _, _, _, h => by simp [asm] at h
  | .str, [], _, _, _, _, _, h => by simp [asm] at h
  | .list _, [], _, _, _, _, _, h => by simp [asm] at h
  | .ptr, p :: ps, cs, x, r, hl, hp, h => by
    cases cs with
    | nil => simp at hl
    | cons c cs =>
      simp only [asm, Option.map_eq_some_iff, Prod.mk.injEq] at h
      obtain ⟨y, hy, rfl, rfl⟩ := h
      have hrd := hp 0 p c rfl rfl
      cases p <;> simp [toDen] at hy
      exact ⟨by simp [Kd.size], rfl, by simpa [Kd.size] using (hrd .ptr _ (by simp [toDen, hy])).one rfl⟩
  | .ptr, [], _, _, _, _, _, h => by simp [asm] at h
  | .err, p :: ps, cs, x, r, hl, hp, h => by
    cases cs with
    | nil => simp at hl
    | cons c cs =>
      simp only [asm, Option.map_eq_some_iff, Prod.mk.injEq] at h
      obtain ⟨y, hy, rfl, rfl⟩ := h
      have hrd := hp 0 p c rfl rfl
      cases p <;> simp [toDen] at hy
      exact ⟨by simp [Kd.size], rfl, by simpa [Kd.size] using (hrd .err _ (by simp [toDen, hy])).one rfl⟩
  | .err, [], _, _, _, _, _, h => by simp [asm] at h
  | .fn, p :: ps, cs, x, r, hl, hp, h => by
    cases cs with
    | nil => simp at hl
    | cons c cs =>
      simp only [asm, Option.map_eq_some_iff] at h
      obtain ⟨y, hy, h2⟩ := h
      have h3 : ps = r := congrArg Prod.snd h2
      have hrd := hp 0 p c rfl rfl
      cases p <;> simp [toDen] at hy
      exact ⟨by simp [Kd.size], by rw [← h3]; rfl, by simpa [Kd.size] using (hrd .fn () rfl).one rfl⟩
  | .fn, [], _, _, _, _, _, h => by simp [asm] at h
end
end Go.Pv
