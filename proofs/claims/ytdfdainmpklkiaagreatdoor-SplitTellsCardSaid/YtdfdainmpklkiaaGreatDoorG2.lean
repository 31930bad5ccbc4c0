/- How plain values lie in memory, and what is asked of the types. -/
import Derived.Test.YtdfdainmpklkiaaGreatDoorG1
import Derived.Calls
set_option linter.unusedVariables false
set_option linter.unusedSimpArgs false
namespace Go.Pv

/-- Cells that are no more written; the heap's objects: where they are, how many there are; their loops' records; the loop that runs this function. -/
structure Com where
  c : Nat → Nat → Prop
  adr : Nat → Nat
  n : Nat
  lr : Nat → Loop
  yl : Nat
instance : CoeFun Com (fun _ => Nat → Nat → Prop) := ⟨Com.c⟩
structure Com.le (G G' : Com) : Prop where
  c : ∀ g o, G g o → G' g o
  n : G.n ≤ G'.n
  adr : ∀ i, i < G.n → G'.adr i = G.adr i
  lr : ∀ i, i < G.n → G'.lr i = G.lr i
  yl : G'.yl = G.yl
theorem Com.le.refl (G : Com) : G.le G := ⟨fun _ _ h => h, Nat.le_refl _, fun _ _ => rfl, fun _ _ => rfl, rfl⟩
theorem Com.le.trans {G G1 G2 : Com} (h : G.le G1) (k : G1.le G2) : G.le G2 :=
  ⟨fun g o hg => k.c g o (h.c g o hg), Nat.le_trans h.n k.n, fun i hi => (k.adr i (Nat.lt_of_lt_of_le hi h.n)).trans (h.adr i hi), fun i hi => (k.lr i (Nat.lt_of_lt_of_le hi h.n)).trans (h.lr i hi), k.yl.trans h.yl⟩
/-- More cells are no more written. -/
def Com.more (G : Com) (p : Nat → Nat → Prop) : Com := { G with c := fun g o => G g o ∨ p g o }
theorem Com.le.more (G : Com) (p : Nat → Nat → Prop) : G.le (G.more p) := ⟨fun _ _ h => .inl h, Nat.le_refl _, fun _ _ => rfl, fun _ _ => rfl, rfl⟩
/-- The cells from (g, o) on are these, and no more written. -/
def Holds (G : Com) (w : World) (g o : Nat) (ds : List Value) : Prop := ∀ j (h : j < ds.length), G g (o + j) ∧ w.cell? ⟨g, o + j, none⟩ = some ds[j]
/-- A value's cells. -/
def Rep (G : Com) (w : World) : (k : Kd) → k.den → List Value → Prop
  | .int ik, n, cs => cs = [.int ik n]
  | .bool, b, cs => cs = [.bool b]
  | .str, s, cs => cs = [.string s]
  | .unit, _, cs => cs = []
  | .pair a b, x, cs => ∃ c1 c2, cs = c1 ++ c2 ∧ Rep G w a x.1 c1 ∧ Rep G w b x.2 c2
  | .ptr, x, cs => (x = none ∧ cs = [.pointer none]) ∨ ∃ i off, x = some (i, off) ∧ i < G.n ∧ cs = [.pointer (some ⟨G.adr i, off, none⟩)]
  | .fn, _, cs => cs = [.nilFunc]
  | .err, x, cs => (x = false ∧ cs = [.nilIface]) ∨ ∃ t v, x = true ∧ cs = [.iface t v]
  | .list e, xs, cs => ∃ A c, cs = [.slice A xs.length c] ∧ xs.length ≤ c ∧ (xs ≠ [] → ∃ g o, A = some ⟨g, o, none⟩ ∧ ∀ i (h : i < xs.length), ∃ ds, Holds G w g (o + i * e.size) ds ∧ Rep G w e xs[i] ds)
theorem Rep.len {G : Com} {w : World} : ∀ {k : Kd} {x : k.den} {cs : List Value}, Rep G w k x cs → cs.length = k.size
  | .int _, _, _, h => by rw [show _ = _ from h]; rfl
  | .bool, _, _, h => by rw [show _ = _ from h]; rfl
  | .str, _, _, h => by rw [show _ = _ from h]; rfl
  | .unit, _, _, h => by rw [show _ = _ from h]; rfl
  | .pair a b, x, cs, h => by
    obtain ⟨c1, c2, rfl, h1, h2⟩ := h
    rw [List.length_append, Rep.len h1, Rep.len h2]; rfl
  | .list e, xs, cs, h => by obtain ⟨A, c, rfl, _⟩ := h; rfl
  | .ptr, _, _, h => by obtain ⟨_, rfl⟩ | ⟨_, _, _, _, rfl⟩ := h <;> rfl
  | .fn, _, _, h => by rw [show _ = _ from h]; rfl
  | .err, _, _, h => by obtain ⟨_, rfl⟩ | ⟨_, _, _, rfl⟩ := h <;> rfl
/-- Nothing that is no more written has been written. -/
def Keeps (G : Com) (w w' : World) : Prop := ∀ g o v, G g o → w.cell? ⟨g, o, none⟩ = some v → w'.cell? ⟨g, o, none⟩ = some v
theorem Holds.mono {G G' : Com} {w w' : World} (hG : G.le G') (hw : Keeps G w w') {g o : Nat} {ds : List Value} (h : Holds G w g o ds) : Holds G' w' g o ds :=
  fun j hj => ⟨hG.c _ _ (h j hj).1, hw _ _ _ (h j hj).1 (h j hj).2⟩
theorem Rep.mono {G G' : Com} {w w' : World} (hG : G.le G') (hw : Keeps G w w') : ∀ {k : Kd} {x : k.den} {cs : List Value}, Rep G w k x cs → Rep G' w' k x cs
  | .int _, _, _, h => h
  | .bool, _, _, h => h
  | .str, _, _, h => h
  | .unit, _, _, h => h
  | .pair a b, x, cs, h => by
    obtain ⟨c1, c2, rfl, h1, h2⟩ := h
    exact ⟨c1, c2, rfl, Rep.mono hG hw h1, Rep.mono hG hw h2⟩
  | .list e, xs, cs, h => by
    obtain ⟨A, c, rfl, hc, hx⟩ := h
    refine ⟨A, c, rfl, hc, fun hne => ?_⟩
    obtain ⟨g, o, rfl, hi⟩ := hx hne
    refine ⟨g, o, rfl, fun i h => ?_⟩
    obtain ⟨ds, hh, hr⟩ := hi i h
    exact ⟨ds, hh.mono hG hw, Rep.mono hG hw hr⟩
  | .ptr, _, _, h => by
    rcases h with h | ⟨i, off, h1, h2, h3⟩
    · exact .inl h
    · exact .inr ⟨i, off, h1, Nat.lt_of_lt_of_le h2 hG.n, by rw [hG.adr i h2]; exact h3⟩
  | .fn, _, _, h => h
  | .err, _, _, h => h
theorem Keeps.refl (G : Com) (w : World) : Keeps G w w := fun _ _ _ _ h => h
theorem Keeps.trans {G : Com} {w w1 w2 : World} (h : Keeps G w w1) (k : Keeps G w1 w2) : Keeps G w w2 := fun g o v hG hc => k g o v hG (h g o v hG hc)
/-- A value's one value: an aggregate, or its one cell. -/
def valOf (k : Kd) (cs : List Value) : Value := if k.isAgg then .agg cs.toArray else cs.headD undef
/-- A value as a machine's value. -/
def RepV (G : Com) (w : World) (k : Kd) (x : k.den) (v : Value) : Prop := ∃ cs, Rep G w k x cs ∧ v = valOf k cs
theorem RepV.mono {G G' : Com} {w w' : World} (hG : G.le G') (hw : Keeps G w w') {k : Kd} {x : k.den} {v : Value} (h : RepV G w k x v) : RepV G' w' k x v := by
  obtain ⟨cs, h1, h2⟩ := h
  exact ⟨cs, h1.mono hG hw, h2⟩
theorem RepV.cells {G : Com} {w : World} {k : Kd} {x : k.den} {v : Value} (h : RepV G w k x v) : ∃ cs, Rep G w k x cs ∧ v = valOf k cs ∧ v.cells = cs.toArray := by
  obtain ⟨cs, h1, rfl⟩ := h
  refine ⟨cs, h1, rfl, ?_⟩
  unfold valOf
  cases k with
  | int _ => rw [show cs = _ from h1]; rfl
  | bool => rw [show cs = _ from h1]; rfl
  | str => rw [show cs = _ from h1]; rfl
  | unit => rfl
  | pair a b => rfl
  | list e => obtain ⟨A, c, rfl, _⟩ := h1; rfl
  | ptr => obtain ⟨_, rfl⟩ | ⟨_, _, _, _, rfl⟩ := h1 <;> rfl
  | fn => rw [show cs = _ from h1]; rfl
  | err => obtain ⟨_, rfl⟩ | ⟨_, _, _, rfl⟩ := h1 <;> rfl

/-! ### Types -/
def zcells : Kd → List Value
  | .int k => [.int k 0]
  | .bool => [.bool false]
  | .str => [.string ⟨#[]⟩]
  | .unit => []
  | .pair a b => zcells a ++ zcells b
  | .list _ => [.slice none 0 0]
  | .ptr => [.pointer none]
  | .fn => [.nilFunc]
  | .err => [.nilIface]
def zcellB : Value → Value → Bool
  | .int k n, .int k' m => k == k' && n == m
  | .bool b, .bool c => b == c
  | .string s, .string t => s.data.toList == t.data.toList
  | .slice none a b, .slice none c d => a == c && b == d
  | .pointer none, .pointer none => true
  | .nilFunc, .nilFunc => true
  | .nilIface, .nilIface => true
  | _, _ => false
theorem zcellB_eq {u v : Value} (h : zcellB u v = true) : u = v := by
  unfold zcellB at h
  split at h
  · simp at h; obtain ⟨rfl, rfl⟩ := h; rfl
  · simp at h; rw [h]
  · rename_i s t
    simp at h
    have : s = t := by cases s; cases t; simp at h; rw [h]
    rw [this]
  · simp at h; obtain ⟨rfl, rfl⟩ := h; rfl
  · rfl
  · rfl
  · rfl
  · cases h
def listB : List Value → List Value → Bool
  | [], [] => true
  | u :: us, v :: vs => zcellB u v && listB us vs
  | _, _ => false
theorem listB_eq : ∀ {us vs : List Value}, listB us vs = true → us = vs
  | [], [], _ => rfl
  | u :: us, v :: vs, h => by
    simp [listB] at h
    rw [zcellB_eq h.1, listB_eq h.2]
  | [], _ :: _, h => by cases h
  | _ :: _, [], h => by cases h
def aggB (l : List Value) : Value → Bool
  | .agg cs => listB cs.toList l
  | _ => false
def zeroB (k : Kd) (v : Value) : Bool := if k.isAgg = true then aggB (zcells k) v else listB [v] (zcells k)
theorem zeroB_eq {k : Kd} {v : Value} (h : zeroB k v = true) : v = valOf k (zcells k) := by
  unfold zeroB at h
  unfold valOf
  by_cases hk : k.isAgg = true
  · rw [if_pos hk] at h ⊢
    unfold aggB at h
    split at h
    · rw [← listB_eq h]
    · cases h
  · rw [if_neg hk] at h ⊢
    rw [← listB_eq h]; rfl
/-- A type's own row of the table fits a kind. -/
def infoB (P : Program) (k : Kd) (t : TypeId) : Bool :=
  match P.info? t with
  | some i => i.size == k.size && decide (i.bytes ≤ k.bytes) && (match i.zero with
    | some z => zeroB k z
    | none => false)
  | none => false
/-- Does a type (or do fields, from a place on) fit a kind? -/
def fitsB (P : Program) : Kd → (TypeId ⊕ (List Field × Nat)) → Bool
  | .int k, .inl t => infoB P (.int k) t && (match P.underlying t with
    | some (.int k') => k' == k
    | _ => false)
  | .bool, .inl t => infoB P .bool t && (match P.underlying t with
    | some .bool => true
    | _ => false)
  | .str, .inl t => infoB P .str t && (match P.underlying t with
    | some .string => true
    | _ => false)
  | .ptr, .inl t => infoB P .ptr t && (match P.underlying t with
    | some (.pointer _) => true
    | _ => false)
  | .fn, .inl t => infoB P .fn t && (match P.underlying t with
    | some (.func _ _ _) => true
    | _ => false)
  | .err, .inl t => infoB P .err t && (match P.underlying t with
    | some (.interface _) => true
    | _ => false)
  | .list e, .inl t => infoB P (.list e) t && (match P.underlying t with
    | some (.slice u) => fitsB P e (.inl u)
    | _ => false)
  | .unit, .inl t => infoB P .unit t && (match P.underlying t with
    | some (.struct fs) => fs.toList.isEmpty
    | _ => false)
  | .unit, .inr (fs, _) => fs.isEmpty
  | .pair a b, .inl t => infoB P (.pair a b) t && (match P.underlying t with
    | some (.struct fs) => match fs.toList with
      | f :: fs => f.offset == 0 && fitsB P a (.inl f.type) && fitsB P b (.inr (fs, a.size))
      | [] => false
    | _ => false)
  | .pair a b, .inr (f :: fs, o) => f.offset == o && fitsB P a (.inl f.type) && fitsB P b (.inr (fs, o + a.size))
  | _, _ => false
/-- A type fits a kind. -/
def Fits (P : Program) (k : Kd) (t : TypeId) : Prop := fitsB P k (.inl t) = true
section
variable {P : Program} {k : Kd} {t : TypeId}
theorem Fits.info (h : Fits P k t) : ∃ i, P.info? t = some i ∧ i.size = k.size ∧ i.bytes ≤ k.bytes ∧ i.zero = some (valOf k (zcells k)) := by
  have hi : infoB P k t = true := by
    unfold Fits at h
    cases k <;> simp only [fitsB, Bool.and_eq_true] at h <;> exact h.1
  unfold infoB at hi
  split at hi
  · rename_i i hp
    simp only [Bool.and_eq_true, beq_iff_eq, decide_eq_true_eq] at hi
    obtain ⟨⟨h1, h2⟩, h3⟩ := hi
    split at h3
    · rename_i z hz
      exact ⟨i, hp, h1, h2, by rw [hz, zeroB_eq h3]⟩
    · cases h3
  · cases hi
theorem Fits.agg (h : Fits P k t) : ∃ d, P.underlying t = some d ∧ (match d with | .struct _ => true | .array _ _ => true | _ => false) = k.isAgg := by
  unfold Fits at h
  cases k with
  | int ik =>
    simp only [fitsB, Bool.and_eq_true] at h
    have h2 := h.2
    split at h2
    · rename_i hu; exact ⟨_, hu, rfl⟩
    · cases h2
  | bool =>
    simp only [fitsB, Bool.and_eq_true] at h
    have h2 := h.2
    split at h2
    · rename_i hu; exact ⟨_, hu, rfl⟩
    · cases h2
  | str =>
    simp only [fitsB, Bool.and_eq_true] at h
    have h2 := h.2
    split at h2
    · rename_i hu; exact ⟨_, hu, rfl⟩
    · cases h2
  | list e =>
    simp only [fitsB, Bool.and_eq_true] at h
    have h2 := h.2
    split at h2
    · rename_i hu; exact ⟨_, hu, rfl⟩
    · cases h2
  | unit =>
    simp only [fitsB, Bool.and_eq_true] at h
    have h2 := h.2
    split at h2
    · rename_i hu; exact ⟨_, hu, rfl⟩
    · cases h2
  | ptr =>
    simp only [fitsB, Bool.and_eq_true] at h
    have h2 := h.2
    split at h2
    · rename_i hu; exact ⟨_, hu, rfl⟩
    · cases h2
  | fn =>
    simp only [fitsB, Bool.and_eq_true] at h
    have h2 := h.2
    split at h2
    · rename_i hu; exact ⟨_, hu, rfl⟩
    · cases h2
  | err =>
    simp only [fitsB, Bool.and_eq_true] at h
    have h2 := h.2
    split at h2
    · rename_i hu; exact ⟨_, hu, rfl⟩
    · cases h2
  | pair a b =>
    simp only [fitsB, Bool.and_eq_true] at h
    have h2 := h.2
    split at h2
    · rename_i hu; exact ⟨_, hu, rfl⟩
    · cases h2
theorem Fits.elem {e : Kd} (h : Fits P (.list e) t) : ∃ u, P.underlying t = some (.slice u) ∧ Fits P e u := by
  unfold Fits at h
  simp only [fitsB, Bool.and_eq_true] at h
  have h2 := h.2
  split at h2
  · rename_i u hu; exact ⟨u, hu, h2⟩
  · cases h2
theorem Fits.int {ik : IntKind} (h : Fits P (.int ik) t) : P.underlying t = some (.int ik) := by
  unfold Fits at h
  simp only [fitsB, Bool.and_eq_true] at h
  have h2 := h.2
  split at h2
  · rename_i hu; rw [hu]; congr 2; simpa using h2
  · cases h2
theorem Fits.str (h : Fits P .str t) : P.underlying t = some .string := by
  unfold Fits at h
  simp only [fitsB, Bool.and_eq_true] at h
  have h2 := h.2
  split at h2
  · rename_i hu; exact hu
  · cases h2
/-- Fields from a place on. -/
theorem fits_field {P : Program} : ∀ {k : Kd} {fs : List Field} {o f : Nat} {k' : Kd} {q : Nat}, fitsB P k (.inr (fs, o)) = true → fieldAt k f = some (k', q) → ∃ x, fs[f]? = some x ∧ x.offset = o + q ∧ Fits P k' x.type
  | .pair a b, f :: fs, o, 0, k', q, h, hf => by
    simp only [fitsB, Bool.and_eq_true, beq_iff_eq] at h
    simp only [fieldAt, Option.some.injEq, Prod.mk.injEq] at hf
    obtain ⟨rfl, rfl⟩ := hf
    exact ⟨f, rfl, h.1.1, h.1.2⟩
  | .pair a b, x :: fs, o, f + 1, k', q, h, hf => by
    simp only [fitsB, Bool.and_eq_true, beq_iff_eq] at h
    simp only [fieldAt, Option.map_eq_some_iff] at hf
    obtain ⟨⟨k1, q1⟩, h1, h2⟩ := hf
    simp only [Prod.mk.injEq] at h2
    obtain ⟨rfl, rfl⟩ := h2
    obtain ⟨y, hy1, hy2, hy3⟩ := fits_field h.2 h1
    exact ⟨y, hy1, by omega, hy3⟩
  | .unit, _, _, _, _, _, _, hf => by cases hf
  | .int _, _, _, _, _, _, _, hf => by cases hf
  | .bool, _, _, _, _, _, _, hf => by cases hf
  | .str, _, _, _, _, _, _, hf => by cases hf
  | .list _, _, _, _, _, _, _, hf => by cases hf
  | .ptr, _, _, _, _, _, _, hf => by cases hf
  | .fn, _, _, _, _, _, _, hf => by cases hf
  | .err, _, _, _, _, _, _, hf => by cases hf
  | .pair _ _, [], _, _, _, _, h, _ => by simp [fitsB] at h
theorem Fits.field (h : Fits P k t) {f : Nat} {k' : Kd} {q : Nat} (hf : fieldAt k f = some (k', q)) : ∃ fs x, P.underlying t = some (.struct fs) ∧ fs[f]? = some x ∧ x.offset = q ∧ Fits P k' x.type := by
  cases k with
  | pair a b =>
    unfold Fits at h
    simp only [fitsB, Bool.and_eq_true] at h
    have h2 := h.2
    split at h2
    · rename_i fs hu
      split at h2
      · rename_i x xs hx
        simp only [Bool.and_eq_true, beq_iff_eq] at h2
        have hall : fitsB P (.pair a b) (.inr (x :: xs, 0)) = true := by simp [fitsB, h2.1.1, h2.1.2, h2.2]
        obtain ⟨y, hy1, hy2, hy3⟩ := fits_field hall hf
        refine ⟨fs, y, hu, ?_, by omega, hy3⟩
        rw [← Array.getElem?_toList, hx]; exact hy1
      · cases h2
    · cases h2
  | _ => cases hf
end

/-! ### Parts -/
theorem comp_fieldAt : ∀ {k : Kd} {x : k.den} {f : Nat} {y : (k' : Kd) × k'.den}, comp k x f = some y → ∃ q, fieldAt k f = some (y.1, q)
  | .pair a b, x, 0, y, h => by simp only [comp, Option.some.injEq] at h; subst h; exact ⟨0, rfl⟩
  | .pair a b, x, f + 1, y, h => by
    obtain ⟨q, hq⟩ := comp_fieldAt (k := b) (x := x.2) h
    exact ⟨a.size + q, by simp [fieldAt, hq]⟩
  | .unit, _, _, _, h => by cases h
  | .int _, _, _, _, h => by cases h
  | .bool, _, _, _, h => by cases h
  | .str, _, _, _, h => by cases h
  | .list _, _, _, _, h => by cases h
  | .ptr, _, _, _, h => by cases h
  | .fn, _, _, _, h => by cases h
  | .err, _, _, _, h => by cases h
theorem Rep.comp {G : Com} {w : World} : ∀ {k : Kd} {x : k.den} {cs : List Value} {f : Nat} {y : (k' : Kd) × k'.den} {q : Nat}, Rep G w k x cs → comp k x f = some y → fieldAt k f = some (y.1, q) →
    ∃ c1 c2 c3, cs = c1 ++ c2 ++ c3 ∧ c1.length = q ∧ Rep G w y.1 y.2 c2
  | .pair a b, x, cs, 0, y, q, h, hc, hf => by
    obtain ⟨c1, c2, rfl, h1, h2⟩ := h
    simp only [Pv.comp, Option.some.injEq] at hc
    subst hc
    simp only [fieldAt, Option.some.injEq, Prod.mk.injEq, true_and] at hf
    subst hf
    exact ⟨[], c1, c2, by simp, rfl, h1⟩
  | .pair a b, x, cs, f + 1, y, q, h, hc, hf => by
    obtain ⟨c1, c2, rfl, h1, h2⟩ := h
    simp only [fieldAt, Option.map_eq_some_iff, Prod.mk.injEq] at hf
    obtain ⟨⟨k1, q1⟩, hf1, rfl, rfl⟩ := hf
    obtain ⟨d1, d2, d3, rfl, hl, hr⟩ := Rep.comp (k := b) (x := x.2) h2 hc hf1
    exact ⟨c1 ++ d1, d2, d3, by simp, by rw [List.length_append, h1.len, hl], hr⟩
  | .unit, _, _, _, _, _, _, h, _ => by cases h
  | .int _, _, _, _, _, _, _, h, _ => by cases h
  | .bool, _, _, _, _, _, _, h, _ => by cases h
  | .str, _, _, _, _, _, _, h, _ => by cases h
  | .list _, _, _, _, _, _, _, h, _ => by cases h
  | .ptr, _, _, _, _, _, _, h, _ => by cases h
  | .fn, _, _, _, _, _, _, h, _ => by cases h
  | .err, _, _, _, _, _, _, h, _ => by cases h
/-- May values of a type be compared? -/
def eqB (P : Program) : Kd → (TypeId ⊕ List Field) → Bool
  | .pair a b, .inl t => !P.stoodInHeld t && (match P.underlying t with
    | some (.struct fs) => (match fs.toList with
      | f :: fs => f.name != "_" && eqB P a (.inl f.type) && eqB P b (.inr fs)
      | [] => false)
    | _ => false)
  | .pair a b, .inr (f :: fs) => f.name != "_" && eqB P a (.inl f.type) && eqB P b (.inr fs)
  | .unit, .inr fs => fs.isEmpty
  | .unit, .inl t => !P.stoodInHeld t && (match P.underlying t with
    | some (.struct fs) => fs.toList.isEmpty
    | _ => false)
  | .int _, .inl _ => true
  | .bool, .inl _ => true
  | .str, .inl _ => true
  | _, _ => false
/-! ### Values that refer to no place -/
mutual
/-- What a value that refers to no place is in a machine's memory. -/
def CR (G : Com) (w : World) : PV → Value → Prop
  | .i k x, v => v = .int k x
  | .b x, v => v = .bool x
  | .s x, v => v = .string x
  | .l e xs, v => RepV G w (.list e) xs v
  | .st k x, v => RepV G w k x v
  | .nil, v => v = .slice none 0 0
  | .p x, v => RepV G w .ptr x v
  | .e x, v => RepV G w .err x v
  | .nilf, v => v = .nilFunc
  | .yl, v => v = .func (.yield G.yl) #[] #[]
  | .at_ k x, v => ∃ g o cs, v = .pointer (some ⟨g, o, none⟩) ∧ Holds G w g o cs ∧ Rep G w k x cs
  | .fn f, v => v = .func (.func f) #[] #[]
  | .clo f cs, v => ∃ vs : List Value, v = .func (.func f) #[] vs.toArray ∧ CRs G w cs vs
  | .ac ps off, v => ∃ g vs, v = .pointer (some ⟨g, off, none⟩) ∧ Holds G w g 0 vs ∧ CRs G w ps vs
  | .un, _ => True
  | _, _ => False
def CRs (G : Com) (w : World) : List PV → List Value → Prop
  | [], [] => True
  | p :: ps, v :: vs => CR G w p v ∧ CRs G w ps vs
  | _, _ => False
end
mutual
theorem CR.mono {G G' : Com} {w w' : World} (hG : G.le G') (hw : Keeps G w w') : ∀ {p : PV} {v : Value}, CR G w p v → CR G' w' p v
  | .i _ _, _, h => h
  | .b _, _, h => h
  | .s _, _, h => h
  | .l _ _, _, h => RepV.mono hG hw h
  | .st _ _, _, h => RepV.mono hG hw h
  | .nil, _, h => h
  | .p _, _, h => RepV.mono hG hw h
  | .e _, _, h => RepV.mono hG hw h
  | .nilf, _, h => h
  | .yl, _, h => by rw [CR] at h ⊢; rw [hG.yl]; exact h
  | .at_ k x, _, h => by rw [CR] at h ⊢; obtain ⟨g, o, cs, hv, h1, h2⟩ := h; exact ⟨g, o, cs, hv, h1.mono hG hw, h2.mono hG hw⟩
  | .fn _, _, h => h
  | .clo f cs, _, h => by rw [CR] at h ⊢; obtain ⟨vs, hv, h1⟩ := h; exact ⟨vs, hv, CRs.mono hG hw h1⟩
  | .ac ps off, _, h => by rw [CR] at h ⊢; obtain ⟨g, vs, hv, h1, h2⟩ := h; exact ⟨g, vs, hv, h1.mono hG hw, CRs.mono hG hw h2⟩
  | .un, _, _ => by rw [CR]; trivial
  | .o _ _ _, _, h => by simp [CR] at h
  | .r _, _, h => by simp [CR] at h
  | .ra _ _ _, _, h => by simp [CR] at h
  | .bx _ _, _, h => by simp [CR] at h
  | .tup _, _, h => by simp [CR] at h
  | .rh _ _ _ _ _, _, h => by simp [CR] at h
  | .ag _, _, h => by simp [CR] at h
theorem CRs.mono {G G' : Com} {w w' : World} (hG : G.le G') (hw : Keeps G w w') : ∀ {ps : List PV} {vs : List Value}, CRs G w ps vs → CRs G' w' ps vs
  | [], [], _ => by rw [CRs]; trivial
  | _ :: _, _ :: _, h => by rw [CRs] at h ⊢; exact ⟨CR.mono hG hw h.1, CRs.mono hG hw h.2⟩
  | [], _ :: _, h => by simp [CRs] at h
  | _ :: _, [], h => by simp [CRs] at h
end
theorem CRs.len {G : Com} {w : World} : ∀ {ps : List PV} {vs : List Value}, CRs G w ps vs → vs.length = ps.length
  | [], [], _ => rfl
  | _ :: _, _ :: _, h => by rw [CRs] at h; rw [List.length_cons, List.length_cons, CRs.len h.2]
  | [], _ :: _, h => by simp [CRs] at h
  | _ :: _, [], h => by simp [CRs] at h
theorem CRs.get {G : Com} {w : World} : ∀ {ps : List PV} {vs : List Value}, CRs G w ps vs → ∀ (i : Nat) (p : PV) (v : Value), ps[i]? = some p → vs[i]? = some v → CR G w p v
  | _ :: _, _ :: _, h, 0, p, v, h1, h2 => by rw [CRs] at h; simp at h1 h2; subst h1; subst h2; exact h.1
  | _ :: _, _ :: _, h, i + 1, p, v, h1, h2 => by rw [CRs] at h; exact CRs.get h.2 i p v (by simpa using h1) (by simpa using h2)
  | [], _, _, i, p, v, h1, _ => by simp at h1
  | _ :: _, [], _, i, p, v, _, h2 => by simp at h2
end Go.Pv
