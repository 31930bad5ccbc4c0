/- How a printed function is told: its arguments, its answer, its contract. -/
import Derived.Test.YtdfdainmpklkiaaGreatDoorG24
import Derived.KernelRfl
set_option linter.unusedVariables false
set_option linter.unusedSimpArgs false
namespace Go.Pv
/-- An argument, or an answer, of a kind. -/
def argD : (k : Kd) → PV → Option k.den
  | .int k, .i k' n => if k = k' then some n else none
  | .bool, .b x => some x
  | .str, .s x => some x
  | .list e, .l e' xs => if h : e' = e then some (h ▸ xs) else none
  | .unit, .st .unit x => some x
  | .pair a b, .st k x => if h : k = .pair a b then some (h ▸ x) else none
  | .ptr, .p x => some x
  | .fn, .nilf => some ()
  | .err, .e x => some x
  | _, _ => none
theorem argD_eq : ∀ {k : Kd} {p : PV} {x : k.den}, argD k p = some x → p = ofDen k x := by
  intro k p x h
  cases k with
  | int k => cases p <;> simp [argD] at h; obtain ⟨rfl, rfl⟩ := h; rfl
  | bool => cases p <;> simp [argD] at h; subst h; rfl
  | str => cases p <;> simp [argD] at h; subst h; rfl
  | list e => cases p <;> simp [argD] at h; obtain ⟨rfl, rfl⟩ := h; rfl
  | unit =>
    cases p with
    | st k' y => cases k' <;> simp [argD] at h; rfl
    | _ => simp [argD] at h
  | pair a b => cases p <;> simp [argD] at h; obtain ⟨rfl, rfl⟩ := h; rfl
  | ptr => cases p <;> simp [argD] at h; subst h; rfl
  | fn => cases p <;> simp [argD] at h; rfl
  | err => cases p <;> simp [argD] at h; subst h; rfl
def ownD (m : Bool) (k : Kd) : PV → Option (List k.den)
  | .o m' k' xs => if m' = m then (if h : k' = k then some (h ▸ xs) else none) else none
  | _ => none
theorem ownD_eq {m : Bool} {k : Kd} {p : PV} {x : List k.den} (h : ownD m k p = some x) : p = .o m k x := by
  cases p <;> simp [ownD] at h
  obtain ⟨rfl, rfl, rfl⟩ := h; rfl
/-- More answers than one. -/
def tupL : (k : Kd) → k.den → List ((k : Kd) × k.den)
  | .pair a b, x => ⟨a, x.1⟩ :: tupL b x.2
  | _, _ => []
def tupD : (k : Kd) → List ((k : Kd) × k.den) → Option k.den
  | .unit, [] => some ()
  | .pair a b, q :: l => if h : q.1 = a then (tupD b l).map fun y => (h ▸ q.2, y) else none
  | _, _ => none
theorem tupD_eq : ∀ {k : Kd} {l : List ((k : Kd) × k.den)} {x : k.den}, tupD k l = some x → l = tupL k x
  | .unit, [], _, _ => rfl
  | .pair a b, ⟨k, y⟩ :: l, x, h => by
    simp only [tupD] at h
    split at h
    · rename_i hk
      have hk : k = a := hk
      subst hk
      obtain ⟨z, hz, rfl⟩ := Option.map_eq_some_iff.1 h
      rw [tupD_eq hz]; rfl
    · cases h
  | .unit, _ :: _, _, h => by cases h
  | .pair _ _, [], _, h => by cases h
  | .int _, _, _, h => by simp [tupD] at h
  | .bool, _, _, h => by simp [tupD] at h
  | .str, _, _, h => by simp [tupD] at h
  | .list _, _, _, h => by simp [tupD] at h
  | .ptr, _, _, h => by simp [tupD] at h
  | .fn, _, _, h => by simp [tupD] at h
  | .err, _, _, h => by simp [tupD] at h
def tupsD (k : Kd) : PV → Option k.den
  | .tup l => tupD k l
  | _ => none
theorem tupsD_eq {k : Kd} {p : PV} {x : k.den} (h : tupsD k p = some x) : p = .tup (tupL k x) := by
  cases p <;> simp [tupsD] at h
  rw [tupD_eq h]
@[reducible] def denL : List Kd → Type
  | [] => Unit
  | k :: ks => k.den × denL ks
def decL : (ks : List Kd) → List PV → Option (denL ks)
  | [], [] => some ()
  | k :: ks, p :: ps => (argD k p).bind fun x => (decL ks ps).bind fun y => some (x, y)
  | _, _ => none
def encL : (ks : List Kd) → denL ks → List PV
  | [], _ => []
  | k :: ks, x => ofDen k x.1 :: encL ks x.2
theorem decL_eq : ∀ {ks : List Kd} {ps : List PV} {x : denL ks}, decL ks ps = some x → ps = encL ks x
  | [], [], _, _ => rfl
  | k :: ks, p :: ps, x, h => by
    simp only [decL] at h
    obtain ⟨y, hy, h⟩ := Option.bind_eq_some_iff.1 h
    obtain ⟨z, hz, h⟩ := Option.bind_eq_some_iff.1 h
    injection h with h
    subst h
    rw [argD_eq hy, decL_eq hz]; rfl
  | [], _ :: _, _, h => by cases h
  | _ :: _, [], _, h => by cases h
/-- A function's spec. -/
structure Spec where
  go : {ρ : Type} → List PV → (PV → Option ρ) → Option ρ
def Spec.of {R : Type} (ks : List Kd) (F : denL ks → Option R) (enc : R → PV) : Spec := ⟨fun a K => (decL ks a).bind fun x => (F x).bind fun r => K (enc r)⟩
def callOf : List (Nat × Spec) → {ρ : Type} → Nat → List PV → (PV → Option ρ) → Option ρ
  | [], _, _, _, _ => none
  | (g, S) :: l, _, f, a, K => bif Nat.beq f g then S.go a K else callOf l f a K
def Good (P : Program) (L : World → Prop) (l : List (Nat × Spec)) : Prop := ∀ q ∈ l, CallOK P L q.1 q.2.go
theorem callOf_ok {P : Program} {L : World → Prop} : ∀ {l : List (Nat × Spec)}, Good P L l → ∀ f, CallOK P L f fun a K => callOf l f a K
  | [], _, f => none_ok L f
  | (g, S) :: l, h, f => by
    intro ρ args K r hr
    simp only [callOf] at hr
    cases hb : Nat.beq f g
    · rw [hb] at hr
      exact callOf_ok (fun q hq => h q (List.mem_cons_of_mem _ hq)) f ρ args K r hr
    · rw [hb] at hr
      have := Nat.eq_of_beq_eq_true hb
      subst this
      exact h (f, S) (List.mem_cons_self ..) ρ args K r hr
theorem Good.nil {P : Program} {L : World → Prop} : Good P L [] := fun _ h => by cases h
theorem Good.cons {P : Program} {L : World → Prop} {g : Nat} {S : Spec} {l : List (Nat × Spec)} (h : CallOK P L g S.go) (k : Good P L l) : Good P L ((g, S) :: l) := fun q hq => by
  rcases List.mem_cons.1 hq with rfl | hq
  · exact h
  · exact k q hq
def iterOf : List (Nat × ({ρ : Type} → List PV → Hp → Yd ρ → (Hp → Option ρ) → Option ρ)) → {ρ : Type} → Nat → List PV → Hp → Yd ρ → (Hp → Option ρ) → Option ρ
  | [], _, _, _, _, _, _ => none
  | (g, I) :: l, _, f, a, h, Y, fin => bif Nat.beq f g then I a h Y fin else iterOf l f a h Y fin
def GoodI (P : Program) (L : World → Prop) (l : List (Nat × ({ρ : Type} → List PV → Hp → Yd ρ → (Hp → Option ρ) → Option ρ))) : Prop := ∀ q ∈ l, IterOK P L q.1 q.2
theorem iterOf_ok {P : Program} {L : World → Prop} : ∀ {l : List (Nat × ({ρ : Type} → List PV → Hp → Yd ρ → (Hp → Option ρ) → Option ρ))}, GoodI P L l → ∀ f, IterOK P L f fun a h Y fin => iterOf l f a h Y fin
  | [], _, f => none_okI L f
  | (g, I) :: l, h, f => by
    intro ρ args hp Y fin r hr
    simp only [iterOf] at hr
    cases hb : Nat.beq f g
    · rw [hb] at hr
      exact iterOf_ok (fun q hq => h q (List.mem_cons_of_mem _ hq)) f ρ args hp Y fin r hr
    · rw [hb] at hr
      have := Nat.eq_of_beq_eq_true hb
      subst this
      exact h (f, I) (List.mem_cons_self ..) ρ args hp Y fin r hr
theorem GoodI.nil {P : Program} {L : World → Prop} : GoodI P L [] := fun _ h => by cases h
theorem GoodI.cons {P : Program} {L : World → Prop} {g : Nat} {I : {ρ : Type} → List PV → Hp → Yd ρ → (Hp → Option ρ) → Option ρ} {l : List (Nat × ({ρ : Type} → List PV → Hp → Yd ρ → (Hp → Option ρ) → Option ρ))} (h : IterOK P L g I) (k : GoodI P L l) : GoodI P L ((g, I) :: l) := fun q hq => by
  rcases List.mem_cons.1 hq with rfl | hq
  · exact h
  · exact k q hq
def callHOf : List (Nat × ({ρ : Type} → List PV → Hp → (PV → Hp → Option ρ) → Option ρ)) → {ρ : Type} → Nat → List PV → Hp → (PV → Hp → Option ρ) → Option ρ
  | [], _, _, _, _, _ => none
  | (g, F) :: l, _, f, a, h, K => bif Nat.beq f g then F a h K else callHOf l f a h K
def GoodH (P : Program) (L : World → Prop) (l : List (Nat × ({ρ : Type} → List PV → Hp → (PV → Hp → Option ρ) → Option ρ))) : Prop := ∀ q ∈ l, CallH P L q.1 q.2
theorem callHOf_ok {P : Program} {L : World → Prop} : ∀ {l : List (Nat × ({ρ : Type} → List PV → Hp → (PV → Hp → Option ρ) → Option ρ))}, GoodH P L l → ∀ f, CallH P L f fun a h K => callHOf l f a h K
  | [], _, f => none_okH L f
  | (g, F) :: l, h, f => by
    intro ρ args hp K r hr
    simp only [callHOf] at hr
    cases hb : Nat.beq f g
    · rw [hb] at hr
      exact callHOf_ok (fun q hq => h q (List.mem_cons_of_mem _ hq)) f ρ args hp K r hr
    · rw [hb] at hr
      have := Nat.eq_of_beq_eq_true hb
      subst this
      exact h (f, F) (List.mem_cons_self ..) ρ args hp K r hr
theorem GoodH.nil {P : Program} {L : World → Prop} : GoodH P L [] := fun _ h => by cases h
theorem GoodH.cons {P : Program} {L : World → Prop} {g : Nat} {F : {ρ : Type} → List PV → Hp → (PV → Hp → Option ρ) → Option ρ} {l : List (Nat × ({ρ : Type} → List PV → Hp → (PV → Hp → Option ρ) → Option ρ))} (h : CallH P L g F) (k : GoodH P L l) : GoodH P L ((g, F) :: l) := fun q hq => by
  rcases List.mem_cons.1 hq with rfl | hq
  · exact h
  · exact k q hq
def callROf : List (Nat × ({ρ : Type} → List PV → Hp → (PV → Option ρ) → Option ρ)) → {ρ : Type} → Nat → List PV → Hp → (PV → Option ρ) → Option ρ
  | [], _, _, _, _, _ => none
  | (g, F) :: l, _, f, a, h, K => bif Nat.beq f g then F a h K else callROf l f a h K
def GoodR (P : Program) (L : World → Prop) (l : List (Nat × ({ρ : Type} → List PV → Hp → (PV → Option ρ) → Option ρ))) : Prop := ∀ q ∈ l, CallR P L q.1 q.2
theorem callROf_ok {P : Program} {L : World → Prop} : ∀ {l : List (Nat × ({ρ : Type} → List PV → Hp → (PV → Option ρ) → Option ρ))}, GoodR P L l → ∀ f, CallR P L f fun a h K => callROf l f a h K
  | [], _, f => none_okR L f
  | (g, F) :: l, h, f => by
    intro ρ args hp K r hr
    simp only [callROf] at hr
    cases hb : Nat.beq f g
    · rw [hb] at hr
      exact callROf_ok (fun q hq => h q (List.mem_cons_of_mem _ hq)) f ρ args hp K r hr
    · rw [hb] at hr
      have := Nat.eq_of_beq_eq_true hb
      subst this
      exact h (f, F) (List.mem_cons_self ..) ρ args hp K r hr
theorem GoodR.nil {P : Program} {L : World → Prop} : GoodR P L [] := fun _ h => by cases h
theorem GoodR.cons {P : Program} {L : World → Prop} {g : Nat} {F : {ρ : Type} → List PV → Hp → (PV → Option ρ) → Option ρ} {l : List (Nat × ({ρ : Type} → List PV → Hp → (PV → Option ρ) → Option ρ))} (h : CallR P L g F) (k : GoodR P L l) : GoodR P L ((g, F) :: l) := fun q hq => by
  rcases List.mem_cons.1 hq with rfl | hq
  · exact h
  · exact k q hq
/-- What is told of a function's operations: which box goes to the heap; which load reads an owned slice; which call may turn the heap. -/
structure Ops where
  esc : List Nat
  own : List Nat
  hot : List Nat
  cool : List Nat
def Ops.none : Ops := ⟨[], [], [], []⟩
def memB : List Nat → Nat → Bool
  | [], _ => false
  | x :: l, n => bif Nat.beq x n then true else memB l n
/-- What is told of a program. -/
structure Tab where
  kd : Nat → Option Kd
  eq : Nat → Bool
  fs : List (Nat × Spec)
  hs : List (Nat × ({ρ : Type} → List PV → Hp → (PV → Hp → Option ρ) → Option ρ))
  rs : List (Nat × ({ρ : Type} → List PV → Hp → (PV → Option ρ) → Option ρ))
  is : List (Nat × ({ρ : Type} → List PV → Hp → Yd ρ → (Hp → Option ρ) → Option ρ))
def Tab.cx (T : Tab) (live : Nat → List Nat) (o : Ops) : Cx := ⟨T.kd, live, memB o.esc, memB o.own, memB o.hot, memB o.cool, T.eq, fun f a K => callOf T.fs f a K, fun f a h K => callHOf T.hs f a h K, fun f a h K => callROf T.rs f a h K, fun f a h Y fin => iterOf T.is f a h Y fin⟩
structure TabOK (P : Program) (L : World → Prop) (T : Tab) : Prop where
  kd : ∀ t k, T.kd t = some k → Fits P k t
  eq : ∀ t k, T.eq t = true → T.kd t = some k → EqOK P k t
  fs : Good P L T.fs
  hs : GoodH P L T.hs
  rs : GoodR P L T.rs
  is : GoodI P L T.is
theorem TabOK.cx {P : Program} {L : World → Prop} {T : Tab} (h : TabOK P L T) (live : Nat → List Nat) (o : Ops) : CxOK P L (T.cx live o) := ⟨h.kd, h.eq, callOf_ok h.fs, callHOf_ok h.hs, callROf_ok h.rs, iterOf_ok h.is⟩
/-- What is known of a program's functions beside their text. -/
structure FnIs (P : Program) (f : FuncId) (fn : Func) : Prop where
  at_ : P.funcs[f]? = some fn
  name : (fn.name == "runtime.NumGoroutine") = false
  body : fn.body.isSome = true
def noY : {ρ : Type} → Yd ρ := fun _ _ _ => none
theorem freeP_ofDen {k : Kd} (hk : k.free = true) (x : k.den) : freeP (ofDen k x) = true := by
  cases k <;> first | rfl | exact hk
theorem freeP_encL : ∀ {ks : List Kd}, ks.all Kd.free = true → ∀ (x : denL ks), (encL ks x).all freeP = true
  | [], _, _ => rfl
  | k :: ks, hk, x => by
    rw [List.all_cons, Bool.and_eq_true] at hk
    show (ofDen k x.1 :: encL ks x.2).all freeP = true
    rw [List.all_cons, freeP_ofDen hk.1, freeP_encL hk.2]
    rfl
theorem freeP_tupL : ∀ {k : Kd}, k.free = true → ∀ (x : k.den), freeP (.tup (tupL k x)) = true
  | .pair a b, hk, x => by
    rw [Kd.free, Bool.and_eq_true] at hk
    have := freeP_tupL hk.2 x.2
    show (a.free && (tupL b x.2).all fun q => q.1.free) = true
    rw [hk.1, Bool.true_and]
    exact this
  | .int _, _, _ => rfl
  | .bool, _, _ => rfl
  | .str, _, _ => rfl
  | .unit, _, _ => rfl
  | .list _, _, _ => rfl
  | .ptr, _, _ => rfl
  | .fn, _, _ => rfl
  | .err, _, _ => rfl
/-- The law for printed functions. -/
theorem spec_ok {P : Program} {T : Tab} {live : Nat → List Nat} {o : Ops} {f : FuncId} {fn : Func} {R : Type} {ks : List Kd} {F : denL ks → Option R} {enc : R → PV} {fin : PV → Option R}
    {L : World → Prop} (hLs : Stays L) (hT : TabOK P L T) (hm : P.follows .mixedOrders = true) (hf : FnIs P f fn) (hks : ks.all Kd.free = true) (hR : ∀ r, freeP (enc r) = true)
    (he : ∀ p r, fin p = some r → p = enc r) (n : Nat) (h : ∀ x, run (T.cx live o) noY n fn (encL ks x) [] (fun p _ => fin p) = F x) : CallOK P L f (Spec.of ks F enc).go :=
  fn_ok hLs (hT.cx live o) hm hf.at_ hf.name hf.body fun ρ args K r hr => by
    simp only [Spec.of] at hr
    obtain ⟨x, hx, hr1⟩ := Option.bind_eq_some_iff.1 hr
    obtain ⟨s, hs, hr2⟩ := Option.bind_eq_some_iff.1 hr1
    clear hr hr1
    obtain rfl := decL_eq hx
    exact ⟨freeP_encL hks x, R, fin, s, n, by rw [← hs]; exact h x, fun q hq => by rw [he q s hq]; exact ⟨hr2, hR s⟩⟩
/-- Rounds enough. -/
def FUEL : Nat := 9223372036854775808
end Go.Pv
