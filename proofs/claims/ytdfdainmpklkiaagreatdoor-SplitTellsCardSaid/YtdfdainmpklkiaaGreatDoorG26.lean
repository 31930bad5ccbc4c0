/- Printed functions that turn or read the heap, and those that loops go over. -/
import Derived.Test.YtdfdainmpklkiaaGreatDoorG25
set_option linter.unusedVariables false
set_option linter.unusedSimpArgs false
namespace Go.Pv
/-- What a function value has of its surroundings: a plain value, or a box that is no more written. -/
inductive Cf where
  | pl (k : Kd)
  | ac (ks : List Kd) (off : Nat)
@[reducible] def Cf.den : Cf → Type
  | .pl k => k.den
  | .ac ks _ => denL ks
def Cf.dec : (c : Cf) → PV → Option c.den
  | .pl k, p => argD k p
  | .ac ks off, .ac ps off' => bif Nat.beq off off' then decL ks ps else none
  | _, _ => none
def Cf.enc : (c : Cf) → c.den → PV
  | .pl k, x => ofDen k x
  | .ac ks off, x => .ac (encL ks x) off
theorem Cf.dec_eq : ∀ {c : Cf} {p : PV} {x : c.den}, c.dec p = some x → p = c.enc x
  | .pl k, p, x, h => argD_eq h
  | .ac ks off, p, x, h => by
    cases p with
    | ac ps off' =>
      simp only [Cf.dec] at h
      cases hb : Nat.beq off off' with
      | false => rw [hb] at h; cases h
      | true =>
        rw [hb] at h
        have := Nat.eq_of_beq_eq_true hb
        subst this
        rw [decL_eq h]; rfl
    | _ => cases h
@[reducible] def cdenL : List Cf → Type
  | [] => Unit
  | c :: cs => c.den × cdenL cs
def cdecL : (cs : List Cf) → List PV → Option (cdenL cs)
  | [], [] => some ()
  | c :: cs, p :: ps => (c.dec p).bind fun x => (cdecL cs ps).bind fun y => some (x, y)
  | _, _ => none
def cencL : (cs : List Cf) → cdenL cs → List PV
  | [], _ => []
  | c :: cs, x => c.enc x.1 :: cencL cs x.2
theorem cdecL_eq : ∀ {cs : List Cf} {ps : List PV} {x : cdenL cs}, cdecL cs ps = some x → ps = cencL cs x
  | [], [], _, _ => rfl
  | c :: cs, p :: ps, x, h => by
    simp only [cdecL] at h
    obtain ⟨y, hy, h⟩ := Option.bind_eq_some_iff.1 h
    obtain ⟨z, hz, h⟩ := Option.bind_eq_some_iff.1 h
    injection h with h
    subst h
    rw [Cf.dec_eq hy, cdecL_eq hz]; rfl
  | [], _ :: _, _, h => by cases h
  | _ :: _, [], _, h => by cases h
/-- What a parameter is. -/
inductive Fm where
  | a (c : Cf)
  | clo (f : Nat) (cs : List Cf)
  | hr (k : Kd)
@[reducible] def Fm.den : Fm → Type
  | .a c => c.den
  | .clo _ cs => cdenL cs
  | .hr _ => Nat × Nat
def Fm.dec : (f : Fm) → PV → Option f.den
  | .a c, p => c.dec p
  | .clo f cs, .clo g ps => bif Nat.beq f g then cdecL cs ps else none
  | .hr _, .r (.b (.h i) o) => some (i, o)
  | _, _ => none
def Fm.enc : (f : Fm) → f.den → PV
  | .a c, x => c.enc x
  | .clo f cs, x => .clo f (cencL cs x)
  | .hr _, x => .r (.b (.h x.1) x.2)
theorem Fm.dec_eq : ∀ {f : Fm} {p : PV} {x : f.den}, f.dec p = some x → p = f.enc x
  | .a c, p, x, h => Cf.dec_eq h
  | .clo f cs, p, x, h => by
    cases p with
    | clo g ps =>
      simp only [Fm.dec] at h
      cases hb : Nat.beq f g with
      | false => rw [hb] at h; cases h
      | true =>
        rw [hb] at h
        have := Nat.eq_of_beq_eq_true hb
        subst this
        rw [cdecL_eq h]; rfl
    | _ => cases h
  | .hr k, p, x, h => by
    cases p with
    | r n => cases n with
      | t n => cases h
      | b b o => cases b with
        | s b => cases h
        | h i => simp only [Fm.dec, Option.some.injEq] at h; rw [← h]; rfl
    | _ => cases h
@[reducible] def fdenL : List Fm → Type
  | [] => Unit
  | f :: fs => f.den × fdenL fs
def fdecL : (fs : List Fm) → List PV → Option (fdenL fs)
  | [], [] => some ()
  | f :: fs, p :: ps => (f.dec p).bind fun x => (fdecL fs ps).bind fun y => some (x, y)
  | _, _ => none
def fencL : (fs : List Fm) → fdenL fs → List PV
  | [], _ => []
  | f :: fs, x => f.enc x.1 :: fencL fs x.2
theorem fdecL_eq : ∀ {fs : List Fm} {ps : List PV} {x : fdenL fs}, fdecL fs ps = some x → ps = fencL fs x
  | [], [], _, _ => rfl
  | f :: fs, p :: ps, x, h => by
    simp only [fdecL] at h
    obtain ⟨y, hy, h⟩ := Option.bind_eq_some_iff.1 h
    obtain ⟨z, hz, h⟩ := Option.bind_eq_some_iff.1 h
    injection h with h
    subst h
    rw [Fm.dec_eq hy, fdecL_eq hz]; rfl
  | [], _ :: _, _, h => by cases h
  | _ :: _, [], _, h => by cases h
/-! ### Answers -/
/-- How an answer is told to who called. -/
structure An (R : Type) where
  go : {ρ : Type} → R → (PV → Option ρ) → Option ρ
  fin : PV → Option R
  eq : ∀ {p r}, fin p = some r → ∀ {ρ : Type} (K : PV → Option ρ), go r K = K p
def An.v (k : Kd) : An k.den := ⟨fun r K => K (ofDen k r), argD k, fun h _ K => by rw [argD_eq h]⟩
def An.o (m : Bool) (k : Kd) : An (List k.den) := ⟨fun r K => K (.o m k r), ownD m k, fun h _ K => by rw [ownD_eq h]⟩
def An.tup (k : Kd) : An k.den := ⟨fun r K => K (.tup (tupL k r)), tupsD k, fun h _ K => by rw [tupsD_eq h]⟩
def An.clo (f : Nat) (cs : List Cf) : An (cdenL cs) := ⟨fun r K => K (.clo f (cencL cs r)), (Fm.clo f cs).dec, fun h _ K => by rw [Fm.dec_eq (f := .clo f cs) h]; rfl⟩
/-- A slice that a cell of the heap's has. -/
def An.hr (k : Kd) : An (Nat × Nat) := ⟨fun r K => K (.r (.b (.h r.1) r.2)), (Fm.hr k).dec, fun h _ K => by rw [Fm.dec_eq (f := .hr k) h]; rfl⟩
/-- An element of a slice that a cell of the heap's has; or none. -/
def rhD (k : Kd) : PV → Option (Option (Nat × Nat × Int))
  | .p none => some none
  | .rh k' i o j [] => if k' = k then some (some (i, o, j)) else none
  | _ => none
def rhE (k : Kd) : Option (Nat × Nat × Int) → PV
  | none => .p none
  | some q => .rh k q.1 q.2.1 q.2.2 []
theorem rhD_eq {k : Kd} {p : PV} {r : Option (Nat × Nat × Int)} (h : rhD k p = some r) : p = rhE k r := by
  cases p with
  | p x => cases x with
    | none => simp only [rhD, Option.some.injEq] at h; rw [← h]; rfl
    | some x => cases h
  | rh k' i o j path => cases path with
    | nil =>
      simp only [rhD] at h
      split at h
      · rename_i hk; subst hk; simp only [Option.some.injEq] at h; rw [← h]; rfl
      · cases h
    | cons _ _ => cases h
  | _ => cases h
def An.rh (k : Kd) : An (Option (Nat × Nat × Int)) :=
  ⟨fun r K => match r with
    | none => K (.p none)
    | some q => K (.rh k q.1 q.2.1 q.2.2 []), rhD k, fun {p r} h _ K => by rw [rhD_eq h]; cases r <;> rfl⟩
/-! ### Contracts -/
abbrev HF := {ρ : Type} → List PV → Hp → (PV → Hp → Option ρ) → Option ρ
abbrev RF := {ρ : Type} → List PV → Hp → (PV → Option ρ) → Option ρ
abbrev IF := {ρ : Type} → List PV → Hp → Yd ρ → (Hp → Option ρ) → Option ρ
def hSpec {R : Type} (fs : List Fm) (A : An R) (F : fdenL fs → Hp → Option (R × Hp)) : HF := fun a h K => (fdecL fs a).bind fun x => (F x h).bind fun r => A.go r.1 fun p => K p r.2
def rSpec {R : Type} (fs : List Fm) (A : An R) (F : fdenL fs → Hp → Option R) : RF := fun a h K => (fdecL fs a).bind fun x => (F x h).bind fun r => A.go r K
/-- A yield of typed values. -/
def yw (ys : List Kd) {ρ : Type} (Y : Yd ρ) : denL ys → Hp → (Bool → Hp → Option ρ) → Option ρ := fun y h k => Y (encL ys y) h k
def iSpec (fs : List Fm) (ys : List Kd) (F : {ρ : Type} → fdenL fs → (denL ys → Hp → (Bool → Hp → Option ρ) → Option ρ) → Hp → (Hp → Option ρ) → Option ρ) : IF := fun a h Y fin => (fdecL fs a).bind fun x => F x (yw ys Y) h fin
def finH {R : Type} (A : An R) : PV → Hp → Option (R × Hp) := fun p h => (A.fin p).bind fun r => some (r, h)
/-- A plain function, by forms. -/
def pSpec {R : Type} (fs : List Fm) (A : An R) (F : fdenL fs → Option R) : Spec := ⟨fun a K => (fdecL fs a).bind fun x => (F x).bind fun r => A.go r K⟩
def Cf.free : Cf → Bool
  | .pl k => k.free
  | .ac ks _ => ks.all fun k => k.free
def Fm.free : Fm → Bool
  | .a c => c.free
  | .clo _ cs => cs.all Cf.free
  | .hr _ => false
theorem free0_ofDen {k : Kd} (hk : k.free = true) (x : k.den) : free0 (ofDen k x) = true := by
  cases k <;> first | rfl | exact hk
theorem free0_encL : ∀ {ks : List Kd}, (ks.all fun k => k.free) = true → ∀ (x : denL ks), (encL ks x).all free0 = true
  | [], _, _ => rfl
  | k :: ks, hk, x => by
    rw [List.all_cons, Bool.and_eq_true] at hk
    show (ofDen k x.1 :: encL ks x.2).all free0 = true
    rw [List.all_cons, free0_ofDen hk.1, free0_encL hk.2]
    rfl
theorem hSpec_ok {P : Program} {T : Tab} {live : Nat → List Nat} {o : Ops} {f : FuncId} {fn : Func} {R : Type} {fs : List Fm} {A : An R} {F : fdenL fs → Hp → Option (R × Hp)}
    {L : World → Prop} (hT : TabOK P L T) (hm : P.follows .mixedOrders = true) (hf : FnIs P f fn) (n : Nat) (h : ∀ x h, run (T.cx live o) noY n fn (fencL fs x) h (finH A) = F x h) : CallH P L f (hSpec fs A F) :=
  fn_okH (hT.cx live o) hm hf.at_ hf.name hf.body fun ρ args hp K r hr => by
    simp only [hSpec] at hr
    obtain ⟨x, hx, hr1⟩ := Option.bind_eq_some_iff.1 hr
    obtain ⟨s, hs, hr2⟩ := Option.bind_eq_some_iff.1 hr1
    clear hr hr1
    obtain rfl := fdecL_eq hx
    refine ⟨R × Hp, finH A, s, n, by rw [← hs]; exact h x hp, fun p h' hp' => ?_⟩
    obtain ⟨r0, h1, h2⟩ := Option.bind_eq_some_iff.1 hp'
    injection h2 with h2
    subst h2
    rw [A.eq h1] at hr2
    exact hr2
theorem rSpec_ok {P : Program} {T : Tab} {live : Nat → List Nat} {o : Ops} {f : FuncId} {fn : Func} {R : Type} {fs : List Fm} {A : An R} {F : fdenL fs → Hp → Option R}
    {L : World → Prop} (hT : TabOK P L T) (hm : P.follows .mixedOrders = true) (hf : FnIs P f fn) (hcalm : calmC (T.cx live o) (Func.code fn) = true) (hA : ∀ p r, A.fin p = some r → isO p = false) (n : Nat)
    (h : ∀ x h, run (T.cx live o) noY n fn (fencL fs x) h (finH A) = (F x h).bind fun r => some (r, h)) : CallR P L f (rSpec fs A F) :=
  fn_okR (hT.cx live o) hm hf.at_ hf.name hf.body hcalm fun ρ args hp K r hr => by
    simp only [rSpec] at hr
    obtain ⟨x, hx, hr1⟩ := Option.bind_eq_some_iff.1 hr
    obtain ⟨s, hs, hr2⟩ := Option.bind_eq_some_iff.1 hr1
    clear hr hr1
    obtain rfl := fdecL_eq hx
    refine ⟨R × Hp, finH A, (s, hp), n, (h x hp).trans (by rw [hs]; rfl), fun p h' hp' => ?_⟩
    obtain ⟨r0, h1, h2⟩ := Option.bind_eq_some_iff.1 hp'
    injection h2 with h2
    injection h2 with h2 h3
    subst h2; subst h3
    rw [A.eq h1] at hr2
    exact ⟨hr2, hA p r0 h1, rfl⟩
theorem Cf.free_enc {c : Cf} (hc : c.free = true) (x : c.den) : free1 (c.enc x) = true := by
  cases c with
  | pl k => have := free0_ofDen hc x; cases k <;> first | rfl | exact this
  | ac ks off => exact free0_encL hc x
theorem cfree_enc : ∀ {cs : List Cf}, cs.all Cf.free = true → ∀ (x : cdenL cs), (cencL cs x).all free1 = true
  | [], _, _ => rfl
  | c :: cs, hc, x => by
    rw [List.all_cons, Bool.and_eq_true] at hc
    show (c.enc x.1 :: cencL cs x.2).all free1 = true
    rw [List.all_cons, Cf.free_enc hc.1, cfree_enc hc.2]
    rfl
theorem Fm.free_enc {f : Fm} (hf : f.free = true) (x : f.den) : freeP (f.enc x) = true := by
  cases f with
  | a c => cases c with
    | pl k => exact freeP_ofDen hf x
    | ac ks off => exact free0_encL hf x
  | clo g cs => exact cfree_enc hf x
  | hr k => cases hf
theorem ffree_enc : ∀ {fs : List Fm}, fs.all Fm.free = true → ∀ (x : fdenL fs), (fencL fs x).all freeP = true
  | [], _, _ => rfl
  | f :: fs, hf, x => by
    rw [List.all_cons, Bool.and_eq_true] at hf
    show (f.enc x.1 :: fencL fs x.2).all freeP = true
    rw [List.all_cons, Fm.free_enc hf.1, ffree_enc hf.2]
    rfl
theorem pSpec_ok {P : Program} {T : Tab} {live : Nat → List Nat} {o : Ops} {f : FuncId} {fn : Func} {R : Type} {fs : List Fm} {A : An R} {F : fdenL fs → Option R}
    {L : World → Prop} (hLs : Stays L) (hT : TabOK P L T) (hm : P.follows .mixedOrders = true) (hf : FnIs P f fn) (hfs : fs.all Fm.free = true) (hA : ∀ p r, A.fin p = some r → freeP p = true) (n : Nat)
    (h : ∀ x, run (T.cx live o) noY n fn (fencL fs x) [] (fun p _ => A.fin p) = F x) : CallOK P L f (pSpec fs A F).go :=
  fn_ok hLs (hT.cx live o) hm hf.at_ hf.name hf.body fun ρ args K r hr => by
    simp only [pSpec] at hr
    obtain ⟨x, hx, hr1⟩ := Option.bind_eq_some_iff.1 hr
    obtain ⟨s, hs, hr2⟩ := Option.bind_eq_some_iff.1 hr1
    clear hr hr1
    obtain rfl := fdecL_eq hx
    exact ⟨ffree_enc hfs x, R, A.fin, s, n, by rw [← hs]; exact h x, fun q hq => ⟨by rw [← A.eq hq K]; exact hr2, hA q s hq⟩⟩
theorem An.v_f {k : Kd} (hk : k.free = true) : ∀ p r, (An.v k).fin p = some r → freeP p = true := fun p r h => by rw [argD_eq h]; exact freeP_ofDen hk r
theorem An.o_f {m : Bool} {k : Kd} (hk : k.free = true) : ∀ p r, (An.o m k).fin p = some r → freeP p = true := fun p r h => by rw [ownD_eq h]; exact hk
theorem An.tup_f {k : Kd} (hk : k.free = true) : ∀ p r, (An.tup k).fin p = some r → freeP p = true := fun p r h => by rw [tupsD_eq h]; exact freeP_tupL hk r
theorem An.clo_f {f : Nat} {cs : List Cf} (hc : cs.all Cf.free = true) : ∀ p r, (An.clo f cs).fin p = some r → freeP p = true := fun p r h => by rw [Fm.dec_eq (f := .clo f cs) h]; exact cfree_enc hc r
theorem iSpec_ok {P : Program} {T : Tab} {live : Nat → List Nat} {o : Ops} {f : FuncId} {fn : Func} {fs : List Fm} {ys : List Kd} {F : {ρ : Type} → fdenL fs → (denL ys → Hp → (Bool → Hp → Option ρ) → Option ρ) → Hp → (Hp → Option ρ) → Option ρ}
    {L : World → Prop} (hT : TabOK P L T) (hm : P.follows .mixedOrders = true) (hf : FnIs P f fn) (n : Nat) (h : ∀ {ρ : Type} (Y : Yd ρ) x h fin, run (T.cx live o) Y n fn (.yl :: fencL fs x) h (fun _ h => fin h) = F x (yw ys Y) h fin) : IterOK P L f (iSpec fs ys F) :=
  fn_okI (hT.cx live o) hm hf.at_ hf.name hf.body fun ρ args hp Y fin r hr => by
    simp only [iSpec] at hr
    obtain ⟨x, hx, hr1⟩ := Option.bind_eq_some_iff.1 hr
    clear hr
    obtain rfl := fdecL_eq hx
    exact ⟨n, by rw [h Y x hp fin]; exact hr1⟩
theorem An.v_o {k : Kd} : ∀ p r, (An.v k).fin p = some r → isO p = false := fun p r h => by rw [argD_eq h]; cases k <;> rfl
theorem An.tup_o {k : Kd} : ∀ p r, (An.tup k).fin p = some r → isO p = false := fun p r h => by rw [tupsD_eq h]; rfl
theorem An.clo_o {f : Nat} {cs : List Cf} : ∀ p r, (An.clo f cs).fin p = some r → isO p = false := fun p r h => by rw [Fm.dec_eq (f := .clo f cs) h]; rfl
theorem An.hr_o {k : Kd} : ∀ p r, (An.hr k).fin p = some r → isO p = false := fun p r h => by rw [Fm.dec_eq (f := .hr k) h]; rfl
theorem An.rh_o {k : Kd} : ∀ p r, (An.rh k).fin p = some r → isO p = false := fun p r h => by rw [rhD_eq h]; cases r <;> rfl
/-- A heap's cell is written in its place. -/
def hset (h : Hp) (i o : Nat) (p : PV) : Hp := h.set i (.c ((Hcs h i).set o p))
theorem bif_nat {α β : Type} {b : Bool} {x y : Option β} {x2 y2 : Option α} {f : α → Option β} (hx : x = x2.bind f) (hy : y = y2.bind f) : (bif b then x else y) = (bif b then x2 else y2).bind f := by cases b <;> assumption
theorem bind_nat {α β γ : Type} {X : Option γ} {A : γ → Option β} {B : γ → Option α} {f : α → Option β} (h : ∀ v, A v = (B v).bind f) : X.bind A = (X.bind B).bind f := by
  cases X with
  | none => rfl
  | some v => exact h v
theorem bif_bind {α β : Type} {b : Bool} {x y : Option α} {f : α → Option β} : (bif b then x else y).bind f = bif b then x.bind f else y.bind f := by cases b <;> rfl
end Go.Pv
