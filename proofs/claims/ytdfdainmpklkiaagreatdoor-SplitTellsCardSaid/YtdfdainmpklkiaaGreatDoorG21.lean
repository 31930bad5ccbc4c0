/- A loop over a function: the law; code. -/
import Derived.Test.YtdfdainmpklkiaaGreatDoorG20
set_option linter.unusedVariables false
set_option linter.unusedSimpArgs false
namespace Go.Pv
open Go.RowKit
section
variable {P : Program} {c : Cx} {M : Mem} {e : Env} {a : Act} {w : World} {ρ : Type} {r : ρ} {Y : Yd ρ}
/-- A code's law, in a frame. -/
def Walks (P : Program) (L J : World → Prop) (G0 : Com) (c : Cx) {ρ : Type} (Y : Yd ρ) (n : Nat) (r : ρ) (ro : Option Nat) (bl : Nat) (cd : Code) : Prop :=
  ∀ {M : Mem} {e : Env} {a : Act} {w : World} {K : Out → Env → Option ρ} {Q : Exit → Act → World → Prop}, G0.le M.G → LW J M w → St M e a w → LW L M w → codeK c Y n bl cd e K = some r → After (calmC c cd) M w K r Q → (∀ ch a w, ¬ Q (.panic ch) a w) → cd.wpIn (FW ro) 0 P Q a w
abbrev recOf (fn : FuncId) (t : Array Value) (ps : Array Tmp) (x y : Code) (D : Nat) : Loop := { state := .ready, pending := none, fn := fn, tmps := t, params := ps, assign := x, body := y, defers := D }
/-- A round. -/
theorem round_ok {L J : World → Prop} {G0 : Com} {n bl : Nat} {x y : Code} {ps : Array Tmp} {M3 : Mem} {e3 : Env} {a3 : Act} {w3 : World} {i l fn D : Nat}
    (ihx : Walks P L J G0 c Y n r (some l) bl x) (ihy : Walks P L J G0 c Y n r (some l) bl y)
    (hG0 : G0.le M3.G) (hs3 : St M3 e3 a3 w3) (hcl : ∀ n, closedP (unheap (e3.slot n)) = true) (hbx : ∀ d, e3.box (.s d) = [])
    (hlr : M3.G.lr i = recOf fn a3.tmps ps x y D) (hadr : M3.G.adr i = l) (hin : i < M3.G.n) :
    YieldOK P L (fun w => J w ∧ Bel (M3.sub e3 a3 w3) w3 w) ((M3.sub e3 a3 w3).yl l).G (fun as h k => bif readyB h i && (Nat.beq as.length ps.size && as.all noYl) then
          codeK c Y n bl x ((e3.withH h).enter ps.toList as) fun x e1 => match x with
          | .normal => bif readyB e1.h i then codeK c Y n bl y (e1.withH (e1.h.set i (.lp 1))) fun x e2 =>
            bif busyB e2.h i then match x with
            | .normal => k true (e2.h.set i (.lp 0))
            | .ret => k false (e2.h.set i (.lp 2))
            | .exit j => k false (e2.h.set i (.lp (j + 3))) else none else none
          | _ => none else none) r := by
  intro as hh k hk Mr wr vs hGr hB hJr hargs
  dsimp only at hk
  cases hc1 : (readyB hh i && (Nat.beq as.length ps.size && as.all noYl)) with
  | false => rw [hc1] at hk; cases hk
  | true =>
  rw [hc1, cond_true] at hk
  simp only [Bool.and_eq_true] at hc1
  obtain ⟨hc1, hc2, hc3⟩ := hc1
  have hin' : i < ((M3.sub e3 a3 w3).yl l).G.n := hin
  -- where the record is, in all that follows
  have rec_ : ∀ {M' : Mem} {e' : Env} {a' : Act} {w' : World} {n' : Nat}, Mr.G.n ≤ M'.G.n → M'.G.lr i = Mr.G.lr i → M'.G.adr i = Mr.G.adr i → St M' e' a' w' → e'.h[i]? = some (.lp n') → w'.heap[l]? = some (.loop (lpObj (recOf fn a3.tmps ps x y D) n')) ∧ M'.β (.h i) = l ∧ M'.G.lr i = recOf fn a3.tmps ps x y D := by
    intro M' e' a' w' n' hn q1 q2 hs' hi'
    have q1 : M'.G.lr i = recOf fn a3.tmps ps x y D := by rw [q1, hGr.lr i hin']; exact hlr
    have q2 : M'.G.adr i = l := by rw [q2, hGr.adr i hin']; exact hadr
    have hβ : M'.β (.h i) = l := by rw [← hs'.ha.2 i (Nat.lt_of_lt_of_le hin' (Nat.le_trans hGr.n hn)), q2]
    obtain ⟨_, k2, _⟩ := hs'.lk i n' hi'
    rw [hβ, q1] at k2
    exact ⟨k2, hβ, q1⟩
  obtain ⟨hl0, hβ0, _⟩ := rec_ (Nat.le_refl _) rfl rfl hB.hs (readyB_spec hc1)
  have hl0 : wr.heap[l]? = some (.loop (recOf fn a3.tmps ps x y D)) := hl0
  have hvs : vs.size = ps.size := by
    have h1 := hargs.len
    have h2 := Nat.eq_of_beq_eq_true hc2
    simp at h1
    omega
  refine ⟨_, _, _, _, run_yield hl0 hvs, roundIn_of_wpIn trivial ?_⟩
  -- the round's frame
  have hG5 : M3.G.le (Mr.yl M3.G.yl).G := ⟨hGr.c, hGr.n, hGr.adr, hGr.lr, rfl⟩
  have hkp : Keeps M3.G w3 wr := keeps_of_blocks fun g o hg => hJr.here.2.block g (hs3.cb g o hg) fun hh => (HL.mine hs3 hh).2.2.1 o hg
  have hs5 : HS (Mr.yl M3.G.yl) hh wr := HS.yl hB.hs _
  have hst := St.enter ps.toList as vs.toList (St.round hs3 hcl hbx hs5 rfl hG5 hkp) rfl (noYl_args (l := M3.G.yl) hc3 hargs)
  have htm : (ps.zip vs).foldl (fun tmps (t, v) => tmps.setIfInBounds t v) a3.tmps = (ps.toList.zip vs.toList).foldl (fun tmps (t, v) => tmps.setIfInBounds t v) a3.tmps := by
    rw [← Array.foldl_toList, Array.toList_zip]
  show x.wpIn (FW (some l)) 0 P _ { tmps := (ps.zip vs).foldl (fun tmps (t, v) => tmps.setIfInBounds t v) a3.tmps, defers := [] } wr
  rw [htm]
  have hJ5 : LW J (Mr.yl M3.G.yl) wr := fun w' hb => (hJr w' (Bel.key (M := Mr) (M' := Mr.yl M3.G.yl) rfl hb)).1
  have hL5 : LW L (Mr.yl M3.G.yl) wr := fun w' hb => hB.lw w' (Bel.key (M := Mr) (M' := Mr.yl M3.G.yl) rfl hb)
  refine ihx (hG0.trans hG5) hJ5 hst hL5 hk (fun z M6 e6 a6 w6 hM6 hs6 hb6 _ hk6 => ?_) (fun ch a w hh => hh)
  cases z with
  | exit j => cases hk6
  | ret => cases hk6
  | normal =>
    cases hc6 : readyB e6.h i with
    | false => rw [hc6] at hk6; cases hk6
    | true =>
    rw [hc6, cond_true] at hk6
    have hin5 : i < Mr.G.n := Nat.lt_of_lt_of_le hin' hGr.n
    obtain ⟨hl6, hβ6, hlr6⟩ := rec_ hM6.2.n (hM6.2.lr i hin5) (hM6.2.adr i hin5) hs6 (readyB_spec hc6)
    obtain ⟨hs7, hb7⟩ := hs6.setLp (readyB_spec hc6) (.lp 1) _ (.inr ⟨1, rfl, rfl⟩)
    rw [hβ6, hlr6] at hs7 hb7
    refine ⟨_, run_beginRound hl6 rfl, ?_⟩
    have hM7 : (Mr.yl M3.G.yl).Le M6 := hM6
    have hb7' : Bel (Mr.yl M3.G.yl) wr (w6.putObj l (.loop (lpObj (recOf fn a3.tmps ps x y D) 1))) := hb6.trans (Bel.key hM6.1 hb7)
    refine ihy (hG0.trans (hG5.trans hM6.2)) (hJ5.next hM7 hb7') hs7 (hL5.next hM7 hb7') hk6 (fun z M8 e8 a8 w8 hM8 hs8 hb8 _ hk8 => ?_) (fun ch a w hh => hh)
    cases hc8 : busyB e8.h i with
    | false => rw [hc8] at hk8; cases hk8
    | true =>
    rw [hc8, cond_true] at hk8
    have hin6 : i < M6.G.n := Nat.lt_of_lt_of_le hin5 hM6.2.n
    obtain ⟨hl8, hβ8, hlr8⟩ := rec_ (Nat.le_trans hM6.2.n hM8.2.n) ((hM8.2.lr i hin6).trans (hM6.2.lr i hin5)) ((hM8.2.adr i hin6).trans (hM6.2.adr i hin5)) hs8 (busyB_spec hc8)
    have hM8' := hM7.trans hM8
    have hle : Mr.Le (M8.yl l) := ⟨hM8'.1, hM8'.2.c, hM8'.2.n, hM8'.2.adr, hM8'.2.lr, hGr.yl.symm⟩
    have hb8' : Bel Mr wr w8 := Bel.key (M := Mr) (M' := Mr.yl M3.G.yl) rfl (hb7'.trans (Bel.key hM7.1 hb8))
    have fin : ∀ (m : Nat) (b : Bool), k b (e8.h.set i (.lp m)) = some r → ∃ b' M' h', (Ending.returned (.bool b) : Ending) = .returned (.bool b') ∧ k b' h' = some r ∧ Mr.Le M' ∧ HS M' h' (w8.putObj l (.loop (lpObj (recOf fn a3.tmps ps x y D) m))) ∧ Bel Mr wr (w8.putObj l (.loop (lpObj (recOf fn a3.tmps ps x y D) m))) := fun m b hkb => by
      obtain ⟨hs9, hb9⟩ := hs8.setLp (busyB_spec hc8) (.lp m) _ (.inr ⟨m, rfl, rfl⟩)
      rw [hβ8, hlr8] at hs9 hb9
      exact ⟨b, M8.yl l, _, rfl, hkb, hle, hs9.heap l, hb8'.trans (Bel.key (M := Mr) (M' := M8) hM8'.1 hb9)⟩
    cases z with
    | normal => exact ⟨_, _, run_endRound none hl8, fin 0 true hk8⟩
    | ret => exact ⟨_, _, run_endRound (some .ret) hl8, fin 2 false hk8⟩
    | exit j =>
      refine ⟨_, _, run_endRound (some (.exit j)) hl8, ?_⟩
      have := fin (j + 3) false hk8
      rw [lpObj_exit] at this
      exact this
theorem Bel.ofYl {l : Nat} {w w' : World} (h : Bel (M.yl l) w w') : Bel M w w' := Bel.key (M := M) (M' := M.yl l) rfl h
theorem range_resolve {g : Operand} {f l : Nat} {vs : List Value} (hv : a.eval g = .func (.func f) #[] vs.toArray) (w : World) : (resolve a.eval (rangeCall g l) 0).run P w = .ok { target := .fn (.func f) vs.toArray, args := #[.func (.yield l) #[] #[]] } w := by
  simp only [resolve, hv, Deferred.ofValue, Sem.run_bind, Sem.run_pure, Result.andThen_ok, Array.empty_append, List.map_toArray, List.map_cons, List.map_nil]
  rfl
theorem lpObj_state (r : Loop) {m : Nat} (hm : m ≠ 1) : (lpObj r m).state ≠ .busy := by
  unfold lpObj
  by_cases h0 : m = 0
  · rw [if_pos h0]; intro hh; cases hh
  · rw [if_neg h0, if_neg hm]
    by_cases h2 : m = 2
    · rw [if_pos h2]; intro hh; cases hh
    · rw [if_neg h2]; intro hh; cases hh
theorem range_invoke {f : Nat} {cs as : Array Value} (hf : fnOK P f) (w : World) : (invoke (.fn (.func f) cs) as).run P w = .ok (.enter f (as ++ cs)) w := by
  obtain ⟨fn', f1, f2, f3⟩ := hf
  have h4 : fn'.body.isNone = false := by simpa using f3
  simp only [invoke, callFunc, Sem.run_bind, Sem.run_pure, Result.andThen_ok, run_program, f1]
  simp [f2, h4]
theorem range_wp {L J : World → Prop} {G0 : Com} (hc : CxOK P L c) {n bl : Nat} {x y : Code} {g : Operand} {ps : Array Tmp} {f : Nat} {cs : List PV} {vs : List Value}
    (ihx : ∀ l, Walks P L J G0 c Y n r (some l) bl x) (ihy : ∀ l, Walks P L J G0 c Y n r (some l) bl y)
    {K : Out → Env → Option ρ} {Q : Exit → Act → World → Prop} (hG0 : G0.le M.G) (hJ : LW J M w) (h : St M e a w) (hL : LW L M w)
    (hv : a.eval g = .func (.func f) #[] vs.toArray) (hcs : CRs M.G w cs vs) (hok : ∀ p ∈ cs, okC p = true ∧ noYl p = true)
    (hk : c.iter f cs (e.h ++ [.lp 0])
        (fun as h k => bif readyB h e.h.length && (Nat.beq as.length ps.size && as.all noYl) then
          codeK c Y n bl x ((e.fz.withH h).enter ps.toList as) fun x e1 => match x with
          | .normal => bif readyB e1.h e.h.length then codeK c Y n bl y (e1.withH (e1.h.set e.h.length (.lp 1))) fun x e2 =>
            bif busyB e2.h e.h.length then match x with
            | .normal => k true (e2.h.set e.h.length (.lp 0))
            | .ret => k false (e2.h.set e.h.length (.lp 2))
            | .exit i => k false (e2.h.set e.h.length (.lp (i + 3))) else none else none
          | _ => none else none)
        (fun h => endB y (lpOf h e.h.length) fun x => K x (e.fz.withH (h.set e.h.length (.c [])))) = some r)
    (hA : After false M w K r Q) : (Code.rangeFunc g ps x y).wpIn (FW none) 0 P Q a w := by
  refine wpIn_rangeFunc fun fn _ => ?_
  obtain ⟨hf, hit⟩ := hc.iter f ρ cs _ _ _ r hk
  let l := w.heap.size + 1
  let r0 := recOf fn a.tmps ps x y w.heap.size
  let w1 := (w.alloc (.deferred (some []))).alloc (.loop r0)
  let a1 : Act := { a with defers := mark w.heap.size :: a.defers }
  have hs1 := h.mark
  obtain ⟨M2, k1, k2, k3, k4, hs2⟩ := hs1.newObj (.lp 0) (.loop r0) r0 (.inr ⟨0, rfl, rfl⟩)
  obtain ⟨G3, g1, g2, g3, g4, hs3⟩ := hs2.fz
  have hsz : (w.alloc (.deferred (some []))).heap.size = l := by simp [l]
  rw [hsz] at k2 k4
  have hfz : ({ e with h := e.h ++ [.lp 0] } : Env).fz = { e.fz with h := e.h ++ [.lp 0] } := fz_h e _
  have hen : M.G.n = e.h.length := h.ha.1
  let M3 : Mem := { M2 with G := G3 }
  have hM3 : M.Le M3 := ⟨k1, by rw [k2] at g1; exact (Com.le.one M.G l r0).trans g1⟩
  have hb1 : Bel M w w1 := (Bel.alloc' h _).trans (Bel.key (M := M) (M' := { M with dfs := w.heap.size :: M.dfs }) rfl (Bel.alloc' hs1 _))
  have hsub : ∀ {w2 w3 : World}, Bel (M3.sub ({ e with h := e.h ++ [.lp 0] } : Env).fz a1 w1) w2 w3 → Bel M w2 w3 := fun hb => Bel.key hM3.1 (Bel.of_sub hs3 hb)
  have hlr : M3.G.lr e.h.length = r0 := by
    show G3.lr _ = _
    rw [g3, k2]
    show (if _ then _ else _) = _
    rw [if_pos hen.symm]
  have hadr : M3.G.adr e.h.length = l := by
    show G3.adr _ = _
    rw [g4, k2]
    show (if _ then _ else _) = _
    rw [if_pos hen.symm]
  have hin : e.h.length < M3.G.n := by
    show _ < G3.n
    rw [g2, k2, ← hen]
    exact Nat.lt_succ_self _
  have hY := round_ok (fn := fn) (D := w.heap.size) (ihx l) (ihy l) (hG0.trans hM3.2) hs3 (fun n => by rw [fz_slot]; exact fzu_closed _ _) (fz_box _) hlr hadr hin
  have hcalls := hit ((M3.sub ({ e with h := e.h ++ [.lp 0] } : Env).fz a1 w1).yl l) w1 vs.toArray (fun w' => J w' ∧ Bel (M3.sub ({ e with h := e.h ++ [.lp 0] } : Env).fz a1 w1) w1 w')
    ⟨HS.yl (HS.of hs3) l, rfl, rfl, fun w' hb => hL w' (hb1.trans (hsub (Bel.ofYl hb)))⟩
    (ArgsH.of_CRs (fun p hp => (hok p hp).1) (noYl_crs (fun p hp => (hok p hp).2) (CRs.mono hM3.2 (keeps_of_blocks fun g o hg => by
      have hlt := h.cb g o hg
      have e1 := heap_alloc_old w (.deferred (some [])) g hlt
      have e2 := heap_alloc_old (w.alloc (.deferred (some []))) (.loop r0) g (by rw [hsz]; exact Nat.lt_succ_of_lt hlt)
      exact e2.trans e1) hcs)))
    (fun w' hb => ⟨hJ w' (hb1.trans (hsub (Bel.ofYl hb))), Bel.ofYl hb⟩)
    (by rw [hfz] at hY ⊢; exact hY)
  refine ⟨l, [mark w.heap.size], w1, _, w1, f, #[.func (.yield l) #[] #[]] ++ vs.toArray, w1, run_enterLoop_outer fn a.tmps ps x y, range_resolve hv w1, fun _ _ => trivial, ?_, fun hh => (by cases hh), ?_⟩
  · exact range_invoke hf w1
  · refine CallsIn.mono (callsIn_wide.2 hcalls : CallsIn Fence.wide 0 P f _ w1 _) fun en w' hen' => ?_
    cases en with
    | panicked ch => exact hen'.elim
    | outgrown => exact hen'.elim
    | returned v =>
      obtain ⟨M', h', d1, d2, d3, d4⟩ := hen'
      obtain ⟨z, hz, hcase⟩ := endB_spec d1
      have hd3 : HS (M'.yl M3.G.yl) h' w' := HS.yl d3 _
      have hle : (M3.sub ({ e with h := e.h ++ [.lp 0] } : Env).fz a1 w1).Le (M'.yl M3.G.yl) := ⟨d2.1, d2.2.c, d2.2.n, d2.2.adr, d2.2.lr, rfl⟩
      have hst := hs3.join hle hd3 (Bel.ofYl d4)
      have hMj : M3.Le (M3.join ({ e with h := e.h ++ [.lp 0] } : Env).fz a1 w1 (M'.yl M3.G.yl)) := join_le hle
      have hbj : Bel M w w' := hb1.trans (hsub (Bel.ofYl d4))
      have fin : ∀ m, lpOf h' e.h.length = m → m ≠ 1 → ∃ w4, (Instr.endLoop l).run P w' = .ok (lpObj r0 m).pending w4 ∧ Q z.exit' a1 w4 := fun m hm hm1 => by
        have hi' := lpOf_spec hm hm1
        obtain ⟨hs4, hb4⟩ := hst.setLp (i := e.h.length) (n := m) hi' (.c []) { lpObj r0 m with state := .exhausted } (.inl rfl)
        have hβ : (M3.join ({ e with h := e.h ++ [.lp 0] } : Env).fz a1 w1 (M'.yl M3.G.yl)).β (.h e.h.length) = l := by
          rw [← hst.ha.2 _ (Nat.lt_of_lt_of_le hin hMj.2.n), hMj.2.adr _ hin]; exact hadr
        rw [hβ] at hs4 hb4
        have hrec : w'.heap[l]? = some (.loop (lpObj r0 m)) := by
          obtain ⟨_, q2, _⟩ := hst.lk e.h.length m hi'
          rw [hβ, hMj.2.lr _ hin, hlr] at q2
          exact q2
        have hbusy : (lpObj r0 m).state ≠ .busy := lpObj_state r0 hm1
        refine ⟨_, run_endLoop hrec hbusy, hA z _ _ a1 _ (hM3.trans hMj) hs4 (hbj.trans (Bel.key (hM3.trans hMj).1 hb4)) (fun hh => by cases hh) ?_⟩
        rw [hfz]
        show K z ((Env.withH { e.fz with h := e.h ++ [.lp 0] } h').withH (h'.set e.h.length (.c []))) = some r
        rw [withH_withH]
        exact hz
      rcases hcase with ⟨rfl, hm⟩ | ⟨rfl, hm⟩ | ⟨j, rfl, hm⟩
      · obtain ⟨w4, e1, e2⟩ := fin 0 hm (by decide)
        exact ⟨none, w4, e1, e2⟩
      · obtain ⟨w4, e1, e2⟩ := fin 2 hm (by decide)
        exact ⟨some .ret, w4, e1, wpIn_ret e2⟩
      · obtain ⟨w4, e1, e2⟩ := fin (j + 3) hm (by omega)
        rw [lpObj_exit] at e1
        exact ⟨some (.exit j), w4, e1, wpIn_exit e2⟩
end
end Go.Pv
