/- A box more that nobody refers to makes no difference: the law. -/
import Derived.Test.YtdfdainmpklkiaaGreatDoorG16c
set_option linter.unusedVariables false
set_option linter.unusedSimpArgs false
namespace Go.Pv
open Go.RowKit
section
variable {c : Cx} {e : Env} {o : Oper} {ρ : Type} {d : Nat} {z : List PV} {Y : Yd ρ} {K K2 : Kt ρ}
theorem noRef_split : ∀ (k : Kd) (x : k.den), ∀ p ∈ split k x, NoRef d p
  | .pair a b, x => fun p hp => (List.mem_append.1 hp).elim (noRef_split a x.1 p) (noRef_split b x.2 p)
  | .unit, _ => fun p hp => by cases hp
  | .int _, _ => fun p hp => by rw [List.mem_singleton.1 hp]; exact NoRef.plain rfl
  | .bool, _ => fun p hp => by rw [List.mem_singleton.1 hp]; exact NoRef.plain rfl
  | .str, _ => fun p hp => by rw [List.mem_singleton.1 hp]; exact NoRef.plain rfl
  | .list _, _ => fun p hp => by rw [List.mem_singleton.1 hp]; exact NoRef.plain rfl
  | .ptr, _ => fun p hp => by rw [List.mem_singleton.1 hp]; exact NoRef.plain rfl
  | .fn, _ => fun p hp => by rw [List.mem_singleton.1 hp]; exact NoRef.plain rfl
  | .err, _ => fun p hp => by rw [List.mem_singleton.1 hp]; exact NoRef.plain rfl
theorem noRef_zeros : ∀ (k : Kd), ∀ p ∈ zeros k, NoRef d p
  | .pair a b => fun p hp => (List.mem_append.1 hp).elim (noRef_zeros a p) (noRef_zeros b p)
  | .unit => fun p hp => by cases hp
  | .int _ => fun p hp => by rw [List.mem_singleton.1 hp]; exact NoRef.plain rfl
  | .bool => fun p hp => by rw [List.mem_singleton.1 hp]; exact NoRef.plain rfl
  | .str => fun p hp => by rw [List.mem_singleton.1 hp]; exact NoRef.plain rfl
  | .list _ => fun p hp => by rw [List.mem_singleton.1 hp]; exact NoRef.plain rfl
  | .ptr => fun p hp => by rw [List.mem_singleton.1 hp]; exact NoRef.plain rfl
  | .fn => fun p hp => by rw [List.mem_singleton.1 hp]; exact NoRef.plain rfl
  | .err => fun p hp => by rw [List.mem_singleton.1 hp]; exact NoRef.plain rfl
theorem nat (hA : Agree d z K2 K) (hz : Bare z) (h : Cln d e) (hd : o.dst ≠ some d) (hx : ∀ x ∈ o.op.operands, x ≠ .tmp d) : opK c Y o (e.add d z) K2 = opK c Y o e K := by
  have rd : rdK c o (e.add d z) (fun p => K2 ((e.add d z).putD o.dst p)) = rdK c o e (fun p => K (e.putD o.dst p)) := rd_op hA hz h hd hx
  have put : ∀ {e1 : Env} {p : PV}, Cln d e1 → NoRef d p → K2 ((e1.add d z).putD o.dst p) = K (e1.putD o.dst p) := fun h1 hp => hA.put hz h1 hd hp
  cases ho : o.op with
  | assign x =>
    have hx1 := hx x (by simp [ho, Op.operands])
    exact assign_add hA hz h hd ho hx1 (fun p hp => noRef_nil _ hp) (fun q hq => mov_noRef h hq)
  | makeFunc f first caps =>
    cases f with
    | func f =>
      have h1 : ∀ x ∈ caps.toList, x ≠ .tmp d := fun x hm => hx x (by simp [ho, Op.operands]; exact .inr (by simpa using hm))
      simp only [opK, ho]
      split
      · rw [capsK_add hz _ h h1]
        exact bind_add fun q hq => put (capsK_cln _ h hq) (NoRef.plain rfl)
      · rfl
    | _ => simpa only [opK, ho] using rd
  | build t ps =>
    have h1 : ∀ q ∈ ps.toList, q.2 ≠ .tmp d := fun q hq => hx q.2 (by simp only [ho, Op.operands, List.mem_toArray, List.mem_map]; exact ⟨q, hq, rfl⟩)
    simp only [opK, ho]
    split
    · split
      · split
        · rw [agK_add h _ _ _ h1]
          exact obind_congr fun q hq => put h ⟨fun n hn => agK_noRef h _ _ _ _ h1 (fun n hn => absurd hn (hzeros_noR _ _ n)) hq n hn, fun off hh => by cases hh⟩
        · rw [fillK_add _ _ _ h h1]
          exact bind_add fun q hq => put (fillK_cln _ _ _ h hq) (NoRef.plain rfl)
      · rfl
    · rfl
  | buildSlice t n ps =>
    have h1 : ∀ q ∈ ps.toList, q.2 ≠ .tmp d := fun q hq => hx q.2 (by simp only [ho, Op.operands, List.mem_toArray, List.mem_map]; exact ⟨q, hq, rfl⟩)
    simp only [opK, ho]
    split
    · refine elemsC_add _ _ _ (fun xs e1 h2 => ?_) h h1
      show (if xs.length = n ∧ _ then _ else none) = _
      split
      · exact put h2 NoRef.of_o
      · rfl
    · rfl
  | makeSlice t n m =>
    have h1 := hx n (by simp [ho, Op.operands])
    have h2 := hx m (by simp [ho, Op.operands])
    simp only [opK, ho, ev_add h1, ev_add h2]
    split
    · split
      · exact bif_congr (put h NoRef.of_o)
      · rfl
    · rfl
  | alloc t =>
    simp only [opK, ho]
    split
    · rename_i k b hk hb
      have hbd : b ≠ d := fun hh => hd (by rw [hb, hh])
      split
      · rw [add_newH, add_put hz hbd]
        exact hA _ ((h.newH _).put hbd (NoRef.plain rfl))
      · rw [add_newB hz hbd, add_put hz hbd]
        exact hA _ ((h.newB hbd (noRef_zeros _)).put hbd ⟨fun n hn => hn.elim, fun off hh => by injection hh with hh; exact hbd hh⟩)
    · rfl
  | box t x =>
    have hx1 := hx x (by simp [ho, Op.operands])
    have hv := h.ev x
    have bxn : ∀ {b : Nat}, b ≠ d → NoRef d (.bx b 0) := fun hbd => ⟨fun n hn => hn.elim, fun off hh => by injection hh with hh; exact hbd hh⟩
    simp only [opK, ho, ev_add hx1]
    split
    · rename_i b hk hb
      have hbd : b ≠ d := fun hh => hd (by rw [hb, hh])
      split
      · split
        · rfl
        · rw [add_newB hz hbd, add_put hz hbd]
          exact hA _ ((h.newB hbd (fun p hp => by rw [List.mem_singleton.1 hp]; exact hv)).put hbd (bxn hbd))
      · rfl
    · rename_i k b hk hb _
      have hbd : b ≠ d := fun hh => hd (by rw [‹o.dst = some b›, hh])
      split
      · rename_i ps hq
        rw [hq] at hv
        have hps : ∀ n, .r n ∈ ps → n ≠ .t d := fun n hn => (hv.1 n hn).1
        split
        · rw [layK_add hz ps h hps]
          refine bind_add fun q hq => ?_
          show K2 (((q.2.add d z).newH q.1).put b _) = _
          rw [add_newH, add_put hz hbd]
          exact hA _ (((layK_cln ps h hps hq).newH _).put hbd (NoRef.plain rfl))
        · rfl
      · rw [pub_add h hx1]
        refine bind_add fun q hq => obind_congr fun y hy => ?_
        have hc := pub_cln h hq
        split
        · show K2 (((q.2.add d z).newH _).put b _) = _
          rw [add_newH, add_put hz hbd]
          exact hA _ ((hc.newH _).put hbd (NoRef.plain rfl))
        · show K2 (((q.2.add d z).newB b _).put b _) = _
          rw [add_newB hz hbd, add_put hz hbd]
          exact hA _ ((hc.newB hbd (noRef_split _ _)).put hbd (bxn hbd))
    · rfl
  | load t x =>
    have hx1 := hx x (by simp [ho, Op.operands])
    have hv := h.ev x
    simp only [opK, ho, ev_add hx1]
    split
    · rename_i k b off hk hq
      rw [hq] at hv
      have hbd : b ≠ d := fun hh => by subst hh; exact hv.2 off rfl
      split
      · rw [box_add (fun hh => by injection hh with hh; exact hbd hh), shareB_add hbd]
        exact obind_congr fun y _ => put (h.shareB b) (noRef_ofDen _ _)
      · exact rd
    · exact rd
  | slice t x lo hi mx =>
    have hx1 := hx x (by simp [ho, Op.operands])
    have h2 : lo.map (ev (e.add d z)) = lo.map (ev e) := by
      cases lo with
      | none => rfl
      | some y => simp only [Option.map_some, ev_add (hx y (by simp [ho, Op.operands]))]
    have h3 : hi.map (ev (e.add d z)) = hi.map (ev e) := by
      cases hi with
      | none => rfl
      | some y => simp only [Option.map_some, ev_add (hx y (by simp [ho, Op.operands]))]
    have bnd : ∀ (x : Option PV) (m : Int) {F G : Int → Option ρ}, (∀ n, F n = G n) → rdK.bndK x m F = rdK.bndK x m G := fun x m {F G} hFG => by
      unfold rdK.bndK
      split
      · exact hFG _
      · exact hFG _
      · rfl
    simp only [opK, ho, h2, h3]
    split
    · rfl
    · split
      · exact rd
      · rw [pub_add h hx1]
        refine bind_add fun ⟨p, e1⟩ hq => ?_
        have hc := pub_cln h hq
        dsimp only [addQ]
        split
        · split
          · exact bnd _ _ fun a => bnd _ _ fun b => bif_congr (put hc (NoRef.plain rfl))
          · rfl
        · rfl
      · rfl
  | store t x y =>
    have hx1 := hx x (by simp [ho, Op.operands])
    have hx2 := hx y (by simp [ho, Op.operands])
    have hv := h.ev x
    simp only [opK, ho, ev_add hx1]
    split
    · rename_i k b off hk hq
      rw [hq] at hv
      have hbd : b ≠ d := fun hh => by subst hh; exact hv.2 off rfl
      have hbs : Bx.s b ≠ .s d := fun hh => by injection hh with hh; exact hbd hh
      split
      · rw [pub_add h hx2]
        refine bind_add fun q hq => obind_congr fun u hu => ?_
        have hc := pub_cln h hq
        show (if off + _ ≤ ((q.2.add d z).box (.s b)).length then K2 ((((split _ _).zipIdx off).foldl (fun e q => e.setB (.s b) q.2 q.1) (q.2.add d z)).putD o.dst .un) else none) = _
        rw [box_add hbs, setBs_add hbd]
        split
        · exact put (setBs_cln hbd _ (fun q hq => by
            obtain ⟨i, hi, hh⟩ := List.mem_iff_getElem.1 hq
            rw [← hh, List.getElem_zipIdx]
            exact noRef_split _ _ _ (List.getElem_mem _)) hc) noRef_un
        · rfl
      · rw [mov_add hz h hx2]
        refine bind_add fun ⟨p, e1⟩ hq => ?_
        have hc := mov_cln h hq hx2
        have hn := mov_noRef h hq
        dsimp only [addQ] at *
        rw [box_add hbs, add_putB hz hbs]
        split
        · exact put (hc.putB hbs (noRef_nil _ hn)) noRef_un
        · rfl
    · refine obind_congr fun q' _ => ?_
      split
      · rw [pub_add h hx2]
        refine bind_add fun q hq => obind_congr fun u hu => ?_
        have hc := pub_cln h hq
        refine obind_congr fun h' _ => ?_
        show K2 (((q.2.add d z).withH h').putD o.dst .un) = _
        rw [add_withH hz]
        exact put (hc.withH h') noRef_un
      · split
        · rw [mov_add hz h hx2]
          refine bind_add fun ⟨p, e1⟩ hq => ?_
          have hc := mov_cln h hq hx2
          dsimp only [addQ] at *
          split
          · split
            · refine obind_congr fun h' _ => ?_
              rw [add_withH hz]
              exact put (hc.withH h') noRef_un
            · rfl
          · split
            · refine obind_congr fun h' _ => ?_
              rw [add_withH hz]
              exact put (hc.withH h') noRef_un
            · rfl
          · rfl
        · rfl
        · rw [pub_add h hx2]
          refine bind_add fun ⟨p, e1⟩ hq => ?_
          have hc := pub_cln h hq
          dsimp only [addQ] at *
          split
          · refine obind_congr fun h' _ => ?_
            rw [add_withH hz]
            exact put (hc.withH h') noRef_un
          · rfl
    · rw [pub_add h hx2]
      refine bind_add fun q hq => obind_congr fun u hu => obind_congr fun xs _ => obind_congr fun v _ => ?_
      have hc := pub_cln h hq
      split
      · refine obind_congr fun w _ => ?_
        show K2 (((q.2.add d z).setB _ _ _).putD o.dst .un) = _
        rw [add_setB (fun hh => by cases hh)]
        exact put (hc.setB (fun hh => by cases hh) NoRef.of_o) noRef_un
      · rfl
    · rfl
    · rename_i k n j path _ hk hq
      rw [hq] at hv
      have hn := hv.1 n rfl
      rw [pub_add h hx2]
      refine bind_add fun ⟨p, e1⟩ hq => obind_congr fun u hu => ?_
      have hc := pub_cln h hq
      dsimp only [addQ] at *
      rw [at_add hn.1 hn.2]
      split
      · refine obind_congr fun v _ => ?_
        split
        · refine obind_congr fun w _ => ?_
          rw [add_set hn.1 hn.2]
          exact put (hc.set hn.1 hn.2 NoRef.of_o) noRef_un
        · rfl
      · rfl
    · rfl
  | call q =>
    have hq : ∀ x ∈ q.args.toList, x ≠ .tmp d := fun x hm => hx x (by simp only [ho, Op.operands, Call.operands]; simp; exact .inr (by simpa using hm))
    cases hcl : q.callee with
    | value f =>
      have hf : f ≠ .tmp d := hx f (by simp [ho, Op.operands, Call.operands, hcl])
      simp only [opK, ho, hcl, ev_add hf]
      split
      · exact callG_add hA hz h hd hq _ _
      · split
        · exact callG_add hA hz h hd hq _ _
        · rfl
      · split
        · rw [pubsH_add _ _ h hq]
          refine bind_add fun a ha => ?_
          have hc := pubsH_cln _ _ h ha
          show Y a.1 a.2.h _ = Y a.1 a.2.h _
          congr 1
          funext b h'
          show K2 (((a.2.add d z).withH h').putD o.dst _) = _
          rw [add_withH hz]
          exact put (hc.withH h') (NoRef.plain rfl)
        · rfl
      · rfl
    | builtin b =>
      cases b with
      | append =>
        simp only [opK, ho, hcl]
        split
        · rename_i x y t t' ha ht
          have hx1 : x ≠ .tmp d := hq x (by rw [ha]; exact List.mem_cons_self ..)
          have hx2 : y ≠ .tmp d := hq y (by rw [ha]; exact List.mem_cons_of_mem _ (List.mem_cons_self ..))
          split
          · split
            · rw [mov_add hz h hx1]
              refine bind_add fun ⟨p, e1⟩ hq => ?_
              have hc := mov_cln h hq hx1
              dsimp only [addQ] at *
              split
              · rw [listC_add hc hx2]
                unfold listC
                split
                · refine obind_congr fun a _ => ?_
                  dsimp only
                  split
                  · exact bif_congr (put hc NoRef.of_o)
                  · rfl
                · refine obind_congr fun a _ => ?_
                  split
                  · exact bif_congr (put hc NoRef.of_o)
                  · rfl
              · rfl
            · rfl
          · rfl
        · rfl
      | _ => simp only [opK, ho, hcl]; exact rd
    | _ => simp only [opK, ho, hcl]; exact rd
  | _ => simpa only [opK, ho] using rd
end
end Go.Pv
