/- Plain laws: at all that may be handed over. -/
import Derived.Test.YtdfdainmpklkiaaGreatDoorQ6
import Derived.Test.YtdfdainmpklkiaaGreatDoorF1
import Derived.Test.YtdfdainmpklkiaaGreatDoorF2
import Derived.Test.YtdfdainmpklkiaaGreatDoorN1
import Derived.Test.YtdfdainmpklkiaaGreatDoorR2
set_option linter.unusedVariables false
set_option linter.unusedSimpArgs false
namespace Go.Pv.X
open Go.Proofs
theorem seen : Seen := ⟨scheme_Find_in, ref11_Find_in, nests_some, alive_eq⟩
theorem wf_job {j : K.s5.den} (h : K.s5.wf j) : Wf j := by
  have hm : maxLen = 9223372036854775807 := rfl
  obtain ⟨_, hP, _, _, _, _, _, _, _, _, _, ⟨hc, hr, hs, _⟩, hl, _⟩ := h
  refine ⟨?_, (wf_int hc).2, (wf_int hr).2, wf_int hP, ?_⟩
  · have := hs.1; unfold lenB; rw [hm] at this; exact Int.ofNat_le.2 this
  · have := hl.1; unfold lenB; rw [hm] at this; exact Int.ofNat_le.2 this
theorem splitBlanks_true (x : denL [K.s5]) (h : wfL [K.s5] x) : law17_SplitBlanks x.1 = some true := blanks_law seen x.1 (wf_job h.1)
theorem splitLast_true (x : denL [K.s5]) (h : wfL [K.s5] x) : law17_SplitLast x.1 = some true := last_law seen x.1 (wf_job h.1)
end Go.Pv.X
