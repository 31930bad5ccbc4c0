/- Written by a program of this session, out of the translation: each Go function that is named here, called, answers what its Lean function tells, in whatever memory, where that function has an answer. -/
import Derived.Test.YteedpeogfglocaaProg
import Derived.Below
import Derived.Deep.Draws
import Derived.Deep.AppendLies
import Derived.Maps.AppendAt
import Derived.OwnWalk
import Derived.Laws.BytesArg
import Derived.Laws.MakeOwn
import Derived.Laws.OwnMore
import Derived.Deep.OwnRows
import Derived.Tactics
import Derived.Lib.ConvBytes
import Derived.Laws.Slices
import Derived.WalkKit
import Derived.KernelRfl
import Derived.RowKit3
import Derived.Deep.LoopGhost
import Derived.Deep.QuietTactic
import Derived.BigQuiet
import Derived.WideLaws
import Derived.Deep.DeepCutAuto
import Derived.Deep.CutBlock
import Derived.Deep.RegionHeld3
import Derived.Laws.Rows
import Derived.Lib.AppendStr
import Derived.ArgAppend
import Derived.Laws.IdiomCopy
import Derived.OrdersHeld
import Derived.Laws.BitsLemmas
import Derived.RowKit
import Derived.Test.YteedpeogfglocaaWWords
import Derived.Test.YteedpeogfglocaaWLast
import Derived.Test.YteedpeogfglocaaWTab
import Derived.Test.YteedpeogfglocaaWFour
import Derived.Test.YteedpeogfglocaaWQPut
import Derived.Test.YteedpeogfglocaaWApart
import Derived.Test.YteedpeogfglocaaWArr
import Derived.Test.YteedpeogfglocaaWZeros
import Derived.Test.YteedpeogfglocaaWFoot
import Derived.Test.YteedpeogfglocaaWKept
import Derived.Test.YteedpeogfglocaaWShare
import Derived.Test.YteedpeogfglocaaWN
import Derived.Test.YteedpeogfglocaaWFootNe
import Derived.Test.YteedpeogfglocaaWAt
import Derived.Test.YteedpeogfglocaaWEqStruct
import Derived.Test.YteedpeogfglocaaWRepsOne
import Derived.Test.YteedpeogfglocaaWInv
import Derived.Test.YteedpeogfglocaaWInvWords
import Derived.Test.YteedpeogfglocaaWGuard
import Derived.Test.YteedpeogfglocaaWNEv
import Derived.Test.YteedpeogfglocaaWMore
namespace Go.Proofs.Yteedpeogfglocaa.PNumAdds
open Go.RowKit Go.Proofs.YteedpeogfglocaaW.PrintWords Go.Proofs.YteedpeogfglocaaW.PrintLast Go.Proofs.YteedpeogfglocaaW.PrintMore
attribute [local go_sem] max2_int min2_int max_two min_two max_three min_three max_four min_four   -- for this text's walks alone
set_option linter.unusedVariables false
set_option linter.unusedSimpArgs false



def errW : Option Int → Value
  | none => .nilIface
  | some c => .iface 0 (.int .i64 c)
theorem errW_none : errW none = .nilIface := rfl
theorem errW_some (c : Int) : errW (some c) = .iface 0 (.int .i64 c) := rfl

-- the values' own types

end Go.Proofs.Yteedpeogfglocaa.PNumAdds
