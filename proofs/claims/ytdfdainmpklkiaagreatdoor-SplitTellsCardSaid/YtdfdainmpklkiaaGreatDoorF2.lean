/- The document's scheme of a name is the catalogue's. -/
import Derived.Test.YtdfdainmpklkiaaGreatDoorC0
set_option linter.unusedVariables false
set_option linter.unusedSimpArgs false
namespace Go.Pv.X
open Go.Proofs
set_option maxRecDepth 1000000 in
theorem ref11_Find_in (x : ByteArray) : ref11_Find x = findIn cat x := by kernel_rfl
end Go.Pv.X
