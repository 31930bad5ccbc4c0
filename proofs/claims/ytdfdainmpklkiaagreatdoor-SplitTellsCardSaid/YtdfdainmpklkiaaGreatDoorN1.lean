/- Of which schemes of the catalogue it is told whether they nest; and the laws' first look. -/
import Derived.Test.YtdfdainmpklkiaaGreatDoorC0
set_option linter.unusedVariables false
set_option linter.unusedSimpArgs false
namespace Go.Pv.X
open Go.Proofs
set_option maxRecDepth 1000000 in
theorem nests_some : ((cat.take 20).all fun p => (spine_Nests p.2).isSome) = true := by kernel_rfl
set_option maxRecDepth 1000000 in
theorem alive_eq : law17_alive = some true := by kernel_rfl
end Go.Pv.X
