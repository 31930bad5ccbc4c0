/- The catalogue of schemes, and what is found in it. -/
import Derived.Test.YtdfdainmpklkiaaGreatDoorD
import Derived.ProofKit
set_option linter.unusedVariables false
set_option linter.unusedSimpArgs false
namespace Go.Pv.X
def cat : List (List UInt8 × K.s4.den) := [
  ([70, 50, 45, 49], (1, 1, [], ())),
  ([70, 52, 45, 49], (2, 1, [(1, 1, false, ())], ())),
  ([70, 52, 45, 50], (1, 2, [(3, 1, false, ())], ())),
  ([70, 54, 45, 49], (3, 1, [(2, 1, false, ()), (1, 1, false, ())], ())),
  ([70, 54, 45, 50], (3, 1, [(1, 1, true, ()), (2, 1, false, ())], ())),
  ([70, 56, 45, 49], (2, 2, [(3, 1, false, ()), (1, 1, false, ())], ())),
  ([70, 56, 45, 50], (4, 1, [(1, 2, false, ()), (1, 1, false, ())], ())),
  ([70, 56, 45, 51], (4, 1, [(1, 1, false, ()), (2, 1, true, ()), (1, 1, false, ())], ())),
  ([70, 49, 50, 45, 49], (3, 2, [(3, 1, false, ()), (2, 1, false, ()), (1, 1, false, ())], ())),
  ([70, 49, 50, 45, 50], (6, 1, [(1, 3, false, ()), (2, 1, false, ()), (1, 1, false, ())], ())),
  ([70, 49, 54, 45, 49], (4, 2, [(1, 2, false, ()), (3, 1, false, ()), (1, 1, false, ())], ())),
  ([70, 49, 54, 45, 50], (2, 4, [(3, 2, false, ()), (3, 1, false, ()), (1, 1, false, ())], ())),
  ([70, 49, 54, 45, 51], (8, 1, [(1, 4, false, ()), (1, 2, false, ()), (1, 1, false, ())], ())),
  ([70, 49, 54, 45, 52], (4, 2, [(3, 1, false, ()), (1, 2, false, ()), (1, 1, false, ())], ())),
  ([70, 50, 52, 45, 49], (3, 4, [(3, 2, false, ()), (3, 1, false, ()), (2, 1, false, ()), (1, 1, false, ())], ())),
  ([70, 50, 52, 45, 50], (6, 2, [(1, 3, false, ()), (3, 1, false, ()), (2, 1, false, ()), (1, 1, false, ())], ())),
  ([70, 51, 50, 45, 49], (4, 4, [(3, 2, false, ()), (1, 2, false, ()), (3, 1, false, ()), (1, 1, false, ())], ())),
  ([70, 51, 50, 45, 50], (8, 2, [(1, 4, false, ()), (1, 2, false, ()), (3, 1, false, ()), (1, 1, false, ())], ())),
  ([70, 52, 56, 45, 49], (6, 4, [(1, 3, false, ()), (3, 2, false, ()), (3, 1, false, ()), (2, 1, false, ()), (1, 1, false, ())], ())),
  ([70, 54, 52, 45, 49], (8, 4, [(1, 4, false, ()), (3, 2, false, ()), (1, 2, false, ()), (3, 1, false, ()), (1, 1, false, ())], ())),
  ([70, 49, 50, 56, 45, 49], (8, 8, [(1, 4, false, ()), (3, 4, false, ()), (1, 2, false, ()), (3, 2, false, ()), (3, 1, false, ()), (1, 1, false, ())], ()))]

def findIn : List (List UInt8 × K.s4.den) → ByteArray → Option (K.s4.den × Bool × Unit)
  | [], _ => some ((0, 0, [], ()), false, ())
  | (n, s) :: l, x => bif n == x.toList then some (s, true, ()) else findIn l x
def bothB (a b : Option Bool) : Bool := match a, b with
  | some a, some b => a == b
  | _, _ => false
end Go.Pv.X
