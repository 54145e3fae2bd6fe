/-
  Contracts of slices.Backward over a slice of slices of ints: its iterator runs over the slice's elements from the last one to the first. Conditions: the elements can be read.
-/
import Derived.Shelf.Abstract
import Derived.WalkKit
import Derived.OwnWalkIn
import Derived.TacticsInMore
import Derived.LoopNIn
import Derived.LoopIn
import Derived.Maps.AppendAt
import Derived.Test.YtlojecajonhmhaaDoorMSkySkies03
import Derived.Test.YtlojecajonhmhaaDoorMSkySkies35
set_option linter.unusedVariables false
set_option linter.unusedSimpArgs false
namespace Go.Dam
open Go Go.RowKit
/-- What the iterator hands over at round k of m. -/
def backEnc (vs : List Value) (m k : Nat) : Array Value := #[.int .i64 ((m - 1 - k : Nat) : Int), vs.getD (m - 1 - k) undef]
end Go.Dam
namespace Go.Proofs.YtlojecajonhmhaaDoor
open Go Go.RowKit Go.Dam Go.Shelf Go.Proofs
set_option linter.unusedVariables false
attribute [local go_sem] Oper.semAt_some
end Go.Proofs.YtlojecajonhmhaaDoor
