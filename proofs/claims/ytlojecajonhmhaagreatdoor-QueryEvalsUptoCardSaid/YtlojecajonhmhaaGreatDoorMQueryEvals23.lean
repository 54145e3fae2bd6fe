/-
  sort.Ints at a row of the call's own. Conditions: fewer than 2^62 elements.
-/
import Derived.Test.YtlojecajonhmhaaGreatDoorMQueryEvals07
import Derived.Test.YtlojecajonhmhaaGreatDoorShelf
set_option linter.unusedVariables false
set_option linter.unusedSimpArgs false
namespace Go.Proofs.YtlojecajonhmhaaGreatDoor
open Go Go.RowKit Go.Dam
set_option linter.unusedVariables false
end Go.Proofs.YtlojecajonhmhaaGreatDoor
