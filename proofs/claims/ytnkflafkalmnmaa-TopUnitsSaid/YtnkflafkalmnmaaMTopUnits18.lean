/-
  sort.Ints at a row of the call's own. Conditions: fewer than 2^62 elements.
-/
import Derived.Test.YtnkflafkalmnmaaMTopUnits09
import Derived.Test.YtnkflafkalmnmaaShelf
namespace Go.Proofs.Ytnkflafkalmnmaa
open Go Go.RowKit Go.Dam
set_option linter.unusedVariables false
end Go.Proofs.Ytnkflafkalmnmaa
