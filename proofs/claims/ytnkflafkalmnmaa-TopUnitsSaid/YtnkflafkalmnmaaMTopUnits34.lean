/-
  Contract of the reference's cells, over any closure. Conditions: the rectangles can be read as data and are not refused; the closure turns one block, and what it lays.
-/
import Derived.Test.YtnkflafkalmnmaaMTopUnits33
namespace Go.Proofs.Ytnkflafkalmnmaa
open Go Go.RowKit Go.Dam Go.Dam.Klee
set_option linter.unusedVariables false
end Go.Proofs.Ytnkflafkalmnmaa
