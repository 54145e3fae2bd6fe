/-
  Contract of the reference's coordMay: is a coordinate not too great? Conditions: the argument is an int.
-/
import Derived.Test.YtnkflafkalmnmaaMTopUnits02
import Derived.Test.YtnkflafkalmnmaaMTopUnits00
namespace Go.Proofs.Ytnkflafkalmnmaa
open Go Go.RowKit Go.Dam
set_option linter.unusedVariables false
end Go.Proofs.Ytnkflafkalmnmaa
