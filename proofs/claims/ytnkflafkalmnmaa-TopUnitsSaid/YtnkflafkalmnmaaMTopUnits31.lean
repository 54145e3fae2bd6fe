/-
  Contract of the reference's RectsFault: what is refused of rectangles. Conditions: the rectangles can be read as data.
-/
import Derived.Test.YtnkflafkalmnmaaMTopUnits30
import Derived.Test.YtnkflafkalmnmaaMTopUnits20
namespace Go.Proofs.Ytnkflafkalmnmaa
open Go Go.RowKit Go.Dam
set_option linter.unusedVariables false
end Go.Proofs.Ytnkflafkalmnmaa
