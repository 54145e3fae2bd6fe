/-
  Contracts of the tests whether a point lies in a rectangle: package grid's and the reference's. Conditions: none.
-/
import Derived.Test.YtnkflafkalmnmaaMTopUnits02
import Derived.Test.YtnkflafkalmnmaaMTopUnits04
namespace Go.Dam
open Go Go.RowKit
/-- Does a point lie in a rectangle? -/
def inR (x y x0 y0 x1 y1 : Int) : Bool := decide (x0 ≤ x) && decide (x ≤ x1) && decide (y0 ≤ y) && decide (y ≤ y1)
end Go.Dam
namespace Go.Proofs.Ytnkflafkalmnmaa
open Go Go.RowKit Go.Dam
set_option linter.unusedVariables false
section
variable (x y z x0 y0 x1 y1 : Int) (w : World)
end
end Go.Proofs.Ytnkflafkalmnmaa
