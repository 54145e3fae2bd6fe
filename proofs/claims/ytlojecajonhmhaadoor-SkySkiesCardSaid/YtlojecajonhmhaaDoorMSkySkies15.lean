/-
  Contracts of sort.Search at the closures of package grid, and of these closures. Conditions: the index lies in memory.
-/
import Derived.Test.YtlojecajonhmhaaDoorMSkySkies14
import Derived.BigQuiet
set_option linter.unusedVariables false
set_option linter.unusedSimpArgs false
namespace Go.Dam
/-- Is a number above another one (or at it, where 'a' says no)? -/
def isAb (x f : Int) (a : Bool) : Bool := decide (f < x) || (!a && decide (x = f))
theorem isAb_mono {x y f : Int} {a : Bool} (h : x ≤ y) (hx : isAb x f a = true) : isAb y f a = true := by
  unfold isAb at *
  cases a <;> simp at * <;> omega
end Go.Dam
namespace Go.Proofs.YtlojecajonhmhaaDoor
open Go Go.RowKit Go.Dam
set_option linter.unusedVariables false
end Go.Proofs.YtlojecajonhmhaaDoor
