/-
  sort.Ints at a row of the call's own. Conditions: fewer than 2^62 elements.
-/
import Derived.Test.YthbopbbpogddlaaMSkyUnders18
import Derived.Test.YthbopbbpogddlaaShelf
namespace Go.Proofs.Ythbopbbpogddlaa
open Go Go.RowKit Go.Dam
set_option linter.unusedVariables false
end Go.Proofs.Ythbopbbpogddlaa
