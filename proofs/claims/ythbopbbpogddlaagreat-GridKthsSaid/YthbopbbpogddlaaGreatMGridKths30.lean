/-
  sort.Ints at a row of the call's own. Conditions: fewer than 2^62 elements.
-/
import Derived.Test.YthbopbbpogddlaaGreatMGridKths16
import Derived.Test.YthbopbbpogddlaaGreatShelf
namespace Go.Proofs.YthbopbbpogddlaaGreat
open Go Go.RowKit Go.Dam
set_option linter.unusedVariables false
end Go.Proofs.YthbopbbpogddlaaGreat
