/-
  sort.Ints at a row of the call's own. Conditions: fewer than 2^62 elements.
-/
import Derived.Test.YthiccmncdmohbaaGreatMGridTops09
import Derived.Test.YthiccmncdmohbaaGreatShelf
set_option linter.unusedVariables false
set_option linter.unusedSimpArgs false
namespace Go.Proofs.YthiccmncdmohbaaGreat
open Go Go.RowKit Go.Dam
set_option linter.unusedVariables false
end Go.Proofs.YthiccmncdmohbaaGreat
