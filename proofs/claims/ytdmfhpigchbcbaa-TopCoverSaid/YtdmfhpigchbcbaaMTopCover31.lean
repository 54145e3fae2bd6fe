/-
  sort.Ints at a row of the call's own. Conditions: fewer than 2^62 elements.
-/
import Derived.Test.YtdmfhpigchbcbaaMTopCover19
import Derived.Test.YtdmfhpigchbcbaaShelf
namespace Go.Proofs.Ytdmfhpigchbcbaa
open Go Go.RowKit Go.Dam
set_option linter.unusedVariables false
end Go.Proofs.Ytdmfhpigchbcbaa
