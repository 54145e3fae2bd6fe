/-
  Contract of the reference's RmqMake. Conditions: the argument is a list of ints.
-/
import Derived.Test.YtdmfhpigchbcbaaMTopMax13
namespace Go.Proofs.Ytdmfhpigchbcbaa
open Go Go.RowKit Go.Dam
set_option linter.unusedVariables false
end Go.Proofs.Ytdmfhpigchbcbaa
