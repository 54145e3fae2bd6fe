/-
  Contract of the reference's WaveMay. Conditions: the wave can be read as data.
-/
import Derived.Test.YtdmfhpigchbcbaaMTopCover13
namespace Go.Proofs.Ytdmfhpigchbcbaa
open Go Go.RowKit Go.Dam
set_option linter.unusedVariables false
end Go.Proofs.Ytdmfhpigchbcbaa
