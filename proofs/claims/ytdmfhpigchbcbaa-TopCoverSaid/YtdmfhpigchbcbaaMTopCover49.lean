/-
  Contracts of grid.Report and of the reference's GridReport. Conditions: the points can be read as data.
-/
import Derived.Test.YtdmfhpigchbcbaaMTopCover28
import Derived.Test.YtdmfhpigchbcbaaMTopCover34
import Derived.Test.YtdmfhpigchbcbaaMTopCover45
import Derived.Test.YtdmfhpigchbcbaaMTopCover22
import Derived.Test.YtdmfhpigchbcbaaMTopCover48
import Derived.BigQuiet
namespace Go.Proofs.Ytdmfhpigchbcbaa
open Go Go.RowKit Go.Dam Go.Dam.Stable
set_option linter.unusedVariables false
end Go.Proofs.Ytdmfhpigchbcbaa
