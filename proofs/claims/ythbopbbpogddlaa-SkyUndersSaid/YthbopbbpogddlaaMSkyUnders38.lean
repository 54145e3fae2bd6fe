/-
  Contract of the reference's WaveMay. Conditions: the wave can be read as data.
-/
import Derived.Test.YthbopbbpogddlaaMSkyUnders08
namespace Go.Proofs.Ythbopbbpogddlaa
open Go Go.RowKit Go.Dam
set_option linter.unusedVariables false
end Go.Proofs.Ythbopbbpogddlaa
