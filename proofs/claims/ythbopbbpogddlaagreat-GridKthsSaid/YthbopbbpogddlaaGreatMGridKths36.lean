/-
  Contract of the reference's WaveMay. Conditions: the wave can be read as data.
-/
import Derived.Test.YthbopbbpogddlaaGreatMGridKths09
namespace Go.Proofs.YthbopbbpogddlaaGreat
open Go Go.RowKit Go.Dam
set_option linter.unusedVariables false
end Go.Proofs.YthbopbbpogddlaaGreat
