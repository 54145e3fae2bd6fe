/-
  Contracts of the reference's within with the order by X and Y (with its closures). Conditions: the points can be read as data; they are at most 150.
-/
import Derived.Test.YthiccmncdmohbaaGreatMGridTops30
import Derived.Test.YthiccmncdmohbaaGreatMGridTops18
import Derived.Test.YthiccmncdmohbaaGreatMGridTops35
import Derived.Test.YthiccmncdmohbaaGreatMGridTops00
import Derived.Test.YthiccmncdmohbaaGreatMGridTops06
import Derived.Test.YthiccmncdmohbaaGreatMGridTops05
import Derived.Deep.CutRange
import Derived.Deep.RegionHeld3
set_option linter.unusedVariables false
set_option linter.unusedSimpArgs false
namespace Go.Dam
open Go Go.RowKit
/-- Does the point at a place lie in a rectangle? -/
def inQ (l : List Int) (x0 y0 x1 y1 : Int) (i : Nat) : Bool := inR (l.getD (i * 3) 0) (l.getD (i * 3 + 1) 0) x0 y0 x1 y1
/-- Points by X, then Y. -/
def ltXY (x0 y0 x1 y1 : Int) : Bool := decide (x0 < x1) || (decide (x0 = x1) && decide (y0 < y1))
/-- Places by the X, then the Y of their points. -/
def ltP (l : List Int) (x y : Int) : Bool := ltXY (l.getD (x.toNat * 3) 0) (l.getD (x.toNat * 3 + 1) 0) (l.getD (y.toNat * 3) 0) (l.getD (y.toNat * 3 + 1) 0)
end Go.Dam
namespace Go.Proofs.YthiccmncdmohbaaGreat
open Go Go.RowKit Go.Dam
set_option linter.unusedVariables false
section
variable (x0 y0 z0 x1 y1 z1 : Int) (w : World)
end
theorem kept_grow {w : World} {p : Addr} {v : Value} {k : Nat} {os : Array Obj} (h : w.cell? p = some v) : (Sort.grow (w.drewN k) os).cell? p = some v := (Sort.cell?_grow (w.drewN k) os p (cell_lt h)).trans h
theorem kept_callW {w w' : World} {p : Addr} {v : Value} (hb : Below w.heap.size w w') (hp : p.block < w.heap.size) (h : w.cell? p = some v) : w'.cell? p = some v := (hb.cell hp).trans h
end Go.Proofs.YthiccmncdmohbaaGreat
