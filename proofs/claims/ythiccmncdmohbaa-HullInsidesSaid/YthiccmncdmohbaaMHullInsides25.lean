/-
  A row of the call's own that grew: what lies elsewhere is kept. Conditions: none; nothing here names the program.
-/
import Derived.Test.YthiccmncdmohbaaMHullInsides00
import Derived.Test.YthiccmncdmohbaaMHullInsides24
set_option linter.unusedVariables false
set_option linter.unusedSimpArgs false
namespace Go.Dam
open Go Go.RowKit
set_option linter.unusedVariables false
/-- The row v grew to v'; other blocks that were there are kept. -/
def Grew (w w' : World) (v v' : Value) : Prop := w.grownBy w' v.ownBlock ∧ LiesOr w.heap.size v v'
theorem Grew.refl (w : World) (v : Value) : Grew w w v v := ⟨World.grownBy.refl w _, fun g h => .inl h⟩
theorem Grew.alloc {w w' : World} {v v' : Value} (h : Grew w w' v v') (o : Obj) : Grew w (w'.alloc o) v v' := ⟨h.1.trans (World.grownBy_alloc w' o _), h.2⟩
theorem Grew.trans {w w1 w2 : World} {v v1 v2 : Value} (h : Grew w w1 v v1) (k : Grew w1 w2 v1 v2) : Grew w w2 v v2 := by
  have hz := h.1.size
  refine ⟨h.1.andThen k.1 fun j hj => ?_, fun g hg => ?_⟩
  · rcases h.2 j hj with e | e
    · exact .inr e
    · exact .inl e
  · rcases k.2 g hg with e | e
    · exact h.2 g e
    · exact .inr (by omega)
theorem Grew.push {w w1 w2 : World} {v v1 v2 : Value} (h : Grew w w1 v v1) (k : w1.grownBy w2 v1.ownBlock) (l : LiesOr w1.heap.size v1 v2) : Grew w w2 v v2 := h.trans ⟨k, l⟩
theorem Grew.size {w w' : World} {v v' : Value} (h : Grew w w' v v') : w.heap.size ≤ w'.heap.size := h.1.size
/-- From a row in new memory: all that was there is kept. -/
theorem Grew.below {w w' : World} {v v' : Value} (h : Grew w w' v v') {B : Nat} (hB : B ≤ w.heap.size) (hv : ∀ g, v.ownBlock = some g → B ≤ g) : Below B w w' :=
  ⟨h.1.os, h.1.tape, h.1.output, h.1.size, fun i hi => h.1.block i (by omega) fun e => by have := hv i e.symm; omega⟩
theorem Grew.below_own {w w0 w' : World} {v v' : Value} (h : Grew w w' v v') {base n size : Nat} {e : TypeId} {xs : List Value} (ho : w.ownsRow base e size v n xs) {B : Nat} (hB : B ≤ base) (hz : B ≤ w.heap.size) (hb : Below B w0 w) : Below B w0 w' :=
  hb.trans (h.below hz fun g hg => by have := (ho.lt g hg).1; omega)
theorem Grew.cell {w w' : World} {v v' : Value} (h : Grew w w' v v') (p : Addr) (hp : p.block < w.heap.size) (hv : v.ownBlock ≠ some p.block) : w'.cell? p = w.cell? p := h.1.cell_far p hp fun e => hv e.symm
theorem Grew.blk {w w' : World} {v v' : Value} (h : Grew w w' v v') {g : Nat} {t : TypeId} {cs : Array Value} (hb : Blk w g t cs) (hv : v.ownBlock ≠ some g) : Blk w' g t cs := hb.grown h.1 fun e => hv e.symm
theorem Grew.far {w w' : World} {v v' : Value} (h : Grew w w' v v') {g : Nat} (hg : g < w.heap.size) (hv : v.ownBlock ≠ some g) : v'.ownBlock ≠ some g := lies_ne h.2 hv hg
theorem ne_own {w : World} {base n size g : Nat} {e : TypeId} {v : Value} {xs : List Value} (h : w.ownsRow base e size v n xs) (hg : w.heap.size ≤ g) : v.ownBlock ≠ some g := fun e => by have := (h.lt g e).2; omega
end Go.Dam
