/-
  Contract of image.Save: the image of points, or the code of what is refused. Conditions: the points can be read as data.
-/
import Derived.Test.YthiccmncdmohbaaMHullInsides26
import Derived.Test.YthiccmncdmohbaaMHullInsides01
import Derived.Test.YthiccmncdmohbaaMHullInsides19
import Derived.Test.YthiccmncdmohbaaMHullInsides27
import Derived.Test.YthiccmncdmohbaaMHullInsides28
import Derived.Deep.RegionHeld3
import Derived.Deep.CutRange
import Derived.Lib.SlBytesConst
set_option linter.unusedVariables false
set_option linter.unusedSimpArgs false
namespace Go.Dam
open Go
/-- What Save answers. -/
def savedL (n : Nat) (l : List Int) : List Int := if ptCode n l = 0 then saveL n l else []
theorem savedL_0 {n : Nat} {l : List Int} (h : ptCode n l = 0) : savedL n l = saveL n l := by unfold savedL; rw [if_pos h]
theorem savedL_no {n : Nat} {l : List Int} (h : ptCode n l ≠ 0) : savedL n l = [] := by unfold savedL; rw [if_neg h]
attribute [irreducible] savedL
/-- Coordinates that were let pass. -/
theorem pt_coords {n : Nat} {l : List Int} (h : ptCode n l = 0) : n ≤ 150 ∧ ∀ j, j < n * 3 → -1048576 ≤ l.getD j 0 ∧ l.getD j 0 ≤ 1048576 := by
  obtain ⟨h1, h2⟩ := ptCode_ok h
  refine ⟨h1, fun j hj => ?_⟩
  obtain ⟨a, b, c⟩ := badPt_fine (h2 (j / 3) (by omega))
  have hd := Nat.div_add_mod j 3
  rcases (show j % 3 = 0 ∨ j % 3 = 1 ∨ j % 3 = 2 by omega) with e | e | e
  · rw [show j = j / 3 * 3 from by omega]; exact a
  · rw [show j = j / 3 * 3 + 1 from by omega]; exact b
  · rw [show j = j / 3 * 3 + 2 from by omega]; exact c
end Go.Dam
namespace Go.Proofs.Ythiccmncdmohbaa
open Go Go.RowKit Go.Dam
set_option linter.unusedVariables false
/-- While numbers are put behind each other: the row as it is, and what is kept. -/
def Putting (W : World) (b : Value) (K c : Nat) (m : List Int) (w : World) (v : Value) : Prop := OwnB w K v m ∧ Grew W w b v ∧ m.length ≤ 4 * c ∧ K ≤ w.heap.size
theorem Putting.cells {W w : World} {b v : Value} {K c g : Nat} {m : List Int} {T : TypeId} {x y z : Value} (h : Putting W b K c m w v) (hb : Blk W g T #[x, y, z]) (hne : b.ownBlock ≠ some g) :
    w.cell? ⟨g, 0, none⟩ = some x ∧ w.cell? ⟨g, 1, none⟩ = some y ∧ w.cell? ⟨g, 2, none⟩ = some z := by
  have hb' := h.2.1.blk hb hne
  exact ⟨by rw [hb'.cell]; rfl, by rw [hb'.cell]; rfl, by rw [hb'.cell]; rfl⟩
theorem Putting.cells' {W w : World} {b v : Value} {K c g : Nat} {m : List Int} {T : TypeId} {x y z : Value} (h : Hid (Putting W b K c m w v)) (hb : Hid (Blk W g T #[x, y, z])) (hne : Hid (b.ownBlock ≠ some g)) :
    w.cell? ⟨g, 0, none⟩ = some x ∧ w.cell? ⟨g, 1, none⟩ = some y ∧ w.cell? ⟨g, 2, none⟩ = some z := Putting.cells h.out hb.out hne.out
theorem head_own {w w1 : World} (h : w.heap.size ≤ w1.heap.size) (fr : Nat × Nat) : PutB (w1.alloc (.cells #[.int .u8 68, .int .u8 65, .int .u8 77, .int .u8 49] 5 fr)) w.heap.size (.slice (some ⟨w1.heap.size, 0, none⟩) 4 4) [68, 65, 77, 49] :=
  .inr ⟨w1.heap.size, rfl, h, by simp, fun j u hu => by rw [← hu, cell_of_row _ _ j _ _ fr (heap_alloc_new w1 _)]; simp⟩
theorem four_cells (w : World) (t : TypeId) (a b c d : Value) : ∀ j u, [a, b, c, d][j]? = some u → (w.alloc (.cells #[a, b, c, d] t)).cell? ((⟨w.heap.size, 0, none⟩ : Addr).add j) = some u := fun j u hu => by
  rw [add_zero_addr, cell_of_row _ _ j _ _ _ (heap_alloc_new w _), ← hu]; simp
end Go.Proofs.Ythiccmncdmohbaa
