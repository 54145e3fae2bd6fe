/-
  Contracts of image.Sum and the reference's ImageSum: the sum of the bytes. Conditions: the bytes can be read as data.
-/
import Derived.Test.YthiccmncdmohbaaMHullInsides05
import Derived.Test.YthiccmncdmohbaaMHullInsides01
set_option linter.unusedVariables false
set_option linter.unusedSimpArgs false
namespace Go.Proofs.Ythiccmncdmohbaa
open Go Go.RowKit Go.Dam
set_option linter.unusedVariables false
/-- The table while it is made. -/
def tabTo (i : Nat) : List Int := (List.range 256).map fun j => if j < i then ((crcN 8 j : Nat) : Int) else 0
theorem tabTo_length (i : Nat) : (tabTo i).length = 256 := by simp [tabTo]
theorem tabTo_0 : tabTo 0 = List.replicate 256 0 := by
  unfold tabTo
  rw [List.eq_replicate_iff]
  refine ⟨by simp, fun b hb => ?_⟩
  obtain ⟨j, _, rfl⟩ := List.mem_map.1 hb
  rfl
theorem tabTo_succ {i : Nat} (h : i < 256) : (tabTo i).set i ((crcN 8 i : Nat) : Int) = tabTo (i + 1) := by
  apply List.ext_getElem?
  intro j
  rw [List.getElem?_set]
  unfold tabTo
  simp only [List.getElem?_map, List.length_map, List.length_range]
  by_cases hj : j < 256
  · rw [List.getElem?_range hj]
    by_cases hij : i = j
    · subst hij; simp [h]
    · simp [hij]; congr 1; rw [eq_iff_iff]; omega
  · rw [List.getElem?_eq_none (by simp; omega)]
    by_cases hij : i = j
    · omega
    · simp [hij]
theorem tabTo_at {j : Nat} (h : j < 256) : (tabTo 256).getD j 0 = ((crcN 8 j : Nat) : Int) := by
  unfold tabTo; simp [h]
end Go.Proofs.Ythiccmncdmohbaa
