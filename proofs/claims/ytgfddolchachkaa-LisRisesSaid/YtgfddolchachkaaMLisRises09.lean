/-
  What the program's tables say of []int as an element of [][]int. Conditions: none.
-/
import Derived.Test.YtgfddolchachkaaMLisRises06
namespace Go.Proofs.Ytgfddolchachkaa
open Go Go.RowKit Go.Dam
theorem el_rows : El Try.prog 25 22 (.slice none 0 0) 1 24 := ⟨Try.underlying25, by kernel_rfl, rfl, by decide⟩
end Go.Proofs.Ytgfddolchachkaa
