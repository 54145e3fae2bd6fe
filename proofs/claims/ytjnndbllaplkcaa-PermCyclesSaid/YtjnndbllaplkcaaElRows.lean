/-
  What the program's tables say of []int as an element of [][]int. Conditions: none.
-/
import Derived.Test.YtjnndbllaplkcaaIntRows
namespace Go.Proofs.Ytjnndbllaplkcaa
open Go Go.RowKit Go.Dam
theorem el_rows : El Try.prog 43 22 (.slice none 0 0) 1 24 := ⟨Try.underlying43, by kernel_rfl, rfl, by decide⟩
end Go.Proofs.Ytjnndbllaplkcaa
