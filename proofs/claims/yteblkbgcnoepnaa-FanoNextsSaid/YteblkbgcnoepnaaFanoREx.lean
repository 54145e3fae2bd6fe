/-
  What fano.Make gives is always there: for every bound and list. Conditions: none; no program in sight.
-/
import Derived.Test.YteblkbgcnoepnaaFanoMake
namespace Go.Proofs.Yteblkbgcnoepnaa
open Go Go.RowKit Go.Dam
set_option linter.unusedVariables false
theorem FanoR.ex (x : Int) (l : List Int) : ∃ bd n1 m1 ws1 n2 ws2 cc, FanoR x l bd n1 m1 ws1 n2 ws2 cc (fun W l n m ws => ∃ c, PackR W l n m ws c) := by
  unfold FanoR
  by_cases h1 : 300 < l.length
  · exact ⟨0, 0, 0, [], 0, [], 1, .inl ⟨by omega, rfl, rfl, rfl, rfl, rfl, rfl, .inl ⟨h1, rfl⟩⟩⟩
  · by_cases h2 : x < 0 ∨ (¬ x < 0 ∧ 1048576 < x)
    · exact ⟨0, 0, 0, [], 0, [], 2, .inl ⟨by omega, rfl, rfl, rfl, rfl, rfl, rfl, .inr (.inl ⟨by omega, h2, rfl⟩)⟩⟩
    · by_cases h3 : OkF x l
      · obtain ⟨b, rfl⟩ := Int.eq_ofNat_of_zero_le (by omega : 0 ≤ x)
        obtain ⟨W, hW⟩ := WidF.ex b l.length
        obtain ⟨n, m, ws, c, hP⟩ := PackR.ex W (lowF W l)
        exact ⟨b, n, m, ws, _, _, 0, .inr ⟨rfl, by omega, h3, b, W, rfl, by omega, hW, rfl, ⟨c, hP⟩, rfl, rfl⟩⟩
      · exact ⟨0, 0, 0, [], 0, [], 4, .inl ⟨by omega, rfl, rfl, rfl, rfl, rfl, rfl, .inr (.inr ⟨by omega, by omega, by omega, h3, rfl⟩)⟩⟩
end Go.Proofs.Yteblkbgcnoepnaa
