/-
  Contract of the reference's waveSorted: the numbers of a range, sorted. Conditions: the wave can be read as data.
-/
import Derived.Test.YtdmfhpigchbcbaaMTopCover17
import Derived.Test.YtdmfhpigchbcbaaMTopCover36
import Derived.Test.YtdmfhpigchbcbaaMTopCover37
import Derived.Test.YtdmfhpigchbcbaaMTopCover31
import Derived.Deep.CutRange
namespace Go.Dam
open Go
theorem addr_add' (b off j : Nat) : (⟨b, off, none⟩ : Addr).add j = ⟨b, off + j, none⟩ := by unfold Addr.add; split <;> simp_all
end Go.Dam
namespace Go.Proofs.Ytdmfhpigchbcbaa
open Go Go.RowKit Go.Dam
set_option linter.unusedVariables false
/-- What waveSorted answers. -/
def SortedR (rs : List (Int × List Nat)) (a b : Int) (l : List Int) (cc : Int) : Prop :=
  (FaultR rs a b cc ∧ cc ≠ 0 ∧ l = []) ∨ (MayWave rs ∧ cc = 0 ∧ ∃ n p q : Nat, lenW rs = n ∧ a = p ∧ b = q ∧ p ≤ q ∧ q ≤ n ∧ l = sW rs n p q)
theorem SortedR.ex (rs : List (Int × List Nat)) (a b : Int) : ∃ l cc, SortedR rs a b l cc ∧ FaultR rs a b cc := by
  obtain ⟨cc, h⟩ := FaultR.ex rs a b
  by_cases h0 : cc = 0
  · have hf := h
    rcases h with ⟨_, rfl⟩ | ⟨_, _, rfl⟩ | ⟨hm, ⟨p, q, rfl, rfl, hpq, hq⟩, _⟩
    · exact absurd h0 (by decide)
    · exact absurd h0 (by decide)
    · obtain ⟨n, hn, _⟩ := mayWave_len hm
      exact ⟨_, _, .inr ⟨hm, h0, n, p, q, hn, rfl, rfl, hpq, by omega, rfl⟩, hf⟩
  · exact ⟨_, _, .inl ⟨h, h0, rfl⟩, h⟩
end Go.Proofs.Ytdmfhpigchbcbaa
