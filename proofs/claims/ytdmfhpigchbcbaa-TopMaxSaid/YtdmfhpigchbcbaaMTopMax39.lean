/-
  A range of a wave: its fault, or where it lies. Conditions: none.
-/
import Derived.Test.YtdmfhpigchbcbaaMTopMax32
import Derived.Test.YtdmfhpigchbcbaaMTopMax38
namespace Go.Proofs.Ytdmfhpigchbcbaa
open Go Go.RowKit Go.Dam
set_option linter.unusedVariables false
/-- A range's fault, or where it lies. -/
def RangeR (rs : List (Int × List Nat)) (a b cc : Int) (n p q : Nat) : Prop := (FaultR rs a b cc ∧ cc ≠ 0) ∨ (MayWave rs ∧ cc = 0 ∧ lenW rs = n ∧ a = p ∧ b = q ∧ p ≤ q ∧ q ≤ n)
theorem RangeR.ex (rs : List (Int × List Nat)) (a b : Int) : ∃ cc n p q, RangeR rs a b cc n p q := by
  obtain ⟨cc, h⟩ := FaultR.ex rs a b
  by_cases h0 : cc = 0
  · rcases h with ⟨_, rfl⟩ | ⟨_, _, rfl⟩ | ⟨hm, ⟨p, q, rfl, rfl, hpq, hq⟩, _⟩
    · exact absurd h0 (by decide)
    · exact absurd h0 (by decide)
    · obtain ⟨n, hn, _⟩ := mayWave_len hm
      exact ⟨cc, n, p, q, .inr ⟨hm, h0, hn, rfl, rfl, hpq, by omega⟩⟩
  · exact ⟨cc, 0, 0, 0, .inl ⟨h, h0⟩⟩
theorem RangeR.fault {rs : List (Int × List Nat)} {a b cc : Int} {n p q : Nat} (h : RangeR rs a b cc n p q) : FaultR rs a b cc := by
  rcases h with ⟨h, _⟩ | ⟨hm, rfl, hn, rfl, rfl, hpq, hq⟩
  · exact h
  · exact .inr (.inr ⟨hm, ⟨p, q, rfl, rfl, hpq, by omega⟩, rfl⟩)
theorem RangeR.sorted {rs : List (Int × List Nat)} {a b cc : Int} {n p q : Nat} (h : RangeR rs a b cc n p q) : SortedR rs a b (if cc = 0 then sW rs n p q else []) cc := by
  rcases h with ⟨h, h0⟩ | ⟨hm, rfl, hn, rfl, rfl, hpq, hq⟩
  · exact .inl ⟨h, h0, if_neg h0⟩
  · exact .inr ⟨hm, rfl, n, p, q, hn, rfl, rfl, hpq, hq, if_pos rfl⟩
theorem i64_of {b q n : Nat} (h : q ≤ n) (hn : n ≤ 300) : I64 (q : Int) := by unfold I64; omega
end Go.Proofs.Ytdmfhpigchbcbaa
