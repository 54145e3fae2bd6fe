/-
  Plain facts of a wave that may be: its rows, its length, what is read at a place. Conditions: none; no program in sight.
-/
import Derived.Test.YtdmfhpigchbcbaaMTopMax21
import Derived.Test.YtdmfhpigchbcbaaMTopMax00
namespace Go.Dam
open Go Go.RowKit
set_option linter.unusedVariables false
/-- The words of the rows. -/
def rowsW (rs : List (Int × List Nat)) : List (List Nat) := rs.map (·.2)
theorem rowsW_at (rs : List (Int × List Nat)) (k : Nat) : (rowsW rs).getD k [] = (rs.getD k (0, [])).2 := by
  unfold rowsW
  rcases Nat.lt_or_ge k rs.length with h | h
  · simp [h]
  · simp [h]
/-- How many numbers, as a Nat. -/
theorem mayWave_len {rs : List (Int × List Nat)} (h : MayWave rs) : ∃ n : Nat, lenW rs = n ∧ n ≤ 300 ∧ (rs.length = 0 → n = 0) ∧ rs.length ≤ 21 ∧ ∀ k, k < rs.length → (rs.getD k (0, [])).1 = n ∧ mayBits n ((rowsW rs).getD k []) = true := by
  obtain ⟨h1, h2, h3⟩ := h
  have h0 : 0 ≤ lenW rs := by
    rcases Nat.eq_zero_or_pos rs.length with h | h
    · rw [List.length_eq_zero_iff.1 h, lenW_0]; exact Int.le_refl _
    · obtain ⟨a, b⟩ := okW_iff.1 (h3 0 h)
      rw [← b]; exact (may_facts a).1
  obtain ⟨n, hn⟩ := Int.eq_ofNat_of_zero_le h0
  refine ⟨n, hn, by omega, fun h => ?_, h1, fun k hk => ?_⟩
  · have := hn
    rw [List.length_eq_zero_iff.1 h, lenW_0] at this
    omega
  · obtain ⟨a, b⟩ := okW_iff.1 (h3 k hk)
    rw [rowsW_at]
    rw [b, hn] at a
    exact ⟨b.trans hn, a⟩
/-- The number at j. -/
def numW (rs : List (Int × List Nat)) (j : Nat) : Nat := valW (lenW rs).toNat (rowsW rs) rs.length j
theorem numW_eq {rs : List (Int × List Nat)} {n : Nat} (h : lenW rs = n) (j : Nat) : numW rs j = valW n (rowsW rs) rs.length j := by unfold numW; rw [h]; rfl
/-- What At answers. -/
def WAtR (rs : List (Int × List Nat)) (i r cc : Int) : Prop :=
  (¬ MayWave rs ∧ r = 0 ∧ cc = 4) ∨ (MayWave rs ∧ (i < 0 ∨ (0 ≤ i ∧ lenW rs ≤ i)) ∧ r = 0 ∧ cc = 2) ∨ (MayWave rs ∧ ∃ j : Nat, i = j ∧ (j : Int) < lenW rs ∧ r = ((numW rs j : Nat) : Int) ∧ cc = 0)
theorem WAtR.ex (rs : List (Int × List Nat)) (i : Int) : ∃ r cc, WAtR rs i r cc := by
  by_cases hm : MayWave rs
  · by_cases h : i < 0
    · exact ⟨_, _, .inr (.inl ⟨hm, .inl h, rfl, rfl⟩)⟩
    · by_cases h2 : lenW rs ≤ i
      · exact ⟨_, _, .inr (.inl ⟨hm, .inr ⟨by omega, h2⟩, rfl, rfl⟩)⟩
      · exact ⟨_, _, .inr (.inr ⟨hm, i.toNat, by omega, by omega, rfl, rfl⟩)⟩
  · exact ⟨_, _, .inl ⟨hm, rfl, rfl⟩⟩
theorem valW_bound {n k j : Nat} {rows : List (List Nat)} (hk : k ≤ 21) : valW n rows k j < 2097152 := by
  have h1 := valW_lt n rows j k
  have h2 : 2 ^ k ≤ 2 ^ 21 := Nat.pow_le_pow_right (by decide) hk
  omega
attribute [irreducible] numW rowsW
end Go.Dam
