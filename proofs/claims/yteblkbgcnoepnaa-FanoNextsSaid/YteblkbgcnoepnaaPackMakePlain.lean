/-
  Plain law on numbers of so many bits one behind the other: the bits of all, and the words that hold them. Conditions: each number has no more bits than it is given.
-/
import Derived.Test.YteblkbgcnoepnaaPutPlain
namespace Go.Dam
open Go
set_option linter.unusedVariables false

/-- The bits of numbers of m bits each. -/
def flat (m : Nat) (l : List Nat) : List Bool := (List.range (l.length * m)).map fun j => (l.getD (j / m) 0).testBit (j % m)
theorem flat_length (m : Nat) (l : List Nat) : (flat m l).length = l.length * m := by simp [flat]
theorem flat_get (m : Nat) (l : List Nat) (j : Nat) (hj : j < l.length * m) : (flat m l).getD j false = (l.getD (j / m) 0).testBit (j % m) := by simp [flat, hj]
theorem flat_at (m : Nat) (l : List Nat) (i k : Nat) (hi : i < l.length) (hk : k < m) : (flat m l).getD (i * m + k) false = (l.getD i 0).testBit k := by
  have h1 : (i + 1) * m ≤ l.length * m := Nat.mul_le_mul_right _ hi
  rw [Nat.succ_mul] at h1
  rw [flat_get _ _ _ (by omega)]
  have e1 : (i * m + k) / m = i := by rw [Nat.add_comm, Nat.add_mul_div_right _ _ (by omega), Nat.div_eq_of_lt hk, Nat.zero_add]
  have e2 : (i * m + k) % m = k := by rw [Nat.add_comm, Nat.add_mul_mod_self_right, Nat.mod_eq_of_lt hk]
  rw [e1, e2]
/-- Putting the next number is making m bits more. -/
theorem puts_next {m W i : Nat} {l : List Nat} {vs : List Nat} (hi : i < l.length) (hn : l.getD i 0 < 2 ^ m) (hW : l.length * m ≤ 64 * W) (h : PutsTo (packW (flat m l) W (i * m)) (i * m) (l.getD i 0) vs) : vs = packW (flat m l) W ((i + 1) * m) := by
  unfold PutsTo at h
  obtain ⟨h1, h2, h3⟩ := h
  have hle : (i + 1) * m ≤ l.length * m := Nat.mul_le_mul_right _ hi
  have hs : (i + 1) * m = i * m + m := Nat.succ_mul _ _
  refine words_ext (by rw [h1, packW_length, packW_length]) h2 (packW_lt _ _ _ (by omega)) fun j _ => ?_
  rw [h3, packW_bit _ _ _ (by omega), packW_bit _ _ _ (by omega)]
  by_cases ha : j < i * m
  · have h5 : ¬ i * m ≤ j := by omega
    have h6 : j < (i + 1) * m := by omega
    simp [ha, h5, h6]
  · have ha' : i * m ≤ j := by omega
    by_cases hb : j < (i + 1) * m
    · obtain ⟨k, rfl⟩ : ∃ k, j = i * m + k := ⟨j - i * m, by omega⟩
      rw [flat_at m l i k hi (by omega), show i * m + k - i * m = k from by omega]
      simp [ha, ha', hb]
    · have : (l.getD i 0).testBit (j - i * m) = false := Nat.testBit_lt_two_pow (Nat.lt_of_lt_of_le hn (Nat.pow_le_pow_right (by decide : 0 < 2) (by omega)))
      rw [this]; simp [ha, hb]
/-- What is made of numbers is well formed, and each stands at its place. -/
theorem packW_packed (m : Nat) (l : List Nat) (hl : l.length ≤ 300) (hm : m ≤ 62) : mayPacked l.length m (packW (flat m l) ((l.length * m + 63) / 64) (l.length * m)) = true := by
  have hp : l.length * m ≤ 300 * 62 := Nat.mul_le_mul hl hm
  have e : (l.length : Int) * (m : Int) = ((l.length * m : Nat) : Int) := by simp
  refine mayPacked_iff.2 ((mayPacked_ref (packW_lt _ _ _ (by omega))).2 ⟨by omega, ?_, fun i h1 h2 => ?_⟩)
  · rw [packW_length, e]; omega
  · rw [e] at h1
    rw [packW_bit _ _ _ (by omega)]; simp; intro; omega
attribute [irreducible] flat
end Go.Dam
