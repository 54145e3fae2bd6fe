/-
  Plain law on packed numbers, no program in sight: when they are well formed, and what number stands at a place. Conditions: each word is below 2 to the 64th.
-/
import Derived.Test.YteblkbgcnoepnaaPackPlain
namespace Go.Dam
open Go
set_option linter.unusedVariables false

/-- May n numbers of m bits in these words be? -/
def MayPacked (n m : Int) (ws : List Nat) : Prop := 0 ≤ n ∧ n ≤ 300 ∧ 0 ≤ m ∧ m ≤ 62 ∧ (ws.length : Int) = (n * m + 63) / 64 ∧ (n * m % 64 = 0 ∨ ws.getD (ws.length - 1) 0 / 2 ^ (n * m % 64).toNat = 0)
instance (n m : Int) (ws : List Nat) : Decidable (MayPacked n m ws) := by unfold MayPacked; infer_instance
def mayPacked (n m : Int) (ws : List Nat) : Bool := decide (MayPacked n m ws)
theorem mayPacked_iff {n m : Int} {ws : List Nat} : mayPacked n m ws = true ↔ MayPacked n m ws := by unfold mayPacked; exact decide_eq_true_iff
theorem mayPacked_false {n m : Int} {ws : List Nat} : mayPacked n m ws = false ↔ ¬ MayPacked n m ws := by unfold mayPacked; exact decide_eq_false_iff_not
theorem prod_bd {n m : Int} (h1 : 0 ≤ n) (h2 : n ≤ 300) (h3 : 0 ≤ m) (h4 : m ≤ 62) : 0 ≤ n * m ∧ n * m ≤ 18600 :=
  ⟨Int.mul_nonneg h1 h3, by have := Int.mul_le_mul h2 h4 h3 (by omega : (0 : Int) ≤ 300); omega⟩
theorem mayPacked_ref {n m : Int} {ws : List Nat} (hw : ∀ z ∈ ws, z < 18446744073709551616) :
    MayPacked n m ws ↔ ¬ (n < 0 ∨ 300 < n ∨ m < 0 ∨ 62 < m) ∧ ¬ (64 * (ws.length : Int) < n * m ∨ n * m + 64 ≤ 64 * (ws.length : Int)) ∧ ∀ i : Nat, (n * m).toNat ≤ i → i < 64 * ws.length → bitAt ws i = false := by
  constructor
  · rintro ⟨h1, h2, h3, h4, h5, h6⟩
    obtain ⟨p1, p2⟩ := prod_bd h1 h2 h3 h4
    generalize n * m = t at *
    obtain ⟨k, rfl⟩ := Int.eq_ofNat_of_zero_le p1
    refine ⟨by omega, by omega, ?_⟩
    refine (tail_zero (n := k) (by omega) hw).1 ?_
    rcases h6 with h4 | h4
    · exact .inl (by omega)
    · exact .inr (by rwa [show ((k : Int) % 64).toNat = k % 64 from by omega] at h4)
  · rintro ⟨h1, h2, h3⟩
    obtain ⟨p1, p2⟩ := prod_bd (n := n) (m := m) (by omega) (by omega) (by omega) (by omega)
    refine ⟨by omega, by omega, by omega, by omega, ?_⟩
    generalize n * m = t at *
    obtain ⟨k, rfl⟩ := Int.eq_ofNat_of_zero_le p1
    refine ⟨by omega, ?_⟩
    rcases (tail_zero (n := k) (by omega) hw).2 h3 with h | h
    · exact .inl (by omega)
    · exact .inr (by rwa [show ((k : Int) % 64).toNat = k % 64 from by omega])
/-- The number of m bits at bit a: bit by bit. -/
def numAt (ws : List Nat) (a : Nat) : Nat → Nat
  | 0 => 0
  | k + 1 => numAt ws a k + if bitAt ws (a + k) then 2 ^ k else 0
theorem numAt_0 (ws : List Nat) (a : Nat) : numAt ws a 0 = 0 := rfl
theorem numAt_succ (ws : List Nat) (a k : Nat) : numAt ws a (k + 1) = numAt ws a k + if bitAt ws (a + k) then 2 ^ k else 0 := rfl
theorem numAt_lt (ws : List Nat) (a m : Nat) : numAt ws a m < 2 ^ m := by
  induction m with
  | zero => simp [numAt]
  | succ m ih => rw [numAt_succ, Nat.pow_succ]; split <;> omega
theorem numAt_bit (ws : List Nat) (a m j : Nat) : (numAt ws a m).testBit j = (decide (j < m) && bitAt ws (a + j)) := by
  induction m with
  | zero => simp [numAt]
  | succ m ih =>
    rw [numAt_succ]
    cases hb : bitAt ws (a + m) with
    | false =>
      simp only [Bool.false_eq_true, if_false, Nat.add_zero]
      rw [ih]
      by_cases h : j = m
      · subst h; simp [hb]
      · have : (decide (j < m + 1)) = decide (j < m) := by simp; omega
        rw [this]
    | true =>
      simp only [if_true]
      have hc : (numAt ws a m).testBit m = false := Nat.testBit_lt_two_pow (numAt_lt ws a m)
      rw [add_pow_bit _ _ _ hc, ih]
      by_cases h : j = m
      · subst h; simp [hb]
      · have : (decide (j < m + 1)) = decide (j < m) := by simp; omega
        rw [this]; simp [h]
theorem numAt_0' (ws : List Nat) (a : Nat) : numAt ws a 0 = 0 := rfl
theorem numAt_succ' (ws : List Nat) (a k : Nat) : numAt ws a (k + 1) = numAt ws a k + if bitAt ws (a + k) = true then 2 ^ k else 0 := rfl
theorem pow_i64 (i : Nat) (hi : i < 63) : IntKind.i64.wrap (2 ^ i) = ((2 ^ i : Nat) : Int) := by
  have h2 : 2 ^ i < 2 ^ 63 := Nat.pow_lt_pow_right (by omega) hi
  have e : ((2 : Int) ^ i) = ((2 ^ i : Nat) : Int) := by simp
  rw [IntKind.wrap_i64, e]
  generalize (2 ^ i : Nat) = q at *
  omega
attribute [irreducible] mayPacked MayPacked numAt
end Go.Dam
