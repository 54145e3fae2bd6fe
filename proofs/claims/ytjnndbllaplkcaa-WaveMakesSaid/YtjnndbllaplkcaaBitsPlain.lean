/-
  Plain law on rows of bits, no program in sight: when a row is well formed (its words are as many as its length wants, and what is behind the last bit is 0), and what its bits are. Conditions: each word is below 2 to the 64th where that is wanted.
-/
import Derived.Test.YtjnndbllaplkcaaBits
namespace Go.Dam
open Go
set_option linter.unusedVariables false

/-- Bit i of a row of words. -/
def bitAt (ws : List Nat) (i : Nat) : Bool := (ws.getD (i / 64) 0).testBit (i % 64)
/-- May a row of n bits in these words be? -/
def MayBits (n : Int) (ws : List Nat) : Prop := 0 ≤ n ∧ n ≤ 4096 ∧ (ws.length : Int) = (n + 63) / 64 ∧ (n % 64 = 0 ∨ ws.getD (ws.length - 1) 0 / 2 ^ (n % 64).toNat = 0)
instance (n : Int) (ws : List Nat) : Decidable (MayBits n ws) := by unfold MayBits; infer_instance
def mayBits (n : Int) (ws : List Nat) : Bool := decide (MayBits n ws)
theorem mayBits_iff {n : Int} {ws : List Nat} : mayBits n ws = true ↔ MayBits n ws := by unfold mayBits; exact decide_eq_true_iff
theorem mayBits_false {n : Int} {ws : List Nat} : mayBits n ws = false ↔ ¬ MayBits n ws := by unfold mayBits; exact decide_eq_false_iff_not
/-- What is behind the last bit is 0, bit by bit. -/
theorem tail_zero {n : Nat} {ws : List Nat} (hn : ws.length = (n + 63) / 64) (hw : ∀ z ∈ ws, z < 18446744073709551616) :
    (n % 64 = 0 ∨ ws.getD (ws.length - 1) 0 / 2 ^ (n % 64) = 0) ↔ ∀ i, n ≤ i → i < 64 * ws.length → bitAt ws i = false := by
  constructor
  · intro h i hi hl
    unfold bitAt
    rcases h with h | h
    · omega
    · have e : i / 64 = ws.length - 1 := by omega
      rw [e]
      have hr : n % 64 ≤ i % 64 := by omega
      have h2 : ws.getD (ws.length - 1) 0 < 2 ^ (n % 64) := by
        rcases Nat.lt_or_ge (ws.getD (ws.length - 1) 0) (2 ^ (n % 64)) with h' | h'
        · exact h'
        · have := Nat.div_pos h' (Nat.two_pow_pos _); omega
      exact Nat.testBit_lt_two_pow (Nat.lt_of_lt_of_le h2 (Nat.pow_le_pow_right (by omega) hr))
  · intro h
    by_cases h0 : n % 64 = 0
    · exact .inl h0
    · right
      have hpos : 0 < ws.length := by omega
      generalize hx : ws.getD (ws.length - 1) 0 = x at *
      have hxl : x < 2 ^ 64 := by
        rw [← hx, List.getD_eq_getElem?_getD, List.getElem?_eq_getElem (by omega)]
        exact hw _ (List.getElem_mem _)
      have hb : ∀ j, n % 64 ≤ j → j < 64 → x.testBit j = false := by
        intro j h1 h2
        have := h (64 * (ws.length - 1) + j) (by omega) (by omega)
        unfold bitAt at this
        rwa [show (64 * (ws.length - 1) + j) / 64 = ws.length - 1 from by omega, show (64 * (ws.length - 1) + j) % 64 = j from by omega, hx] at this
      rw [Nat.div_eq_zero_iff]
      right
      have : x = x % 2 ^ (n % 64) := by
        apply Nat.eq_of_testBit_eq
        intro j
        rw [Nat.testBit_mod_two_pow]
        by_cases h1 : j < n % 64
        · simp [h1]
        · by_cases h2 : j < 64
          · rw [hb j (by omega) h2]; simp
          · rw [Nat.testBit_lt_two_pow (Nat.lt_of_lt_of_le hxl (Nat.pow_le_pow_right (by omega) (by omega)))]; simp
      rw [this]; exact Nat.mod_lt _ (Nat.two_pow_pos _)
/-- As the reference says it. -/
theorem mayBits_ref {n : Int} {ws : List Nat} (hw : ∀ z ∈ ws, z < 18446744073709551616) :
    MayBits n ws ↔ ¬ (n < 0 ∨ 4096 < n ∨ 64 * (ws.length : Int) < n ∨ n + 64 ≤ 64 * (ws.length : Int)) ∧ ∀ i : Nat, n.toNat ≤ i → i < 64 * ws.length → bitAt ws i = false := by
  constructor
  · rintro ⟨h1, h2, h3, h4⟩
    obtain ⟨k, rfl⟩ := Int.eq_ofNat_of_zero_le h1
    refine ⟨by omega, ?_⟩
    refine (tail_zero (n := k) (by omega) hw).1 ?_
    rcases h4 with h4 | h4
    · exact .inl (by omega)
    · exact .inr (by rwa [show ((k : Int) % 64).toNat = k % 64 from by omega] at h4)
  · rintro ⟨h1, h2⟩
    obtain ⟨k, rfl⟩ := Int.eq_ofNat_of_zero_le (by omega : 0 ≤ n)
    refine ⟨by omega, by omega, by omega, ?_⟩
    rcases (tail_zero (n := k) (by omega) hw).2 h2 with h | h
    · exact .inl (by omega)
    · exact .inr (by rwa [show ((k : Int) % 64).toNat = k % 64 from by omega])
theorem may_facts {n : Int} {ws : List Nat} (h : mayBits n ws = true) : 0 ≤ n ∧ n ≤ 4096 ∧ (ws.length : Int) = (n + 63) / 64 := by
  have := mayBits_iff.1 h
  unfold MayBits at this
  exact ⟨this.1, this.2.1, this.2.2.1⟩
attribute [irreducible] mayBits bitAt MayBits
end Go.Dam
