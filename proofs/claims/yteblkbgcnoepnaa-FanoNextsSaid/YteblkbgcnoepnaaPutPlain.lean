/-
  Plain law on putting a number of so many bits into words at a bit: what bits there are behind it. Also: words with the same bits are the same. Conditions: the bits lie within the words.
-/
import Derived.Test.YteblkbgcnoepnaaPackedPlain
namespace Go.Dam
open Go
set_option linter.unusedVariables false

theorem getD_lt {ws : List Nat} (hw : ∀ z ∈ ws, z < 18446744073709551616) (k : Nat) : ws.getD k 0 < 2 ^ 64 := by
  rw [List.getD_eq_getElem?_getD]
  rcases Nat.lt_or_ge k ws.length with h | h
  · rw [List.getElem?_eq_getElem h]; exact hw _ (List.getElem_mem _)
  · rw [List.getElem?_eq_none h]; simp
/-- Words of one length with the same bits are the same. -/
theorem words_ext {ws vs : List Nat} (hl : ws.length = vs.length) (hw : ∀ z ∈ ws, z < 18446744073709551616) (hv : ∀ z ∈ vs, z < 18446744073709551616) (hb : ∀ j, j < 64 * ws.length → bitAt ws j = bitAt vs j) : ws = vs := by
  apply List.ext_getElem hl
  intro k h1 h2
  have e1 : ws[k] = ws.getD k 0 := by simp [h1]
  have e2 : vs[k] = vs.getD k 0 := by simp [h2]
  rw [e1, e2]
  apply Nat.eq_of_testBit_eq
  intro i
  by_cases hi : i < 64
  · have := hb (64 * k + i) (by omega)
    rwa [bitAt_eq, bitAt_eq, show (64 * k + i) / 64 = k from by omega, show (64 * k + i) % 64 = i from by omega] at this
  · rw [Nat.testBit_lt_two_pow (Nat.lt_of_lt_of_le (getD_lt hw k) (Nat.pow_le_pow_right (by decide : 0 < 2) (by omega))), Nat.testBit_lt_two_pow (Nat.lt_of_lt_of_le (getD_lt hv k) (Nat.pow_le_pow_right (by decide : 0 < 2) (by omega)))]
theorem bitAt_set {ws : List Nat} {k x : Nat} (hk : k < ws.length) (j : Nat) : bitAt (ws.set k x) j = if j / 64 = k then x.testBit (j % 64) else bitAt ws j := by
  rw [bitAt_eq, bitAt_eq]
  split
  · rename_i h; rw [h, List.getD_eq_getElem?_getD, List.getElem?_set_self hk]; rfl
  · rename_i h; rw [List.getD_eq_getElem?_getD, List.getElem?_set_ne (fun e => h e.symm), ← List.getD_eq_getElem?_getD]
theorem mem_set_lt {ws : List Nat} {k x : Nat} (hw : ∀ z ∈ ws, z < 18446744073709551616) (hx : x < 18446744073709551616) : ∀ z ∈ ws.set k x, z < 18446744073709551616 := by
  intro z hz
  rcases List.mem_or_eq_of_mem_set hz with h | h
  · exact hw z h
  · rw [h]; exact hx
def putLow (ws : List Nat) (a n : Nat) : List Nat := ws.set (a / 64) (ws.getD (a / 64) 0 ||| n * 2 ^ (a % 64) % 18446744073709551616)
def putHigh (ws : List Nat) (a n : Nat) : List Nat := ws.set (a / 64 + 1) (ws.getD (a / 64 + 1) 0 ||| n / 2 ^ (64 - a % 64))
theorem putLow_length (ws : List Nat) (a n : Nat) : (putLow ws a n).length = ws.length := by simp [putLow]
theorem putHigh_length (ws : List Nat) (a n : Nat) : (putHigh ws a n).length = ws.length := by simp [putHigh]
theorem putLow_lt {ws : List Nat} {a n : Nat} (hw : ∀ z ∈ ws, z < 18446744073709551616) : ∀ z ∈ putLow ws a n, z < 18446744073709551616 :=
  mem_set_lt hw (Nat.or_lt_two_pow (n := 64) (getD_lt hw _) (Nat.mod_lt _ (by decide)))
theorem putHigh_lt {ws : List Nat} {a n : Nat} (hw : ∀ z ∈ ws, z < 18446744073709551616) (hn : n < 18446744073709551616) : ∀ z ∈ putHigh ws a n, z < 18446744073709551616 :=
  mem_set_lt hw (Nat.or_lt_two_pow (n := 64) (getD_lt hw _) (Nat.lt_of_le_of_lt (Nat.div_le_self _ _) hn))
theorem putLow_bit {ws : List Nat} {a n : Nat} (ha : a / 64 < ws.length) (j : Nat) : bitAt (putLow ws a n) j = (bitAt ws j || (decide (j / 64 = a / 64) && decide (a ≤ j) && n.testBit (j - a))) := by
  unfold putLow
  rw [bitAt_set ha]
  split
  · rename_i h
    rw [Nat.testBit_or, show (18446744073709551616 : Nat) = 2 ^ 64 from rfl, Nat.testBit_mod_two_pow, Nat.testBit_mul_two_pow, bitAt_eq ws j, h]
    have e1 : (decide (j % 64 < 64)) = true := by simp; omega
    have e2 : (decide (a % 64 ≤ j % 64)) = decide (a ≤ j) := by rw [Bool.eq_iff_iff]; simp; omega
    rw [e1, e2]
    by_cases hj : a ≤ j
    · rw [show j % 64 - a % 64 = j - a from by omega]; simp
    · simp [hj]
  · rename_i h; simp [h]
theorem putHigh_bit {ws : List Nat} {a n : Nat} (ha : a / 64 + 1 < ws.length) (hs : 0 < a % 64) (j : Nat) : bitAt (putHigh ws a n) j = (bitAt ws j || (decide (j / 64 = a / 64 + 1) && n.testBit (j - a))) := by
  unfold putHigh
  rw [bitAt_set ha]
  split
  · rename_i h
    rw [Nat.testBit_or, Nat.testBit_div_two_pow, bitAt_eq ws j, h]
    rw [show j % 64 + (64 - a % 64) = j - a from by omega]; simp
  · rename_i h; simp [h]
/-- What put does, whole: the number's bits from bit a on are set besides. -/
def PutsTo (ws : List Nat) (a n : Nat) (vs : List Nat) : Prop :=
  vs.length = ws.length ∧ (∀ z ∈ vs, z < 18446744073709551616) ∧ ∀ j, bitAt vs j = (bitAt ws j || (decide (a ≤ j) && n.testBit (j - a)))
theorem puts_zero {ws : List Nat} (hw : ∀ z ∈ ws, z < 18446744073709551616) (a : Nat) : PutsTo ws a 0 ws := ⟨rfl, hw, fun j => by simp⟩
theorem puts_low {ws : List Nat} {a n m : Nat} (hw : ∀ z ∈ ws, z < 18446744073709551616) (hn : n < 2 ^ m) (hm : m ≤ 62) (ha : a + m ≤ 64 * ws.length) (hm0 : 0 < m) (hup : a % 64 = 0 ∨ n / 2 ^ (64 - a % 64) = 0) : PutsTo ws a n (putLow ws a n) := by
  refine ⟨putLow_length _ _ _, putLow_lt hw, fun j => ?_⟩
  rw [putLow_bit (by omega)]
  by_cases hj : j / 64 = a / 64
  · simp [hj]
  · by_cases hja : a ≤ j
    · have : n.testBit (j - a) = false := by
        rcases hup with h | h
        · exact Nat.testBit_lt_two_pow (Nat.lt_of_lt_of_le hn (Nat.pow_le_pow_right (by decide : 0 < 2) (by omega)))
        · have hlt : n < 2 ^ (64 - a % 64) := by
            rcases Nat.lt_or_ge n (2 ^ (64 - a % 64)) with h' | h'
            · exact h'
            · have := Nat.div_pos h' (Nat.two_pow_pos _); omega
          exact Nat.testBit_lt_two_pow (Nat.lt_of_lt_of_le hlt (Nat.pow_le_pow_right (by decide : 0 < 2) (by omega)))
      simp [this]
    · simp [hja]
theorem puts_high {ws : List Nat} {a n m : Nat} (hw : ∀ z ∈ ws, z < 18446744073709551616) (hn : n < 2 ^ m) (hm : m ≤ 62) (ha : a / 64 + 1 < ws.length) (hs : 0 < a % 64) : PutsTo ws a n (putHigh (putLow ws a n) a n) := by
  have hn64 : n < 18446744073709551616 := Nat.lt_of_lt_of_le hn (Nat.pow_le_pow_right (by decide : 0 < 2) (by omega : m ≤ 64))
  refine ⟨by rw [putHigh_length, putLow_length], putHigh_lt (putLow_lt hw) hn64, fun j => ?_⟩
  rw [putHigh_bit (by rw [putLow_length]; exact ha) hs, putLow_bit (by omega)]
  by_cases hja : a ≤ j
  · by_cases h1 : j / 64 = a / 64
    · have h2 : ¬ j / 64 = a / 64 + 1 := by omega
      simp [h1, hja]
    · by_cases h2 : j / 64 = a / 64 + 1
      · simp [h2, hja]
      · have : n.testBit (j - a) = false := Nat.testBit_lt_two_pow (Nat.lt_of_lt_of_le hn (Nat.pow_le_pow_right (by decide : 0 < 2) (by omega)))
        simp [this]
  · have h2 : ¬ j / 64 = a / 64 + 1 := by omega
    simp [h2, hja]
/-- A high part that is there lies within the words. -/
theorem up_room {ws : List Nat} {a n m : Nat} (hn : n < 2 ^ m) (ha : a + m ≤ 64 * ws.length) (hs : 0 < a % 64) (hup : 0 < n / 2 ^ (64 - a % 64)) : a / 64 + 1 < ws.length := by
  have h1 : 2 ^ (64 - a % 64) ≤ n := by
    rcases Nat.lt_or_ge n (2 ^ (64 - a % 64)) with h | h
    · rw [Nat.div_eq_of_lt h] at hup; omega
    · exact h
  have h2 : 64 - a % 64 < m := (Nat.pow_lt_pow_iff_right (by decide : 1 < 2)).1 (Nat.lt_of_le_of_lt h1 hn)
  omega
attribute [irreducible] putLow putHigh PutsTo
end Go.Dam
