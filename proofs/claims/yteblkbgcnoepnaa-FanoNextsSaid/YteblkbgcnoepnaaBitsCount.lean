/-
  Plain facts of counting the bits of a row of words that equal one of the two bits. Conditions: none; nothing here names the program.
-/
import Derived.Test.YteblkbgcnoepnaaBits
import Derived.Test.YteblkbgcnoepnaaBitsPlain
namespace Go.Dam
open Go
set_option linter.unusedVariables false
/-- How many of the first i bits of the row are the bit 'one'. -/
def cntB (ws : List Nat) (one : Bool) : Nat → Nat
  | 0 => 0
  | i + 1 => cntB ws one i + if bitAt ws i = one then 1 else 0
theorem cntB_0 (ws : List Nat) (one : Bool) : cntB ws one 0 = 0 := rfl
theorem cntB_yes {ws : List Nat} {one : Bool} {i : Nat} (h : bitAt ws i = one) : cntB ws one (i + 1) = cntB ws one i + 1 := by rw [cntB, if_pos h]
theorem cntB_no {ws : List Nat} {one : Bool} {i : Nat} (h : ¬ bitAt ws i = one) : cntB ws one (i + 1) = cntB ws one i := by rw [cntB, if_neg h]; rfl
theorem cntB_le (ws : List Nat) (one : Bool) : ∀ i, cntB ws one i ≤ i
  | 0 => Nat.le_refl _
  | i + 1 => by have := cntB_le ws one i; rw [cntB]; split <;> omega
theorem cntB_mono (ws : List Nat) (one : Bool) (i : Nat) : ∀ d, cntB ws one i ≤ cntB ws one (i + d)
  | 0 => Nat.le_refl _
  | d + 1 => by have := cntB_mono ws one i d; rw [← Nat.add_assoc, cntB]; omega
/-- The word whose set bits are the bits 'one' of the word x. -/
def faced (one : Bool) (x : Nat) : Nat := if one = true then x else 18446744073709551615 - x
theorem faced_lt {one : Bool} {x : Nat} (h : x < 18446744073709551616) : faced one x < 18446744073709551616 := by unfold faced; split <;> omega
theorem faced_bit (one : Bool) {x r : Nat} (h : x < 18446744073709551616) (hr : r < 64) : (faced one x).testBit r = (x.testBit r == one) := by
  unfold faced
  cases one with
  | true => simp
  | false =>
    rw [if_neg (by simp)]
    have h2 : 18446744073709551615 - x = 2 ^ 64 - (x + 1) := by omega
    rw [h2, Nat.testBit_two_pow_sub_succ (by omega)]
    simp [hr]
theorem cntB_word (ws : List Nat) (one : Bool) (q : Nat) (hx : ws.getD q 0 < 18446744073709551616) : ∀ r, r ≤ 64 → cntB ws one (64 * q + r) = cntB ws one (64 * q) + cnt (faced one (ws.getD q 0)) r
  | 0, _ => by rw [cnt_0]; rfl
  | r + 1, h => by
    have ih := cntB_word ws one q hx r (by omega)
    have hb : bitAt ws (64 * q + r) = (ws.getD q 0).testBit r := by
      unfold bitAt
      rw [show (64 * q + r) / 64 = q from by omega, show (64 * q + r) % 64 = r from by omega]
    rw [← Nat.add_assoc, cntB, ih, cnt_succ, mod_of_test, faced_bit one hx (by omega), hb]
    cases (ws.getD q 0).testBit r <;> cases one <;> simp <;> omega
attribute [irreducible] cntB faced
end Go.Dam
