/-
  Plain law on the number of bits that a number has. Conditions: the number is below 2 to the 64th.
-/
import Derived.Test.YteblkbgcnoepnaaBits
import Derived.Lib.BitFns
namespace Go.Dam
open Go
set_option linter.unusedVariables false
theorem bitLen_zero : Lib.bitLen 0 = 0 := by decide
theorem bitLen_iff (n x : Nat) (hx : x < 18446744073709551616) : n < Lib.bitLen x ↔ 2 ^ n ≤ x := by
  induction n generalizing x with
  | zero =>
    rcases Nat.eq_zero_or_pos x with h | h
    · subst h; rw [bitLen_zero]; simp
    · rw [Lib.bitLen_half x (by omega) hx]; simp; omega
  | succ n ih =>
    rcases Nat.eq_zero_or_pos x with h | h
    · subst h; rw [bitLen_zero]; simp
    · rw [Lib.bitLen_half x (by omega) hx, Nat.add_comm 1, Nat.add_lt_add_iff_right, ih _ (by omega), Nat.pow_succ]
      omega
theorem bitLen_le (m x : Nat) (hx : x < 18446744073709551616) : Lib.bitLen x ≤ m ↔ x < 2 ^ m := by
  have := bitLen_iff m x hx
  omega
/-- Wide enough for the first i numbers. -/
def wideTo (l : List Int) : Nat → Nat
  | 0 => 0
  | i + 1 => max (wideTo l i) (Lib.bitLen (l.getD i 0).toNat)
theorem wideTo_0 (l : List Int) : wideTo l 0 = 0 := rfl
theorem wideTo_succ (l : List Int) (i : Nat) : wideTo l (i + 1) = max (wideTo l i) (Lib.bitLen (l.getD i 0).toNat) := rfl
attribute [irreducible] wideTo
end Go.Dam
