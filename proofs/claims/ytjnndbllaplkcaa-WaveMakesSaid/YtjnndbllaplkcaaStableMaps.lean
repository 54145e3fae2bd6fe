/-
  Plain maps of places, no program in sight: what exchanging two ranges, turning a range, and moving one element do. Conditions: bounds on the places.
-/
import Derived.IntWalk
namespace Go.Dam.Stable
set_option linter.unusedVariables false
/-- Two places exchanged. -/
def swI (i j k : Nat) : Nat := if k = i then j else if k = j then i else k
/-- Two ranges of n places exchanged. -/
def srI (a b n k : Nat) : Nat := if a ≤ k ∧ k < a + n then k - a + b else if b ≤ k ∧ k < b + n then k - b + a else k
/-- The part from m on put ahead of the part from a on. -/
def rotI (a m b k : Nat) : Nat := if a ≤ k ∧ k < b then (if k < a + (b - m) then k - a + m else k - (b - m)) else k
theorem srI_0 (a b k : Nat) : srI a b 0 k = k := by
  unfold srI
  repeat' split
  all_goals omega
theorem srI_step {a b n : Nat} (h : a + (n + 1) ≤ b) (k : Nat) : srI a b (n + 1) k = srI a b n (swI (a + n) (b + n) k) := by
  unfold srI swI
  repeat' split
  all_goals omega
theorem rot_gt {m i j : Nat} (hi : i ≤ m) (h : j < i) (hj : 0 < j) (k : Nat) : rotI (m - i) m (m + j) k = srI (m - i) m j (rotI (m - (i - j)) m (m + j) k) := by
  unfold rotI srI
  repeat' split
  all_goals omega
theorem rot_lt {m i j : Nat} (hi : i ≤ m) (h : i < j) (h0 : 0 < i) (k : Nat) : rotI (m - i) m (m + j) k = srI (m - i) (m + j - i) i (rotI (m - i) m (m + (j - i)) k) := by
  unfold rotI srI
  repeat' split
  all_goals omega
theorem rot_eq {m i : Nat} (hi : i ≤ m) (k : Nat) : rotI (m - i) m (m + i) k = srI (m - i) m i k := by
  unfold rotI srI
  repeat' split
  all_goals omega
theorem rot_none {a b : Nat} (k : Nat) : rotI a a b k = k ∨ a ≤ k ∧ k < b := by
  unfold rotI
  repeat' split
  all_goals omega
theorem rot_up_0 (a k : Nat) : rotI a (a + 1) (a + 1) k = k := by
  unfold rotI
  repeat' split
  all_goals omega
theorem rot_up {a t : Nat} (h : a < t) (k : Nat) : rotI a (a + 1) (t + 1) k = rotI a (a + 1) t (swI (t - 1) t k) := by
  unfold rotI swI
  repeat' split
  all_goals omega
theorem rot_down_0 (m k : Nat) : rotI m m (m + 1) k = k := by
  unfold rotI
  repeat' split
  all_goals omega
theorem rot_down {t m : Nat} (h0 : 0 < t) (h : t ≤ m) (k : Nat) : rotI (t - 1) m (m + 1) k = rotI t m (m + 1) (swI t (t - 1) k) := by
  unfold rotI swI
  repeat' split
  all_goals omega
theorem rot_in {a m b k : Nat} (h1 : a ≤ m) (h2 : m ≤ b) : (a ≤ k ∧ k < b → a ≤ rotI a m b k ∧ rotI a m b k < b) ∧ (¬ (a ≤ k ∧ k < b) → rotI a m b k = k) := by
  unfold rotI
  repeat' split
  all_goals omega
end Go.Dam.Stable
