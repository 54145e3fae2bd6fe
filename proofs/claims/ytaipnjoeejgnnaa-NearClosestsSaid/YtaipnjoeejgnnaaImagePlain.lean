/-
  Plain facts of points as bytes, no program in sight: numbers in groups of seven bits, numbers folded, the bytes of an image. Conditions: bounds on the numbers.
-/
import Derived.Test.YtaipnjoeejgnnaaCrcPlain
namespace Go.Dam
set_option linter.unusedVariables false
open Go
theorem wf_byte {z : Int} (h1 : 0 ≤ z) (h2 : z ≤ 255) : (Lit.int .u8 z).wf = true := by
  simp [Lit.wf, IntKind.min, IntKind.max, IntKind.signed, IntKind.bits]
  omega
/-- A number in groups of seven bits, the lowest first. -/
def sevL (n : Nat) : List Int := if n < 128 then [(n : Int)] else ((n % 128 + 128 : Nat) : Int) :: sevL (n / 128)
termination_by n
decreasing_by omega
theorem sevL_lo {n : Nat} (h : n < 128) : sevL n = [(n : Int)] := by rw [sevL, if_pos h]
theorem sevL_hi {n : Nat} (h : 128 ≤ n) : sevL n = ((n % 128 + 128 : Nat) : Int) :: sevL (n / 128) := by rw [sevL, if_neg (by omega)]
theorem sevL_len : ∀ k n : Nat, n < 128 ^ (k + 1) → (sevL n).length ≤ k + 1
  | 0, n, h => by rw [sevL_lo (by simpa using h)]; simp
  | k + 1, n, h => by
    by_cases g : n < 128
    · rw [sevL_lo g]; simp
    · rw [sevL_hi (by omega)]
      have := sevL_len k (n / 128) (by rw [Nat.div_lt_iff_lt_mul (by decide)]; rw [Nat.pow_succ] at h; exact h)
      simp only [List.length_cons]; omega
theorem sevL_len4 {n : Nat} (h : n ≤ 2097152) : (sevL n).length ≤ 4 := sevL_len 3 n (by omega)
theorem sevL_pos (n : Nat) : 1 ≤ (sevL n).length := by
  by_cases g : n < 128
  · rw [sevL_lo g]; simp
  · rw [sevL_hi (by omega)]; simp
theorem sevL_byte : ∀ k n : Nat, n ≤ k → ∀ z ∈ sevL n, 0 ≤ z ∧ z ≤ 255
  | k, n, h, z, hz => by
    by_cases g : n < 128
    · rw [sevL_lo g] at hz
      rw [List.mem_singleton.1 hz]; omega
    · rw [sevL_hi (by omega)] at hz
      rcases List.mem_cons.1 hz with e | e
      · rw [e]; omega
      · match k, h with
        | k + 1, h => exact sevL_byte k (n / 128) (by omega) z e
        | 0, h => omega
theorem sevL_wf (n : Nat) : ∀ z ∈ sevL n, (Lit.int .u8 z).wf = true := fun z hz => by
  obtain ⟨h1, h2⟩ := sevL_byte n n (Nat.le_refl _) z hz
  exact wf_byte h1 h2
/-- Numbers folded onto those that are not below 0. -/
def foldN (x : Int) : Nat := if x < 0 then (-2 * x - 1).toNat else (2 * x).toNat
theorem foldN_neg {x : Int} (h : x < 0) : ((foldN x : Nat) : Int) = -2 * x - 1 := by unfold foldN; rw [if_pos h]; omega
theorem foldN_pos {x : Int} (h : 0 ≤ x) : ((foldN x : Nat) : Int) = 2 * x := by unfold foldN; rw [if_neg (by omega)]; omega
theorem foldN_le {x : Int} (h1 : -1048576 ≤ x) (h2 : x ≤ 1048576) : foldN x ≤ 2097152 := by unfold foldN; split <;> omega
attribute [irreducible] foldN
/-- The bytes of the first numbers. -/
def numsL (l : List Int) : Nat → List Int
  | 0 => []
  | i + 1 => numsL l i ++ sevL (foldN (l.getD i 0))
theorem numsL_0 (l : List Int) : numsL l 0 = [] := rfl
theorem numsL_succ (l : List Int) (i : Nat) : numsL l (i + 1) = numsL l i ++ sevL (foldN (l.getD i 0)) := rfl
theorem numsL_len {l : List Int} : ∀ i, (∀ j, j < i → -1048576 ≤ l.getD j 0 ∧ l.getD j 0 ≤ 1048576) → (numsL l i).length ≤ 4 * i
  | 0, _ => by simp [numsL_0]
  | i + 1, h => by
    have h1 := numsL_len i fun j hj => h j (by omega)
    have h2 := sevL_len4 (foldN_le (h i (by omega)).1 (h i (by omega)).2)
    rw [numsL_succ, List.length_append]; omega
theorem numsL_wf (l : List Int) : ∀ i, ∀ z ∈ numsL l i, (Lit.int .u8 z).wf = true
  | 0, z, hz => by rw [numsL_0] at hz; cases hz
  | i + 1, z, hz => by
    rw [numsL_succ] at hz
    rcases List.mem_append.1 hz with e | e
    · exact numsL_wf l i z e
    · exact sevL_wf _ z e
attribute [irreducible] numsL
/-- The bytes ahead of the sum: a head, how many points, the numbers. -/
def bodyL (n : Nat) (l : List Int) (i : Nat) : List Int := [68, 65, 77, 49] ++ sevL n ++ numsL l i
theorem bodyL_0 (n : Nat) (l : List Int) : bodyL n l 0 = [68, 65, 77, 49] ++ sevL n := by unfold bodyL; rw [numsL_0, List.append_nil]
theorem bodyL_succ (n : Nat) (l : List Int) (i : Nat) : bodyL n l (i + 1) = bodyL n l i ++ sevL (foldN (l.getD i 0)) := by unfold bodyL; rw [numsL_succ, ← List.append_assoc]
theorem bodyL_len {n : Nat} {l : List Int} (hn : n ≤ 150) (i : Nat) (h : ∀ j, j < i → -1048576 ≤ l.getD j 0 ∧ l.getD j 0 ≤ 1048576) : (bodyL n l i).length ≤ 8 + 4 * i := by
  have h1 := sevL_len4 (n := n) (by omega)
  have h2 := numsL_len i h
  unfold bodyL
  simp only [List.length_append, List.length_cons, List.length_nil]
  omega
theorem bodyL_wf (n : Nat) (l : List Int) (i : Nat) : ∀ z ∈ bodyL n l i, (Lit.int .u8 z).wf = true := fun z hz => by
  unfold bodyL at hz
  rcases List.mem_append.1 hz with e | e
  · rcases List.mem_append.1 e with e | e
    · simp only [List.mem_cons, List.not_mem_nil, or_false] at e
      rcases e with rfl | rfl | rfl | rfl <;> rfl
    · exact sevL_wf _ z e
  · exact numsL_wf l i z e
attribute [irreducible] bodyL
/-- The sum's four bytes, the highest first. -/
def tailL (s : Nat) : List Int := [((s / 16777216 % 256 : Nat) : Int), ((s / 65536 % 256 : Nat) : Int), ((s / 256 % 256 : Nat) : Int), ((s % 256 : Nat) : Int)]
theorem tailL_wf (s : Nat) : ∀ z ∈ tailL s, (Lit.int .u8 z).wf = true := fun z hz => by
  have : 0 ≤ z ∧ z ≤ 255 := by
    unfold tailL at hz
    simp only [List.mem_cons, List.not_mem_nil, or_false] at hz
    rcases hz with rfl | rfl | rfl | rfl <;> omega
  exact wf_byte this.1 this.2
/-- The sum of bytes. -/
def sumL (l : List Int) : Nat := 4294967295 - crcTo l l.length
/-- The image of points. -/
def saveL (n : Nat) (l : List Int) : List Int := bodyL n l (n * 3) ++ tailL (sumL (bodyL n l (n * 3)))
attribute [irreducible] tailL sumL saveL
theorem sumL_eq (l : List Int) : sumL l = 4294967295 - crcTo l l.length := by unfold sumL; rfl
theorem saveL_eq (n : Nat) (l : List Int) : saveL n l = bodyL n l (n * 3) ++ tailL (sumL (bodyL n l (n * 3))) := by unfold saveL; rfl
theorem tailL_eq (s : Nat) : tailL s = [((s / 16777216 % 256 : Nat) : Int), ((s / 65536 % 256 : Nat) : Int), ((s / 256 % 256 : Nat) : Int), ((s % 256 : Nat) : Int)] := by unfold tailL; rfl
theorem saveL_wf (n : Nat) (l : List Int) : ∀ z ∈ saveL n l, (Lit.int .u8 z).wf = true := fun z hz => by
  rw [saveL_eq] at hz
  rcases List.mem_append.1 hz with e | e
  · exact bodyL_wf _ _ _ z e
  · exact tailL_wf _ z e
theorem saveL_len {n : Nat} {l : List Int} (hn : n ≤ 150) (h : ∀ j, j < n * 3 → -1048576 ≤ l.getD j 0 ∧ l.getD j 0 ≤ 1048576) : (saveL n l).length ≤ 1812 := by
  have := bodyL_len hn (n * 3) h
  rw [saveL_eq, List.length_append, tailL_eq]
  simp only [List.length_cons, List.length_nil]
  omega
end Go.Dam
