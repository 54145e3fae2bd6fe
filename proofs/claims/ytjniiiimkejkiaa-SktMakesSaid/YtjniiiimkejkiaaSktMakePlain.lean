/-
  Plain laws of the rows of a sketch: how often a key has a place, as keys are counted one by one; no program in sight. Conditions: none.
-/
import Derived.Test.YtjniiiimkejkiaaSktBase
namespace Go.Dam
set_option linter.unusedVariables false
/-- How many of the first m keys have place i in row r. -/
def cntAt (ks : List Int) (r i : Nat) : Nat → Nat
  | 0 => 0
  | m + 1 => cntAt ks r i m + if placeN r (ks.getD m 0).toNat = i then 1 else 0
theorem cntAt_0 (ks : List Int) (r i : Nat) : cntAt ks r i 0 = 0 := rfl
theorem cntAt_yes {ks : List Int} {r i m : Nat} (h : placeN r (ks.getD m 0).toNat = i) : cntAt ks r i (m + 1) = cntAt ks r i m + 1 := by rw [cntAt, if_pos h]
theorem cntAt_no {ks : List Int} {r i m : Nat} (h : placeN r (ks.getD m 0).toNat ≠ i) : cntAt ks r i (m + 1) = cntAt ks r i m := by rw [cntAt, if_neg h, Nat.add_zero]
theorem cntAt_le (ks : List Int) (r i : Nat) : ∀ m, cntAt ks r i m ≤ m
  | 0 => Nat.le_refl _
  | m + 1 => by
    have := cntAt_le ks r i m
    rw [cntAt]; split <;> omega
attribute [irreducible] cntAt
/-- The first n places of row r, m keys counted. -/
def cntRow (ks : List Int) (r m n : Nat) : List Int := (List.range n).map fun i => ((cntAt ks r i m : Nat) : Int)
theorem cntRow_length (ks : List Int) (r m n : Nat) : (cntRow ks r m n).length = n := by simp [cntRow]
theorem cntRow_0 (ks : List Int) (r m : Nat) : cntRow ks r m 0 = [] := rfl
theorem cntRow_succ (ks : List Int) (r m n : Nat) : cntRow ks r m (n + 1) = cntRow ks r m n ++ [((cntAt ks r n m : Nat) : Int)] := by simp [cntRow, List.range_succ]
theorem cntRow_at {ks : List Int} {r m n i : Nat} (h : i < n) : (cntRow ks r m n).getD i 0 = ((cntAt ks r i m : Nat) : Int) := by simp [cntRow, h]
theorem cntRow_zero (ks : List Int) (r n : Nat) : cntRow ks r 0 n = List.replicate n 0 := by
  apply List.ext_getElem
  · simp [cntRow]
  · intro i h1 h2; simp [cntRow, cntAt_0]
theorem cntRow_wf {ks : List Int} {r m n : Nat} (hm : m ≤ 1000) : ∀ z ∈ cntRow ks r m n, (Lit.int .i64 z).wf = true := by
  intro z hz
  simp only [cntRow, List.mem_map, List.mem_range] at hz
  obtain ⟨i, hi, rfl⟩ := hz
  have := cntAt_le ks r i m
  simp [Lit.wf, IntKind.min, IntKind.max, IntKind.signed, IntKind.bits]
  omega
theorem cntRow_set {ks : List Int} {r m n p : Nat} (hp : placeN r (ks.getD m 0).toNat = p) (hn : p < n) : (cntRow ks r m n).set p ((cntRow ks r m n).getD p 0 + 1) = cntRow ks r (m + 1) n := by
  rw [cntRow_at hn]
  apply List.ext_getElem
  · simp [cntRow]
  · intro i h1 h2
    rw [List.getElem_set]
    simp only [cntRow, List.getElem_map, List.getElem_range]
    split
    · rename_i h; subst h; rw [cntAt_yes hp]; simp
    · rename_i h; rw [cntAt_no (by rw [hp]; exact h)]
/-- The first n rows, all keys counted. -/
def cntRows (ks : List Int) (n : Nat) : List (List Int) := (List.range n).map fun r => cntRow ks r ks.length 64
theorem cntRows_length (ks : List Int) (n : Nat) : (cntRows ks n).length = n := by simp [cntRows]
theorem cntRows_0 (ks : List Int) : cntRows ks 0 = [] := rfl
theorem cntRows_succ (ks : List Int) (n : Nat) : cntRows ks (n + 1) = cntRows ks n ++ [cntRow ks n ks.length 64] := by simp [cntRows, List.range_succ]
theorem cntRows_wf {ks : List Int} {n : Nat} (hk : ks.length ≤ 1000) : ∀ l ∈ cntRows ks n, l.length ≤ 140737488351232 ∧ ∀ z ∈ l, (Lit.int .i64 z).wf = true := by
  intro l hl
  simp only [cntRows, List.mem_map, List.mem_range] at hl
  obtain ⟨r, _, rfl⟩ := hl
  exact ⟨by rw [cntRow_length]; omega, cntRow_wf hk⟩
attribute [irreducible] cntRow cntRows
end Go.Dam
