/-
  Plain laws of tables of sums, no program in sight: which places a place of the table covers, and how sums from the first place on are made of them. Conditions: fewer than 300 places where it says so.
-/
import Derived.Test.YtiflelifkjfpdaaBits
namespace Go.Dam
set_option linter.unusedVariables false
open Go
/-- The first place that place i covers. -/
def fenLo (i : Nat) : Nat := i &&& (i + 1)
/-- The next place that covers all that place i covers. -/
def fenUp (i : Nat) : Nat := i ||| (i + 1)
theorem fenLo_le (i : Nat) : fenLo i ≤ i := Nat.and_le_left
theorem fenUp_gt (i : Nat) : i < fenUp i := Nat.lt_of_lt_of_le (Nat.lt_succ_self i) Nat.right_le_or
theorem fen_chain : (List.range 300).all (fun i => (List.range 300).all fun k => k ≤ i || ((Nat.ble (fenLo k) i) == (Nat.ble (fenLo k) (fenUp i) && Nat.ble (fenUp i) k))) = true := by decide +kernel
/-- What covers i is i itself and what covers the next one. -/
theorem chain_step {i k : Nat} (hi : i < 300) (hk : k < 300) : (fenLo k ≤ i ∧ i ≤ k) ↔ (k = i ∨ (fenLo k ≤ fenUp i ∧ fenUp i ≤ k)) := by
  have h := List.all_eq_true.1 fen_chain i (List.mem_range.2 hi)
  have h := List.all_eq_true.1 h k (List.mem_range.2 hk)
  rcases Nat.lt_trichotomy k i with h1 | h1 | h1
  · have := fenUp_gt i
    constructor
    · intro h; omega
    · rintro (h | h) <;> omega
  · subst h1
    exact ⟨fun _ => .inl rfl, fun _ => ⟨fenLo_le k, Nat.le_refl _⟩⟩
  · simp only [Bool.or_eq_true, decide_eq_true_eq, beq_iff_eq] at h
    rcases h with h | h
    · omega
    · have e : Nat.ble (fenLo k) i = true ↔ (Nat.ble (fenLo k) (fenUp i) && Nat.ble (fenUp i) k) = true := by rw [h]
      rw [Bool.and_eq_true, Nat.ble_eq, Nat.ble_eq, Nat.ble_eq] at e
      constructor
      · rintro ⟨a, b⟩; exact .inr (e.1 a)
      · rintro (a | a)
        · omega
        · exact ⟨e.2 a, by omega⟩
/-- Up to where, of what place k covers, those below i have told it. -/
def fenTold : Nat → Nat → Nat
  | 0, k => fenLo k
  | i + 1, k => if fenUp i = k then i + 1 else fenTold i k
theorem fenTold_0 (k : Nat) : fenTold 0 k = fenLo k := rfl
theorem fenTold_yes {i k : Nat} (h : fenUp i = k) : fenTold (i + 1) k = i + 1 := if_pos h
theorem fenTold_no {i k : Nat} (h : fenUp i ≠ k) : fenTold (i + 1) k = fenTold i k := if_neg h
theorem told_all : (List.range 300).all (fun i => Nat.beq (fenTold i i) i && Nat.beq (fenTold i (fenUp i)) (fenLo i)) = true := by decide +kernel
theorem told_facts {i : Nat} (h : i < 300) : fenTold i i = i ∧ fenTold i (fenUp i) = fenLo i := by
  have h := List.all_eq_true.1 told_all i (List.mem_range.2 h)
  simp only [Bool.and_eq_true, Nat.beq_eq] at h
  exact h
theorem told_end {k n : Nat} (hk : k < n) (h : k < 300) : fenTold n k = k := by
  induction n with
  | zero => omega
  | succ n ih =>
    have := fenUp_gt n
    rw [fenTold_no (by omega)]
    rcases Nat.lt_or_ge k n with h1 | h1
    · exact ih h1
    · rw [show n = k from by omega]; exact (told_facts h).1
/-- The lowest bit, found by trying. -/
theorem low_all : (List.range 300).all (fun i => (List.range 10).all fun m => !(Nat.beq ((i + 1) % 2 ^ m) 0 && !Nat.beq ((i + 1) % (2 * 2 ^ m)) 0) || Nat.beq (i + 1 - 2 ^ m) (fenLo i)) = true := by decide +kernel
theorem low_found {i m : Nat} (hi : i < 300) (hm : m < 10) (h1 : (i + 1) % 2 ^ m = 0) (h2 : (i + 1) % (2 * 2 ^ m) ≠ 0) : i + 1 - 2 ^ m = fenLo i := by
  have h := List.all_eq_true.1 low_all i (List.mem_range.2 hi)
  have h := List.all_eq_true.1 h m (List.mem_range.2 hm)
  simp only [Bool.or_eq_true, Bool.not_eq_true', Bool.and_eq_false_iff, Bool.not_eq_false', Nat.beq_eq] at h
  rcases h with (h | h) | h
  · have e : Nat.beq ((i + 1) % 2 ^ m) 0 = true := Nat.beq_eq ▸ h1
    rw [e] at h; cases h
  · exact absurd h h2
  · exact h
/-- Halves: from a place of the right kind on, the next step covers just to there. -/
theorem half_all : (List.range 300).all (fun a => (List.range 10).all fun m => !(Nat.beq (a % (2 * 2 ^ m)) 0) || Nat.beq (fenLo (a + 2 ^ m - 1)) a) = true := by decide +kernel
theorem half_lo {a m : Nat} (ha : a < 300) (hm : m < 10) (h : a % (2 * 2 ^ m) = 0) : fenLo (a + 2 ^ m - 1) = a := by
  have h' := List.all_eq_true.1 half_all a (List.mem_range.2 ha)
  have h' := List.all_eq_true.1 h' m (List.mem_range.2 hm)
  simp only [Bool.or_eq_true, Bool.not_eq_true', Nat.beq_eq] at h'
  rcases h' with h' | h'
  · have e : Nat.beq (a % (2 * 2 ^ m)) 0 = true := Nat.beq_eq ▸ h
    rw [e] at h'; cases h'
  · exact h'
/-- The sum of the numbers below k. -/
def preS (l : List Int) : Nat → Int
  | 0 => 0
  | k + 1 => preS l k + l.getD k 0
/-- The sum, from the first place on, that table t tells. -/
def fenP (t : List Int) : Nat → Int
  | 0 => 0
  | j + 1 => t.getD j 0 + fenP t (fenLo j)
termination_by j => j
decreasing_by exact Nat.lt_succ_of_le (fenLo_le j)
theorem fenP_0 (t : List Int) : fenP t 0 = 0 := by rw [fenP]
theorem fenP_succ (t : List Int) (j : Nat) : fenP t (j + 1) = t.getD j 0 + fenP t (fenLo j) := by rw [fenP]
theorem fenP_bd {t : List Int} (h : ∀ i, -1099511627776 ≤ t.getD i 0 ∧ t.getD i 0 ≤ 1099511627776) : ∀ n j : Nat, j ≤ n → -(1099511627776 * (j : Int)) ≤ fenP t j ∧ fenP t j ≤ 1099511627776 * (j : Int) := by
  intro n
  induction n with
  | zero => intro j hj; obtain rfl : j = 0 := by omega
            rw [fenP_0]; omega
  | succ n ih =>
    intro j hj
    cases j with
    | zero => rw [fenP_0]; omega
    | succ j =>
      rw [fenP_succ]
      have h1 := h j
      have h2 := fenLo_le j
      have h3 := ih (fenLo j) (by omega)
      omega
theorem preS_0 (l : List Int) : preS l 0 = 0 := rfl
theorem preS_succ (l : List Int) (k : Nat) : preS l (k + 1) = preS l k + l.getD k 0 := rfl
theorem preS_bd {l : List Int} {M : Int} (hM : 0 ≤ M) (h : ∀ i, -M ≤ l.getD i 0 ∧ l.getD i 0 ≤ M) : ∀ k : Nat, -(M * k) ≤ preS l k ∧ preS l k ≤ M * k
  | 0 => by rw [preS_0]; simp
  | k + 1 => by
    have h1 := preS_bd hM h k
    have h2 := h k
    have e : M * ((k + 1 : Nat) : Int) = M * k + M := by rw [Int.natCast_add, Int.mul_add]; simp
    rw [preS_succ, e]; omega
attribute [irreducible] fenLo fenUp fenTold preS
theorem fenLo_int (i : Nat) (h : i < 9223372036854775807) : bits .and .i64 ((i : Int) + 1) (i : Int) = ((fenLo i : Nat) : Int) := by
  unfold fenLo
  rw [Nat.and_comm]
  exact and_i64 _ (i + 1) i (by simp) (by omega) (by omega)
theorem fenUp_int (i : Nat) (h : i < 9223372036854775807) : bits .or .i64 (i : Int) ((i : Int) + 1) = ((fenUp i : Nat) : Int) := by
  unfold fenUp
  have := i64_or_nat i (i + 1) (by omega) (by omega)
  simpa using this
end Go.Dam
