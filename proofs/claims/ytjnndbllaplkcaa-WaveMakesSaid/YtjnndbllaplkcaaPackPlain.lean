/-
  Plain law on bits put into words, one by one: what the words hold, and that the row is well formed. Conditions: the words are as many as the bits want.
-/
import Derived.Test.YtjnndbllaplkcaaBitsPlain
namespace Go.Dam
open Go
set_option linter.unusedVariables false

theorem add_pow_bit (x k j : Nat) (h : x.testBit k = false) : (x + 2 ^ k).testBit j = (decide (j = k) || x.testBit j) := by
  have hm := mod_of_test x k
  rw [h] at hm
  simp only [Bool.false_eq_true, if_false] at hm
  have hr : x % 2 ^ k < 2 ^ k := Nat.mod_lt _ (Nat.two_pow_pos k)
  have e1 : x = 2 ^ k * (2 * (x / 2 ^ k / 2)) + x % 2 ^ k := by
    have h1 := Nat.div_add_mod x (2 ^ k)
    have h2 : 2 * (x / 2 ^ k / 2) = x / 2 ^ k := by omega
    rw [h2]; exact h1.symm
  have e2 : x + 2 ^ k = 2 ^ k * (2 * (x / 2 ^ k / 2) + 1) + x % 2 ^ k := by rw [Nat.mul_add, Nat.mul_one]; omega
  generalize x / 2 ^ k / 2 = q at *
  generalize x % 2 ^ k = r at *
  rw [e2, e1, Nat.testBit_two_pow_mul_add _ hr, Nat.testBit_two_pow_mul_add _ hr]
  by_cases hj : j < k
  · simp [hj]; omega
  · simp only [hj, if_false]
    by_cases hjk : j = k
    · subst hjk; simp [Nat.testBit_zero, Nat.add_mod]
    · obtain ⟨m, hm'⟩ : ∃ m, j - k = m + 1 := ⟨j - k - 1, by omega⟩
      rw [hm', Nat.testBit_succ, Nat.testBit_succ]
      simp [hjk]
      congr 1; omega
theorem add_pow_lt (x k : Nat) (hx : x < 18446744073709551616) (hk : k < 64) (h : x.testBit k = false) : x + 2 ^ k < 18446744073709551616 := by
  have : x + 2 ^ k < 2 ^ 64 := by
    apply Nat.lt_pow_two_of_testBit
    intro j hj
    rw [add_pow_bit x k j h, Nat.testBit_lt_two_pow (Nat.lt_of_lt_of_le hx ((Nat.pow_le_pow_right (by decide : 0 < 2) hj : 2 ^ 64 ≤ 2 ^ j)))]
    simp; omega
  exact this
theorem or_pow (x k : Nat) (hx : x < 18446744073709551616) (hk : k < 64) (h : x.testBit k = false) : bits .or .u64 (x : Int) (IntKind.u64.wrap (2 ^ k)) = ((x + 2 ^ k : Nat) : Int) := by
  rw [pow_u64 k hk]
  have h2 : 2 ^ k < 2 ^ 64 := Nat.pow_lt_pow_right (by omega) hk
  rw [or_u64 _ _ x (2 ^ k) rfl rfl hx h2]
  have : x ||| 2 ^ k = x + 2 ^ k := by
    apply Nat.eq_of_testBit_eq
    intro j
    rw [add_pow_bit x k j h, Nat.testBit_or, Nat.testBit_two_pow]
    cases x.testBit j <;> simp [eq_comm]
  rw [this]
/-- One bit more is set. -/
def setW (ws : List Nat) (i : Nat) : List Nat := ws.set (i / 64) (ws.getD (i / 64) 0 + 2 ^ (i % 64))
/-- The words behind i bits of l. -/
def packW (l : List Bool) (W : Nat) : Nat → List Nat
  | 0 => List.replicate W 0
  | i + 1 => if l.getD i false then setW (packW l W i) i else packW l W i
theorem packW_0 (l : List Bool) (W : Nat) : packW l W 0 = List.replicate W 0 := rfl
theorem packW_yes {l : List Bool} {W i : Nat} (h : l.getD i false = true) : packW l W (i + 1) = (packW l W i).set (i / 64) ((packW l W i).getD (i / 64) 0 + 2 ^ (i % 64)) := by simp only [packW, h, if_true, setW]
theorem packW_no {l : List Bool} {W i : Nat} (h : l.getD i false = false) : packW l W (i + 1) = packW l W i := by simp only [packW, h, Bool.false_eq_true, if_false]
theorem packW_length (l : List Bool) (W i : Nat) : (packW l W i).length = W := by
  induction i with
  | zero => simp [packW]
  | succ i ih =>
    simp only [packW]
    split
    · simp [setW, ih]
    · exact ih
theorem bitAt_eq (ws : List Nat) (i : Nat) : bitAt ws i = (ws.getD (i / 64) 0).testBit (i % 64) := by unfold bitAt; rfl
theorem packW_bit (l : List Bool) (W i : Nat) (hi : i ≤ 64 * W) : ∀ j, bitAt (packW l W i) j = (decide (j < i) && l.getD j false) := by
  induction i with
  | zero =>
    intro j
    rw [bitAt_eq, packW_0, List.getD_eq_getElem?_getD, List.getElem?_replicate]
    split <;> simp
  | succ i ih =>
    intro j
    have ih := ih (by omega)
    cases hb : l.getD i false with
    | false =>
      rw [packW_no hb, ih]
      by_cases h : j = i
      · subst h; simp only [hb]; simp
      · have : (decide (j < i + 1)) = decide (j < i) := by simp; omega
        rw [this]
    | true =>
      rw [packW_yes hb]
      have hl := packW_length l W i
      have hil : i / 64 < (packW l W i).length := by rw [hl]; omega
      have hclear : ((packW l W i).getD (i / 64) 0).testBit (i % 64) = false := by rw [← bitAt_eq, ih]; simp
      rw [bitAt_eq]
      by_cases hw : j / 64 = i / 64
      · rw [hw, List.getD_eq_getElem?_getD, List.getElem?_set_self hil, Option.getD_some, add_pow_bit _ _ _ hclear, ← hw, ← bitAt_eq, ih]
        by_cases h : j = i
        · subst h; simp only [hb]; simp
        · have h1 : ¬ j % 64 = i % 64 := by omega
          have : (decide (j < i + 1)) = decide (j < i) := by simp; omega
          rw [this]; simp [h1]
      · rw [List.getD_eq_getElem?_getD, List.getElem?_set_ne (by omega), ← List.getD_eq_getElem?_getD, ← bitAt_eq, ih]
        have : (decide (j < i + 1)) = decide (j < i) := by simp; omega
        rw [this]
theorem packW_clear (l : List Bool) (W i j : Nat) (hi : i ≤ 64 * W) (hj : i ≤ j) : ((packW l W i).getD (j / 64) 0).testBit (j % 64) = false := by
  rw [← bitAt_eq, packW_bit l W i hi]; simp; omega
theorem packW_lt (l : List Bool) (W i : Nat) (hi : i ≤ 64 * W) : ∀ z ∈ packW l W i, z < 18446744073709551616 := by
  induction i with
  | zero => intro z hz; rw [packW_0, List.mem_replicate] at hz; omega
  | succ i ih =>
    have ih := ih (by omega)
    cases hb : l.getD i false with
    | false => rw [packW_no hb]; exact ih
    | true =>
      rw [packW_yes hb]
      intro z hz
      rcases List.mem_or_eq_of_mem_set hz with h | h
      · exact ih z h
      · rw [h]
        refine add_pow_lt _ _ ?_ (by omega) (packW_clear l W i i (by omega) (Nat.le_refl _))
        rw [List.getD_eq_getElem?_getD, List.getElem?_eq_getElem (by rw [packW_length]; omega)]
        exact ih _ (List.getElem_mem _)
/-- A word more of room is a 0 more. -/
theorem packW_grow (l : List Bool) (W i : Nat) (hi : i ≤ 64 * W) : packW l (W + 1) i = packW l W i ++ [0] := by
  induction i with
  | zero => rw [packW_0, packW_0, List.replicate_succ']
  | succ i ih =>
    have ih := ih (by omega)
    cases hb : l.getD i false with
    | false => rw [packW_no hb, packW_no hb, ih]
    | true =>
      have hl : i / 64 < (packW l W i).length := by rw [packW_length]; omega
      rw [packW_yes hb, packW_yes hb, ih, List.set_append_left _ _ hl]
      congr 2
      rw [List.getD_eq_getElem?_getD, List.getElem?_append_left hl, List.getD_eq_getElem?_getD]
/-- What is made is well formed. -/
theorem packW_may (l : List Bool) (hl : l.length ≤ 4096) : mayBits l.length (packW l ((l.length + 63) / 64) l.length) = true := by
  refine mayBits_iff.2 ((mayBits_ref (packW_lt l _ _ (by omega))).2 ⟨?_, fun i h1 h2 => ?_⟩)
  · rw [packW_length]; omega
  · rw [packW_bit l _ _ (by omega)]; simp; intro; omega
attribute [irreducible] packW setW
end Go.Dam
