/-
  Plain facts of reading numbers back out of groups of seven bits, no program in sight. Conditions: bounds on the bytes.
-/
import Derived.Test.YtaipnjoeejgnnaaImagePlain
namespace Go.Dam
set_option linter.unusedVariables false
open Go
/-- No group of bytes is the beginning of another one. -/
theorem sevL_free : ∀ k a c : Nat, ∀ x y : List Int, a ≤ k → sevL a ++ x = sevL c ++ y → a = c ∧ x = y := by
  intro k
  induction k using Nat.strongRecOn with
  | _ k ih =>
    intro a c x y hk h
    by_cases ha : a < 128
    · rw [sevL_lo ha] at h
      by_cases hc : c < 128
      · rw [sevL_lo hc] at h
        simp only [List.cons_append, List.nil_append, List.cons.injEq] at h
        exact ⟨by omega, h.2⟩
      · rw [sevL_hi (show 128 ≤ c by omega)] at h
        simp only [List.cons_append, List.nil_append, List.cons.injEq] at h
        omega
    · rw [sevL_hi (show 128 ≤ a by omega)] at h
      by_cases hc : c < 128
      · rw [sevL_lo hc] at h
        simp only [List.cons_append, List.nil_append, List.cons.injEq] at h
        omega
      · rw [sevL_hi (show 128 ≤ c by omega)] at h
        simp only [List.cons_append, List.cons.injEq] at h
        obtain ⟨h1, h2⟩ := ih (a / 128) (by omega) (a / 128) (c / 128) x y (Nat.le_refl _) h.2
        exact ⟨by omega, h2⟩
/-- The number that the first groups make. -/
def valL (r : List Int) : Nat → Nat
  | 0 => 0
  | i + 1 => valL r i + (r.getD i 0).toNat % 128 * 128 ^ i
theorem valL_0 (r : List Int) : valL r 0 = 0 := rfl
theorem valL_succ (r : List Int) (i : Nat) : valL r (i + 1) = valL r i + (r.getD i 0).toNat % 128 * 128 ^ i := rfl
theorem valL_lt (r : List Int) : ∀ i, valL r i < 128 ^ i
  | 0 => by simp [valL_0]
  | i + 1 => by
    have h := valL_lt r i
    have h2 : (r.getD i 0).toNat % 128 ≤ 127 := by omega
    have h3 : (r.getD i 0).toNat % 128 * 128 ^ i ≤ 127 * 128 ^ i := Nat.mul_le_mul_right _ h2
    rw [valL_succ, Nat.pow_succ]; omega
theorem valL_cons (b : Int) (r : List Int) : ∀ i, valL (b :: r) (i + 1) = b.toNat % 128 + 128 * valL r i
  | 0 => by rw [valL_succ, valL_0, valL_0]; simp
  | i + 1 => by
    rw [valL_succ, valL_cons b r i, valL_succ, List.getD_cons_succ, Nat.pow_succ, Nat.mul_add, Nat.mul_comm (128 ^ i) 128, ← Nat.mul_assoc, Nat.mul_comm _ 128, Nat.mul_assoc 128]
    omega
theorem valL_pos (r : List Int) (i : Nat) (h : 0 < (r.getD i 0).toNat % 128) : 0 < valL r (i + 1) := by
  rw [valL_succ]
  have : 0 < (r.getD i 0).toNat % 128 * 128 ^ i := Nat.mul_pos h (Nat.pow_pos (by decide))
  omega
/-- Groups that go on, and one that ends and is not needless. -/
theorem sevL_val : ∀ (i : Nat) (r : List Int), i < r.length → (∀ z ∈ r, 0 ≤ z ∧ z ≤ 255) → (∀ j, j < i → 128 ≤ r.getD j 0) → r.getD i 0 < 128 → (i = 0 ∨ 0 < r.getD i 0) → sevL (valL r (i + 1)) = r.take (i + 1)
  | _, [], h, _, _, _, _ => absurd h (by simp)
  | 0, b :: r, _, hb, _, hlo, _ => by
    have h1 := hb b (by simp)
    simp only [List.getD_cons_zero] at hlo
    rw [valL_cons, valL_0, sevL_lo (by omega)]
    simp only [List.take_succ_cons, List.take_zero, List.cons.injEq, and_true]
    omega
  | i + 1, b :: r, hi, hb, hhi, hlo, hnz => by
    have h1 := hb b (by simp)
    have h0 := hhi 0 (by omega)
    simp only [List.getD_cons_zero] at h0
    rw [List.getD_cons_succ] at hlo hnz
    have hnz' : 0 < r.getD i 0 := by rcases hnz with h | h; exact absurd h (by omega); exact h
    have hpos := valL_pos r i (by omega)
    have ih := sevL_val i r (by simpa using hi) (fun z hz => hb z (by simp [hz])) (fun j hj => by have := hhi (j + 1) (by omega); rwa [List.getD_cons_succ] at this) hlo (.inr hnz')
    rw [valL_cons, sevL_hi (by omega), show (b.toNat % 128 + 128 * valL r (i + 1)) / 128 = valL r (i + 1) from by omega, ih, List.take_succ_cons]
    congr 1
    omega
/-- The bytes of a number: all go on but the last one, which is not needless. -/
theorem sevL_form : ∀ k n : Nat, n ≤ k → ∃ p, (sevL n).length = p + 1 ∧ (∀ j, j < p → 128 ≤ (sevL n).getD j 0) ∧ (sevL n).getD p 0 < 128 ∧ (p = 0 ∨ 0 < (sevL n).getD p 0) := by
  intro k
  induction k using Nat.strongRecOn with
  | _ k ih =>
    intro n hn
    by_cases h : n < 128
    · rw [sevL_lo h]
      exact ⟨0, rfl, fun j hj => absurd hj (by omega), by simp only [List.getD_cons_zero]; omega, .inl rfl⟩
    · obtain ⟨p, h1, h2, h3, h4⟩ := ih (n / 128) (by omega) (n / 128) (Nat.le_refl _)
      rw [sevL_hi (by omega)]
      refine ⟨p + 1, by rw [List.length_cons, h1], fun j hj => ?_, by rw [List.getD_cons_succ]; exact h3, .inr ?_⟩
      · match j with
        | 0 => rw [List.getD_cons_zero]; omega
        | j + 1 => rw [List.getD_cons_succ]; exact h2 j (by omega)
      · rw [List.getD_cons_succ]
        rcases h4 with h4 | h4
        · subst h4
          have hl : (n / 128) < 128 := by
            by_cases g : n / 128 < 128
            · exact g
            · exfalso
              rw [sevL_hi (show 128 ≤ n / 128 by omega)] at h1
              have := sevL_pos (n / 128 / 128)
              simp only [List.length_cons] at h1
              omega
          rw [sevL_lo hl, List.getD_cons_zero]
          omega
        · exact h4
/-- A number can be read at the beginning of the bytes: in at most four of them. -/
def GetR (r : List Int) (m : Nat) (rest : List Int) : Prop := r = sevL m ++ rest ∧ (sevL m).length ≤ 4
theorem GetR.uniq {r : List Int} {m m' : Nat} {rest rest' : List Int} (h : GetR r m rest) (g : GetR r m' rest') : m = m' ∧ rest = rest' := sevL_free m m m' rest rest' (Nat.le_refl _) (h.1.symm.trans g.1)
theorem getD_app_left {l m : List Int} {j : Nat} (h : j < l.length) : (l ++ m).getD j 0 = l.getD j 0 := by
  rw [List.getD_eq_getElem?_getD, List.getElem?_append_left h, ← List.getD_eq_getElem?_getD]
/-- Bytes that begin with a number: the first one that ends is not needless, and comes among the first four. -/
theorem GetR.form {r : List Int} {m : Nat} {rest : List Int} (h : GetR r m rest) : ∃ p, p < 4 ∧ p < r.length ∧ (∀ j, j < p → 128 ≤ r.getD j 0) ∧ r.getD p 0 < 128 ∧ (p = 0 ∨ 0 < r.getD p 0) := by
  obtain ⟨p, h1, h2, h3, h4⟩ := sevL_form m m (Nat.le_refl _)
  obtain ⟨rfl, h6⟩ := h
  refine ⟨p, by omega, by rw [List.length_append]; omega, fun j hj => ?_, ?_, ?_⟩
  · rw [getD_app_left (by omega)]; exact h2 j hj
  · rw [getD_app_left (by omega)]; exact h3
  · rw [getD_app_left (by omega)]; exact h4
theorem getR_yes {r : List Int} {i : Nat} (hb : ∀ z ∈ r, 0 ≤ z ∧ z ≤ 255) (hi : i < r.length) (h4 : i < 4) (hhi : ∀ j, j < i → 128 ≤ r.getD j 0) (hlo : r.getD i 0 < 128) (hnz : i = 0 ∨ 0 < r.getD i 0) : GetR r (valL r (i + 1)) (r.drop (i + 1)) := by
  have h := sevL_val i r hi hb hhi hlo hnz
  exact ⟨by rw [h, List.take_append_drop], by rw [h, List.length_take]; omega⟩
theorem getR_needless {r : List Int} {i : Nat} (hi : i < r.length) (hhi : ∀ j, j < i → 128 ≤ r.getD j 0) (hlo : r.getD i 0 < 128) (hz : i ≠ 0 ∧ r.getD i 0 ≤ 0) (m : Nat) (rest : List Int) : ¬ GetR r m rest := fun h => by
  obtain ⟨p, _, h2, h3, h4, h5⟩ := h.form
  rcases Nat.lt_trichotomy p i with c | c | c
  · have := hhi p c; omega
  · subst c; omega
  · have := h3 i c; omega
theorem getR_long {r : List Int} {i : Nat} (hi : i = 4 ∨ i = r.length) (hhi : ∀ j, j < i → 128 ≤ r.getD j 0) (m : Nat) (rest : List Int) : ¬ GetR r m rest := fun h => by
  obtain ⟨p, h1, h2, h3, h4, h5⟩ := h.form
  have : p < i := by omega
  have := hhi p this
  omega
/-- Folded numbers, back. -/
def unfoldN (m : Nat) : Int := if m % 2 = 1 then -((m + 1 : Nat) : Int) / 2 else ((m / 2 : Nat) : Int)
theorem unfoldN_odd {m : Nat} (h : m % 2 = 1) : unfoldN m = -((m / 2 + 1 : Nat) : Int) := by unfold unfoldN; rw [if_pos h]; omega
theorem unfoldN_even {m : Nat} (h : m % 2 ≠ 1) : unfoldN m = ((m / 2 : Nat) : Int) := by unfold unfoldN; rw [if_neg h]
attribute [irreducible] unfoldN
theorem fold_unfold (m : Nat) : foldN (unfoldN m) = m := by
  by_cases h : m % 2 = 1
  · have e := unfoldN_odd h
    have := foldN_neg (x := unfoldN m) (by omega)
    omega
  · have e := unfoldN_even h
    have := foldN_pos (x := unfoldN m) (by omega)
    omega
theorem unfold_fold (x : Int) : unfoldN (foldN x) = x := by
  by_cases h : x < 0
  · have e := foldN_neg h
    have := unfoldN_odd (m := foldN x) (by omega)
    omega
  · have e := foldN_pos (x := x) (by omega)
    have := unfoldN_even (m := foldN x) (by omega)
    omega
attribute [irreducible] valL
end Go.Dam
