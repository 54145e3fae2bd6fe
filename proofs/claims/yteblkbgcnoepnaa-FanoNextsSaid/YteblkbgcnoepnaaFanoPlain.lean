/-
  Plain laws of numbers that do not fall, split in lower bits and higher ones: how many lower bits, the marks of the higher ones. Conditions: none; no program in sight.
-/
import Derived.Test.YteblkbgcnoepnaaPackPlain
namespace Go.Dam
open Go
set_option linter.unusedVariables false
/-- How many lower bits. -/
def WidF (bound n w : Nat) : Prop := (n = 0 ∧ w = 0) ∨ (0 < n ∧ (w = 0 ∨ n * 2 ^ w ≤ bound) ∧ bound < n * 2 ^ (w + 1))
theorem WidF.ex (bound n : Nat) : ∃ w, WidF bound n w := by
  by_cases h : n = 0
  · exact ⟨0, .inl ⟨h, rfl⟩⟩
  · have key : ∀ k, (∀ j, j < k → n * 2 ^ (j + 1) ≤ bound) ∨ ∃ w, WidF bound n w := by
      intro k
      induction k with
      | zero => exact .inl fun j hj => absurd hj (by omega)
      | succ k ih =>
        rcases ih with ih | ih
        · by_cases hk : n * 2 ^ (k + 1) ≤ bound
          · refine .inl fun j hj => ?_
            rcases Nat.lt_or_eq_of_le (Nat.le_of_lt_succ hj) with g | g
            · exact ih j g
            · rw [g]; exact hk
          · refine .inr ⟨k, .inr ⟨by omega, ?_, by omega⟩⟩
            cases k with
            | zero => exact .inl rfl
            | succ k => exact .inr (ih k (by omega))
        · exact .inr ih
    rcases key (bound + 1) with h1 | h1
    · have h2 := h1 bound (by omega)
      have h3 : bound + 1 < 2 ^ (bound + 1) := Nat.lt_two_pow_self
      have h4 : 1 * 2 ^ (bound + 1) ≤ n * 2 ^ (bound + 1) := Nat.mul_le_mul_right _ (by omega)
      omega
    · exact h1
theorem WidF.le {bound n w : Nat} (h : WidF bound n w) (hb : bound ≤ 1048576) : w ≤ 20 := by
  rcases h with ⟨_, rfl⟩ | ⟨h0, rfl | h1, _⟩
  · omega
  · omega
  · apply Classical.byContradiction
    intro h2
    have h3 : 2 ^ 21 ≤ 2 ^ w := Nat.pow_le_pow_right (by decide) (by omega)
    have h4 : 1 * 2 ^ w ≤ n * 2 ^ w := Nat.mul_le_mul_right _ h0
    have : (2 : Nat) ^ 21 = 2097152 := by decide
    omega
/-- Up to the width, the next power still fits. -/
theorem WidF.below {bound n w j : Nat} (h : WidF bound n w) (hn : 0 < n) (hj : j ≤ w) (h1 : 1 ≤ j) : n * 2 ^ j ≤ bound := by
  rcases h with ⟨h0, _⟩ | ⟨_, h | h, _⟩
  · omega
  · omega
  · exact Nat.le_trans (Nat.mul_le_mul_left _ (Nat.pow_le_pow_right (by decide) hj)) h
theorem WidF.above {bound n w j : Nat} (h : WidF bound n w) (hn : 0 < n) (hj : w < j) : bound < n * 2 ^ j := by
  rcases h with ⟨h0, _⟩ | ⟨_, _, h⟩
  · omega
  · exact Nat.lt_of_lt_of_le h (Nat.mul_le_mul_left _ (Nat.pow_le_pow_right (by decide) hj))
theorem WidF.high {bound n w : Nat} (h : WidF bound n w) (hn : 0 < n) : bound / 2 ^ w < 2 * n := by
  have := h.above hn (Nat.lt_succ_self w)
  rw [Nat.pow_succ, ← Nat.mul_assoc, Nat.mul_comm (n * 2 ^ w) 2, ← Nat.mul_assoc] at this
  exact Nat.div_lt_of_lt_mul (by rw [Nat.mul_comm]; exact this)
theorem WidF.uniq {bound n w w' : Nat} (h : WidF bound n w) (h' : WidF bound n w') : w = w' := by
  rcases Nat.eq_zero_or_pos n with hn | hn
  · rcases h with ⟨_, rfl⟩ | ⟨h, _⟩
    · rcases h' with ⟨_, rfl⟩ | ⟨h, _⟩
      · rfl
      · omega
    · omega
  · rcases Nat.lt_trichotomy w w' with g | g | g
    · have h1 := h.above hn g
      have h2 := h'.below hn (Nat.le_refl w') (by omega)
      omega
    · exact g
    · have h1 := h'.above hn g
      have h2 := h.below hn (Nat.le_refl w) (by omega)
      omega
/-- Do the numbers not fall? -/
def SortedN (l : List Int) : Prop := ∀ i, i + 1 < l.length → l.getD i 0 ≤ l.getD (i + 1) 0
/-- May the numbers be told? -/
def OkF (bound : Int) (l : List Int) : Prop := ∀ i, i < l.length → 0 ≤ l.getD i 0 ∧ l.getD i 0 ≤ bound ∧ (0 < i → l.getD (i - 1) 0 ≤ l.getD i 0)
theorem sorted_mono {l : List Int} (h : SortedN l) (i : Nat) : ∀ d, i + d < l.length → l.getD i 0 ≤ l.getD (i + d) 0
  | 0, _ => Int.le_refl _
  | d + 1, hd => Int.le_trans (sorted_mono h i d (by omega)) (h (i + d) hd)
theorem okF_iff {bound : Int} {l : List Int} : OkF bound l ↔ SortedN l ∧ (l.length = 0 ∨ (0 ≤ l.getD 0 0 ∧ l.getD (l.length - 1) 0 ≤ bound)) := by
  constructor
  · intro h
    refine ⟨fun i hi => by have := (h (i + 1) hi).2.2 (by omega); simpa using this, ?_⟩
    rcases Nat.eq_zero_or_pos l.length with h0 | h0
    · exact .inl h0
    · exact .inr ⟨(h 0 h0).1, (h (l.length - 1) (by omega)).2.1⟩
  · rintro ⟨h1, h2⟩ i hi
    rcases h2 with h2 | ⟨h2, h3⟩
    · omega
    · have a := sorted_mono h1 0 i (by omega)
      have b := sorted_mono h1 i (l.length - 1 - i) (by omega)
      rw [Nat.zero_add] at a
      rw [show i + (l.length - 1 - i) = l.length - 1 from by omega] at b
      refine ⟨by omega, by omega, fun h0 => ?_⟩
      have := h1 (i - 1) (by omega)
      rwa [show i - 1 + 1 = i from by omega] at this
/-- The lower bits. -/
def lowF (w : Nat) (l : List Int) : List Int := l.map fun z => z % 2 ^ w
theorem lowF_length (w : Nat) (l : List Int) : (lowF w l).length = l.length := by unfold lowF; simp
/-- The marks of the higher bits of the first t numbers. -/
def highF (w : Nat) (l : List Int) (N : Nat) : Nat → List Bool
  | 0 => List.replicate N false
  | t + 1 => (highF w l N t).set ((l.getD t 0).toNat / 2 ^ w + t) true
theorem highF_0 (w : Nat) (l : List Int) (N : Nat) : highF w l N 0 = List.replicate N false := rfl
theorem highF_succ (w : Nat) (l : List Int) (N t : Nat) : highF w l N (t + 1) = (highF w l N t).set ((l.getD t 0).toNat / 2 ^ w + t) true := rfl
theorem highF_length (w : Nat) (l : List Int) (N : Nat) : ∀ t, (highF w l N t).length = N
  | 0 => by rw [highF_0, List.length_replicate]
  | t + 1 => by rw [highF_succ, List.length_set, highF_length w l N t]
theorem lowF_get {w : Nat} {l : List Int} {j : Nat} (h : j < l.length) : (lowF w l)[j]? = some (l.getD j 0 % 2 ^ w) := by
  unfold lowF
  rw [List.getElem?_map, List.getElem?_eq_getElem h, List.getD_eq_getElem?_getD, List.getElem?_eq_getElem h]; rfl
/-- The lower bits of the first t numbers, the others 0. -/
def lowS (w : Nat) (l : List Int) : Nat → List Int
  | 0 => List.replicate l.length 0
  | t + 1 => (lowS w l t).set t (l.getD t 0 % 2 ^ w)
theorem lowS_0 (w : Nat) (l : List Int) : lowS w l 0 = List.replicate l.length 0 := rfl
theorem lowS_succ (w : Nat) (l : List Int) (t : Nat) : lowS w l (t + 1) = (lowS w l t).set t (l.getD t 0 % 2 ^ w) := rfl
theorem lowS_length (w : Nat) (l : List Int) : ∀ t, (lowS w l t).length = l.length
  | 0 => by rw [lowS_0, List.length_replicate]
  | t + 1 => by rw [lowS_succ, List.length_set, lowS_length w l t]
theorem lowS_at (w : Nat) (l : List Int) : ∀ t j, t ≤ l.length → j < l.length → (lowS w l t).getD j 0 = if j < t then l.getD j 0 % 2 ^ w else 0
  | 0, j, _, hj => by rw [lowS_0]; simp [hj]
  | t + 1, j, ht, hj => by
    have hl := lowS_length w l t
    rw [lowS_succ, List.getD_eq_getElem?_getD, List.getElem?_set]
    by_cases h : t = j
    · subst h
      rw [if_pos rfl, if_pos (by rw [hl]; exact hj), if_pos (by omega)]; rfl
    · rw [if_neg h, ← List.getD_eq_getElem?_getD, lowS_at w l t j (by omega) hj]
      by_cases h2 : j < t
      · rw [if_pos h2, if_pos (by omega)]
      · rw [if_neg h2, if_neg (by omega)]
theorem lowS_end (w : Nat) (l : List Int) : lowS w l l.length = lowF w l := by
  apply List.ext_getElem
  · rw [lowS_length, lowF_length]
  · intro j h1 h2
    rw [lowS_length] at h1
    have := lowS_at w l l.length j (Nat.le_refl _) h1
    rw [if_pos h1, List.getD_eq_getElem?_getD, List.getElem?_eq_getElem (by rw [lowS_length]; exact h1)] at this
    have e : (lowF w l)[j] = l.getD j 0 % 2 ^ w := by
      have := lowF_get (w := w) h1
      rw [List.getElem?_eq_getElem h2] at this; exact Option.some.inj this
    rw [e]; exact this
theorem lowF_take (w : Nat) (l : List Int) {t : Nat} (h : t < l.length) : (lowF w l).take (t + 1) = (lowF w l).take t ++ [l.getD t 0 % 2 ^ w] := by
  have hl : t < (lowF w l).length := by rw [lowF_length]; exact h
  rw [List.take_add_one, lowF_get h]; rfl
theorem lowF_mem {w : Nat} {l : List Int} {z : Int} (h : z ∈ lowF w l) : 0 ≤ z ∧ z < 2 ^ w := by
  unfold lowF at h
  obtain ⟨y, _, rfl⟩ := List.mem_map.1 h
  have hp : (0 : Int) < 2 ^ w := Int.pow_pos (by decide)
  exact ⟨Int.emod_nonneg _ (by omega), Int.emod_lt_of_pos _ hp⟩
/-- Length of the marks. -/
def lenF (bd n w : Nat) : Nat := if n = 0 then 0 else bd / 2 ^ w + n + 1
/-- What making answers. -/
def FanoR (bound : Int) (l : List Int) (bd n1 m1 : Int) (ws1 : List Nat) (n2 : Int) (ws2 : List Nat) (cc : Int) (P : Nat → List Int → Int → Int → List Nat → Prop) : Prop :=
  (cc ≠ 0 ∧ bd = 0 ∧ n1 = 0 ∧ m1 = 0 ∧ ws1 = [] ∧ n2 = 0 ∧ ws2 = [] ∧ ((300 < l.length ∧ cc = 1) ∨ (l.length ≤ 300 ∧ (bound < 0 ∨ (¬ bound < 0 ∧ 1048576 < bound)) ∧ cc = 2) ∨ (l.length ≤ 300 ∧ ¬ bound < 0 ∧ ¬ 1048576 < bound ∧ ¬ OkF bound l ∧ cc = 4))) ∨
  (cc = 0 ∧ l.length ≤ 300 ∧ OkF bound l ∧ ∃ b w : Nat, bound = b ∧ b ≤ 1048576 ∧ WidF b l.length w ∧ bd = bound ∧ P w (lowF w l) n1 m1 ws1 ∧ n2 = lenF b l.length w ∧ ws2 = packW (highF w l (lenF b l.length w) l.length) ((lenF b l.length w + 63) / 64) (lenF b l.length w))
attribute [irreducible] WidF lowF highF lowS
end Go.Dam
