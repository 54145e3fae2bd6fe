/-
  Plain laws of a wave's ranges, sorted: how many are below a number, which is the kth, which is the next. Conditions: none; no program in sight.
-/
import Derived.Test.YtdmfhpigchbcbaaMTopMax25
namespace Go.Dam
open Go Go.RowKit
set_option linter.unusedVariables false
/-- Of those for which s holds: how many numbers so far are below x. -/
def ltW (n : Nat) (rows : List (List Nat)) (s : Nat → Bool) (k x : Nat) : Nat := countN (fun j => s j && decide (valW n rows k j < x)) n
theorem ltW_def (n : Nat) (rows : List (List Nat)) (s : Nat → Bool) (k x : Nat) : ltW n rows s k x = countN (fun j => s j && decide (valW n rows k j < x)) n := rfl
theorem countN_none {p : Nat → Bool} : ∀ {n : Nat}, (∀ j, j < n → p j = false) → countN p n = 0
  | 0, _ => rfl
  | n + 1, h => by rw [countN_succ, countN_none fun j hj => h j (by omega), h n (by omega)]; rfl
theorem ltW_0 (n : Nat) (rows : List (List Nat)) (s : Nat → Bool) (k : Nat) : ltW n rows s k 0 = 0 := countN_none fun j _ => by simp
theorem ltW_false (n : Nat) (rows : List (List Nat)) (s : Nat → Bool) (k x : Nat) : ltW n rows s (k + 1) (2 * x) = ltW n rows s k x := by
  unfold ltW
  refine countN_congr fun j _ => ?_
  rw [valW_succ]
  have := toNat_le (bitAt (rows.getD k []) (posW n rows k j))
  by_cases h : valW n rows k j < x
  · rw [decide_eq_true h, decide_eq_true (show 2 * valW n rows k j + _ < 2 * x by omega)]
  · rw [decide_eq_false h, decide_eq_false (show ¬ 2 * valW n rows k j + _ < 2 * x by omega)]
theorem ltW_true {n : Nat} {rows : List (List Nat)} {s : Nat → Bool} {k x a b : Nat} (h : Seg n rows s k x a b) : ltW n rows s (k + 1) (2 * x + 1) = ltW n rows s k x + (dnW (rows.getD k []) n false b - dnW (rows.getD k []) n false a) := by
  have h1 := (h.down false).count
  rw [← h1, ← ltW_false n rows s k x]
  unfold ltW
  rw [← countN_and]
  · refine countN_congr fun j _ => ?_
    cases s j with
    | false => rfl
    | true =>
      simp only [Bool.true_and, Bool.toNat_false, Nat.add_zero]
      generalize valW n rows (k + 1) j = y
      by_cases h2 : y < 2 * x
      · rw [decide_eq_true h2, decide_eq_true (show y < 2 * x + 1 by omega)]; rfl
      · by_cases h3 : y = 2 * x
        · rw [decide_eq_false h2, decide_eq_true h3, decide_eq_true (show y < 2 * x + 1 by omega)]; rfl
        · rw [decide_eq_false h2, decide_eq_false h3, decide_eq_false (show ¬ y < 2 * x + 1 by omega)]; rfl
  · intro j _ h2
    simp only [Bool.and_eq_true, decide_eq_true_eq] at h2
    have h3 : decide (valW n rows (k + 1) j = 2 * x + false.toNat) = false := by
      have := h2.2
      refine decide_eq_false ?_
      simp only [Bool.toNat_false, Nat.add_zero]; omega
    rw [h3, Bool.and_false]
theorem ltW_le (n : Nat) (rows : List (List Nat)) (s : Nat → Bool) (k x : Nat) : ltW n rows s k x ≤ n := countN_le _ _
theorem countN_split {p q : Nat → Bool} {n : Nat} : countN p n = countN (fun j => q j && p j) n + countN (fun j => !q j && p j) n := by
  rw [← countN_and]
  · refine countN_congr fun j _ => ?_
    cases q j <;> simp
  · intro j _ h
    simp only [Bool.and_eq_true] at h
    simp [h.1]
theorem count_seg {p : Nat → Bool} {a b n : Nat} (hab : a ≤ b) (hb : b ≤ n) : countN (fun j => decide (a ≤ j ∧ j < b) && p j) n + countN p a = countN p b := by
  rw [← count_upto p n hb, countN_split (p := fun j => decide (j < b) && p j) (q := fun j => decide (a ≤ j)) (n := n), ← count_upto p n (show a ≤ n by omega)]
  congr 1
  · refine countN_congr fun j _ => ?_
    by_cases h1 : a ≤ j <;> by_cases h2 : j < b <;> simp [h1, h2]
  · refine countN_congr fun j _ => ?_
    by_cases h1 : a ≤ j
    · have : ¬ j < a := by omega
      simp [h1, this]
    · have h2 : j < a := by omega
      have h3 : j < b := by omega
      simp [h2, h3]
/-- The numbers of a range. -/
def segW (f : Nat → Nat) (n a b : Nat) : List Int := ((toInts (tab f n)).drop a).take (b - a)
theorem segW_length {f : Nat → Nat} {n a b : Nat} (hab : a ≤ b) (hb : b ≤ n) : (segW f n a b).length = b - a := by
  unfold segW; rw [List.length_take, List.length_drop, toInts_eq, List.length_map, tab_length]; omega
theorem segW_count {f : Nat → Nat} {n a b : Nat} (p : Int → Bool) (hab : a ≤ b) (hb : b ≤ n) : (segW f n a b).countP p = countN (fun j => decide (a ≤ j ∧ j < b) && p (f j : Nat)) n := by
  have e : ∀ i, i ≤ n → ((toInts (tab f n)).take i).countP p = countN (fun j => p (f j : Nat)) i := by
    intro i hi
    unfold countN tab
    rw [toInts_eq, List.map_map, ← List.map_take, List.countP_map, List.take_range, Nat.min_eq_left hi]; rfl
  have h1 := e b hb
  have h2 := e a (by omega)
  have h3 : (toInts (tab f n)).take b = (toInts (tab f n)).take a ++ segW f n a b := by
    unfold segW
    rw [← List.take_append_drop a ((toInts (tab f n)).take b), List.take_take, Nat.min_eq_left hab, List.drop_take]
  rw [h3, List.countP_append, h2] at h1
  have h4 := count_seg (p := fun j => p (f j : Nat)) hab hb
  omega
/-- In a sorted list: what stands at a place, by counting. -/
theorem sorted_at : ∀ (l : List Int), l.Pairwise (· ≤ ·) → ∀ (k : Nat) (x : Int), l.countP (fun z => decide (z < x)) ≤ k → k < l.countP (fun z => decide (z < x)) + l.countP (fun z => decide (z = x)) → l.getD k 0 = x
  | [], _, k, x, h1, h2 => by simp at h2
  | y :: l, hs, k, x, h1, h2 => by
    rw [List.pairwise_cons] at hs
    have hc := List.countP_cons (p := fun z => decide (z < x)) (a := y) (l := l)
    have hd := List.countP_cons (p := fun z => decide (z = x)) (a := y) (l := l)
    by_cases hy : y < x
    · rw [hc, if_pos (by simpa using hy)] at h1
      have hne : ¬ y = x := by omega
      rw [hc, hd, if_pos (by simpa using hy), if_neg (by simpa using hne)] at h2
      obtain ⟨j, rfl⟩ : ∃ j, k = j + 1 := ⟨k - 1, by omega⟩
      exact sorted_at l hs.2 j x (by omega) (by omega)
    · have hz : l.countP (fun z => decide (z < x)) = 0 := by
        rw [List.countP_eq_zero]
        intro z hz
        have := hs.1 z hz
        simp; omega
      rw [hc, hd, hz, if_neg (by simpa using hy)] at h2
      by_cases he : y = x
      · cases k with
        | zero => exact he
        | succ j =>
          rw [if_pos (by simpa using he)] at h2
          exact sorted_at l hs.2 j x (by omega) (by omega)
      · rw [if_neg (by simpa using he)] at h2
        have hz2 : l.countP (fun z => decide (z = x)) = 0 := by
          rw [List.countP_eq_zero]
          intro z hz
          have := hs.1 z hz
          simp; omega
        omega
/-- In a sorted list those below x stand ahead. -/
theorem sorted_ahead : ∀ (l : List Int), l.Pairwise (· ≤ ·) → ∀ (x : Int) (k : Nat), k < l.length → (l.getD k 0 < x ↔ k < l.countP (fun z => decide (z < x)))
  | [], _, x, k, h => absurd h (by simp)
  | y :: l, hs, x, k, h => by
    rw [List.pairwise_cons] at hs
    have hc := List.countP_cons (p := fun z => decide (z < x)) (a := y) (l := l)
    by_cases hy : y < x
    · rw [hc, if_pos (by simpa using hy)]
      cases k with
      | zero => simp [hy]
      | succ j =>
        have := sorted_ahead l hs.2 x j (by simpa using h)
        rw [List.getD_cons_succ, this]; omega
    · have hz : l.countP (fun z => decide (z < x)) = 0 := by
        rw [List.countP_eq_zero]
        intro z hz
        have := hs.1 z hz
        simp; omega
      rw [hc, hz, if_neg (by simpa using hy)]
      cases k with
      | zero => simp; omega
      | succ j =>
        have hm : l.getD j 0 ∈ l := by
          have hj : j < l.length := by simpa using h
          rw [List.getD_eq_getElem?_getD, List.getElem?_eq_getElem hj]; exact List.getElem_mem _
        have := hs.1 _ hm
        rw [List.getD_cons_succ]
        omega
theorem segW_get {f : Nat → Nat} {n a b j : Nat} (h : j < b - a) : (segW f n a b)[j]? = (toInts (tab f n))[a + j]? := by
  unfold segW
  rw [List.getElem?_take_of_lt h, List.getElem?_drop]
theorem segW_mem {f : Nat → Nat} {n a b : Nat} {z : Int} (h : z ∈ segW f n a b) : z ∈ toInts (tab f n) := by
  unfold segW at h
  exact List.mem_of_mem_drop (List.mem_of_mem_take h)
attribute [irreducible] ltW segW
end Go.Dam
