/-
  Plain laws of ranges on a wave's levels: which numbers a range holds, and how many they are. Conditions: none; no program in sight.
-/
import Derived.Test.YtdmfhpigchbcbaaMTopMax24
namespace Go.Dam
open Go Go.RowKit
set_option linter.unusedVariables false
/-- The list of the places of the numbers 0 .. n-1 on level k. -/
theorem pos_perm (n : Nat) (rows : List (List Nat)) (k : Nat) : ((List.range n).map (posW n rows k)).Perm (List.range n) := by
  refine (nodup_le n _ ?_ ?_).2 (by simp)
  · rw [List.nodup_iff_pairwise_ne, List.pairwise_map]
    refine List.Pairwise.imp_of_mem ?_ List.nodup_range
    intro a b ha hb hne e
    exact hne (posW_inj (List.mem_range.1 ha) (List.mem_range.1 hb) k e)
  · intro y hy
    obtain ⟨j, hj, rfl⟩ := List.mem_map.1 hy
    exact posW_lt (List.mem_range.1 hj) k
/-- How many numbers have their place between a and b. -/
theorem count_pos {n : Nat} (rows : List (List Nat)) (k : Nat) {a b : Nat} (hb : b ≤ n) : countN (fun j => decide (a ≤ posW n rows k j ∧ posW n rows k j < b)) n = b - a := by
  have h1 : countN (fun j => decide (a ≤ posW n rows k j ∧ posW n rows k j < b)) n = ((List.range n).map (posW n rows k)).countP (fun p => decide (a ≤ p ∧ p < b)) := by
    unfold countN
    rw [List.countP_map]; rfl
  rw [h1, (pos_perm n rows k).countP_eq]
  exact countN_between a b n hb
/-- A range's numbers: of those for which s holds, those whose number so far is x. -/
def Seg (n : Nat) (rows : List (List Nat)) (s : Nat → Bool) (k x a b : Nat) : Prop := b ≤ n ∧ a ≤ b ∧ ∀ j, j < n → ((a ≤ posW n rows k j ∧ posW n rows k j < b) ↔ (s j = true ∧ valW n rows k j = x))
theorem Seg.count {n : Nat} {rows : List (List Nat)} {s : Nat → Bool} {k x a b : Nat} (h : Seg n rows s k x a b) : countN (fun j => s j && decide (valW n rows k j = x)) n = b - a := by
  rw [← count_pos rows k (a := a) h.1]
  refine countN_congr fun j hj => ?_
  have := h.2.2 j hj
  by_cases h1 : a ≤ posW n rows k j ∧ posW n rows k j < b
  · obtain ⟨h2, h3⟩ := this.1 h1
    simp [h1, h2, h3]
  · have h2 : ¬ (s j = true ∧ valW n rows k j = x) := fun e => h1 (this.2 e)
    rw [decide_eq_false h1]
    cases hs : s j with
    | false => rfl
    | true =>
      have : ¬ valW n rows k j = x := fun e => h2 ⟨hs, e⟩
      simp [this]
/-- One level down. -/
theorem Seg.down {n : Nat} {rows : List (List Nat)} {s : Nat → Bool} {k x a b : Nat} (h : Seg n rows s k x a b) (one : Bool) : Seg n rows s (k + 1) (2 * x + one.toNat) (dnW (rows.getD k []) n one a) (dnW (rows.getD k []) n one b) := by
  refine ⟨dnW_le _ _ _ h.1, dnW_mono _ _ _ h.2.1, fun j hj => ?_⟩
  rw [posW_succ, valW_succ, dnW_iff (posW_lt hj k) h.1]
  have h2 := h.2.2 j hj
  have hb1 := toNat_le (bitAt (rows.getD k []) (posW n rows k j))
  have hb2 := toNat_le one
  constructor
  · rintro ⟨h3, h4, h5⟩
    obtain ⟨h6, h7⟩ := h2.1 ⟨h3, h4⟩
    exact ⟨h6, by rw [h7, h5]⟩
  · rintro ⟨h3, h4⟩
    obtain ⟨h5, h6⟩ := h2.2 ⟨h3, by omega⟩
    refine ⟨h5, h6, ?_⟩
    have : (bitAt (rows.getD k []) (posW n rows k j)).toNat = one.toNat := by omega
    cases hbb : bitAt (rows.getD k []) (posW n rows k j) <;> cases one <;> rw [hbb] at this <;> first | rfl | (exact absurd this (by decide))
theorem Seg.start (n : Nat) (rows : List (List Nat)) {a b : Nat} (hab : a ≤ b) (hb : b ≤ n) : Seg n rows (fun j => decide (a ≤ j ∧ j < b)) 0 0 a b :=
  ⟨hb, hab, fun j hj => by rw [posW_0, valW_0]; simp⟩
/-- The bits of a number from the highest of m. -/
theorem bits_down (x m k : Nat) (hk : k < m) : x / 2 ^ (m - (k + 1)) = 2 * (x / 2 ^ (m - k)) + (x.testBit (m - 1 - k)).toNat := by
  have e1 : m - k = (m - (k + 1)) + 1 := by omega
  have e2 : m - 1 - k = m - (k + 1) := by omega
  rw [e1, Nat.pow_succ, ← Nat.div_div_eq_div_mul, e2, Nat.testBit_eq_decide_div_mod_eq]
  generalize x / 2 ^ (m - (k + 1)) = y
  by_cases h : y % 2 = 1
  · simp [h]; omega
  · simp [h]; omega
/-- How often x is among the first i numbers. -/
def rankW (rs : List (Int × List Nat)) (x : Int) (i : Nat) : Nat := countN (fun j => decide ((numW rs j : Int) = x)) i
theorem count_upto (p : Nat → Bool) {i : Nat} : ∀ n, i ≤ n → countN (fun j => decide (j < i) && p j) n = countN p i
  | 0, h => by obtain rfl : i = 0 := by omega
               rfl
  | n + 1, h => by
    by_cases hi : i = n + 1
    · subst hi
      exact countN_congr fun j hj => by simp [hj]
    · rw [countN_succ, count_upto p n (by omega)]
      simp
      intro h; omega
/-- What Rank answers. -/
def WRankR (rs : List (Int × List Nat)) (x i r cc : Int) : Prop :=
  (¬ MayWave rs ∧ r = 0 ∧ cc = 4) ∨ (MayWave rs ∧ (i < 0 ∨ (0 ≤ i ∧ lenW rs < i)) ∧ r = 0 ∧ cc = 2) ∨ (MayWave rs ∧ ∃ j : Nat, i = j ∧ (j : Int) ≤ lenW rs ∧ r = ((rankW rs x j : Nat) : Int) ∧ cc = 0)
theorem WRankR.ex (rs : List (Int × List Nat)) (x i : Int) : ∃ r cc, WRankR rs x i r cc := by
  by_cases hm : MayWave rs
  · by_cases h : i < 0
    · exact ⟨_, _, .inr (.inl ⟨hm, .inl h, rfl, rfl⟩)⟩
    · by_cases h2 : lenW rs < i
      · exact ⟨_, _, .inr (.inl ⟨hm, .inr ⟨by omega, h2⟩, rfl, rfl⟩)⟩
      · exact ⟨_, _, .inr (.inr ⟨hm, i.toNat, by omega, by omega, rfl, rfl⟩)⟩
  · exact ⟨_, _, .inl ⟨hm, rfl, rfl⟩⟩
/-- A number that has more bits than there are levels, or is below 0, stands nowhere. -/
theorem rankW_none {rs : List (Int × List Nat)} {x : Int} {i : Nat} (h : x < 0 ∨ ∃ y : Nat, x = y ∧ 0 < y / 2 ^ rs.length) : rankW rs x i = 0 := by
  unfold rankW
  have : ∀ n, countN (fun j => decide ((numW rs j : Int) = x)) n = 0 := by
    intro n
    induction n with
    | zero => rfl
    | succ n ih =>
      rw [countN_succ, ih]
      have hne : ¬ (numW rs n : Int) = x := by
        have hlt : numW rs n < 2 ^ rs.length := by unfold numW; exact valW_lt _ _ _ _
        rcases h with h | ⟨y, rfl, h⟩
        · omega
        · intro e
          have e2 : numW rs n = y := by omega
          rw [e2, ← Nat.div_eq_zero_iff_lt (Nat.pow_pos (by decide))] at hlt
          omega
      simp [hne]
  exact this i
/-- The range's length at the end. -/
theorem rank_end {rs : List (Int × List Nat)} {n x i a b : Nat} (hn : lenW rs = n) (hi : i ≤ n) (h : Seg n (rowsW rs) (fun j => decide (0 ≤ j ∧ j < i)) rs.length x a b) : rankW rs x i = b - a := by
  rw [← h.count]
  unfold rankW
  rw [← count_upto (fun j => decide ((numW rs j : Int) = ((x : Nat) : Int))) n hi]
  refine countN_congr fun j hj => ?_
  rw [numW_eq hn]
  by_cases h1 : j < i <;> by_cases h2 : valW n (rowsW rs) rs.length j = x <;> simp [h1, h2] <;> (try omega)
theorem rankW_0 (rs : List (Int × List Nat)) (x : Int) : rankW rs x 0 = 0 := rfl
theorem rankW_yes {rs : List (Int × List Nat)} {x : Int} {t : Nat} (h : (numW rs t : Int) = x) : rankW rs x (t + 1) = rankW rs x t + 1 := by unfold rankW; rw [countN_succ]; simp [h]
theorem rankW_no {rs : List (Int × List Nat)} {x : Int} {t : Nat} (h : ¬ (numW rs t : Int) = x) : rankW rs x (t + 1) = rankW rs x t := by unfold rankW; rw [countN_succ]; simp [h]
theorem rankW_le (rs : List (Int × List Nat)) (x : Int) (t : Nat) : rankW rs x t ≤ t := by unfold rankW; exact countN_le _ _
theorem bit_at (n i : Nat) (hn : n < 9223372036854775808) : bits .and .i64 ((n : Int) / 2 ^ i) 1 = if n.testBit i then 1 else 0 := by
  have h : n / 2 ^ i ≤ n := Nat.div_le_self _ _
  have := and_i64 ((n : Int) / 2 ^ i) (n / 2 ^ i) 1 (by simp) (by omega) (by decide)
  rw [Nat.and_one_is_mod, mod_of_test] at this
  rw [show (((1 : Nat) : Int)) = 1 from rfl] at this
  rw [this]; split <;> rfl
attribute [irreducible] rankW
end Go.Dam
