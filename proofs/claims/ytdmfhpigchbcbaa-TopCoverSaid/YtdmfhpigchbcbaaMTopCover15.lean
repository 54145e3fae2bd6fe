/-
  Texts of one claim behind each other. Conditions: none of its own.
-/
import Derived.Test.YtdmfhpigchbcbaaMTopCover14
/-
  Plain laws of reading a wave back: the order of the places on each level. Conditions: none; no program in sight.
-/
namespace Go.Dam
open Go Go.RowKit
set_option linter.unusedVariables false
/-- What a list has at those of the first t places whose bit is one. -/
def selW (ws : List Nat) (one : Bool) (O : List Nat) : Nat → List Nat
  | 0 => []
  | t + 1 => if bitAt ws t = one then selW ws one O t ++ [O.getD t 0] else selW ws one O t
theorem selW_0 (ws : List Nat) (one : Bool) (O : List Nat) : selW ws one O 0 = [] := rfl
theorem selW_yes {ws : List Nat} {one : Bool} {O : List Nat} {t : Nat} (h : bitAt ws t = one) : selW ws one O (t + 1) = selW ws one O t ++ [O.getD t 0] := by rw [selW, if_pos h]
theorem selW_no {ws : List Nat} {one : Bool} {O : List Nat} {t : Nat} (h : ¬ bitAt ws t = one) : selW ws one O (t + 1) = selW ws one O t := by rw [selW, if_neg h]
theorem selW_length (ws : List Nat) (one : Bool) (O : List Nat) : ∀ t, (selW ws one O t).length = cntB ws one t
  | 0 => by rw [selW_0, cntB_0]; rfl
  | t + 1 => by
    by_cases h : bitAt ws t = one
    · rw [selW_yes h, cntB_yes h, List.length_append, selW_length ws one O t]; rfl
    · rw [selW_no h, cntB_no h, selW_length ws one O t]
theorem selW_at (ws : List Nat) (one : Bool) (O : List Nat) : ∀ t p, p < t → bitAt ws p = one → (selW ws one O t).getD (cntB ws one p) 0 = O.getD p 0
  | 0, p, h, _ => absurd h (by omega)
  | t + 1, p, h, hb => by
    by_cases hpt : p = t
    · subst hpt
      rw [selW_yes hb, List.getD_eq_getElem?_getD, List.getElem?_append_right (by rw [selW_length]; exact Nat.le_refl _), selW_length, Nat.sub_self]
      rfl
    · have ih := selW_at ws one O t p (by omega) hb
      have hlt := (cntB_lt_iff hb t).2 (by omega)
      by_cases h2 : bitAt ws t = one
      · rw [selW_yes h2, List.getD_eq_getElem?_getD, List.getElem?_append_left (by rw [selW_length]; exact hlt), ← List.getD_eq_getElem?_getD]; exact ih
      · rw [selW_no h2]; exact ih
theorem selW_from (ws : List Nat) (one : Bool) (O : List Nat) : ∀ t q, q < cntB ws one t → ∃ p, p < t ∧ bitAt ws p = one ∧ cntB ws one p = q
  | 0, q, h => absurd h (by rw [cntB_0]; omega)
  | t + 1, q, h => by
    by_cases h2 : bitAt ws t = one
    · rw [cntB_yes h2] at h
      by_cases hq : q = cntB ws one t
      · exact ⟨t, by omega, h2, hq.symm⟩
      · obtain ⟨p, a, b, c⟩ := selW_from ws one O t q (by omega)
        exact ⟨p, by omega, b, c⟩
    · rw [cntB_no h2] at h
      obtain ⟨p, a, b, c⟩ := selW_from ws one O t q h
      exact ⟨p, by omega, b, c⟩
/-- The order of the places on each level. -/
def ordW (n : Nat) (rows : List (List Nat)) : Nat → List Nat
  | 0 => List.range n
  | k + 1 => selW (rows.getD k []) false (ordW n rows k) n ++ selW (rows.getD k []) true (ordW n rows k) n
theorem ordW_0 (n : Nat) (rows : List (List Nat)) : ordW n rows 0 = List.range n := rfl
theorem ordW_succ (n : Nat) (rows : List (List Nat)) (k : Nat) : ordW n rows (k + 1) = selW (rows.getD k []) false (ordW n rows k) n ++ selW (rows.getD k []) true (ordW n rows k) n := rfl
theorem ordW_length (n : Nat) (rows : List (List Nat)) (k : Nat) : (ordW n rows k).length = n := by
  cases k with
  | zero => rw [ordW_0, List.length_range]
  | succ k =>
    rw [ordW_succ, List.length_append, selW_length, selW_length]
    have := cntB_both (rows.getD k []) n
    omega
theorem part_at {ws : List Nat} {n p : Nat} {O : List Nat} (hp : p < n) : (selW ws false O n ++ selW ws true O n).getD (dnW ws n (bitAt ws p) p) 0 = O.getD p 0 := by
  cases hb : bitAt ws p with
  | false =>
    rw [dnW_false, List.getD_eq_getElem?_getD, List.getElem?_append_left (by rw [selW_length]; exact (cntB_lt_iff hb n).2 hp), ← List.getD_eq_getElem?_getD]
    exact selW_at ws false O n p hp hb
  | true =>
    rw [dnW_true, List.getD_eq_getElem?_getD, List.getElem?_append_right (by rw [selW_length]; omega), selW_length, Nat.add_sub_cancel_left, ← List.getD_eq_getElem?_getD]
    exact selW_at ws true O n p hp hb
theorem ordW_at {n : Nat} {rows : List (List Nat)} {j : Nat} (hj : j < n) : ∀ k, (ordW n rows k).getD (posW n rows k j) 0 = j
  | 0 => by rw [ordW_0, posW_0]; simp [hj]
  | k + 1 => by rw [ordW_succ, posW_succ, part_at (posW_lt hj k), ordW_at hj k]
theorem part_from {ws : List Nat} {n q : Nat} {O : List Nat} (hq : q < n) : ∃ p, p < n ∧ dnW ws n (bitAt ws p) p = q := by
  have hb := cntB_both ws n
  rcases Nat.lt_or_ge q (cntB ws false n) with h | h
  · obtain ⟨p, a, b, c⟩ := selW_from ws false O n q h
    exact ⟨p, a, by rw [b, dnW_false, c]⟩
  · obtain ⟨p, a, b, c⟩ := selW_from ws true O n (q - cntB ws false n) (by omega)
    exact ⟨p, a, by rw [b, dnW_true, c]; omega⟩
theorem ordW_pos {n : Nat} {rows : List (List Nat)} : ∀ k q, q < n → (ordW n rows k).getD q 0 < n ∧ posW n rows k ((ordW n rows k).getD q 0) = q
  | 0, q, h => by rw [ordW_0, posW_0]; simp [h]
  | k + 1, q, h => by
    obtain ⟨p, hp, rfl⟩ := part_from (ws := rows.getD k []) (O := ordW n rows k) h
    obtain ⟨a, b⟩ := ordW_pos (rows := rows) k p hp
    rw [ordW_succ, part_at hp]
    exact ⟨a, by rw [posW_succ, b]⟩
attribute [irreducible] selW ordW
/-- The numbers while a level's places are read: those ahead of t have its bit already. -/
def midW (n : Nat) (rows : List (List Nat)) (k t j : Nat) : Nat := if posW n rows k j < t then valW n rows (k + 1) j else valW n rows k j
theorem midW_0 (n : Nat) (rows : List (List Nat)) (k : Nat) : tab (midW n rows k 0) n = tab (valW n rows k) n := tab_congr fun j _ => by unfold midW; rw [if_neg (by omega)]
theorem midW_n (n : Nat) (rows : List (List Nat)) (k : Nat) : tab (midW n rows k n) n = tab (valW n rows (k + 1)) n := tab_congr fun j hj => by unfold midW; rw [if_pos (posW_lt hj k)]
theorem midW_at {n : Nat} {rows : List (List Nat)} {k t : Nat} (ht : t < n) : midW n rows k t ((ordW n rows k).getD t 0) = valW n rows k ((ordW n rows k).getD t 0) := by
  obtain ⟨a, b⟩ := ordW_pos (rows := rows) k t ht
  unfold midW
  rw [b, if_neg (by omega)]
theorem midW_step {n : Nat} {rows : List (List Nat)} {k t : Nat} (ht : t < n) : (tab (midW n rows k t) n).set ((ordW n rows k).getD t 0) (2 * valW n rows k ((ordW n rows k).getD t 0) + (bitAt (rows.getD k []) t).toNat) = tab (midW n rows k (t + 1)) n := by
  obtain ⟨a, b⟩ := ordW_pos (rows := rows) k t ht
  refine tab_set ?_ fun j hj hne => ?_
  · show midW n rows k (t + 1) _ = _
    unfold midW
    rw [b, if_pos (by omega), valW_succ, b]
  · unfold midW
    by_cases h : posW n rows k j < t
    · rw [if_pos h, if_pos (by omega)]
    · by_cases h2 : posW n rows k j = t
      · exact absurd (posW_inj (rows := rows) hj a k (by rw [b]; exact h2)) hne
      · rw [if_neg h, if_neg (by omega)]
attribute [irreducible] midW
end Go.Dam

/-
  Plain laws of ranges on a wave's levels: which numbers a range holds, and how many they are. Conditions: none; no program in sight.
-/
namespace Go.Dam
open Go Go.RowKit
set_option linter.unusedVariables false
/-- The list of the places of the numbers 0 .. n-1 on level k. -/
theorem pos_perm (n : Nat) (rows : List (List Nat)) (k : Nat) : ((List.range n).map (posW n rows k)).Perm (List.range n) := by
  refine (nodup_le n _ ?_ ?_).2 (by simp)
  · rw [List.nodup_iff_pairwise_ne, List.pairwise_map]
    refine List.Pairwise.imp_of_mem ?_ List.nodup_range
    intro a b ha hb hne e
    exact hne (posW_inj (List.mem_range.1 ha) (List.mem_range.1 hb) k e)
  · intro y hy
    obtain ⟨j, hj, rfl⟩ := List.mem_map.1 hy
    exact posW_lt (List.mem_range.1 hj) k
/-- How many numbers have their place between a and b. -/
theorem count_pos {n : Nat} (rows : List (List Nat)) (k : Nat) {a b : Nat} (hb : b ≤ n) : countN (fun j => decide (a ≤ posW n rows k j ∧ posW n rows k j < b)) n = b - a := by
  have h1 : countN (fun j => decide (a ≤ posW n rows k j ∧ posW n rows k j < b)) n = ((List.range n).map (posW n rows k)).countP (fun p => decide (a ≤ p ∧ p < b)) := by
    unfold countN
    rw [List.countP_map]; rfl
  rw [h1, (pos_perm n rows k).countP_eq]
  exact countN_between a b n hb
/-- A range's numbers: of those for which s holds, those whose number so far is x. -/
def Seg (n : Nat) (rows : List (List Nat)) (s : Nat → Bool) (k x a b : Nat) : Prop := b ≤ n ∧ a ≤ b ∧ ∀ j, j < n → ((a ≤ posW n rows k j ∧ posW n rows k j < b) ↔ (s j = true ∧ valW n rows k j = x))
theorem Seg.count {n : Nat} {rows : List (List Nat)} {s : Nat → Bool} {k x a b : Nat} (h : Seg n rows s k x a b) : countN (fun j => s j && decide (valW n rows k j = x)) n = b - a := by
  rw [← count_pos rows k (a := a) h.1]
  refine countN_congr fun j hj => ?_
  have := h.2.2 j hj
  by_cases h1 : a ≤ posW n rows k j ∧ posW n rows k j < b
  · obtain ⟨h2, h3⟩ := this.1 h1
    simp [h1, h2, h3]
  · have h2 : ¬ (s j = true ∧ valW n rows k j = x) := fun e => h1 (this.2 e)
    rw [decide_eq_false h1]
    cases hs : s j with
    | false => rfl
    | true =>
      have : ¬ valW n rows k j = x := fun e => h2 ⟨hs, e⟩
      simp [this]
/-- One level down. -/
theorem Seg.down {n : Nat} {rows : List (List Nat)} {s : Nat → Bool} {k x a b : Nat} (h : Seg n rows s k x a b) (one : Bool) : Seg n rows s (k + 1) (2 * x + one.toNat) (dnW (rows.getD k []) n one a) (dnW (rows.getD k []) n one b) := by
  refine ⟨dnW_le _ _ _ h.1, dnW_mono _ _ _ h.2.1, fun j hj => ?_⟩
  rw [posW_succ, valW_succ, dnW_iff (posW_lt hj k) h.1]
  have h2 := h.2.2 j hj
  have hb1 := toNat_le (bitAt (rows.getD k []) (posW n rows k j))
  have hb2 := toNat_le one
  constructor
  · rintro ⟨h3, h4, h5⟩
    obtain ⟨h6, h7⟩ := h2.1 ⟨h3, h4⟩
    exact ⟨h6, by rw [h7, h5]⟩
  · rintro ⟨h3, h4⟩
    obtain ⟨h5, h6⟩ := h2.2 ⟨h3, by omega⟩
    refine ⟨h5, h6, ?_⟩
    have : (bitAt (rows.getD k []) (posW n rows k j)).toNat = one.toNat := by omega
    cases hbb : bitAt (rows.getD k []) (posW n rows k j) <;> cases one <;> rw [hbb] at this <;> first | rfl | (exact absurd this (by decide))
theorem Seg.start (n : Nat) (rows : List (List Nat)) {a b : Nat} (hab : a ≤ b) (hb : b ≤ n) : Seg n rows (fun j => decide (a ≤ j ∧ j < b)) 0 0 a b :=
  ⟨hb, hab, fun j hj => by rw [posW_0, valW_0]; simp⟩
/-- The bits of a number from the highest of m. -/
theorem bits_down (x m k : Nat) (hk : k < m) : x / 2 ^ (m - (k + 1)) = 2 * (x / 2 ^ (m - k)) + (x.testBit (m - 1 - k)).toNat := by
  have e1 : m - k = (m - (k + 1)) + 1 := by omega
  have e2 : m - 1 - k = m - (k + 1) := by omega
  rw [e1, Nat.pow_succ, ← Nat.div_div_eq_div_mul, e2, Nat.testBit_eq_decide_div_mod_eq]
  generalize x / 2 ^ (m - (k + 1)) = y
  by_cases h : y % 2 = 1
  · simp [h]; omega
  · simp [h]; omega
/-- How often x is among the first i numbers. -/
def rankW (rs : List (Int × List Nat)) (x : Int) (i : Nat) : Nat := countN (fun j => decide ((numW rs j : Int) = x)) i
theorem count_upto (p : Nat → Bool) {i : Nat} : ∀ n, i ≤ n → countN (fun j => decide (j < i) && p j) n = countN p i
  | 0, h => by obtain rfl : i = 0 := by omega
               rfl
  | n + 1, h => by
    by_cases hi : i = n + 1
    · subst hi
      exact countN_congr fun j hj => by simp [hj]
    · rw [countN_succ, count_upto p n (by omega)]
      simp
      intro h; omega
/-- What Rank answers. -/
def WRankR (rs : List (Int × List Nat)) (x i r cc : Int) : Prop :=
  (¬ MayWave rs ∧ r = 0 ∧ cc = 4) ∨ (MayWave rs ∧ (i < 0 ∨ (0 ≤ i ∧ lenW rs < i)) ∧ r = 0 ∧ cc = 2) ∨ (MayWave rs ∧ ∃ j : Nat, i = j ∧ (j : Int) ≤ lenW rs ∧ r = ((rankW rs x j : Nat) : Int) ∧ cc = 0)
theorem WRankR.ex (rs : List (Int × List Nat)) (x i : Int) : ∃ r cc, WRankR rs x i r cc := by
  by_cases hm : MayWave rs
  · by_cases h : i < 0
    · exact ⟨_, _, .inr (.inl ⟨hm, .inl h, rfl, rfl⟩)⟩
    · by_cases h2 : lenW rs < i
      · exact ⟨_, _, .inr (.inl ⟨hm, .inr ⟨by omega, h2⟩, rfl, rfl⟩)⟩
      · exact ⟨_, _, .inr (.inr ⟨hm, i.toNat, by omega, by omega, rfl, rfl⟩)⟩
  · exact ⟨_, _, .inl ⟨hm, rfl, rfl⟩⟩
/-- A number that has more bits than there are levels, or is below 0, stands nowhere. -/
theorem rankW_none {rs : List (Int × List Nat)} {x : Int} {i : Nat} (h : x < 0 ∨ ∃ y : Nat, x = y ∧ 0 < y / 2 ^ rs.length) : rankW rs x i = 0 := by
  unfold rankW
  have : ∀ n, countN (fun j => decide ((numW rs j : Int) = x)) n = 0 := by
    intro n
    induction n with
    | zero => rfl
    | succ n ih =>
      rw [countN_succ, ih]
      have hne : ¬ (numW rs n : Int) = x := by
        have hlt : numW rs n < 2 ^ rs.length := by unfold numW; exact valW_lt _ _ _ _
        rcases h with h | ⟨y, rfl, h⟩
        · omega
        · intro e
          have e2 : numW rs n = y := by omega
          rw [e2, ← Nat.div_eq_zero_iff_lt (Nat.pow_pos (by decide))] at hlt
          omega
      simp [hne]
  exact this i
/-- The range's length at the end. -/
theorem rank_end {rs : List (Int × List Nat)} {n x i a b : Nat} (hn : lenW rs = n) (hi : i ≤ n) (h : Seg n (rowsW rs) (fun j => decide (0 ≤ j ∧ j < i)) rs.length x a b) : rankW rs x i = b - a := by
  rw [← h.count]
  unfold rankW
  rw [← count_upto (fun j => decide ((numW rs j : Int) = ((x : Nat) : Int))) n hi]
  refine countN_congr fun j hj => ?_
  rw [numW_eq hn]
  by_cases h1 : j < i <;> by_cases h2 : valW n (rowsW rs) rs.length j = x <;> simp [h1, h2] <;> (try omega)
theorem rankW_0 (rs : List (Int × List Nat)) (x : Int) : rankW rs x 0 = 0 := rfl
theorem rankW_yes {rs : List (Int × List Nat)} {x : Int} {t : Nat} (h : (numW rs t : Int) = x) : rankW rs x (t + 1) = rankW rs x t + 1 := by unfold rankW; rw [countN_succ]; simp [h]
theorem rankW_no {rs : List (Int × List Nat)} {x : Int} {t : Nat} (h : ¬ (numW rs t : Int) = x) : rankW rs x (t + 1) = rankW rs x t := by unfold rankW; rw [countN_succ]; simp [h]
theorem rankW_le (rs : List (Int × List Nat)) (x : Int) (t : Nat) : rankW rs x t ≤ t := by unfold rankW; exact countN_le _ _
theorem bit_at (n i : Nat) (hn : n < 9223372036854775808) : bits .and .i64 ((n : Int) / 2 ^ i) 1 = if n.testBit i then 1 else 0 := by
  have h : n / 2 ^ i ≤ n := Nat.div_le_self _ _
  have := and_i64 ((n : Int) / 2 ^ i) (n / 2 ^ i) 1 (by simp) (by omega) (by decide)
  rw [Nat.and_one_is_mod, mod_of_test] at this
  rw [show (((1 : Nat) : Int)) = 1 from rfl] at this
  rw [this]; split <;> rfl
attribute [irreducible] rankW
end Go.Dam

/-
  Plain laws of a wave's ranges, sorted: how many are below a number, which is the kth, which is the next. Conditions: none; no program in sight.
-/
namespace Go.Dam
open Go Go.RowKit
set_option linter.unusedVariables false
/-- Of those for which s holds: how many numbers so far are below x. -/
def ltW (n : Nat) (rows : List (List Nat)) (s : Nat → Bool) (k x : Nat) : Nat := countN (fun j => s j && decide (valW n rows k j < x)) n
theorem ltW_def (n : Nat) (rows : List (List Nat)) (s : Nat → Bool) (k x : Nat) : ltW n rows s k x = countN (fun j => s j && decide (valW n rows k j < x)) n := rfl
theorem countN_none {p : Nat → Bool} : ∀ {n : Nat}, (∀ j, j < n → p j = false) → countN p n = 0
  | 0, _ => rfl
  | n + 1, h => by rw [countN_succ, countN_none fun j hj => h j (by omega), h n (by omega)]; rfl
theorem ltW_0 (n : Nat) (rows : List (List Nat)) (s : Nat → Bool) (k : Nat) : ltW n rows s k 0 = 0 := countN_none fun j _ => by simp
theorem ltW_false (n : Nat) (rows : List (List Nat)) (s : Nat → Bool) (k x : Nat) : ltW n rows s (k + 1) (2 * x) = ltW n rows s k x := by
  unfold ltW
  refine countN_congr fun j _ => ?_
  rw [valW_succ]
  have := toNat_le (bitAt (rows.getD k []) (posW n rows k j))
  by_cases h : valW n rows k j < x
  · rw [decide_eq_true h, decide_eq_true (show 2 * valW n rows k j + _ < 2 * x by omega)]
  · rw [decide_eq_false h, decide_eq_false (show ¬ 2 * valW n rows k j + _ < 2 * x by omega)]
theorem ltW_true {n : Nat} {rows : List (List Nat)} {s : Nat → Bool} {k x a b : Nat} (h : Seg n rows s k x a b) : ltW n rows s (k + 1) (2 * x + 1) = ltW n rows s k x + (dnW (rows.getD k []) n false b - dnW (rows.getD k []) n false a) := by
  have h1 := (h.down false).count
  rw [← h1, ← ltW_false n rows s k x]
  unfold ltW
  rw [← countN_and]
  · refine countN_congr fun j _ => ?_
    cases s j with
    | false => rfl
    | true =>
      simp only [Bool.true_and, Bool.toNat_false, Nat.add_zero]
      generalize valW n rows (k + 1) j = y
      by_cases h2 : y < 2 * x
      · rw [decide_eq_true h2, decide_eq_true (show y < 2 * x + 1 by omega)]; rfl
      · by_cases h3 : y = 2 * x
        · rw [decide_eq_false h2, decide_eq_true h3, decide_eq_true (show y < 2 * x + 1 by omega)]; rfl
        · rw [decide_eq_false h2, decide_eq_false h3, decide_eq_false (show ¬ y < 2 * x + 1 by omega)]; rfl
  · intro j _ h2
    simp only [Bool.and_eq_true, decide_eq_true_eq] at h2
    have h3 : decide (valW n rows (k + 1) j = 2 * x + false.toNat) = false := by
      have := h2.2
      refine decide_eq_false ?_
      simp only [Bool.toNat_false, Nat.add_zero]; omega
    rw [h3, Bool.and_false]
theorem ltW_le (n : Nat) (rows : List (List Nat)) (s : Nat → Bool) (k x : Nat) : ltW n rows s k x ≤ n := countN_le _ _
theorem countN_split {p q : Nat → Bool} {n : Nat} : countN p n = countN (fun j => q j && p j) n + countN (fun j => !q j && p j) n := by
  rw [← countN_and]
  · refine countN_congr fun j _ => ?_
    cases q j <;> simp
  · intro j _ h
    simp only [Bool.and_eq_true] at h
    simp [h.1]
theorem count_seg {p : Nat → Bool} {a b n : Nat} (hab : a ≤ b) (hb : b ≤ n) : countN (fun j => decide (a ≤ j ∧ j < b) && p j) n + countN p a = countN p b := by
  rw [← count_upto p n hb, countN_split (p := fun j => decide (j < b) && p j) (q := fun j => decide (a ≤ j)) (n := n), ← count_upto p n (show a ≤ n by omega)]
  congr 1
  · refine countN_congr fun j _ => ?_
    by_cases h1 : a ≤ j <;> by_cases h2 : j < b <;> simp [h1, h2]
  · refine countN_congr fun j _ => ?_
    by_cases h1 : a ≤ j
    · have : ¬ j < a := by omega
      simp [h1, this]
    · have h2 : j < a := by omega
      have h3 : j < b := by omega
      simp [h2, h3]
/-- The numbers of a range. -/
def segW (f : Nat → Nat) (n a b : Nat) : List Int := ((toInts (tab f n)).drop a).take (b - a)
theorem segW_length {f : Nat → Nat} {n a b : Nat} (hab : a ≤ b) (hb : b ≤ n) : (segW f n a b).length = b - a := by
  unfold segW; rw [List.length_take, List.length_drop, toInts_eq, List.length_map, tab_length]; omega
theorem segW_count {f : Nat → Nat} {n a b : Nat} (p : Int → Bool) (hab : a ≤ b) (hb : b ≤ n) : (segW f n a b).countP p = countN (fun j => decide (a ≤ j ∧ j < b) && p (f j : Nat)) n := by
  have e : ∀ i, i ≤ n → ((toInts (tab f n)).take i).countP p = countN (fun j => p (f j : Nat)) i := by
    intro i hi
    unfold countN tab
    rw [toInts_eq, List.map_map, ← List.map_take, List.countP_map, List.take_range, Nat.min_eq_left hi]; rfl
  have h1 := e b hb
  have h2 := e a (by omega)
  have h3 : (toInts (tab f n)).take b = (toInts (tab f n)).take a ++ segW f n a b := by
    unfold segW
    rw [← List.take_append_drop a ((toInts (tab f n)).take b), List.take_take, Nat.min_eq_left hab, List.drop_take]
  rw [h3, List.countP_append, h2] at h1
  have h4 := count_seg (p := fun j => p (f j : Nat)) hab hb
  omega
/-- In a sorted list: what stands at a place, by counting. -/
theorem sorted_at : ∀ (l : List Int), l.Pairwise (· ≤ ·) → ∀ (k : Nat) (x : Int), l.countP (fun z => decide (z < x)) ≤ k → k < l.countP (fun z => decide (z < x)) + l.countP (fun z => decide (z = x)) → l.getD k 0 = x
  | [], _, k, x, h1, h2 => by simp at h2
  | y :: l, hs, k, x, h1, h2 => by
    rw [List.pairwise_cons] at hs
    have hc := List.countP_cons (p := fun z => decide (z < x)) (a := y) (l := l)
    have hd := List.countP_cons (p := fun z => decide (z = x)) (a := y) (l := l)
    by_cases hy : y < x
    · rw [hc, if_pos (by simpa using hy)] at h1
      have hne : ¬ y = x := by omega
      rw [hc, hd, if_pos (by simpa using hy), if_neg (by simpa using hne)] at h2
      obtain ⟨j, rfl⟩ : ∃ j, k = j + 1 := ⟨k - 1, by omega⟩
      exact sorted_at l hs.2 j x (by omega) (by omega)
    · have hz : l.countP (fun z => decide (z < x)) = 0 := by
        rw [List.countP_eq_zero]
        intro z hz
        have := hs.1 z hz
        simp; omega
      rw [hc, hd, hz, if_neg (by simpa using hy)] at h2
      by_cases he : y = x
      · cases k with
        | zero => exact he
        | succ j =>
          rw [if_pos (by simpa using he)] at h2
          exact sorted_at l hs.2 j x (by omega) (by omega)
      · rw [if_neg (by simpa using he)] at h2
        have hz2 : l.countP (fun z => decide (z = x)) = 0 := by
          rw [List.countP_eq_zero]
          intro z hz
          have := hs.1 z hz
          simp; omega
        omega
/-- In a sorted list those below x stand ahead. -/
theorem sorted_ahead : ∀ (l : List Int), l.Pairwise (· ≤ ·) → ∀ (x : Int) (k : Nat), k < l.length → (l.getD k 0 < x ↔ k < l.countP (fun z => decide (z < x)))
  | [], _, x, k, h => absurd h (by simp)
  | y :: l, hs, x, k, h => by
    rw [List.pairwise_cons] at hs
    have hc := List.countP_cons (p := fun z => decide (z < x)) (a := y) (l := l)
    by_cases hy : y < x
    · rw [hc, if_pos (by simpa using hy)]
      cases k with
      | zero => simp [hy]
      | succ j =>
        have := sorted_ahead l hs.2 x j (by simpa using h)
        rw [List.getD_cons_succ, this]; omega
    · have hz : l.countP (fun z => decide (z < x)) = 0 := by
        rw [List.countP_eq_zero]
        intro z hz
        have := hs.1 z hz
        simp; omega
      rw [hc, hz, if_neg (by simpa using hy)]
      cases k with
      | zero => simp; omega
      | succ j =>
        have hm : l.getD j 0 ∈ l := by
          have hj : j < l.length := by simpa using h
          rw [List.getD_eq_getElem?_getD, List.getElem?_eq_getElem hj]; exact List.getElem_mem _
        have := hs.1 _ hm
        rw [List.getD_cons_succ]
        omega
theorem segW_get {f : Nat → Nat} {n a b j : Nat} (h : j < b - a) : (segW f n a b)[j]? = (toInts (tab f n))[a + j]? := by
  unfold segW
  rw [List.getElem?_take_of_lt h, List.getElem?_drop]
theorem segW_mem {f : Nat → Nat} {n a b : Nat} {z : Int} (h : z ∈ segW f n a b) : z ∈ toInts (tab f n) := by
  unfold segW at h
  exact List.mem_of_mem_drop (List.mem_of_mem_take h)
attribute [irreducible] ltW segW
end Go.Dam
