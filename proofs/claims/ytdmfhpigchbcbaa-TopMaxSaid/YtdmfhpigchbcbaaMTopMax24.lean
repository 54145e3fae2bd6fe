/-
  Plain laws of reading a wave back: the order of the places on each level. Conditions: none; no program in sight.
-/
import Derived.Test.YtdmfhpigchbcbaaMTopMax22
import Derived.Test.YtdmfhpigchbcbaaMTopMax23
namespace Go.Dam
open Go Go.RowKit
set_option linter.unusedVariables false
/-- What a list has at those of the first t places whose bit is one. -/
def selW (ws : List Nat) (one : Bool) (O : List Nat) : Nat → List Nat
  | 0 => []
  | t + 1 => if bitAt ws t = one then selW ws one O t ++ [O.getD t 0] else selW ws one O t
theorem selW_0 (ws : List Nat) (one : Bool) (O : List Nat) : selW ws one O 0 = [] := rfl
theorem selW_yes {ws : List Nat} {one : Bool} {O : List Nat} {t : Nat} (h : bitAt ws t = one) : selW ws one O (t + 1) = selW ws one O t ++ [O.getD t 0] := by rw [selW, if_pos h]
theorem selW_no {ws : List Nat} {one : Bool} {O : List Nat} {t : Nat} (h : ¬ bitAt ws t = one) : selW ws one O (t + 1) = selW ws one O t := by rw [selW, if_neg h]
theorem selW_length (ws : List Nat) (one : Bool) (O : List Nat) : ∀ t, (selW ws one O t).length = cntB ws one t
  | 0 => by rw [selW_0, cntB_0]; rfl
  | t + 1 => by
    by_cases h : bitAt ws t = one
    · rw [selW_yes h, cntB_yes h, List.length_append, selW_length ws one O t]; rfl
    · rw [selW_no h, cntB_no h, selW_length ws one O t]
theorem selW_at (ws : List Nat) (one : Bool) (O : List Nat) : ∀ t p, p < t → bitAt ws p = one → (selW ws one O t).getD (cntB ws one p) 0 = O.getD p 0
  | 0, p, h, _ => absurd h (by omega)
  | t + 1, p, h, hb => by
    by_cases hpt : p = t
    · subst hpt
      rw [selW_yes hb, List.getD_eq_getElem?_getD, List.getElem?_append_right (by rw [selW_length]; exact Nat.le_refl _), selW_length, Nat.sub_self]
      rfl
    · have ih := selW_at ws one O t p (by omega) hb
      have hlt := (cntB_lt_iff hb t).2 (by omega)
      by_cases h2 : bitAt ws t = one
      · rw [selW_yes h2, List.getD_eq_getElem?_getD, List.getElem?_append_left (by rw [selW_length]; exact hlt), ← List.getD_eq_getElem?_getD]; exact ih
      · rw [selW_no h2]; exact ih
theorem selW_from (ws : List Nat) (one : Bool) (O : List Nat) : ∀ t q, q < cntB ws one t → ∃ p, p < t ∧ bitAt ws p = one ∧ cntB ws one p = q
  | 0, q, h => absurd h (by rw [cntB_0]; omega)
  | t + 1, q, h => by
    by_cases h2 : bitAt ws t = one
    · rw [cntB_yes h2] at h
      by_cases hq : q = cntB ws one t
      · exact ⟨t, by omega, h2, hq.symm⟩
      · obtain ⟨p, a, b, c⟩ := selW_from ws one O t q (by omega)
        exact ⟨p, by omega, b, c⟩
    · rw [cntB_no h2] at h
      obtain ⟨p, a, b, c⟩ := selW_from ws one O t q h
      exact ⟨p, by omega, b, c⟩
/-- The order of the places on each level. -/
def ordW (n : Nat) (rows : List (List Nat)) : Nat → List Nat
  | 0 => List.range n
  | k + 1 => selW (rows.getD k []) false (ordW n rows k) n ++ selW (rows.getD k []) true (ordW n rows k) n
theorem ordW_0 (n : Nat) (rows : List (List Nat)) : ordW n rows 0 = List.range n := rfl
theorem ordW_succ (n : Nat) (rows : List (List Nat)) (k : Nat) : ordW n rows (k + 1) = selW (rows.getD k []) false (ordW n rows k) n ++ selW (rows.getD k []) true (ordW n rows k) n := rfl
theorem ordW_length (n : Nat) (rows : List (List Nat)) (k : Nat) : (ordW n rows k).length = n := by
  cases k with
  | zero => rw [ordW_0, List.length_range]
  | succ k =>
    rw [ordW_succ, List.length_append, selW_length, selW_length]
    have := cntB_both (rows.getD k []) n
    omega
theorem part_at {ws : List Nat} {n p : Nat} {O : List Nat} (hp : p < n) : (selW ws false O n ++ selW ws true O n).getD (dnW ws n (bitAt ws p) p) 0 = O.getD p 0 := by
  cases hb : bitAt ws p with
  | false =>
    rw [dnW_false, List.getD_eq_getElem?_getD, List.getElem?_append_left (by rw [selW_length]; exact (cntB_lt_iff hb n).2 hp), ← List.getD_eq_getElem?_getD]
    exact selW_at ws false O n p hp hb
  | true =>
    rw [dnW_true, List.getD_eq_getElem?_getD, List.getElem?_append_right (by rw [selW_length]; omega), selW_length, Nat.add_sub_cancel_left, ← List.getD_eq_getElem?_getD]
    exact selW_at ws true O n p hp hb
theorem ordW_at {n : Nat} {rows : List (List Nat)} {j : Nat} (hj : j < n) : ∀ k, (ordW n rows k).getD (posW n rows k j) 0 = j
  | 0 => by rw [ordW_0, posW_0]; simp [hj]
  | k + 1 => by rw [ordW_succ, posW_succ, part_at (posW_lt hj k), ordW_at hj k]
theorem part_from {ws : List Nat} {n q : Nat} {O : List Nat} (hq : q < n) : ∃ p, p < n ∧ dnW ws n (bitAt ws p) p = q := by
  have hb := cntB_both ws n
  rcases Nat.lt_or_ge q (cntB ws false n) with h | h
  · obtain ⟨p, a, b, c⟩ := selW_from ws false O n q h
    exact ⟨p, a, by rw [b, dnW_false, c]⟩
  · obtain ⟨p, a, b, c⟩ := selW_from ws true O n (q - cntB ws false n) (by omega)
    exact ⟨p, a, by rw [b, dnW_true, c]; omega⟩
theorem ordW_pos {n : Nat} {rows : List (List Nat)} : ∀ k q, q < n → (ordW n rows k).getD q 0 < n ∧ posW n rows k ((ordW n rows k).getD q 0) = q
  | 0, q, h => by rw [ordW_0, posW_0]; simp [h]
  | k + 1, q, h => by
    obtain ⟨p, hp, rfl⟩ := part_from (ws := rows.getD k []) (O := ordW n rows k) h
    obtain ⟨a, b⟩ := ordW_pos (rows := rows) k p hp
    rw [ordW_succ, part_at hp]
    exact ⟨a, by rw [posW_succ, b]⟩
attribute [irreducible] selW ordW
/-- The numbers while a level's places are read: those ahead of t have its bit already. -/
def midW (n : Nat) (rows : List (List Nat)) (k t j : Nat) : Nat := if posW n rows k j < t then valW n rows (k + 1) j else valW n rows k j
theorem midW_0 (n : Nat) (rows : List (List Nat)) (k : Nat) : tab (midW n rows k 0) n = tab (valW n rows k) n := tab_congr fun j _ => by unfold midW; rw [if_neg (by omega)]
theorem midW_n (n : Nat) (rows : List (List Nat)) (k : Nat) : tab (midW n rows k n) n = tab (valW n rows (k + 1)) n := tab_congr fun j hj => by unfold midW; rw [if_pos (posW_lt hj k)]
theorem midW_at {n : Nat} {rows : List (List Nat)} {k t : Nat} (ht : t < n) : midW n rows k t ((ordW n rows k).getD t 0) = valW n rows k ((ordW n rows k).getD t 0) := by
  obtain ⟨a, b⟩ := ordW_pos (rows := rows) k t ht
  unfold midW
  rw [b, if_neg (by omega)]
theorem midW_step {n : Nat} {rows : List (List Nat)} {k t : Nat} (ht : t < n) : (tab (midW n rows k t) n).set ((ordW n rows k).getD t 0) (2 * valW n rows k ((ordW n rows k).getD t 0) + (bitAt (rows.getD k []) t).toNat) = tab (midW n rows k (t + 1)) n := by
  obtain ⟨a, b⟩ := ordW_pos (rows := rows) k t ht
  refine tab_set ?_ fun j hj hne => ?_
  · show midW n rows k (t + 1) _ = _
    unfold midW
    rw [b, if_pos (by omega), valW_succ, b]
  · unfold midW
    by_cases h : posW n rows k j < t
    · rw [if_pos h, if_pos (by omega)]
    · by_cases h2 : posW n rows k j = t
      · exact absurd (posW_inj (rows := rows) hj a k (by rw [b]; exact h2)) hne
      · rw [if_neg h, if_neg (by omega)]
attribute [irreducible] midW
end Go.Dam
