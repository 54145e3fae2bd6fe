/-
  Plain laws for the checks on piles: the greatest length is the number of piles; which places were seen, and how many. Conditions: none.
-/
import Derived.Test.YtgfddolchachkaaMLisRises08
namespace Go.Dam
set_option linter.unusedVariables false
/-- The greatest of the first i lengths. -/
def mostTo (L : List Nat) : Nat → Nat
  | 0 => 0
  | i + 1 => max (mostTo L i) (L.getD i 0)
theorem mostTo_0 (L : List Nat) : mostTo L 0 = 0 := rfl
theorem mostTo_succ (L : List Nat) (i : Nat) : mostTo L (i + 1) = max (mostTo L i) (L.getD i 0) := rfl
theorem mostTo_le {L : List Nat} {b : Nat} : ∀ {i : Nat}, (∀ k, k < i → L.getD k 0 ≤ b) → mostTo L i ≤ b
  | 0, _ => Nat.zero_le _
  | i + 1, h => by
    have := mostTo_le (i := i) fun k hk => h k (by omega)
    have := h i (by omega)
    rw [mostTo_succ]; omega
theorem mostTo_ge {L : List Nat} : ∀ {i k : Nat}, k < i → L.getD k 0 ≤ mostTo L i
  | i + 1, k, hk => by
    rw [mostTo_succ]
    rcases Nat.lt_or_ge k i with h | h
    · have := mostTo_ge (L := L) h; omega
    · rw [show k = i from by omega]; omega
theorem Piles.most {f : Nat → Int} {n : Nat} {ps : List (List Nat)} (h : Piles f n ps) : mostTo (lensTo f n) n = ps.length := by
  apply Nat.le_antisymm
  · exact mostTo_le fun k hk => h.len k hk
  · rcases Nat.eq_zero_or_pos ps.length with h0 | h0
    · omega
    · have hm := topP_mem (h.ne (ps.length - 1) (by omega))
      have := (h.mem (ps.length - 1) (by omega) _).1 hm
      have h2 := mostTo_ge (L := lensTo f n) this.1
      omega
attribute [irreducible] mostTo
/-- How many places below n have the mark. -/
def cntB2 (g : Nat → Bool) : Nat → Nat
  | 0 => 0
  | n + 1 => cntB2 g n + if g n = true then 1 else 0
theorem cntB2_none {g : Nat → Bool} : ∀ {n : Nat}, (∀ j, j < n → g j = false) → cntB2 g n = 0
  | 0, _ => rfl
  | n + 1, h => by rw [cntB2, cntB2_none fun j hj => h j (by omega), h n (by omega)]; rfl
theorem cntB2_all {g : Nat → Bool} : ∀ {n : Nat}, (∀ j, j < n → g j = true) → cntB2 g n = n
  | 0, _ => rfl
  | n + 1, h => by rw [cntB2, cntB2_all fun j hj => h j (by omega), h n (by omega)]; rfl
theorem cntB2_congr {g g' : Nat → Bool} : ∀ {n : Nat}, (∀ j, j < n → g' j = g j) → cntB2 g' n = cntB2 g n
  | 0, _ => rfl
  | n + 1, h => by rw [cntB2, cntB2, cntB2_congr fun j hj => h j (by omega), h n (by omega)]
theorem cntB2_more {g g' : Nat → Bool} {p : Nat} : ∀ {n : Nat}, p < n → g p = false → g' p = true → (∀ j, j < n → j ≠ p → g' j = g j) → cntB2 g' n = cntB2 g n + 1
  | n + 1, hp, h1, h2, h => by
    rcases Nat.lt_or_ge p n with h3 | h3
    · rw [cntB2, cntB2, cntB2_more h3 h1 h2 fun j hj hne => h j (by omega) hne, h n (by omega) (by omega)]; omega
    · obtain rfl : p = n := by omega
      rw [cntB2, cntB2, cntB2_congr fun j hj => h j (by omega) (by omega), h1, h2]; simp
theorem cntB2_le (g : Nat → Bool) : ∀ n, cntB2 g n ≤ n
  | 0 => Nat.le_refl _
  | n + 1 => by have := cntB2_le g n; rw [cntB2]; split <;> omega
attribute [irreducible] cntB2
/-- The places seen: those of the first i piles, and the first k of the next one. -/
def seenP (L : List Nat) (ps : List (List Nat)) (i k j : Nat) : Bool := decide (L.getD j 0 ≤ i) || decide (j ∈ (ps.getD i []).take k)
theorem mem_take_succ {l : List Nat} {k j : Nat} (h : k < l.length) : j ∈ l.take (k + 1) ↔ j ∈ l.take k ∨ j = l.getD k 0 := by
  rw [List.take_add_one, List.mem_append]
  have : l.getD k 0 = l[k] := by simp [h]
  simp [h]
theorem seen_start {f : Nat → Int} {n : Nat} {ps : List (List Nat)} {j : Nat} (hj : j < n) : seenP (lensTo f n) ps 0 0 j = false := by
  have := (lensTo_le (f := f) hj).1
  unfold seenP
  simp only [Bool.or_eq_false_iff, decide_eq_false_iff_not]
  exact ⟨by omega, by simp⟩
theorem asc_at {p : List Nat} (h : p.Pairwise fun a b => a < b) {a b : Nat} (hab : a < b) (hb : b < p.length) : p.getD a 0 < p.getD b 0 := by
  have := List.pairwise_iff_getElem.1 h a b (by omega) hb hab
  have e1 : p.getD a 0 = p[a]'(by omega) := by simp [show a < p.length by omega]
  have e2 : p.getD b 0 = p[b] := by simp [hb]
  rw [e1, e2]; exact this
theorem seen_not {f : Nat → Int} {n : Nat} {ps : List (List Nat)} (h : Piles f n ps) {i k : Nat} (hi : i < ps.length) (hk : k < (ps.getD i []).length) : seenP (lensTo f n) ps i k ((ps.getD i []).getD k 0) = false := by
  have hm : (ps.getD i []).getD k 0 ∈ ps.getD i [] := by
    generalize ps.getD i [] = p at *
    rw [List.getD_eq_getElem?_getD, List.getElem?_eq_getElem hk]; exact List.getElem_mem hk
  have h1 := ((h.mem i hi _).1 hm).2
  have h2 := (h.asc i hi).imp fun {a b} (h : a < b ∧ f b ≤ f a) => h.1
  unfold seenP
  simp only [Bool.or_eq_false_iff, decide_eq_false_iff_not]
  refine ⟨by omega, fun hmt => ?_⟩
  generalize ps.getD i [] = p at *
  obtain ⟨j, hj, e⟩ := List.mem_iff_getElem.1 hmt
  rw [List.length_take] at hj
  rw [List.getElem_take] at e
  have := asc_at h2 (a := j) (b := k) (by omega) hk
  have e2 : p.getD j 0 = p[j]'(by omega) := by simp [show j < p.length by omega]
  omega
theorem seen_next {f : Nat → Int} {n : Nat} {ps : List (List Nat)} {i k : Nat} (hk : k < (ps.getD i []).length) (j : Nat) : seenP (lensTo f n) ps i (k + 1) j = (seenP (lensTo f n) ps i k j || decide (j = (ps.getD i []).getD k 0)) := by
  unfold seenP
  rw [Bool.or_assoc]
  congr 1
  rw [Bool.eq_iff_iff]
  simp only [decide_eq_true_eq, Bool.or_eq_true]
  exact mem_take_succ hk
theorem seen_pile {f : Nat → Int} {n : Nat} {ps : List (List Nat)} (h : Piles f n ps) {i j : Nat} (hi : i < ps.length) (hj : j < n) : seenP (lensTo f n) ps i (ps.getD i []).length j = seenP (lensTo f n) ps (i + 1) 0 j := by
  have h1 := h.mem i hi j
  unfold seenP
  rw [List.take_length, Bool.eq_iff_iff]
  simp only [Bool.or_eq_true, decide_eq_true_eq, List.take_zero, List.not_mem_nil, or_false, h1]
  omega
theorem seen_all {f : Nat → Int} {n : Nat} {ps : List (List Nat)} (h : Piles f n ps) {j : Nat} (hj : j < n) : seenP (lensTo f n) ps ps.length 0 j = true := by
  have := h.len j hj
  unfold seenP
  simp only [Bool.or_eq_true, decide_eq_true_eq]
  exact .inl this
attribute [irreducible] seenP
/-- The marks in memory. -/
def marks (g : Nat → Bool) (n : Nat) : List Bool := (List.range n).map g
theorem marks_length (g : Nat → Bool) (n : Nat) : (marks g n).length = n := by simp [marks]
theorem marks_at {g : Nat → Bool} {n j : Nat} (h : j < n) : (marks g n)[j]? = some (g j) := by simp [marks, h]
theorem marks_congr {g g' : Nat → Bool} {n : Nat} (h : ∀ j, j < n → g j = g' j) : marks g n = marks g' n := by
  unfold marks
  apply List.map_congr_left
  intro j hj
  exact h j (List.mem_range.1 hj)
theorem marks_false {g : Nat → Bool} {n : Nat} (h : ∀ j, j < n → g j = false) : marks g n = List.replicate n false := by
  apply List.ext_getElem
  · simp [marks]
  · intro j h1 h2
    have hj : j < n := by simpa using h2
    simp [marks, h j hj]
theorem marks_set {g g' : Nat → Bool} {n p : Nat} (hp : g' p = true) (h : ∀ j, j < n → j ≠ p → g' j = g j) : (marks g n).set p true = marks g' n := by
  apply List.ext_getElem
  · simp [marks]
  · intro j h1 h2
    have hj : j < n := by simpa [marks] using h2
    rw [List.getElem_set]
    by_cases e : p = j
    · subst e; simp [marks, hp]
    · rw [if_neg e]; simp [marks, h j hj (Ne.symm e)]
attribute [irreducible] marks
end Go.Dam
