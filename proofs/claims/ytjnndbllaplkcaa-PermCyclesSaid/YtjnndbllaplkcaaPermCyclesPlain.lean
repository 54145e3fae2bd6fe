/-
  Plain laws of an order's cycles: walking from a place until it comes back; which place of a cycle is its least. Conditions: none; no program in sight.
-/
import Derived.Test.YtjnndbllaplkcaaPermLaws
namespace Go.Dam
set_option linter.unusedVariables false
/-- t steps from i. -/
def itP (p : List Nat) (i : Nat) : Nat → Nat
  | 0 => i
  | t + 1 => p.getD (itP p i t) 0
theorem itP_0 (p : List Nat) (i : Nat) : itP p i 0 = i := rfl
theorem itP_succ (p : List Nat) (i t : Nat) : itP p i (t + 1) = p.getD (itP p i t) 0 := rfl
theorem itP_add (p : List Nat) (i s : Nat) : ∀ t, itP p i (s + t) = itP p (itP p i s) t
  | 0 => rfl
  | t + 1 => by rw [← Nat.add_assoc, itP_succ, itP_succ, itP_add p i s t]
theorem itP_lt {l : List Int} {p : List Nat} (h : IsOrder l p) {i : Nat} (hi : i < p.length) : ∀ t, itP p i t < p.length
  | 0 => hi
  | t + 1 => by rw [itP_succ]; exact (order_at h (itP_lt h hi t)).2
theorem order_inj {l : List Int} {p : List Nat} (h : IsOrder l p) {a b : Nat} (ha : a < p.length) (hb : b < p.length) (e : p.getD a 0 = p.getD b 0) : a = b := by
  rw [← idxOf_at h.2.1 ha, ← idxOf_at h.2.1 hb, e]
theorem itP_cancel {l : List Int} {p : List Nat} (h : IsOrder l p) {i : Nat} (hi : i < p.length) : ∀ s d, itP p i s = itP p i (s + d) → itP p i d = i
  | 0, d, e => by rw [Nat.zero_add, itP_0] at e; exact e.symm
  | s + 1, d, e => by
    rw [show s + 1 + d = (s + d) + 1 from by omega, itP_succ, itP_succ] at e
    exact itP_cancel h hi s d (order_inj h (itP_lt h hi _) (itP_lt h hi _) e)
/-- The walk comes back. -/
theorem comes_back {l : List Int} {p : List Nat} (h : IsOrder l p) {i : Nat} (hi : i < p.length) : ∃ m, 1 ≤ m ∧ m ≤ p.length ∧ itP p i m = i := by
  apply Classical.byContradiction
  intro hno
  have hn : (tab (itP p i) (p.length + 1)).Nodup := by
    unfold tab
    refine List.pairwise_map.2 ?_
    refine (List.pairwise_iff_getElem.2 fun a b ha hb hab => ?_)
    simp only [List.length_range] at ha hb
    simp only [List.getElem_range]
    intro e
    refine hno ⟨b - a, by omega, by omega, itP_cancel h hi a (b - a) ?_⟩
    rw [show a + (b - a) = b from by omega]; exact e
  have := (nodup_le p.length _ hn fun k hk => by
    unfold tab at hk
    obtain ⟨t, _, rfl⟩ := List.mem_map.1 hk
    exact itP_lt h hi t).1
  rw [tab_length] at this; omega
/-- A least number with a property. -/
theorem least_of {P : Nat → Prop} : ∀ n, P n → ∃ m, m ≤ n ∧ P m ∧ ∀ k, k < m → ¬ P k := by
  intro n
  induction n using Nat.strongRecOn with
  | ind n ih =>
    intro h
    by_cases g : ∃ k, k < n ∧ P k
    · obtain ⟨k, hk, hp⟩ := g
      obtain ⟨m, h1, h2, h3⟩ := ih k hk hp
      exact ⟨m, by omega, h2, h3⟩
    · exact ⟨n, Nat.le_refl _, h, fun k hk hp => g ⟨k, hk, hp⟩⟩
theorem per_ex {l : List Int} {p : List Nat} (h : IsOrder l p) {i : Nat} (hi : i < p.length) : ∃ m, (1 ≤ m ∧ m ≤ p.length ∧ itP p i m = i) ∧ ∀ t, 1 ≤ t → t < m → itP p i t ≠ i := by
  obtain ⟨m, hm⟩ := comes_back h hi
  obtain ⟨k, hk, h1, h2⟩ := least_of (P := fun m => 1 ≤ m ∧ m ≤ p.length ∧ itP p i m = i) m hm
  exact ⟨k, h1, fun t h3 h4 h5 => h2 t h4 ⟨h3, by omega, h5⟩⟩
open Classical in
/-- The steps until the walk comes back. -/
noncomputable def perP (p : List Nat) (i : Nat) : Nat := if h : ∃ m, (1 ≤ m ∧ m ≤ p.length ∧ itP p i m = i) ∧ ∀ t, 1 ≤ t → t < m → itP p i t ≠ i then h.choose else 1
theorem perP_is {l : List Int} {p : List Nat} (h : IsOrder l p) {i : Nat} (hi : i < p.length) : (1 ≤ perP p i ∧ perP p i ≤ p.length ∧ itP p i (perP p i) = i) ∧ ∀ t, 1 ≤ t → t < perP p i → itP p i t ≠ i := by
  have h1 := per_ex h hi
  unfold perP
  rw [dif_pos h1]
  exact h1.choose_spec
/-- The places of a cycle differ. -/
theorem cyc_differ {l : List Int} {p : List Nat} (h : IsOrder l p) {i : Nat} (hi : i < p.length) {s t : Nat} (hst : s < t) (ht : t < perP p i) : itP p i s ≠ itP p i t := by
  intro e
  refine (perP_is h hi).2 (t - s) (by omega) (by omega) (itP_cancel h hi s (t - s) ?_)
  rw [show s + (t - s) = t from by omega]; exact e
/-- The least of the first t places. -/
def leastP (p : List Nat) (i : Nat) : Nat → Nat
  | 0 => i
  | t + 1 => min (leastP p i t) (itP p i t)
theorem leastP_1 (p : List Nat) (i : Nat) : leastP p i 1 = i := by simp [leastP, itP]
theorem leastP_succ (p : List Nat) (i t : Nat) : leastP p i (t + 1) = min (leastP p i t) (itP p i t) := rfl
theorem leastP_le {p : List Nat} {i : Nat} : ∀ {t : Nat}, leastP p i t ≤ i ∧ ∀ s, s < t → leastP p i t ≤ itP p i s
  | 0 => ⟨Nat.le_refl _, fun s h => absurd h (by omega)⟩
  | t + 1 => by
    have ih := leastP_le (p := p) (i := i) (t := t)
    rw [leastP_succ]
    refine ⟨by omega, fun s hs => ?_⟩
    rcases Nat.lt_or_ge s t with h | h
    · have := ih.2 s h; omega
    · rw [show s = t from by omega]; omega
theorem leastP_is {p : List Nat} {i : Nat} : ∀ {t : Nat}, leastP p i t = i ∨ ∃ s, s < t ∧ leastP p i t = itP p i s
  | 0 => .inl rfl
  | t + 1 => by
    rw [leastP_succ]
    rcases leastP_is (p := p) (i := i) (t := t) with h | ⟨s, hs, h⟩
    · rcases Nat.le_total (leastP p i t) (itP p i t) with g | g
      · exact .inl (by omega)
      · exact .inr ⟨t, by omega, by omega⟩
    · rcases Nat.le_total (leastP p i t) (itP p i t) with g | g
      · exact .inr ⟨s, by omega, by omega⟩
      · exact .inr ⟨t, by omega, by omega⟩
/-- Is i the least of its cycle? -/
noncomputable def isLeast (p : List Nat) (i : Nat) : Bool := decide (leastP p i (perP p i) = i)
/-- The cycle from i. -/
noncomputable def orbP (p : List Nat) (i : Nat) : List Nat := tab (itP p i) (perP p i)
/-- The cycles of the places below i. -/
noncomputable def cycTo (p : List Nat) : Nat → List (List Nat)
  | 0 => []
  | i + 1 => if isLeast p i = true then cycTo p i ++ [orbP p i] else cycTo p i
theorem cycTo_0 (p : List Nat) : cycTo p 0 = [] := rfl
theorem cycTo_yes {p : List Nat} {i : Nat} (h : isLeast p i = true) : cycTo p (i + 1) = cycTo p i ++ [orbP p i] := by rw [cycTo, if_pos h]
theorem cycTo_no {p : List Nat} {i : Nat} (h : isLeast p i = false) : cycTo p (i + 1) = cycTo p i := by rw [cycTo, if_neg (by rw [h]; simp)]
theorem cycTo_le (p : List Nat) : ∀ i, (cycTo p i).length ≤ i
  | 0 => Nat.le_refl _
  | i + 1 => by
    have := cycTo_le p i
    rw [cycTo]; split
    · rw [List.length_append, List.length_singleton]; omega
    · omega
theorem cycTo_mem {p : List Nat} {r : List Nat} : ∀ {i : Nat}, r ∈ cycTo p i → ∃ j, j < i ∧ r = orbP p j
  | 0, h => by simp [cycTo] at h
  | i + 1, h => by
    rw [cycTo] at h
    split at h
    · rcases List.mem_append.1 h with g | g
      · obtain ⟨j, hj, e⟩ := cycTo_mem g; exact ⟨j, by omega, e⟩
      · simp at g; exact ⟨i, by omega, g⟩
    · obtain ⟨j, hj, e⟩ := cycTo_mem h; exact ⟨j, by omega, e⟩
/-- Place x is on the cycle of some j below i. -/
def Seen (p : List Nat) (i x : Nat) : Prop := ∃ j t, j < i ∧ x = itP p j t
theorem Seen.next {p : List Nat} {i x : Nat} (h : Seen p i x) : Seen p i (p.getD x 0) := by
  obtain ⟨j, t, hj, rfl⟩ := h
  exact ⟨j, t + 1, hj, rfl⟩
/-- Along the whole cycle back: seen at one place, seen at all. -/
theorem Seen.iter {p : List Nat} {i x : Nat} (h : Seen p i x) : ∀ t, Seen p i (itP p x t)
  | 0 => h
  | t + 1 => (h.iter t).next
theorem back_to {l : List Int} {p : List Nat} (h : IsOrder l p) {i : Nat} (hi : i < p.length) (t : Nat) (ht : t ≤ perP p i) : itP p (itP p i t) (perP p i - t) = i := by
  rw [← itP_add, show t + (perP p i - t) = perP p i from by omega]
  exact (perP_is h hi).1.2.2
theorem per_mul {l : List Int} {p : List Nat} (h : IsOrder l p) {i : Nat} (hi : i < p.length) : ∀ k, itP p i (k * perP p i) = i
  | 0 => by rw [Nat.zero_mul]; rfl
  | k + 1 => by rw [Nat.add_mul, Nat.one_mul, itP_add, per_mul h hi k]; exact (perP_is h hi).1.2.2
theorem per_mod {l : List Int} {p : List Nat} (h : IsOrder l p) {i : Nat} (hi : i < p.length) (t : Nat) : itP p i t = itP p i (t % perP p i) := by
  conv => lhs; rw [← Nat.div_add_mod t (perP p i), Nat.mul_comm, itP_add, per_mul h hi]
theorem seen_iff {l : List Int} {p : List Nat} (h : IsOrder l p) {i : Nat} (hi : i < p.length) : Seen p i i ↔ isLeast p i = false := by
  unfold isLeast
  rw [decide_eq_false_iff_not]
  have hp := (perP_is h hi).1
  constructor
  · rintro ⟨j, t, hj, e⟩ hl
    have hj2 : j < p.length := by omega
    have hpj := (perP_is h hj2).1
    have e2 : i = itP p j (t % perP p j) := by rw [← per_mod h hj2]; exact e
    have hlt : t % perP p j < perP p j := Nat.mod_lt _ (by omega)
    have hb := back_to h hj2 (t % perP p j) (by omega)
    rw [← e2] at hb
    have hm := per_mod h hi (perP p j - t % perP p j)
    rw [hb] at hm
    have := (leastP_le (p := p) (i := i) (t := perP p i)).2 _ (Nat.mod_lt (perP p j - t % perP p j) (by omega))
    omega
  · intro hne
    rcases leastP_is (p := p) (i := i) (t := perP p i) with g | ⟨s, hs, g⟩
    · exact absurd g hne
    · have h1 := (leastP_le (p := p) (i := i) (t := perP p i)).1
      refine ⟨itP p i s, perP p i - s, by omega, (back_to h hi s (by omega)).symm⟩
/-- The marks while a cycle is walked. -/
noncomputable def seenF (p : List Nat) (i t : Nat) (x : Nat) : Bool := @decide (Seen p i x ∨ ∃ s, s < t ∧ x = itP p i s) (Classical.propDecidable _)
theorem seenF_true {p : List Nat} {i t x : Nat} : seenF p i t x = true ↔ (Seen p i x ∨ ∃ s, s < t ∧ x = itP p i s) := by unfold seenF; exact @decide_eq_true_iff _ (Classical.propDecidable _)
theorem seenF_start (p : List Nat) (x : Nat) : seenF p 0 0 x = false := by
  rw [Bool.eq_false_iff, Ne, seenF_true]
  rintro (⟨j, t, hj, _⟩ | ⟨s, hs, _⟩)
  · omega
  · omega
theorem bool_iff {a b : Bool} (h : a = true ↔ b = true) : a = b := Bool.eq_iff_iff.2 h
theorem seenF_step {p : List Nat} {i t x : Nat} (h : x ≠ itP p i t) : seenF p i (t + 1) x = seenF p i t x := by
  apply bool_iff
  rw [seenF_true, seenF_true]
  constructor
  · rintro (g | ⟨s, hs, e⟩)
    · exact .inl g
    · rcases Nat.lt_or_ge s t with g | g
      · exact .inr ⟨s, g, e⟩
      · rw [show s = t from by omega] at e; exact absurd e h
  · rintro (g | ⟨s, hs, e⟩)
    · exact .inl g
    · exact .inr ⟨s, by omega, e⟩
theorem seenF_here (p : List Nat) (i t : Nat) : seenF p i (t + 1) (itP p i t) = true := seenF_true.2 (.inr ⟨t, by omega, rfl⟩)
theorem seenF_old {l : List Int} {p : List Nat} (h : IsOrder l p) {i : Nat} (hi : i < p.length) (hl : isLeast p i = false) (x : Nat) : seenF p (i + 1) 0 x = seenF p i 0 x := by
  have hs := (seen_iff h hi).2 hl
  apply bool_iff
  rw [seenF_true, seenF_true]
  constructor
  · rintro (⟨j, t, hj, e⟩ | ⟨s, hs, _⟩)
    · rcases Nat.lt_or_ge j i with g | g
      · exact .inl ⟨j, t, g, e⟩
      · rw [show j = i from by omega] at e
        rw [e]; exact .inl (hs.iter t)
    · omega
  · rintro (⟨j, t, hj, e⟩ | ⟨s, hs, _⟩)
    · exact .inl ⟨j, t, by omega, e⟩
    · omega
theorem seenF_whole {l : List Int} {p : List Nat} (h : IsOrder l p) {i : Nat} (hi : i < p.length) (x : Nat) : seenF p (i + 1) 0 x = seenF p i (perP p i) x := by
  apply bool_iff
  rw [seenF_true, seenF_true]
  constructor
  · rintro (⟨j, t, hj, e⟩ | ⟨s, hs, _⟩)
    · rcases Nat.lt_or_ge j i with g | g
      · exact .inl ⟨j, t, g, e⟩
      · rw [show j = i from by omega] at e
        refine .inr ⟨t % perP p i, Nat.mod_lt _ (by have := (perP_is h hi).1; omega), ?_⟩
        rw [← per_mod h hi]; exact e
    · omega
  · rintro (⟨j, t, hj, e⟩ | ⟨s, hs, e⟩)
    · exact .inl ⟨j, t, by omega, e⟩
    · exact .inl ⟨i, s, by omega, e⟩
/-- While the walk is under way it meets nothing seen. -/
theorem seenF_not {l : List Int} {p : List Nat} (h : IsOrder l p) {i : Nat} (hi : i < p.length) (hl : isLeast p i = true) {t : Nat} (ht : t < perP p i) : seenF p i t (itP p i t) = false := by
  rw [Bool.eq_false_iff, Ne, seenF_true]
  rintro (g | ⟨s, hs, e⟩)
  · have h1 := g.iter (perP p i - t)
    rw [back_to h hi t (by omega)] at h1
    rw [(seen_iff h hi).1 h1] at hl; cases hl
  · exact cyc_differ h hi hs ht e.symm
theorem seenF_first {l : List Int} {p : List Nat} (h : IsOrder l p) {i : Nat} (hi : i < p.length) (hl : isLeast p i = false) : seenF p i 0 i = true := seenF_true.2 (.inl ((seen_iff h hi).2 hl))
theorem seenF_back {l : List Int} {p : List Nat} (h : IsOrder l p) {i : Nat} (hi : i < p.length) : seenF p i (perP p i) (itP p i (perP p i)) = true := by
  have hp := (perP_is h hi).1
  refine seenF_true.2 (.inr ⟨0, by omega, ?_⟩)
  rw [hp.2.2]; rfl
attribute [irreducible] itP perP leastP isLeast orbP cycTo Seen seenF
end Go.Dam
