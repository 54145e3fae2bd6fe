/-
  Plain laws of brackets, no program in sight: depths, which bracket belongs to which, and the open ones at a place. Conditions: none.
-/
import Derived.Test.YtiflelifkjfpdaaLib
namespace Go.Dam
set_option linter.unusedVariables false
/-- How deep it is ahead of place i. -/
def dep (f : Nat → Nat) : Nat → Int
  | 0 => 0
  | i + 1 => dep f i + if f i = 40 then 1 else -1
theorem dep_0 (f : Nat → Nat) : dep f 0 = 0 := rfl
theorem dep_open {f : Nat → Nat} {i : Nat} (h : f i = 40) : dep f (i + 1) = dep f i + 1 := by simp [dep, h]
theorem dep_close {f : Nat → Nat} {i : Nat} (h : f i ≠ 40) : dep f (i + 1) = dep f i - 1 := by simp [dep, h]; omega
theorem dep_step (f : Nat → Nat) (i : Nat) : dep f (i + 1) = dep f i + 1 ∨ dep f (i + 1) = dep f i - 1 := by
  by_cases h : f i = 40
  · exact .inl (dep_open h)
  · exact .inr (dep_close h)
theorem dep_le (f : Nat → Nat) : ∀ i : Nat, -(i : Int) ≤ dep f i ∧ dep f i ≤ i
  | 0 => by simp [dep]
  | i + 1 => by
    have := dep_le f i
    have := dep_step f i
    omega
attribute [irreducible] dep
/-- Brackets that belong together. -/
def Brackets (f : Nat → Nat) (n : Nat) : Prop := (∀ i, i < n → f i = 40 ∨ f i = 41) ∧ (∀ i, i ≤ n → 0 ≤ dep f i) ∧ dep f n = 0
/-- Place k is open, place i closes it. -/
structure Mt (f : Nat → Nat) (k i : Nat) : Prop where
  lt : k < i
  op : f k = 40
  cl : f i ≠ 40
  eq : dep f (i + 1) = dep f k
  up : ∀ j, k < j → j ≤ i → dep f k < dep f j
theorem Mt.right {f : Nat → Nat} {k i i' : Nat} (h : Mt f k i) (g : Mt f k i') : i = i' := by
  rcases Nat.lt_trichotomy i i' with h1 | h1 | h1
  · have := g.up (i + 1) (by have := h.lt; omega) (by omega); have := h.eq; omega
  · exact h1
  · have := h.up (i' + 1) (by have := g.lt; omega) (by omega); have := g.eq; omega
theorem Mt.left {f : Nat → Nat} {k k' i : Nat} (h : Mt f k i) (g : Mt f k' i) : k = k' := by
  rcases Nat.lt_trichotomy k k' with h1 | h1 | h1
  · have := h.up k' h1 (by have := g.lt; omega); have := h.eq; have := g.eq; omega
  · exact h1
  · have := g.up k h1 (by have := h.lt; omega); have := h.eq; have := g.eq; omega
/-- Places that belong together. -/
def Pt (f : Nat → Nat) (i j : Nat) : Prop := Mt f i j ∨ Mt f j i
theorem Pt.symm {f : Nat → Nat} {i j : Nat} (h : Pt f i j) : Pt f j i := h.elim .inr .inl
theorem Pt.uniq {f : Nat → Nat} {i j k : Nat} (h : Pt f i j) (g : Pt f i k) : j = k := by
  rcases h with h | h <;> rcases g with g | g
  · exact h.right g
  · exact absurd h.op (fun e => g.cl e)
  · exact absurd g.op (fun e => h.cl e)
  · exact h.left g
/-- A first place from a on where P holds. -/
theorem first_from {P : Nat → Prop} (a : Nat) : ∀ d, P (a + d) → ∃ j, a ≤ j ∧ j ≤ a + d ∧ P j ∧ ∀ x, a ≤ x → x < j → ¬ P x := by
  intro d
  induction d using Nat.strongRecOn with
  | ind d ih =>
    intro h
    by_cases hx : ∃ e, e < d ∧ P (a + e)
    · obtain ⟨e, he, hp⟩ := hx
      obtain ⟨j, h1, h2, h3, h4⟩ := ih e he hp
      exact ⟨j, h1, by omega, h3, h4⟩
    · refine ⟨a + d, by omega, Nat.le_refl _, h, fun x h1 h2 hp => hx ⟨x - a, by omega, ?_⟩⟩
      rw [show a + (x - a) = x from by omega]; exact hp
/-- A last place up to b where P holds. -/
theorem last_to {P : Nat → Prop} : ∀ b, P 0 → ∃ j, j ≤ b ∧ P j ∧ ∀ x, j < x → x ≤ b → ¬ P x
  | 0, h => ⟨0, Nat.le_refl _, h, fun x h1 h2 => by omega⟩
  | b + 1, h => by
    by_cases hb : P (b + 1)
    · exact ⟨b + 1, Nat.le_refl _, hb, fun x h1 h2 => by omega⟩
    · obtain ⟨j, h1, h2, h3⟩ := last_to b h
      refine ⟨j, by omega, h2, fun x h4 h5 => ?_⟩
      rcases Nat.lt_or_ge x (b + 1) with h6 | h6
      · exact h3 x h4 (by omega)
      · rw [show x = b + 1 from by omega]; exact hb
theorem Brackets.right {f : Nat → Nat} {n k : Nat} (h : Brackets f n) (hk : k < n) (ho : f k = 40) : ∃ i, i < n ∧ Mt f k i := by
  obtain ⟨h1, h2, h3⟩ := h
  have d1 := dep_open ho
  have d0 := h2 k (by omega)
  obtain ⟨j, a, b, c, d⟩ := first_from (P := fun j => dep f (j + 1) ≤ dep f k) (k + 1) (n - 1 - (k + 1)) (by
    show dep f (k + 1 + (n - 1 - (k + 1)) + 1) ≤ dep f k
    rcases Nat.lt_or_ge (k + 1) n with h4 | h4
    · rw [show k + 1 + (n - 1 - (k + 1)) + 1 = n from by omega, h3]; exact d0
    · have : k + 1 = n := by omega
      rw [this, h3] at d1; omega)
  have hn : j < n := by
    rcases Nat.lt_or_ge (k + 1) n with h4 | h4
    · omega
    · have : k + 1 = n := by omega
      rw [this, h3] at d1; omega
  have up : ∀ x, k < x → x ≤ j → dep f k < dep f x := by
    intro x h4 h5
    rcases Nat.lt_or_ge (k + 1) x with h6 | h6
    · have := d (x - 1) (by omega) (by omega)
      rw [show x - 1 + 1 = x from by omega] at this
      omega
    · rw [show x = k + 1 from by omega]; omega
  refine ⟨j, hn, ⟨by omega, ho, fun hc => ?_, ?_, up⟩⟩
  · have := dep_open hc; have := up j (by omega) (Nat.le_refl _); omega
  · have := up j (by omega) (Nat.le_refl _); have := dep_step f j; omega
theorem Brackets.left {f : Nat → Nat} {n i : Nat} (h : Brackets f n) (hi : i < n) (hc : f i ≠ 40) : ∃ k, Mt f k i := by
  obtain ⟨h1, h2, h3⟩ := h
  have d1 := dep_close hc
  have d0 := h2 (i + 1) (by omega)
  obtain ⟨j, a, b, c⟩ := last_to (P := fun j => dep f j ≤ dep f (i + 1)) i (by show dep f 0 ≤ _; rw [dep_0]; exact d0)
  have hji : j < i := by
    rcases Nat.lt_or_ge j i with h4 | h4
    · exact h4
    · obtain rfl : j = i := by omega
      omega
  have d2 := c (j + 1) (by omega) (by omega)
  have ho : f j = 40 := by
    by_cases ho : f j = 40
    · exact ho
    · have := dep_close ho; omega
  have d3 := dep_open ho
  refine ⟨j, ⟨hji, ho, hc, by omega, fun x h4 h5 => ?_⟩⟩
  have := c x h4 h5
  omega
theorem Brackets.pt {f : Nat → Nat} {n i : Nat} (h : Brackets f n) (hi : i < n) : ∃ j, j < n ∧ Pt f i j := by
  by_cases ho : f i = 40
  · obtain ⟨j, hj, hm⟩ := h.right hi ho
    exact ⟨j, hj, .inl hm⟩
  · obtain ⟨k, hm⟩ := h.left hi ho
    exact ⟨k, by have := hm.lt; omega, .inr hm⟩
/-- The open ones ahead of place i, the last one last. -/
def Opens (f : Nat → Nat) (i : Nat) (st : List Nat) : Prop :=
  (st.length : Int) = dep f i ∧ ∀ m (h : m < st.length), st[m] < i ∧ f st[m] = 40 ∧ dep f st[m] = m ∧ ∀ j, st[m] < j → j ≤ i → (m : Int) < dep f j
theorem Opens.nil (f : Nat → Nat) : Opens f 0 [] := ⟨by rw [dep_0]; rfl, fun m h => absurd h (by simp)⟩
theorem Opens.push {f : Nat → Nat} {i : Nat} {st : List Nat} (h : Opens f i st) (ho : f i = 40) : Opens f (i + 1) (st ++ [i]) := by
  obtain ⟨h1, h2⟩ := h
  have d := dep_open ho
  refine ⟨by rw [List.length_append]; simp; omega, fun m hm => ?_⟩
  rw [List.length_append, List.length_singleton] at hm
  rcases Nat.lt_or_ge m st.length with h3 | h3
  · obtain ⟨a, b, c, e⟩ := h2 m h3
    rw [List.getElem_append_left h3]
    refine ⟨by omega, b, c, fun j g1 g2 => ?_⟩
    rcases Nat.lt_or_ge j (i + 1) with h4 | h4
    · exact e j g1 (by omega)
    · rw [show j = i + 1 from by omega, d]; omega
  · have hm' : m = st.length := by omega
    subst hm'
    rw [List.getElem_append_right (Nat.le_refl _)]
    simp only [Nat.sub_self, List.getElem_cons_zero]
    refine ⟨by omega, ho, h1.symm, fun j g1 g2 => ?_⟩
    rw [show j = i + 1 from by omega, d]; omega
theorem Opens.pop {f : Nat → Nat} {i k : Nat} {st : List Nat} (h : Opens f i (st ++ [k])) (hc : f i ≠ 40) : Mt f k i ∧ Opens f (i + 1) st := by
  obtain ⟨h1, h2⟩ := h
  have d := dep_close hc
  rw [List.length_append, List.length_singleton] at h1
  have ht := h2 st.length (by simp)
  rw [List.getElem_append_right (Nat.le_refl _)] at ht
  simp only [Nat.sub_self, List.getElem_cons_zero] at ht
  obtain ⟨a, b, c, e⟩ := ht
  refine ⟨⟨a, b, hc, by omega, fun j g1 g2 => by rw [c]; exact e j g1 g2⟩, by omega, fun m hm => ?_⟩
  obtain ⟨a', b', c', e'⟩ := h2 m (by simp; omega)
  rw [List.getElem_append_left hm] at a' b' c' e'
  refine ⟨by omega, b', c', fun j g1 g2 => ?_⟩
  rcases Nat.lt_or_ge j (i + 1) with h4 | h4
  · exact e' j g1 (by omega)
  · rw [show j = i + 1 from by omega, d]; omega
theorem Opens.mem {f : Nat → Nat} {i : Nat} {st : List Nat} (h : Opens f i st) {k : Nat} (hk : k ∈ st) : k < i ∧ f k = 40 := by
  obtain ⟨m, hm, rfl⟩ := List.mem_iff_getElem.1 hk
  exact ⟨(h.2 m hm).1, (h.2 m hm).2.1⟩
/-- No place is open twice. -/
theorem Opens.top_notin {f : Nat → Nat} {i k : Nat} {st : List Nat} (h : Opens f i (st ++ [k])) : k ∉ st := by
  intro hk
  obtain ⟨m, hm, e⟩ := List.mem_iff_getElem.1 hk
  have a := (h.2 m (by simp; omega)).2.2.1
  rw [List.getElem_append_left hm, e] at a
  have b := (h.2 st.length (by simp)).2.2.1
  rw [List.getElem_append_right (Nat.le_refl _)] at b
  simp only [Nat.sub_self, List.getElem_cons_zero] at b
  omega
theorem Opens.len_le {f : Nat → Nat} {i : Nat} {st : List Nat} (h : Opens f i st) : st.length ≤ i := by
  have := dep_le f i; have := h.1; omega
/-- An open one ahead of place i that encloses it. -/
def Enc (f : Nat → Nat) (k a : Nat) : Prop := k < a ∧ f k = 40 ∧ ∀ j, k < j → j ≤ a → dep f k < dep f j
/-- The byte at a place. -/
def chr (s : ByteArray) (i : Nat) : Nat := (s.data.toList.getD i 0).toNat
theorem chr_at {s : ByteArray} {i : Nat} (h : i < s.size) : s[i].toNat = chr s i := by
  unfold chr
  have h2 : i < s.data.toList.length := by simpa using h
  rw [List.getD_eq_getElem?_getD, List.getElem?_eq_getElem h2]; rfl
theorem chr_lt (s : ByteArray) (i : Nat) : chr s i < 256 := by unfold chr; exact UInt8.toNat_lt _
attribute [irreducible] chr
/-- The code of the refusal of brackets. -/
def ParenC (s : ByteArray) (c : Int) : Prop := (400 < s.size ∧ c = 1) ∨ (s.size ≤ 400 ∧ ¬ Brackets (chr s) s.size ∧ c = 4) ∨ (s.size ≤ 400 ∧ Brackets (chr s) s.size ∧ c = 0)
theorem ParenC.ex (s : ByteArray) : ∃ c, ParenC s c := by
  by_cases h : 400 < s.size
  · exact ⟨_, .inl ⟨h, rfl⟩⟩
  · by_cases h2 : Brackets (chr s) s.size
    · exact ⟨_, .inr (.inr ⟨by omega, h2, rfl⟩)⟩
    · exact ⟨_, .inr (.inl ⟨by omega, h2, rfl⟩)⟩
/-- All is well up to place i. -/
def Fine (f : Nat → Nat) (i : Nat) : Prop := (∀ j, j < i → f j = 40 ∨ f j = 41) ∧ ∀ j, j ≤ i → 0 ≤ dep f j
theorem Fine.nil (f : Nat → Nat) : Fine f 0 := ⟨fun j h => absurd h (by omega), fun j h => by rw [show j = 0 from by omega, dep_0]; exact Int.le_refl _⟩
theorem Fine.next {f : Nat → Nat} {i : Nat} (h : Fine f i) (hc : f i = 40 ∨ f i = 41) (hd : 0 ≤ dep f (i + 1)) : Fine f (i + 1) := by
  refine ⟨fun j hj => ?_, fun j hj => ?_⟩
  · rcases Nat.lt_or_ge j i with h1 | h1
    · exact h.1 j h1
    · rw [show j = i from by omega]; exact hc
  · rcases Nat.lt_or_ge j (i + 1) with h1 | h1
    · exact h.2 j (by omega)
    · rw [show j = i + 1 from by omega]; exact hd
theorem Fine.all {f : Nat → Nat} {n : Nat} (h : Fine f n) (hd : dep f n = 0) : Brackets f n := ⟨h.1, h.2, hd⟩
end Go.Dam
