/-
  Plain law of the number that most spans have, no program in sight: what is asked, the reference's way (each begin is tried) and the sweep over begins and ends. Conditions: no span ends ahead of where it begins.
-/
import Derived.Test.YthbopbbpogddlaaGreatMGridKths00
namespace Go.Dam
set_option linter.unusedVariables false
def loS (l : List Int) (i : Nat) : Int := l.getD (i * 2) 0
def hiS (l : List Int) (i : Nat) : Int := l.getD (i * 2 + 1) 0
/-- How many spans have a number. -/
def cover (l : List Int) (n : Nat) (x : Int) : Nat := (List.range n).countP fun i => decide (loS l i ≤ x ∧ x ≤ hiS l i)
/-- What Most answers: how many, and where it begins. -/
def MostR (l : List Int) (n : Nat) (many : Nat) (at_ : Int) : Prop := ∃ j, j < n ∧ at_ = loS l j ∧ many = cover l n (loS l j) ∧ ∀ i, i < n → cover l n (loS l i) < many ∨ (cover l n (loS l i) = many ∧ at_ ≤ loS l i)
theorem MostR.uniq {l : List Int} {n m m' : Nat} {a a' : Int} (h : MostR l n m a) (g : MostR l n m' a') : m = m' ∧ a = a' := by
  obtain ⟨j, h1, rfl, rfl, h2⟩ := h
  obtain ⟨k, g1, rfl, rfl, g2⟩ := g
  have := h2 k g1
  have := g2 j h1
  omega
/-- The reference's way, up to place i. -/
def RefMost (l : List Int) (n i : Nat) (many : Nat) (at_ : Int) : Prop := (i = 0 ∧ many = 0 ∧ at_ = 0) ∨ ∃ j, j < i ∧ at_ = loS l j ∧ many = cover l n (loS l j) ∧ 0 < many ∧ ∀ k, k < i → cover l n (loS l k) < many ∨ (cover l n (loS l k) = many ∧ at_ ≤ loS l k)
section
variable {l : List Int} {n i many : Nat} {at_ : Int}
theorem cover_pos (hi : i < n) (h : loS l i ≤ hiS l i) : 0 < cover l n (loS l i) := by
  unfold cover
  rw [List.countP_pos_iff]
  exact ⟨i, List.mem_range.2 hi, decide_eq_true ⟨Int.le_refl _, h⟩⟩
theorem cover_le (x : Int) : cover l n x ≤ n := by
  unfold cover
  have := List.countP_le_length (p := fun i => decide (loS l i ≤ x ∧ x ≤ hiS l i)) (l := List.range n)
  simpa using this
theorem RefMost.start : RefMost l n 0 0 0 := .inl ⟨rfl, rfl, rfl⟩
theorem RefMost.take (h : RefMost l n i many at_) (hi : i < n) (hok : loS l i ≤ hiS l i) (hc : many < cover l n (loS l i) ∨ (cover l n (loS l i) = many ∧ loS l i < at_)) : RefMost l n (i + 1) (cover l n (loS l i)) (loS l i) := by
  refine .inr ⟨i, by omega, rfl, rfl, cover_pos hi hok, fun k hk => ?_⟩
  by_cases e : k = i
  · rw [e]; exact .inr ⟨rfl, Int.le_refl _⟩
  · rcases h with ⟨h0, _⟩ | ⟨j, h1, h2, h3, h4, h5⟩
    · omega
    · have := h5 k (by omega); omega
theorem RefMost.leave (h : RefMost l n i many at_) (hi : i < n) (hok : loS l i ≤ hiS l i) (hc : ¬ (many < cover l n (loS l i) ∨ (cover l n (loS l i) = many ∧ loS l i < at_))) : RefMost l n (i + 1) many at_ := by
  rcases h with ⟨h0, h1, _⟩ | ⟨j, h1, h2, h3, h4, h5⟩
  · have := cover_pos (l := l) hi hok; omega
  · refine .inr ⟨j, by omega, h2, h3, h4, fun k hk => ?_⟩
    by_cases e : k = i
    · rw [e]; omega
    · exact h5 k (by omega)
theorem RefMost.done (h : RefMost l n n many at_) (hn : 0 < n) : MostR l n many at_ := by
  rcases h with ⟨h0, _⟩ | ⟨j, h1, h2, h3, _, h5⟩
  · omega
  · exact ⟨j, h1, h2, h3, h5⟩
end
theorem RefMost.ex (l : List Int) (n : Nat) (hok : ∀ i, i < n → loS l i ≤ hiS l i) : ∀ i, i ≤ n → ∃ m a, RefMost l n i m a
  | 0, _ => ⟨_, _, .start⟩
  | i + 1, h => by
    obtain ⟨m, a, g⟩ := RefMost.ex l n hok i (by omega)
    by_cases hc : m < cover l n (loS l i) ∨ (cover l n (loS l i) = m ∧ loS l i < a)
    · exact ⟨_, _, g.take (by omega) (hok i (by omega)) hc⟩
    · exact ⟨_, _, g.leave (by omega) (hok i (by omega)) hc⟩
theorem MostR.ex {l : List Int} {n : Nat} (hok : ∀ i, i < n → loS l i ≤ hiS l i) (hn : 0 < n) : ∃ m a, MostR l n m a := by
  obtain ⟨m, a, h⟩ := RefMost.ex l n hok n (Nat.le_refl _)
  exact ⟨m, a, h.done hn⟩
/-- All places below n, in some order, by a number of each. -/
def ByK (k : Nat → Int) (n : Nat) (r : List Nat) : Prop := r.Perm (List.range n) ∧ ∀ u v, u < v → v < n → k (r.getD u 0) ≤ k (r.getD v 0)
theorem ByK.len {k : Nat → Int} {n : Nat} {r : List Nat} (h : ByK k n r) : r.length = n := by have := h.1.length_eq; simpa using this
theorem ByK.lt {k : Nat → Int} {n u : Nat} {r : List Nat} (h : ByK k n r) (hu : u < n) : r.getD u 0 < n := by
  have hl := h.len
  rw [List.getD_eq_getElem?_getD, List.getElem?_eq_getElem (by omega)]
  exact List.mem_range.1 (h.1.mem_iff.1 (List.getElem_mem (by omega)))
theorem ByK.at_ {k : Nat → Int} {n i : Nat} {r : List Nat} (h : ByK k n r) (hi : i < n) : ∃ u, u < n ∧ r.getD u 0 = i := by
  have := h.1.mem_iff.2 (List.mem_range.2 hi)
  obtain ⟨u, hu, e⟩ := List.mem_iff_getElem.1 this
  exact ⟨u, by rw [← h.len]; exact hu, by rw [List.getD_eq_getElem?_getD, List.getElem?_eq_getElem hu]; exact e⟩
theorem countP_cut {p : Nat → Bool} : ∀ (r : List Nat) (e : Nat), e ≤ r.length → (∀ u, u < e → p (r.getD u 0) = true) → (∀ u, e ≤ u → u < r.length → p (r.getD u 0) = false) → r.countP p = e
  | [], e, h, _, _ => by have : e = 0 := by simpa using h
                         subst this; rfl
  | x :: r, 0, h, _, h2 => by
    have h0 := h2 0 (Nat.le_refl _) (by simp)
    rw [List.getD_cons_zero] at h0
    rw [List.countP_cons_of_neg (by simp [h0])]
    exact countP_cut r 0 (Nat.zero_le _) (fun u hu => absurd hu (by omega)) (fun u _ hu => by have := h2 (u + 1) (by omega) (by simpa using hu); rwa [List.getD_cons_succ] at this)
  | x :: r, e + 1, h, h1, h2 => by
    have h0 := h1 0 (by omega)
    rw [List.getD_cons_zero] at h0
    rw [List.countP_cons_of_pos h0, countP_cut r e (by simpa using h) (fun u hu => by have := h1 (u + 1) (by omega); rwa [List.getD_cons_succ] at this) (fun u hu hv => by have := h2 (u + 1) (by omega) (by simpa using hv); rwa [List.getD_cons_succ] at this)]
theorem ByK.count {k : Nat → Int} {n e : Nat} {r : List Nat} (h : ByK k n r) (p : Nat → Bool) (he : e ≤ n) (h1 : ∀ u, u < e → p (r.getD u 0) = true) (h2 : ∀ u, e ≤ u → u < n → p (r.getD u 0) = false) : (List.range n).countP p = e := by
  rw [← h.1.countP_eq]
  exact countP_cut r e (by rw [h.len]; exact he) h1 fun u g1 g2 => h2 u g1 (by rw [← h.len]; exact g2)
theorem countP_split {p q s : Nat → Bool} : ∀ r : List Nat, (∀ i ∈ r, (p i = true ↔ (q i = true ∨ s i = true)) ∧ ¬ (q i = true ∧ s i = true)) → r.countP p = r.countP q + r.countP s
  | [], _ => rfl
  | x :: r, h => by
    have ih := countP_split r fun i hi => h i (by simp [hi])
    have hx := h x (by simp)
    cases hp : p x <;> cases hq : q x <;> cases hs : s x <;> simp_all [List.countP_cons] <;> omega
/-- The ends that are over ahead of x are the first e of those by their ends. -/
def CutR (l : List Int) (n : Nat) (A : List Nat) (x : Int) (e : Nat) : Prop := e ≤ n ∧ (∀ u, u < e → hiS l (A.getD u 0) < x) ∧ ∀ u, e ≤ u → u < n → x ≤ hiS l (A.getD u 0)
theorem CutR.count {l : List Int} {n e : Nat} {A : List Nat} {x : Int} (h : CutR l n A x e) (hA : ByK (hiS l) n A) : (List.range n).countP (fun i => decide (hiS l i < x)) = e :=
  hA.count _ h.1 (fun u hu => decide_eq_true (h.2.1 u hu)) fun u g1 g2 => decide_eq_false (by have := h.2.2 u g1 g2; omega)
theorem cover_split {l : List Int} {n : Nat} (hok : ∀ i, i < n → loS l i ≤ hiS l i) (x : Int) : (List.range n).countP (fun i => decide (loS l i ≤ x)) = cover l n x + (List.range n).countP fun i => decide (hiS l i < x) := by
  unfold cover
  refine countP_split _ fun i hi => ?_
  have := hok i (List.mem_range.1 hi)
  simp only [decide_eq_true_eq]
  omega
/-- How many are open when the span at place k of those by their begins has been opened: the ends ahead of it are over. -/
def openK (l : List Int) (n : Nat) (B : List Nat) (k : Nat) : Int := (k : Int) + 1 - ((List.range n).countP fun i => decide (hiS l i < loS l (B.getD k 0)) : Nat)
section
variable {l : List Int} {n : Nat} {A B : List Nat}
theorem open_le (hok : ∀ i, i < n → loS l i ≤ hiS l i) (hB : ByK (loS l) n B) {k : Nat} (hk : k < n) : openK l n B k ≤ cover l n (loS l (B.getD k 0)) := by
  have h1 := cover_split hok (loS l (B.getD k 0))
  have h2 : k + 1 ≤ (List.range n).countP fun i => decide (loS l i ≤ loS l (B.getD k 0)) := by
    rw [← hB.1.countP_eq]
    have h3 : (B.take (k + 1)).countP (fun i => decide (loS l i ≤ loS l (B.getD k 0))) = k + 1 := by
      have hl := hB.len
      refine countP_cut _ _ (by rw [List.length_take]; omega) (fun u hu => ?_) (fun u g1 g2 => by rw [List.length_take] at g2; omega)
      rw [List.getD_eq_getElem?_getD, List.getElem?_take_of_lt hu, ← List.getD_eq_getElem?_getD]
      refine decide_eq_true ?_
      rcases Nat.lt_or_ge u k with g | g
      · exact hB.2 u k g hk
      · rw [show u = k from by omega]; exact Int.le_refl _
    rw [← h3]
    exact (List.take_sublist _ _).countP_le
  unfold openK; omega
theorem open_eq (hok : ∀ i, i < n → loS l i ≤ hiS l i) (hB : ByK (loS l) n B) {k : Nat} (hk : k < n) (hlast : ∀ u, k < u → u < n → loS l (B.getD k 0) < loS l (B.getD u 0)) : openK l n B k = cover l n (loS l (B.getD k 0)) := by
  have h1 := cover_split hok (loS l (B.getD k 0))
  have h2 := hB.count (fun i => decide (loS l i ≤ loS l (B.getD k 0))) (e := k + 1) (by omega) (fun u hu => decide_eq_true (by
      rcases Nat.lt_or_ge u k with g | g
      · exact hB.2 u k g hk
      · rw [show u = k from by omega]; exact Int.le_refl _)) fun u g1 g2 => decide_eq_false (by have := hlast u (by omega) g2; omega)
  unfold openK; omega
/-- The last place with the same begin. -/
theorem last_same (hB : ByK (loS l) n B) {k : Nat} (hk : k < n) : ∃ m, k ≤ m ∧ m < n ∧ loS l (B.getD m 0) = loS l (B.getD k 0) ∧ ∀ u, m < u → u < n → loS l (B.getD m 0) < loS l (B.getD u 0) := by
  have key : ∀ d k, n - k = d → k < n → ∃ m, k ≤ m ∧ m < n ∧ loS l (B.getD m 0) = loS l (B.getD k 0) ∧ ∀ u, m < u → u < n → loS l (B.getD m 0) < loS l (B.getD u 0) := by
    intro d
    induction d with
    | zero => intro k h1 h2; omega
    | succ d ih =>
      intro k h1 h2
      by_cases h3 : k + 1 < n
      · have h4 := hB.2 k (k + 1) (by omega) h3
        by_cases h5 : loS l (B.getD (k + 1) 0) = loS l (B.getD k 0)
        · obtain ⟨m, a, b, c, e⟩ := ih (k + 1) (by omega) h3
          exact ⟨m, by omega, b, by rw [c, h5], e⟩
        · refine ⟨k, Nat.le_refl _, h2, rfl, fun u g1 g2 => ?_⟩
          have : loS l (B.getD (k + 1) 0) ≤ loS l (B.getD u 0) := by
            rcases Nat.lt_or_ge (k + 1) u with g | g
            · exact hB.2 _ _ g g2
            · rw [show u = k + 1 from by omega]; exact Int.le_refl _
          omega
      · exact ⟨k, Nat.le_refl _, h2, rfl, fun u g1 g2 => absurd g1 (by omega)⟩
  exact key _ k rfl hk
/-- The sweep's way, up to place k. -/
def Sweep (l : List Int) (n : Nat) (B : List Nat) (k : Nat) (many : Int) (at_ : Int) : Prop := (k = 0 ∧ many = 0 ∧ at_ = 0) ∨ ∃ j, j < k ∧ at_ = loS l (B.getD j 0) ∧ many = openK l n B j ∧ 0 < many ∧ ∀ u, u < k → openK l n B u < many ∨ (openK l n B u = many ∧ at_ ≤ loS l (B.getD u 0))
theorem Sweep.take {k : Nat} {many at_ : Int} (h : Sweep l n B k many at_) (hc : many < openK l n B k) : Sweep l n B (k + 1) (openK l n B k) (loS l (B.getD k 0)) := by
  refine .inr ⟨k, by omega, rfl, rfl, ?_, fun u hu => ?_⟩
  · rcases h with ⟨_, h1, _⟩ | ⟨_, _, _, _, h1, _⟩ <;> omega
  · by_cases e : u = k
    · rw [e]; exact .inr ⟨rfl, Int.le_refl _⟩
    · rcases h with ⟨h0, _⟩ | ⟨j, h1, h2, h3, h4, h5⟩
      · omega
      · have := h5 u (by omega); omega
theorem Sweep.leave {k : Nat} {many at_ : Int} (h : Sweep l n B k many at_) (hB : ByK (loS l) n B) (hk : k < n) (hc : ¬ many < openK l n B k) (hp : 0 < k ∨ 0 < openK l n B k) : Sweep l n B (k + 1) many at_ := by
  rcases h with ⟨h0, h1, _⟩ | ⟨j, h1, h2, h3, h4, h5⟩
  · omega
  · refine .inr ⟨j, by omega, h2, h3, h4, fun u hu => ?_⟩
    by_cases e : u = k
    · rw [e]
      have := hB.2 j k h1 hk
      omega
    · exact h5 u (by omega)
theorem open_first (hok : ∀ i, i < n → loS l i ≤ hiS l i) (hB : ByK (loS l) n B) (hn : 0 < n) : openK l n B 0 = 1 := by
  have : (List.range n).countP (fun i => decide (hiS l i < loS l (B.getD 0 0))) = 0 := by
    refine hB.count _ (Nat.zero_le _) (fun u hu => absurd hu (by omega)) fun u _ hu => decide_eq_false ?_
    have h1 := hok _ (hB.lt hu)
    have h2 : loS l (B.getD 0 0) ≤ loS l (B.getD u 0) := by
      rcases Nat.eq_zero_or_pos u with e | e
      · rw [e]; exact Int.le_refl _
      · exact hB.2 0 u e hu
    omega
  unfold openK; omega
theorem Sweep.done {many at_ : Int} (h : Sweep l n B n many at_) (hok : ∀ i, i < n → loS l i ≤ hiS l i) (hB : ByK (loS l) n B) (hn : 0 < n) : ∃ m : Nat, many = m ∧ MostR l n m at_ := by
  rcases h with ⟨h0, _⟩ | ⟨j, h1, h2, h3, h4, h5⟩
  · omega
  have all : ∀ i, i < n → ((cover l n (loS l i) : Nat) : Int) < many ∨ (((cover l n (loS l i) : Nat) : Int) = many ∧ at_ ≤ loS l i) := fun i hi => by
    obtain ⟨u, hu, e⟩ := hB.at_ hi
    obtain ⟨m, a, b, c, d⟩ := last_same hB hu
    have g := open_eq hok hB b d
    have := h5 m b
    rw [c, e] at g this
    omega
  have hj := all _ (hB.lt h1)
  have hl := open_le hok hB h1
  refine ⟨cover l n (loS l (B.getD j 0)), by omega, _, hB.lt h1, h2, rfl, fun i hi => ?_⟩
  have := all i hi
  omega
end
attribute [irreducible] cover openK loS hiS
end Go.Dam
