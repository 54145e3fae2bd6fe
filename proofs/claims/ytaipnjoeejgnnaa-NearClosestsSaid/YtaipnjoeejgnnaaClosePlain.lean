/-
  Plain law of the closest pair of points, no program in sight: which pair it is, and how it is found pair by pair. Conditions: none.
-/
import Derived.Test.YtaipnjoeejgnnaaBits
namespace Go.Dam
set_option linter.unusedVariables false
/-- The square of how far two points are from each other. -/
def dist2 (l : List Int) (i j : Nat) : Int := (l.getD (i * 3) 0 - l.getD (j * 3) 0) * (l.getD (i * 3) 0 - l.getD (j * 3) 0) + (l.getD (i * 3 + 1) 0 - l.getD (j * 3 + 1) 0) * (l.getD (i * 3 + 1) 0 - l.getD (j * 3 + 1) 0)
theorem sq_neg (a b : Int) : (a - b) * (a - b) = (b - a) * (b - a) := by
  rw [show a - b = -(b - a) from by omega, Int.neg_mul_neg]
theorem dist2_symm (l : List Int) (i j : Nat) : dist2 l i j = dist2 l j i := by
  unfold dist2
  rw [sq_neg (l.getD (i * 3) 0), sq_neg (l.getD (i * 3 + 1) 0)]
theorem sq_nonneg (a : Int) : 0 ≤ a * a := by
  rcases Int.le_total 0 a with h | h
  · exact Int.mul_nonneg h h
  · exact Int.mul_nonneg_of_nonpos_of_nonpos h h
theorem dist2_nonneg (l : List Int) (i j : Nat) : 0 ≤ dist2 l i j := Int.add_nonneg (sq_nonneg _) (sq_nonneg _)
theorem sq_mono {a b : Int} (h0 : 0 ≤ a) (h : a ≤ b) : a * a ≤ b * b := Int.mul_le_mul h h h0 (by omega)
/-- A pair and its distance, ahead of another one's or the same. -/
def Lex (f : Int) (a b : Nat) (f' : Int) (a' b' : Nat) : Prop := f < f' ∨ (f = f' ∧ (a < a' ∨ (a = a' ∧ b ≤ b')))
theorem Lex.refl (f : Int) (a b : Nat) : Lex f a b f a b := .inr ⟨rfl, .inr ⟨rfl, Nat.le_refl _⟩⟩
theorem Lex.trans {f f' f'' : Int} {a b a' b' a'' b'' : Nat} (h : Lex f a b f' a' b') (g : Lex f' a' b' f'' a'' b'') : Lex f a b f'' a'' b'' := by
  unfold Lex at *; omega
theorem Lex.anti {f f' : Int} {a b a' b' : Nat} (h : Lex f a b f' a' b') (g : Lex f' a' b' f a b) : f = f' ∧ a = a' ∧ b = b' := by
  unfold Lex at *; omega
theorem Lex.total (f f' : Int) (a b a' b' : Nat) : Lex f a b f' a' b' ∨ Lex f' a' b' f a b := by
  unfold Lex; omega
/-- The closest pair: of those that are as close the first. -/
def ClosR (l : List Int) (n a b : Nat) (f : Int) : Prop := a < b ∧ b < n ∧ f = dist2 l a b ∧ ∀ a' b', a' < b' → b' < n → Lex f a b (dist2 l a' b') a' b'
theorem ClosR.uniq {l : List Int} {n a b a' b' : Nat} {f f' : Int} (h : ClosR l n a b f) (g : ClosR l n a' b' f') : f = f' ∧ a = a' ∧ b = b' := by
  obtain ⟨h1, h2, rfl, h3⟩ := h
  obtain ⟨g1, g2, rfl, g3⟩ := g
  exact (h3 _ _ g1 g2).anti (g3 _ _ h1 h2)
/-- The best of the pairs whose greater place is below n. -/
theorem ClosR.ex (l : List Int) : ∀ n, 2 ≤ n → ∃ a b f, ClosR l n a b f
  | 0, h => absurd h (by omega)
  | 1, h => absurd h (by omega)
  | n + 2, _ => by
    -- the best with the last place as the greater one
    have last : ∀ m, 1 ≤ m → m ≤ n + 1 → ∃ a, a < m ∧ ∀ a', a' < m → Lex (dist2 l a (n + 1)) a (n + 1) (dist2 l a' (n + 1)) a' (n + 1) := by
      intro m
      induction m with
      | zero => intro h; omega
      | succ m ih =>
        intro _ hm
        by_cases h0 : m = 0
        · subst h0
          exact ⟨0, by omega, fun a' ha => by rw [show a' = 0 from by omega]; exact Lex.refl _ _ _⟩
        · obtain ⟨a, ha, hb⟩ := ih (by omega) (by omega)
          rcases Lex.total (dist2 l a (n + 1)) (dist2 l m (n + 1)) a (n + 1) m (n + 1) with h | h
          · refine ⟨a, by omega, fun a' ha' => ?_⟩
            rcases Nat.lt_or_ge a' m with g | g
            · exact hb _ g
            · rw [show a' = m from by omega]; exact h
          · refine ⟨m, by omega, fun a' ha' => ?_⟩
            rcases Nat.lt_or_ge a' m with g | g
            · exact h.trans (hb _ g)
            · rw [show a' = m from by omega]; exact Lex.refl _ _ _
    obtain ⟨a, ha, hb⟩ := last (n + 1) (by omega) (Nat.le_refl _)
    by_cases hn : n = 0
    · subst hn
      refine ⟨a, 1, _, by omega, by omega, rfl, fun a' b' h1 h2 => ?_⟩
      obtain rfl : b' = 1 := by omega
      exact hb _ h1
    · obtain ⟨x, y, f, h1, h2, h3, h4⟩ := ClosR.ex l (n + 1) (by omega)
      rcases Lex.total f (dist2 l a (n + 1)) x y a (n + 1) with h | h
      · refine ⟨x, y, f, h1, by omega, h3, fun a' b' g1 g2 => ?_⟩
        rcases Nat.lt_or_ge b' (n + 1) with g | g
        · exact h4 _ _ g1 g
        · obtain rfl : b' = n + 1 := by omega
          exact h.trans (hb _ g1)
      · refine ⟨a, n + 1, _, by omega, by omega, rfl, fun a' b' g1 g2 => ?_⟩
        rcases Nat.lt_or_ge b' (n + 1) with g | g
        · exact h.trans (h4 _ _ g1 g)
        · obtain rfl : b' = n + 1 := by omega
          exact hb _ g1
/-- The reference's way: all pairs up to (i, j) have been looked at. -/
def RefClos (l : List Int) (n i j a b : Nat) (f : Int) : Prop := a < b ∧ b < n ∧ f = dist2 l a b ∧ ∀ a' b', a' < b' → b' < n → (a' < i ∨ (a' = i ∧ b' < j)) → Lex f a b (dist2 l a' b') a' b'
theorem RefClos.start {l : List Int} {n : Nat} (h : 2 ≤ n) : RefClos l n 0 1 0 1 (dist2 l 0 1) := ⟨by omega, by omega, rfl, fun a' b' h1 h2 h3 => by omega⟩
theorem RefClos.less {l : List Int} {n i j a b : Nat} {f : Int} (h : RefClos l n i j a b f) (hij : i < j) (hj : j < n) (hf : dist2 l i j < f) : RefClos l n i (j + 1) i j (dist2 l i j) :=
  ⟨hij, hj, rfl, fun a' b' h1 h2 h3 => by
    by_cases e : a' = i ∧ b' = j
    · rw [e.1, e.2]; exact Lex.refl _ _ _
    · exact (show Lex (dist2 l i j) i j f a b from .inl hf).trans (h.2.2.2 a' b' h1 h2 (by omega))⟩
theorem RefClos.more {l : List Int} {n i j a b : Nat} {f : Int} (h : RefClos l n i j a b f) (hij : i < j) (hj : j < n) (hf : ¬ dist2 l i j < f) (hab : a < i ∨ (a = i ∧ b < j) ∨ (a = 0 ∧ b = 1)) : RefClos l n i (j + 1) a b f :=
  ⟨h.1, h.2.1, h.2.2.1, fun a' b' h1 h2 h3 => by
    by_cases e : a' = i ∧ b' = j
    · rw [e.1, e.2]
      have : a < i ∨ (a = i ∧ b ≤ j) := by
        rcases hab with g | g | g <;> omega
      unfold Lex; omega
    · exact h.2.2.2 a' b' h1 h2 (by omega)⟩
theorem RefClos.row {l : List Int} {n i a b : Nat} {f : Int} (h : RefClos l n i n a b f) : RefClos l n (i + 1) (i + 2) a b f :=
  ⟨h.1, h.2.1, h.2.2.1, fun a' b' h1 h2 h3 => h.2.2.2 a' b' h1 h2 (by omega)⟩
theorem RefClos.done {l : List Int} {n i j a b : Nat} {f : Int} (h : RefClos l n i j a b f) (hi : n ≤ i) : ClosR l n a b f :=
  ⟨h.1, h.2.1, h.2.2.1, fun a' b' h1 h2 => h.2.2.2 a' b' h1 h2 (by omega)⟩
/-- A list of all places below n, by X. -/
def ByX (l : List Int) (n : Nat) (r : List Nat) : Prop := r.length = n ∧ (∀ i, i < n → ∃ u, u < n ∧ r.getD u 0 = i) ∧ (∀ u, u < n → r.getD u 0 < n) ∧ (∀ u v, u < n → v < n → r.getD u 0 = r.getD v 0 → u = v) ∧
  ∀ u v, u < v → v < n → l.getD (r.getD u 0 * 3) 0 ≤ l.getD (r.getD v 0 * 3) 0
/-- The program's way: pairs of places of the sorted list up to (u, v) have been looked at. -/
def ProgClos (l : List Int) (n : Nat) (r : List Nat) (u v a b : Nat) (f : Int) : Prop :=
  (f = -1 ∧ a = 0 ∧ b = 0 ∧ u = 0 ∧ v ≤ 1) ∨
  (a < b ∧ b < n ∧ f = dist2 l a b ∧ ∀ s t, s < t → t < n → (s < u ∨ (s = u ∧ t < v)) → Lex f a b (dist2 l (r.getD s 0) (r.getD t 0)) (min (r.getD s 0) (r.getD t 0)) (max (r.getD s 0) (r.getD t 0)))
section
variable {l : List Int} {n u v a b : Nat} {f : Int} {r : List Nat}
theorem ProgClos.start : ProgClos l n r 0 1 0 0 (-1) := .inl ⟨rfl, rfl, rfl, rfl, by omega⟩
theorem ByX.ne (h : ByX l n r) (huv : u < v) (hv : v < n) : r.getD u 0 ≠ r.getD v 0 := fun e => by
  have := h.2.2.2.1 u v (by omega) hv e; omega
theorem ProgClos.take (h : ProgClos l n r u v a b f) (hr : ByX l n r) (huv : u < v) (hv : v < n)
    (hf : f < 0 ∨ dist2 l (r.getD u 0) (r.getD v 0) < f ∨ (dist2 l (r.getD u 0) (r.getD v 0) = f ∧ (min (r.getD u 0) (r.getD v 0) < a ∨ (min (r.getD u 0) (r.getD v 0) = a ∧ max (r.getD u 0) (r.getD v 0) < b)))) :
    ProgClos l n r u (v + 1) (min (r.getD u 0) (r.getD v 0)) (max (r.getD u 0) (r.getD v 0)) (dist2 l (r.getD u 0) (r.getD v 0)) := by
  have hne := hr.ne huv hv
  have h1 := hr.2.2.1 u (by omega)
  have h2 := hr.2.2.1 v hv
  refine .inr ⟨by omega, by omega, ?_, fun s t g1 g2 g3 => ?_⟩
  · rcases Nat.lt_or_ge (r.getD u 0) (r.getD v 0) with g | g
    · rw [Nat.min_eq_left (by omega), Nat.max_eq_right (by omega)]
    · rw [Nat.min_eq_right (by omega), Nat.max_eq_left (by omega), dist2_symm]
  · by_cases e : s = u ∧ t = v
    · rw [e.1, e.2]; exact Lex.refl _ _ _
    · rcases h with ⟨_, _, _, h4, h5⟩ | ⟨h3, h4, h5, h6⟩
      · omega
      · have hn := dist2_nonneg l a b
        have := h6 s t g1 g2 (by omega)
        exact Lex.trans (by unfold Lex; omega) this
theorem ProgClos.leave (h : ProgClos l n r u v a b f) (hr : ByX l n r) (huv : u < v) (hv : v < n) (hf : 0 ≤ f)
    (hno : ¬ (dist2 l (r.getD u 0) (r.getD v 0) < f ∨ (dist2 l (r.getD u 0) (r.getD v 0) = f ∧ (min (r.getD u 0) (r.getD v 0) < a ∨ (min (r.getD u 0) (r.getD v 0) = a ∧ max (r.getD u 0) (r.getD v 0) < b))))) :
    ProgClos l n r u (v + 1) a b f := by
  rcases h with ⟨h1, _⟩ | ⟨h3, h4, h5, h6⟩
  · omega
  · refine .inr ⟨h3, h4, h5, fun s t g1 g2 g3 => ?_⟩
    by_cases e : s = u ∧ t = v
    · rw [e.1, e.2]
      unfold Lex; omega
    · exact h6 s t g1 g2 (by omega)
/-- The gap alone is too great: so it is for all behind. -/
theorem ProgClos.stop (h : ProgClos l n r u v a b f) (hr : ByX l n r) (huv : u < v) (hv : v < n) (hf : 0 ≤ f)
    (hgap : f < (l.getD (r.getD v 0 * 3) 0 - l.getD (r.getD u 0 * 3) 0) * (l.getD (r.getD v 0 * 3) 0 - l.getD (r.getD u 0 * 3) 0)) : ProgClos l n r u n a b f := by
  rcases h with ⟨h1, _⟩ | ⟨h3, h4, h5, h6⟩
  · omega
  · refine .inr ⟨h3, h4, h5, fun s t g1 g2 g3 => ?_⟩
    by_cases e : s < u ∨ (s = u ∧ t < v)
    · exact h6 s t g1 g2 e
    · obtain ⟨rfl, htv⟩ : s = u ∧ v ≤ t := by omega
      have x1 := hr.2.2.2.2 s v huv hv
      have x2 : l.getD (r.getD v 0 * 3) 0 ≤ l.getD (r.getD t 0 * 3) 0 := by
        rcases Nat.lt_or_ge v t with g | g
        · exact hr.2.2.2.2 v t g g2
        · rw [show v = t from by omega]; exact Int.le_refl _
      have x3 := sq_mono (a := l.getD (r.getD v 0 * 3) 0 - l.getD (r.getD s 0 * 3) 0) (b := l.getD (r.getD t 0 * 3) 0 - l.getD (r.getD s 0 * 3) 0) (by omega) (by omega)
      have x4 : (l.getD (r.getD t 0 * 3) 0 - l.getD (r.getD s 0 * 3) 0) * (l.getD (r.getD t 0 * 3) 0 - l.getD (r.getD s 0 * 3) 0) ≤ dist2 l (r.getD s 0) (r.getD t 0) := by
        rw [dist2_symm]
        have := sq_nonneg (l.getD (r.getD t 0 * 3 + 1) 0 - l.getD (r.getD s 0 * 3 + 1) 0)
        unfold dist2; omega
      exact .inl (by omega)
theorem ProgClos.row (h : ProgClos l n r u n a b f) (hn : 2 ≤ n) : ProgClos l n r (u + 1) (u + 2) a b f := by
  rcases h with ⟨_, _, _, _, h5⟩ | ⟨h3, h4, h5, h6⟩
  · omega
  · exact .inr ⟨h3, h4, h5, fun s t g1 g2 g3 => h6 s t g1 g2 (by omega)⟩
theorem ProgClos.done (h : ProgClos l n r u v a b f) (hr : ByX l n r) (hu : n ≤ u) (hn : 2 ≤ n) : ClosR l n a b f := by
  rcases h with ⟨_, _, _, h4, _⟩ | ⟨h3, h4, h5, h6⟩
  · omega
  · refine ⟨h3, h4, h5, fun a' b' g1 g2 => ?_⟩
    obtain ⟨s, hs, rfl⟩ := hr.2.1 a' (by omega)
    obtain ⟨t, ht, rfl⟩ := hr.2.1 b' g2
    rcases Nat.lt_trichotomy s t with g | g | g
    · have := h6 s t g ht (by omega)
      rwa [Nat.min_eq_left (by omega), Nat.max_eq_right (by omega)] at this
    · subst g; omega
    · have := h6 t s g hs (by omega)
      rwa [Nat.min_eq_right (by omega), Nat.max_eq_left (by omega), dist2_symm] at this
end
attribute [irreducible] dist2
end Go.Dam
