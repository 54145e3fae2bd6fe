/-
  Plain laws of the first greatest place of a range, and of the tree of such places; no program in sight. Conditions: none.
-/
import Derived.Test.YtiflelifkjfpdaaLib
namespace Go.Dam
set_option linter.unusedVariables false
/-- Place t is the first greatest of the places from a on, below b. -/
structure TopOf (f : Nat → Int) (a b t : Nat) : Prop where
  lo : a ≤ t
  hi : t < b
  ge : ∀ x, a ≤ x → x < b → f x ≤ f t
  lt : ∀ x, a ≤ x → x < t → f x < f t
theorem TopOf.uniq {f : Nat → Int} {a b t u : Nat} (h : TopOf f a b t) (g : TopOf f a b u) : t = u := by
  rcases Nat.lt_trichotomy t u with h1 | h1 | h1
  · have := g.lt t h.lo h1; have := h.ge u g.lo g.hi; omega
  · exact h1
  · have := h.lt u g.lo h1; have := g.ge t h.lo h.hi; omega
theorem TopOf.one (f : Nat → Int) (a : Nat) : TopOf f a (a + 1) a :=
  ⟨Nat.le_refl _, by omega, fun x h1 h2 => by rw [show x = a from by omega]; exact Int.le_refl _, fun x h1 h2 => by omega⟩
theorem TopOf.nextYes {f : Nat → Int} {a b t : Nat} (h : TopOf f a b t) (g : f t < f b) : TopOf f a (b + 1) b := by
  have := h.lo; have := h.hi
  refine ⟨by omega, by omega, fun x h1 h2 => ?_, fun x h1 h2 => ?_⟩
  · rcases Nat.lt_or_ge x b with h3 | h3
    · have := h.ge x h1 h3; omega
    · rw [show x = b from by omega]; exact Int.le_refl _
  · have := h.ge x h1 h2; omega
theorem TopOf.nextNo {f : Nat → Int} {a b t : Nat} (h : TopOf f a b t) (g : f b ≤ f t) : TopOf f a (b + 1) t := by
  have := h.lo; have := h.hi
  refine ⟨by omega, by omega, fun x h1 h2 => ?_, h.lt⟩
  rcases Nat.lt_or_ge x b with h3 | h3
  · exact h.ge x h1 h3
  · rw [show x = b from by omega]; exact g
theorem TopOf.joinYes {f : Nat → Int} {a m m' b t u : Nat} (h : TopOf f a m t) (g : TopOf f m' b u) (h1 : a ≤ m') (h2 : m' ≤ m) (h3 : m ≤ b) (hy : f t < f u) : TopOf f a b u := by
  have := g.lo; have := g.hi
  refine ⟨by omega, g.hi, fun x h4 h5 => ?_, fun x h4 h5 => ?_⟩
  · rcases Nat.lt_or_ge x m with h6 | h6
    · have := h.ge x h4 h6; omega
    · exact g.ge x (by omega) h5
  · rcases Nat.lt_or_ge x m with h6 | h6
    · have := h.ge x h4 h6; omega
    · exact g.lt x (by omega) h5
theorem TopOf.joinNo {f : Nat → Int} {a m m' b t u : Nat} (h : TopOf f a m t) (g : TopOf f m' b u) (h1 : a ≤ m') (h2 : m' ≤ m) (h3 : m ≤ b) (hn : f u ≤ f t) : TopOf f a b t := by
  have := h.lo; have := h.hi
  refine ⟨h.lo, by omega, fun x h4 h5 => ?_, h.lt⟩
  rcases Nat.lt_or_ge x m with h6 | h6
  · exact h.ge x h4 h6
  · have := g.ge x (by omega) h5; omega
/-- The first greatest of the places a to a + n. -/
def topF (f : Nat → Int) (a : Nat) : Nat → Nat
  | 0 => a
  | n + 1 => if f (topF f a n) < f (a + n + 1) then a + n + 1 else topF f a n
theorem topF_is (f : Nat → Int) (a : Nat) : ∀ n, TopOf f a (a + n + 1) (topF f a n)
  | 0 => TopOf.one f a
  | n + 1 => by
    have h := topF_is f a n
    rw [topF]
    split
    · rename_i h1; exact h.nextYes h1
    · rename_i h1; exact h.nextNo (by omega)
theorem topF_0 (f : Nat → Int) (a : Nat) : topF f a 0 = a := rfl
theorem topF_yes {f : Nat → Int} {a n : Nat} (h : f (topF f a n) < f (a + n + 1)) : topF f a (n + 1) = a + n + 1 := by rw [topF, if_pos h]
theorem topF_no {f : Nat → Int} {a n : Nat} (h : ¬ f (topF f a n) < f (a + n + 1)) : topF f a (n + 1) = topF f a n := by rw [topF, if_neg h]
theorem topF_eq {f : Nat → Int} {a n b t : Nat} (h : TopOf f a b t) (hb : b = a + n + 1) : topF f a n = t := by subst hb; exact (topF_is f a n).uniq h
theorem topF_bd (f : Nat → Int) (a n : Nat) : a ≤ topF f a n ∧ topF f a n ≤ a + n := by
  have := topF_is f a n; have := this.lo; have := (topF_is f a n).hi; omega
attribute [irreducible] topF
/-- The first greatest of two halves. -/
theorem topF_half {f : Nat → Int} {a n : Nat} (hn : 0 < n) :
    (f (topF f a (n - 1)) < f (topF f (a + n) (n - 1)) → topF f a (2 * n - 1) = topF f (a + n) (n - 1)) ∧
    (¬ f (topF f a (n - 1)) < f (topF f (a + n) (n - 1)) → topF f a (2 * n - 1) = topF f a (n - 1)) := by
  have h := topF_is f a (n - 1)
  have g := topF_is f (a + n) (n - 1)
  exact ⟨fun hy => topF_eq (h.joinYes g (by omega) (by omega) (by omega) hy) (by omega), fun hn => topF_eq (h.joinNo g (by omega) (by omega) (by omega) (by omega)) (by omega)⟩
/-- Powers of two. -/
def p2 (j : Nat) : Nat := 2 ^ j
theorem p2_0 : p2 0 = 1 := rfl
theorem p2_succ (j : Nat) : p2 (j + 1) = 2 * p2 j := by unfold p2; rw [Nat.pow_succ, Nat.mul_comm]
theorem p2_pos (j : Nat) : 0 < p2 j := Nat.pow_pos (by decide)
theorem p2_mono {i j : Nat} (h : i ≤ j) : p2 i ≤ p2 j := Nat.pow_le_pow_right (by decide) h
theorem p2_gt (j : Nat) : j < p2 j := Nat.lt_two_pow_self
theorem p2_shift (j : Nat) : 1 <<< j = p2 j := by rw [Nat.shiftLeft_eq, Nat.one_mul]; rfl
theorem p2_eq (j : Nat) : 2 ^ j = p2 j := rfl
attribute [irreducible] p2
/-- How many powers of two are not above n. -/
def p2s (n : Nat) : Nat := (List.range 64).countP fun j => decide (p2 j ≤ n)
theorem countP_range {p : Nat → Bool} (hp : ∀ i j, i ≤ j → p j = true → p i = true) : ∀ m, ∀ j, j < m → (j < (List.range m).countP p ↔ p j = true)
  | 0, j, hj => by omega
  | m + 1, j, hj => by
    have hle : (List.range m).countP p ≤ m := by simpa using List.countP_le_length (p := p) (l := List.range m)
    have ih := countP_range hp m
    rw [List.range_succ, List.countP_append]
    cases hm : p m
    · simp only [List.countP_singleton, hm]
      rcases Nat.lt_or_ge j m with h1 | h1
      · simpa using ih j h1
      · rw [show j = m from by omega, hm]; simp; exact hle
    · have h1 : p j = true := hp j m (by omega) hm
      have h2 : m ≤ (List.range m).countP p := by
        rcases Nat.eq_zero_or_pos m with h0 | h0
        · omega
        · have := (ih (m - 1) (by omega)).2 (hp (m - 1) m (by omega) hm); omega
      simp only [List.countP_singleton, hm, h1]; simp; omega
theorem p2s_iff {n j : Nat} (hn : n < 1000000) : j < p2s n ↔ p2 j ≤ n := by
  rcases Nat.lt_or_ge j 64 with h | h
  · unfold p2s
    rw [countP_range (fun i j hij hj => ?_) 64 j h]
    · simp
    · have := p2_mono hij; simp at hj ⊢; omega
  · have h1 : p2 64 ≤ p2 j := p2_mono h
    have h2 : p2 64 = 18446744073709551616 := by unfold p2; rfl
    have h3 : p2s n ≤ 64 := by simpa [p2s] using List.countP_le_length (p := fun j => decide (p2 j ≤ n)) (l := List.range 64)
    omega
theorem p2s_le {n : Nat} (hn : n < 1000000) : p2s n ≤ n + 1 := by
  rcases Nat.lt_or_ge (n + 1) (p2s n) with h | h
  · have := (p2s_iff hn).1 h; have := p2_gt (n + 1); omega
  · exact h
theorem p2s_62 {n : Nat} (hn : n < 1000000) : p2s n ≤ 62 := by
  rcases Nat.lt_or_ge 62 (p2s n) with h | h
  · have h1 := (p2s_iff hn).1 h
    have h2 : p2 62 = 4611686018427387904 := by unfold p2; rfl
    omega
  · exact h
theorem p2_wrap {j : Nat} (h : j ≤ 62) : RowKit.wrap64 (2 ^ min j 64) = ((p2 j : Nat) : Int) := by
  rw [Nat.min_eq_left (by omega)]
  have h1 : ((2 : Int) ^ j) = ((p2 j : Nat) : Int) := by unfold p2; push_cast; rfl
  rw [h1]
  have h2 : p2 j ≤ p2 62 := p2_mono h
  have h3 : p2 62 = 4611686018427387904 := by unfold p2; rfl
  unfold RowKit.wrap64
  omega
theorem p2_wrap' {j : Nat} (h : j ≤ 62) : RowKit.wrap64 (2 ^ j) = ((p2 j : Nat) : Int) := by
  have := p2_wrap h; rwa [Nat.min_eq_left (by omega)] at this
theorem p2_small {j : Nat} (h : j ≤ 62) : p2 j ≤ 4611686018427387904 := by
  have h2 : p2 j ≤ p2 62 := p2_mono h
  have h3 : p2 62 = 4611686018427387904 := by unfold p2; rfl
  omega
theorem p2_int (j : Nat) : (2 : Int) ^ j = ((p2 j : Nat) : Int) := by unfold p2; push_cast; rfl
attribute [irreducible] p2s
/-- The row of ranges of p2 j places. -/
def rmqRow (l : List Int) (j : Nat) : List Int := (List.range (l.length + 1 - p2 j)).map fun i => ((topF (fun k => l.getD k 0) i (p2 j - 1) : Nat) : Int)
def rmqRows (l : List Int) (n : Nat) : List (List Int) := (List.range n).map (rmqRow l)
theorem rmqRow_length (l : List Int) (j : Nat) : (rmqRow l j).length = l.length + 1 - p2 j := by simp [rmqRow]
theorem rmqRow_at {l : List Int} {j i : Nat} (h : i < l.length + 1 - p2 j) : (rmqRow l j).getD i 0 = ((topF (fun k => l.getD k 0) i (p2 j - 1) : Nat) : Int) := by simp [rmqRow, h]
theorem rmqRows_length (l : List Int) (n : Nat) : (rmqRows l n).length = n := by simp [rmqRows]
theorem rmqRows_0 (l : List Int) : rmqRows l 0 = [] := rfl
theorem rmqRows_succ (l : List Int) (n : Nat) : rmqRows l (n + 1) = rmqRows l n ++ [rmqRow l n] := by simp [rmqRows, List.range_succ]
theorem rmqRows_at {l : List Int} {n j : Nat} (h : j < n) : (rmqRows l n).getD j [] = rmqRow l j := by simp [rmqRows, h]
/-- The row while it is made: the first i are done. -/
def rmqPart (l : List Int) (j i : Nat) : List Int := (List.range i).map fun i => ((topF (fun k => l.getD k 0) i (p2 j - 1) : Nat) : Int)
theorem rmqPart_0 (l : List Int) (j : Nat) : rmqPart l j 0 = [] := rfl
theorem rmqPart_length (l : List Int) (j i : Nat) : (rmqPart l j i).length = i := by simp [rmqPart]
theorem rmqPart_succ (l : List Int) (j i : Nat) : rmqPart l j (i + 1) = rmqPart l j i ++ [((topF (fun k => l.getD k 0) i (p2 j - 1) : Nat) : Int)] := by simp [rmqPart, List.range_succ]
theorem rmqPart_all (l : List Int) (j : Nat) : rmqPart l j (l.length + 1 - p2 j) = rmqRow l j := rfl
theorem rmqRow_wf {l : List Int} {j : Nat} (hl : l.length ≤ 1000) : ∀ z ∈ rmqRow l j, (Lit.int .i64 z).wf = true := by
  intro z hz
  simp only [rmqRow, List.mem_map, List.mem_range] at hz
  obtain ⟨i, hi, rfl⟩ := hz
  have := topF_bd (fun k => l.getD k 0) i (p2 j - 1)
  have := p2_pos j
  have h3 : topF (fun k => l.getD k 0) i (p2 j - 1) < 2000 := by omega
  generalize topF (fun k => l.getD k 0) i (p2 j - 1) = t at *
  simp [Lit.wf, IntKind.min, IntKind.max, IntKind.signed, IntKind.bits]
  omega
theorem rmqRows_wf {l : List Int} {n : Nat} (hl : l.length ≤ 1000) : ∀ r ∈ rmqRows l n, r.length ≤ 140737488351232 ∧ ∀ z ∈ r, (Lit.int .i64 z).wf = true := by
  intro r hr
  simp only [rmqRows, List.mem_map, List.mem_range] at hr
  obtain ⟨j, _, rfl⟩ := hr
  exact ⟨by rw [rmqRow_length]; omega, rmqRow_wf hl⟩
/-- The row while it is made, in a block of n numbers. -/
def rmqHalf (l : List Int) (j i n : Nat) : List Int := rmqPart l j i ++ List.replicate (n - i) 0
theorem rmqHalf_0 (l : List Int) (j n : Nat) : rmqHalf l j 0 n = List.replicate n 0 := by simp [rmqHalf, rmqPart_0]
theorem rmqHalf_length {l : List Int} {j i n : Nat} (h : i ≤ n) : (rmqHalf l j i n).length = n := by simp [rmqHalf, rmqPart_length]; omega
theorem rmqHalf_set {l : List Int} {j i n : Nat} {x : Int} (h : i < n) (hx : x = ((topF (fun k => l.getD k 0) i (p2 j - 1) : Nat) : Int)) : (rmqHalf l j i n).set i x = rmqHalf l j (i + 1) n := by
  subst hx
  obtain ⟨m, hm⟩ : ∃ m, n - i = m + 1 := ⟨n - i - 1, by omega⟩
  rw [rmqHalf, rmqHalf, rmqPart_succ, hm, show n - (i + 1) = m from by omega, List.replicate_succ, List.set_append_right _ _ (by rw [rmqPart_length]; exact Nat.le_refl _), rmqPart_length, Nat.sub_self]
  simp
theorem rmqHalf_end (l : List Int) (j : Nat) : rmqHalf l j (l.length + 1 - p2 j) (l.length + 1 - p2 j) = rmqRow l j := by simp [rmqHalf, rmqPart_all]
attribute [irreducible] rmqRow rmqRows rmqPart rmqHalf
end Go.Dam
