/-
  The plain law of lis.Rise: from the last pile back, each time the last place that is ahead, is a rise. Conditions: none; nothing here names the program.
-/
import Derived.Test.YtgfddolchachkaaMLisRises11
import Derived.Test.YtgfddolchachkaaMLisRises03
namespace Go.Dam
/-- A rise of m places. -/
def RiseIs (f : Nat → Int) (n m : Nat) (x : List Nat) : Prop := x.length = m ∧ (∀ t, t < m → x.getD t 0 < n) ∧ ∀ t, t + 1 < m → x.getD t 0 < x.getD (t + 1) 0 ∧ f (x.getD t 0) < f (x.getD (t + 1) 0)
/-- The places chosen in the last k piles, the last pile's first. -/
structure RiseSt (f : Nat → Int) (ps : List (List Nat)) (k : Nat) (o : List Nat) : Prop where
  len : o.length = k
  mem : ∀ t, t < k → o.getD t 0 ∈ ps.getD (ps.length - 1 - t) []
  step : ∀ t, t + 1 < k → o.getD (t + 1) 0 < o.getD t 0 ∧ f (o.getD (t + 1) 0) < f (o.getD t 0)
theorem RiseSt.zero (f : Nat → Int) (ps : List (List Nat)) : RiseSt f ps 0 [] := ⟨rfl, fun t h => absurd h (by omega), fun t h => absurd h (by omega)⟩
theorem RiseSt.one {f : Nat → Int} {ps : List (List Nat)} {x : Nat} (h : x ∈ ps.getD (ps.length - 1) []) : RiseSt f ps 1 [x] :=
  ⟨rfl, fun t ht => by obtain rfl : t = 0 := by omega
                       simpa using h, fun t ht => absurd ht (by omega)⟩
theorem RiseSt.next {f : Nat → Int} {ps : List (List Nat)} {k x : Nat} {o : List Nat} (h : RiseSt f ps (k + 1) o) (hx : x ∈ ps.getD (ps.length - 1 - (k + 1)) []) (h1 : x < o.getD k 0) (h2 : f x < f (o.getD k 0)) : RiseSt f ps (k + 2) (o ++ [x]) := by
  have hl := h.len
  have hn : (o ++ [x]).getD (k + 1) 0 = x := by have := getD_snoc_new (l := o) x 0; rwa [hl] at this
  refine ⟨by simp [hl], fun t ht => ?_, fun t ht => ?_⟩
  · by_cases e : t < k + 1
    · rw [getD_snoc_old (by omega)]; exact h.mem t e
    · obtain rfl : t = k + 1 := by omega
      rw [hn]; exact hx
  · by_cases e : t + 1 < k + 1
    · rw [getD_snoc_old (by omega), getD_snoc_old (by omega)]; exact h.step t e
    · obtain rfl : t = k := by omega
      rw [hn, getD_snoc_old (by omega)]; exact ⟨h1, h2⟩
theorem rise_pick {f : Nat → Int} {n : Nat} {ps : List (List Nat)} (h : Piles f n ps) {j i last : Nat} (hj : j + 1 < ps.length) (hl : last ∈ ps.getD (j + 1) []) (hB : BoundOf (fun i => decide (last < (ps.getD j []).getD i 0)) (ps.getD j []).length i) :
    1 ≤ i ∧ (ps.getD j []).getD (i - 1) 0 ∈ ps.getD j [] ∧ (ps.getD j []).getD (i - 1) 0 < last ∧ f ((ps.getD j []).getD (i - 1) 0) < f last := by
  obtain ⟨j', m1, m2, m3, m4⟩ := h.prev j hj last hl
  have ha : (ps.getD j []).Pairwise fun a b => a < b := (h.asc j (by omega)).imp fun h => h.1
  obtain ⟨b1, b2, b3⟩ := hB
  obtain ⟨u, hu, hu2⟩ := List.mem_iff_getElem.1 m1
  have hu3 : (ps.getD j []).getD u 0 = j' := by rw [List.getD_eq_getElem?_getD, List.getElem?_eq_getElem hu, ← hu2]; rfl
  have hui : u < i := by
    rcases Nat.lt_or_ge u i with c | c
    · exact c
    · have := b3 u c hu
      simp only [decide_eq_true_eq] at this
      omega
  have hi1 : i - 1 < (ps.getD j []).length := by omega
  have hm : (ps.getD j []).getD (i - 1) 0 ∈ ps.getD j [] := by
    have e0 : ∀ (q : List Nat) (u : Nat) (hu : u < q.length), q.getD u 0 ∈ q := fun q u hu => by
      rw [List.getD_eq_getElem?_getD, List.getElem?_eq_getElem hu]; exact List.getElem_mem hu
    exact e0 _ _ hi1
  have hle : (ps.getD j []).getD (i - 1) 0 ≤ last := by
    have := b2 (i - 1) (by omega)
    simp only [decide_eq_false_iff_not] at this
    omega
  have hne : (ps.getD j []).getD (i - 1) 0 ≠ last := fun e => by
    have e1 := (h.mem j (by omega) _).1 hm
    have e2 := (h.mem (j + 1) hj _).1 hl
    rw [e] at e1
    omega
  have hup := m4 _ hm (by omega)
  have heq : (ps.getD j []).getD (i - 1) 0 = j' := by
    by_cases e : u = i - 1
    · rw [← e, hu3]
    · have := asc_at ha (show u < i - 1 by omega) hi1
      omega
  refine ⟨by omega, hm, ?_, ?_⟩
  · rw [heq]; exact m2
  · rw [heq]; exact m3
theorem RiseSt.is {f : Nat → Int} {n : Nat} {ps : List (List Nat)} (h : Piles f n ps) {o : List Nat} (hs : RiseSt f ps ps.length o) : RiseIs f n ps.length o.reverse := by
  have hl := hs.len
  have e : ∀ t, t < ps.length → o.reverse.getD t 0 = o.getD (ps.length - 1 - t) 0 := fun t ht => by
    rw [List.getD_eq_getElem?_getD, List.getElem?_reverse (by omega), ← List.getD_eq_getElem?_getD, hl]
  refine ⟨by simp [hl], fun t ht => ?_, fun t ht => ?_⟩
  · rw [e t ht]
    have := hs.mem (ps.length - 1 - t) (by omega)
    exact ((h.mem _ (by omega) _).1 this).1
  · rw [e t (by omega), e (t + 1) ht]
    have := hs.step (ps.length - 1 - (t + 1)) (by omega)
    rw [show ps.length - 1 - (t + 1) + 1 = ps.length - 1 - t by omega] at this
    exact this
end Go.Dam
