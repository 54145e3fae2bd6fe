/-
  The plain law of the library's insertion sort over a test that tells a strict order where a later element is tested against an earlier one; and what permuting a part leaves. No program in sight. Conditions: bounds.
-/
import Derived.Test.YtjnndbllaplkcaaStablePlain
import Derived.Sort.LotA
namespace Go.Dam.Stable
open Go.Sort
set_option linter.unusedVariables false
set_option linter.unusedSectionVars false
variable {α : Type} [Inhabited α] {T : α → α → Prop}
/-- What a row holds. -/
def G (d : Array α) (k : Nat) : α := d[k]!
/-- A test of a later element against an earlier one tells the order. -/
def Tst0 (T : α → α → Prop) (lt : α → α → Bool) (F : Nat → α) (a b : Nat) : Prop := ∀ p q, a ≤ p → p < q → q < b → ((lt (F q) (F p) = true → T (F q) (F p)) ∧ (lt (F q) (F p) = false → T (F p) (F q)))
theorem Tst0.sub {lt : α → α → Bool} {F : Nat → α} {a b c d : Nat} (h : Tst0 T lt F a b) (h1 : a ≤ c) (h2 : d ≤ b) : Tst0 T lt F c d := fun p q e1 e2 e3 => h p q (by omega) e2 (by omega)
/-- Whatever stands in a permuted part stood in it. -/
theorem PermIn_from {a b : Nat} {d d' : Array α} (hb : b ≤ d.size) (h : PermIn a b d d') : ∀ k, a ≤ k → k < b → ∃ k', a ≤ k' ∧ k' < b ∧ G d' k = G d k' :=
  permIn_all d d' a b (fun x => ∃ k', a ≤ k' ∧ k' < b ∧ x = G d k') hb h fun i h1 h2 => ⟨i, h1, h2, rfl⟩
theorem PermIn_out {a b k : Nat} {d d' : Array α} (h : PermIn a b d d') (hk : k < a ∨ b ≤ k) : G d' k = G d k := h.2.1 k hk
theorem PermIn_mix {a b : Nat} {d d' : Array α} (hb : b ≤ d.size) (h : PermIn a b d d') : Mix (G d) (G d') a b := ⟨PermIn_from hb h, fun k hk => PermIn_out h (by omega)⟩
theorem swp_get' {d : Array α} {i j : Nat} (hi : i < d.size) (hj : j < d.size) (k : Nat) : G (swp d i j) k = G d (swI i j k) := by
  unfold G swI
  by_cases hij : i = j
  · subst hij
    rcases Decidable.em (k = i) with rfl | h
    · rw [if_pos rfl, swp_right d k k hi]
    · rw [if_neg h, if_neg h, swp_other d i i k h h]
  · by_cases h1 : k = i
    · rw [if_pos h1, h1, swp_left d i j hi hij]
    · by_cases h2 : k = j
      · rw [if_neg h1, if_pos h2, h2, swp_right d i j hj]
      · rw [if_neg h1, if_neg h2, swp_other d i j k h1 h2]
section
variable (tr : ∀ x y z, T x y → T y z → T x z)
include tr
theorem ins_stop {F : Nat → α} {a i j : Nat} (h1 : Srt T F a j) (h2 : Srt T F (j + 1) (i + 1)) (h3 : ∀ p q, a ≤ p → p < j → j < q → q ≤ i → T (F p) (F q)) (h4 : ∀ q, j < q → q ≤ i → T (F j) (F q))
    (hj : j ≤ a ∨ T (F (j - 1)) (F j)) : Srt T F a (i + 1) := fun p q e1 e2 e3 => by
  rcases Nat.lt_trichotomy q j with g | g | g
  · exact h1 p q e1 e2 g
  · subst g
    rcases hj with hj | hj
    · omega
    · exact h1.le tr e1 (show p ≤ q - 1 by omega) (by omega) hj
  · rcases Nat.lt_trichotomy p j with g2 | g2 | g2
    · exact h3 p q e1 g2 g (by omega)
    · subst g2; exact h4 q g (by omega)
    · exact h2 p q g2 e2 e3
theorem ins_inner {lt : α → α → Bool} {a i : Nat} : ∀ (j : Nat) (d : Array α), j ≤ i → i < d.size → a ≤ j → Srt T (G d) a j → Srt T (G d) (j + 1) (i + 1) → (∀ p q, a ≤ p → p < j → j < q → q ≤ i → T (G d p) (G d q)) → (∀ q, j < q → q ≤ i → T (G d j) (G d q)) →
    (∀ p, a ≤ p → p < j → (lt (G d j) (G d p) = true → T (G d j) (G d p)) ∧ (lt (G d j) (G d p) = false → T (G d p) (G d j))) → Srt T (G (insInner lt a j d)) a (i + 1) ∧ PermIn a (i + 1) d (insInner lt a j d)
  | 0, d, hji, hi, haj, h1, h2, h3, h4, h5 => ⟨by rw [insInner]; exact ins_stop tr h1 h2 h3 h4 (.inl (Nat.zero_le _)), by rw [insInner]; exact permIn_refl _ _ _⟩
  | j + 1, d, hji, hi, haj, h1, h2, h3, h4, h5 => by
    rw [insInner]
    by_cases hja : a < j + 1
    · cases hl : lt d[j + 1]! d[j]! with
      | false =>
        rw [if_neg (by simp)]
        exact ⟨ins_stop tr h1 h2 h3 h4 (.inr ((h5 j (by omega) (by omega)).2 hl)), permIn_refl _ _ _⟩
      | true =>
        rw [if_pos (by simp; omega)]
        have hT : T (G d (j + 1)) (G d j) := (h5 j (by omega) (by omega)).1 hl
        have sw : ∀ k, G (swp d (j + 1) j) k = G d (swI (j + 1) j k) := swp_get' (by omega) (by omega)
        have s1 : G (swp d (j + 1) j) (j + 1) = G d j := by rw [sw]; unfold swI; rw [if_pos rfl]
        have s0 : G (swp d (j + 1) j) j = G d (j + 1) := by rw [sw]; unfold swI; rw [if_neg (by omega), if_pos rfl]
        have so : ∀ k, (k < j ∨ j + 1 < k) → G (swp d (j + 1) j) k = G d k := fun k c => by rw [sw]; unfold swI; rw [if_neg (by omega), if_neg (by omega)]
        have hp := swp_permIn d a (i + 1) (j + 1) j (by omega) (by omega) (by omega) (by omega) (by omega)
        obtain ⟨r1, r2⟩ := ins_inner (lt := lt) (a := a) (i := i) j (swp d (j + 1) j) (by omega) (by rw [Go.Sort.size_swp]; exact hi) (by omega)
          (fun p q e1 e2 e3 => by rw [so p (.inl (by omega)), so q (.inl (by omega))]; exact h1 p q e1 e2 (by omega))
          (fun p q e1 e2 e3 => by
            rw [so q (.inr (by omega))]
            by_cases g : p = j + 1
            · rw [g, s1]; exact h3 j q (by omega) (by omega) (by omega) (by omega)
            · rw [so p (.inr (by omega))]; exact h2 p q (by omega) e2 e3)
          (fun p q e1 e2 e3 e4 => by
            rw [so p (.inl (by omega))]
            by_cases g : q = j + 1
            · rw [g, s1]; exact h1 p j e1 e2 (by omega)
            · rw [so q (.inr (by omega))]; exact h3 p q e1 (by omega) (by omega) e4)
          (fun q e3 e4 => by
            rw [s0]
            by_cases g : q = j + 1
            · rw [g, s1]; exact hT
            · rw [so q (.inr (by omega))]; exact h4 q (by omega) e4)
          (fun p e1 e2 => by rw [s0, so p (.inl (by omega))]; exact h5 p e1 (by omega))
        exact ⟨r1, permIn_trans _ _ _ _ _ hp r2⟩
    · rw [if_neg (by simp; omega)]
      exact ⟨ins_stop tr h1 h2 h3 h4 (.inl (by omega)), permIn_refl _ _ _⟩
theorem ins_outer {lt : α → α → Bool} {a b : Nat} {d0 : Array α} (ht : Tst0 T lt (G d0) a b) (hb : b ≤ d0.size) : ∀ (t i : Nat) (d : Array α), i + t = b → a < i → PermIn a i d0 d → Srt T (G d) a i →
    PermIn a b d0 (insOuter lt a b i d) ∧ Srt T (G (insOuter lt a b i d)) a b
  | 0, i, d, hi, hai, hp, hs => by
    rw [insOuter, if_neg (by omega)]
    obtain rfl : i = b := by omega
    exact ⟨hp, hs⟩
  | t + 1, i, d, hi, hai, hp, hs => by
    rw [insOuter, if_pos (by omega)]
    have hsz : d.size = d0.size := hp.1
    have hx : G d i = G d0 i := PermIn_out hp (.inr (Nat.le_refl _))
    obtain ⟨r1, r2⟩ := ins_inner tr (lt := lt) (a := a) (i := i) i d (Nat.le_refl _) (by omega) (by omega) hs (Srt.one _ (by omega)) (fun p q e1 e2 e3 e4 => by omega) (fun q e1 e2 => by omega) (fun p e1 e2 => by
      obtain ⟨k, k1, k2, k3⟩ := PermIn_from (by omega) hp p e1 e2
      rw [hx, k3]
      exact ht k i k1 k2 (by omega))
    have hp' := permIn_mono d0 d a i a (i + 1) (Nat.le_refl _) (by omega) (by omega) hp
    exact ins_outer ht hb t (i + 1) _ (by omega) (by omega) (permIn_trans _ _ _ _ _ hp' r2) r1
/-- The insertion sort of a part. -/
theorem ins_sort {lt : α → α → Bool} {a b : Nat} {d : Array α} (ht : Tst0 T lt (G d) a b) (hab : a ≤ b) (hb : b ≤ d.size) : PermIn a b d (insertionSort lt d a b) ∧ Srt T (G (insertionSort lt d a b)) a b := by
  unfold insertionSort
  by_cases h : a < b
  · exact ins_outer tr ht hb (b - (a + 1)) (a + 1) d (by omega) (by omega) (permIn_refl _ _ _) (Srt.one _ (by omega))
  · rw [insOuter, if_neg (by omega)]
    exact ⟨permIn_refl _ _ _, Srt.one _ (by omega)⟩
end
/-- A part is sorted, and of its own elements. -/
def Done (T : α → α → Prop) (d0 d : Array α) (lo hi : Nat) : Prop := Srt T (G d) lo hi ∧ ∀ p, lo ≤ p → p < hi → ∃ p', lo ≤ p' ∧ p' < hi ∧ G d p = G d0 p'
theorem Done.same {d0 d d' : Array α} {lo hi : Nat} (h : Done T d0 d lo hi) (he : ∀ p, lo ≤ p → p < hi → G d' p = G d p) : Done T d0 d' lo hi :=
  ⟨fun i j h1 h2 h3 => by rw [he i h1 (by omega), he j (by omega) h3]; exact h.1 i j h1 h2 h3, fun p h1 h2 => by rw [he p h1 h2]; exact h.2 p h1 h2⟩
theorem Done.far {d0 d d' : Array α} {lo hi a b : Nat} (h : Done T d0 d lo hi) (hp : PermIn a b d d') (hd : hi ≤ a ∨ b ≤ lo) : Done T d0 d' lo hi :=
  h.same fun p h1 h2 => PermIn_out hp (by omega)
theorem Done.tst {lt : α → α → Bool} {d0 d : Array α} {lo m hi n : Nat} (ht : Tst0 T lt (G d0) 0 n) (h : Done T d0 d lo m) (g : Done T d0 d m hi) (hn : hi ≤ n) : Tst T lt (G d) lo m hi := fun i j h1 h2 h3 h4 => by
  obtain ⟨i', a1, a2, a3⟩ := h.2 i h1 h2
  obtain ⟨j', b1, b2, b3⟩ := g.2 j h3 h4
  rw [a3, b3]
  exact ht i' j' (Nat.zero_le _) (by omega) (by omega)
theorem Done.merge {d0 d d' : Array α} {lo m hi : Nat} (h : Done T d0 d lo m) (g : Done T d0 d m hi) (h1 : lo ≤ m) (h2 : m ≤ hi) (hs : hi ≤ d.size) (hp : PermIn lo hi d d') (hsr : Srt T (G d') lo hi) : Done T d0 d' lo hi :=
  ⟨hsr, fun p e1 e2 => by
    obtain ⟨k, k1, k2, k3⟩ := PermIn_from hs hp p e1 e2
    rcases Nat.lt_or_ge k m with c | c
    · obtain ⟨k', a1, a2, a3⟩ := h.2 k k1 c
      exact ⟨k', a1, by omega, k3.trans a3⟩
    · obtain ⟨k', a1, a2, a3⟩ := g.2 k c k2
      exact ⟨k', by omega, a2, k3.trans a3⟩⟩
theorem Done.start {d0 d d' : Array α} {lo hi : Nat} (h : ∀ p, lo ≤ p → p < hi → G d p = G d0 p) (hs : hi ≤ d.size) (hp : PermIn lo hi d d') (hsr : Srt T (G d') lo hi) : Done T d0 d' lo hi :=
  ⟨hsr, fun p e1 e2 => by
    obtain ⟨k, k1, k2, k3⟩ := PermIn_from hs hp p e1 e2
    exact ⟨k, k1, k2, k3.trans (h k k1 k2)⟩⟩
theorem gap {c x a : Nat} (h1 : c ∣ x) (h2 : c ∣ a) (h : x < a) : x + c ≤ a := by
  obtain ⟨i, rfl⟩ := h1
  obtain ⟨j, rfl⟩ := h2
  have : i < j := Nat.lt_of_mul_lt_mul_left h
  calc c * i + c = c * (i + 1) := by rw [Nat.mul_add, Nat.mul_one]
    _ ≤ c * j := Nat.mul_le_mul_left _ this
/-- All parts of width s are done. -/
def AllDone (T : α → α → Prop) (d0 d : Array α) (s n : Nat) : Prop := PermIn 0 n d0 d ∧ ∀ x, s ∣ x → x < n → Done T d0 d x (min (x + s) n)
/-- The first pass: the parts ahead of a are done, what is behind is as it was. -/
def Pass1 (T : α → α → Prop) (d0 d : Array α) (s n a : Nat) : Prop := PermIn 0 n d0 d ∧ s ∣ a ∧ a ≤ n ∧ (∀ x, s ∣ x → x < a → Done T d0 d x (x + s)) ∧ ∀ p, a ≤ p → G d p = G d0 p
theorem Pass1.start (d : Array α) (s n : Nat) : Pass1 T d d s n 0 := ⟨permIn_refl _ _ _, Nat.dvd_zero _, Nat.zero_le _, fun x _ h => absurd h (by omega), fun p _ => rfl⟩
theorem Pass1.next {d0 d d' : Array α} {s n a : Nat} (h : Pass1 T d0 d s n a) (hn : a + s ≤ n) (hs : n ≤ d0.size) (hp : PermIn a (a + s) d d') (hsr : Srt T (G d') a (a + s)) : Pass1 T d0 d' s n (a + s) := by
  obtain ⟨h1, h2, h3, h4, h5⟩ := h
  have hsz := h1.1
  refine ⟨permIn_trans _ _ _ _ _ h1 (permIn_mono _ _ _ _ _ _ (Nat.zero_le _) hn (by omega) hp), Nat.dvd_add h2 (Nat.dvd_refl _), hn, fun x e1 e2 => ?_, fun p e => ?_⟩
  · rcases Nat.lt_or_ge x a with c | c
    · exact (h4 x e1 c).far hp (.inl (gap e1 h2 c))
    · have : x = a := by
        rcases Nat.lt_or_ge a x with c2 | c2
        · have := gap h2 e1 c2; omega
        · omega
      subst this
      exact Done.start (fun p q1 _ => h5 p q1) (by omega) hp hsr
  · rw [PermIn_out hp (.inr e)]; exact h5 p (by omega)
theorem Pass1.last {d0 d d' : Array α} {s n a : Nat} (h : Pass1 T d0 d s n a) (hn : n < a + s) (hs : n ≤ d0.size) (hp : PermIn a n d d') (hsr : Srt T (G d') a n) : AllDone T d0 d' s n := by
  obtain ⟨h1, h2, h3, h4, h5⟩ := h
  have hsz := h1.1
  refine ⟨permIn_trans _ _ _ _ _ h1 (permIn_mono _ _ _ _ _ _ (Nat.zero_le _) (Nat.le_refl _) (by omega) hp), fun x e1 e2 => ?_⟩
  rcases Nat.lt_or_ge x a with c | c
  · have := gap e1 h2 c
    rw [show min (x + s) n = x + s from by omega]
    exact (h4 x e1 c).far hp (.inl this)
  · have : x = a := by
      rcases Nat.lt_or_ge a x with c2 | c2
      · have := gap h2 e1 c2; omega
      · omega
    subst this
    rw [show min (x + s) n = n from by omega]
    exact Done.start (fun p q1 _ => h5 p q1) (by omega) hp hsr
/-- A pass of merging: ahead of a parts of the double width are done. -/
def Pass2 (T : α → α → Prop) (d0 d : Array α) (s n a : Nat) : Prop := PermIn 0 n d0 d ∧ 2 * s ∣ a ∧ a ≤ n ∧ (∀ x, 2 * s ∣ x → x < a → Done T d0 d x (x + 2 * s)) ∧ ∀ x, s ∣ x → a ≤ x → x < n → Done T d0 d x (min (x + s) n)
theorem Pass2.start {d0 d : Array α} {s n : Nat} (h : AllDone T d0 d s n) : Pass2 T d0 d s n 0 := ⟨h.1, Nat.dvd_zero _, Nat.zero_le _, fun x _ h => absurd h (by omega), fun x e _ e2 => h.2 x e e2⟩
theorem Pass2.two {d0 d : Array α} {s n a : Nat} (h : Pass2 T d0 d s n a) (hn : a + s < n) (h0 : 0 < s) : Done T d0 d a (a + s) ∧ Done T d0 d (a + s) (min (a + 2 * s) n) := by
  obtain ⟨h1, h2, h3, h4, h5⟩ := h
  have hd : s ∣ a := Nat.dvd_trans (Nat.dvd_mul_left _ _) h2
  have e1 := h5 a hd (Nat.le_refl _) (by omega)
  have e2 := h5 (a + s) (Nat.dvd_add hd (Nat.dvd_refl _)) (by omega) hn
  rw [show min (a + s) n = a + s from by omega] at e1
  rw [show a + s + s = a + 2 * s from by omega] at e2
  exact ⟨e1, e2⟩
theorem Pass2.next {d0 d d' : Array α} {s n a : Nat} (h : Pass2 T d0 d s n a) (h0 : 0 < s) (hn : a + 2 * s ≤ n) (hs : n ≤ d0.size) (hp : PermIn a (a + 2 * s) d d') (hsr : Srt T (G d') a (a + 2 * s)) : Pass2 T d0 d' s n (a + 2 * s) := by
  obtain ⟨e1, e2⟩ := h.two (by omega) h0
  rw [show min (a + 2 * s) n = a + 2 * s from by omega] at e2
  obtain ⟨h1, h2, h3, h4, h5⟩ := h
  have hsz := h1.1
  refine ⟨permIn_trans _ _ _ _ _ h1 (permIn_mono _ _ _ _ _ _ (Nat.zero_le _) hn (by omega) hp), Nat.dvd_add h2 (Nat.dvd_refl _), hn, fun x g1 g2 => ?_, fun x g1 g2 g3 => ?_⟩
  · rcases Nat.lt_or_ge x a with c | c
    · exact (h4 x g1 c).far hp (.inl (gap g1 h2 c))
    · have : x = a := by
        rcases Nat.lt_or_ge a x with c2 | c2
        · have := gap h2 g1 c2; omega
        · omega
      subst this
      exact e1.merge e2 (by omega) (by omega) (by omega) hp hsr
  · exact (h5 x g1 (by omega) g3).far hp (.inr g2)
theorem Pass2.last {d0 d d' : Array α} {s n a : Nat} (h : Pass2 T d0 d s n a) (h0 : 0 < s) (hn : n < a + 2 * s) (hm : a + s < n) (hs : n ≤ d0.size) (hp : PermIn a n d d') (hsr : Srt T (G d') a n) : AllDone T d0 d' (2 * s) n := by
  obtain ⟨e1, e2⟩ := h.two hm h0
  rw [show min (a + 2 * s) n = n from by omega] at e2
  obtain ⟨h1, h2, h3, h4, h5⟩ := h
  have hsz := h1.1
  refine ⟨permIn_trans _ _ _ _ _ h1 (permIn_mono _ _ _ _ _ _ (Nat.zero_le _) (Nat.le_refl _) (by omega) hp), fun x g1 g2 => ?_⟩
  rcases Nat.lt_or_ge x a with c | c
  · have := gap g1 h2 c
    rw [show min (x + 2 * s) n = x + 2 * s from by omega]
    exact (h4 x g1 c).far hp (.inl this)
  · have : x = a := by
      rcases Nat.lt_or_ge a x with c2 | c2
      · have := gap h2 g1 c2; omega
      · omega
    subst this
    rw [show min (x + 2 * s) n = n from by omega]
    exact e1.merge e2 (by omega) (by omega) (by omega) hp hsr
theorem Pass2.none_ {d0 d : Array α} {s n a : Nat} (h : Pass2 T d0 d s n a) (h0 : 0 < s) (hn : n < a + 2 * s) (hm : n ≤ a + s) : AllDone T d0 d (2 * s) n := by
  obtain ⟨h1, h2, h3, h4, h5⟩ := h
  refine ⟨h1, fun x g1 g2 => ?_⟩
  rcases Nat.lt_or_ge x a with c | c
  · have := gap g1 h2 c
    rw [show min (x + 2 * s) n = x + 2 * s from by omega]
    exact h4 x g1 c
  · have : x = a := by
      rcases Nat.lt_or_ge a x with c2 | c2
      · have := gap h2 g1 c2; omega
      · omega
    subst this
    have := h5 x (Nat.dvd_trans (Nat.dvd_mul_left _ _) h2) (Nat.le_refl _) g2
    rw [show min (x + s) n = n from by omega] at this
    rw [show min (x + 2 * s) n = n from by omega]
    exact this
theorem AllDone.end_ {d0 d : Array α} {s n : Nat} (h : AllDone T d0 d s n) (hn : n ≤ s) : PermIn 0 n d0 d ∧ Srt T (G d) 0 n := by
  refine ⟨h.1, ?_⟩
  rcases Nat.eq_zero_or_pos n with e | e
  · subst e; exact Srt.one _ (by omega)
  · have := (h.2 0 (Nat.dvd_zero _) e).1
    rwa [show min (0 + s) n = n from by omega] at this
end Go.Dam.Stable
