/-
  The plain law of merging two sorted parts in place (SymMerge), no program in sight: whatever the program's searches found, the parts that it turns leave all of the left half ahead of all of the right half. Conditions: a strict order of the elements; a test that agrees with it wherever an element of the right part is tested against one of the left part.
-/
import Derived.Test.YtjnndbllaplkcaaStableMaps
namespace Go.Dam.Stable
set_option linter.unusedVariables false
variable {α : Type} {T : α → α → Prop}
/-- Sorted from a up to b. -/
def Srt (T : α → α → Prop) (F : Nat → α) (a b : Nat) : Prop := ∀ i j, a ≤ i → i < j → j < b → T (F i) (F j)
/-- All from a to m stand ahead of all from m to b. -/
def Sep (T : α → α → Prop) (F : Nat → α) (a m b : Nat) : Prop := ∀ i j, a ≤ i → i < m → m ≤ j → j < b → T (F i) (F j)
/-- The test of a right element against a left one tells the order. -/
def Tst (T : α → α → Prop) (lt : α → α → Bool) (F : Nat → α) (a m b : Nat) : Prop := ∀ i j, a ≤ i → i < m → m ≤ j → j < b → ((lt (F j) (F i) = true → T (F j) (F i)) ∧ (lt (F j) (F i) = false → T (F i) (F j)))
/-- G holds what F held, the places from a to b mixed among themselves. -/
def Mix (F G : Nat → α) (a b : Nat) : Prop := (∀ k, a ≤ k → k < b → ∃ k', a ≤ k' ∧ k' < b ∧ G k = F k') ∧ ∀ k, ¬ (a ≤ k ∧ k < b) → G k = F k
theorem Mix.refl (F : Nat → α) (a b : Nat) : Mix F F a b := ⟨fun k h1 h2 => ⟨k, h1, h2, rfl⟩, fun k _ => rfl⟩
theorem Mix.trans {F G H : Nat → α} {a b : Nat} (h : Mix F G a b) (g : Mix G H a b) : Mix F H a b :=
  ⟨fun k h1 h2 => by
    obtain ⟨k', e1, e2, e3⟩ := g.1 k h1 h2
    obtain ⟨k2, f1, f2, f3⟩ := h.1 k' e1 e2
    exact ⟨k2, f1, f2, e3.trans f3⟩, fun k hk => (g.2 k hk).trans (h.2 k hk)⟩
theorem Mix.wide {F G : Nat → α} {a b a' b' : Nat} (h : Mix F G a b) (h1 : a' ≤ a) (h2 : b ≤ b') : Mix F G a' b' :=
  ⟨fun k e1 e2 => by
    by_cases hk : a ≤ k ∧ k < b
    · obtain ⟨k', f1, f2, f3⟩ := h.1 k hk.1 hk.2
      exact ⟨k', by omega, by omega, f3⟩
    · exact ⟨k, e1, e2, h.2 k hk⟩, fun k hk => h.2 k (by omega)⟩
theorem Mix.of_map {F G : Nat → α} {φ : Nat → Nat} {a b : Nat} (h : ∀ k, G k = F (φ k)) (h1 : ∀ k, (a ≤ k ∧ k < b → a ≤ φ k ∧ φ k < b) ∧ (¬ (a ≤ k ∧ k < b) → φ k = k)) : Mix F G a b :=
  ⟨fun k e1 e2 => ⟨φ k, ((h1 k).1 ⟨e1, e2⟩).1, ((h1 k).1 ⟨e1, e2⟩).2, h k⟩, fun k hk => by rw [h k, (h1 k).2 hk]⟩
theorem Mix.same {F G : Nat → α} {a b k : Nat} (h : Mix F G a b) (hk : ¬ (a ≤ k ∧ k < b)) : G k = F k := h.2 k hk
theorem Srt.keep {F G : Nat → α} {a b c d : Nat} (h : Srt T F c d) (g : Mix F G a b) (hd : d ≤ a ∨ b ≤ c) : Srt T G c d := fun i j h1 h2 h3 => by
  rw [g.2 i (by omega), g.2 j (by omega)]; exact h i j h1 h2 h3
theorem Srt.sub {F : Nat → α} {a b c d : Nat} (h : Srt T F a b) (h1 : a ≤ c) (h2 : d ≤ b) : Srt T F c d := fun i j e1 e2 e3 => h i j (by omega) e2 (by omega)
theorem Srt.one (F : Nat → α) {a b : Nat} (h : b ≤ a + 1) : Srt T F a b := fun i j h1 h2 h3 => absurd h2 (by omega)
/-- Two sorted parts, one ahead of the other. -/
theorem Srt.join {F : Nat → α} {a m b : Nat} (h1 : Srt T F a m) (h2 : Srt T F m b) (h3 : Sep T F a m b) : Srt T F a b := fun i j e1 e2 e3 => by
  rcases Nat.lt_or_ge j m with g | g
  · exact h1 i j e1 e2 g
  · rcases Nat.lt_or_ge i m with g2 | g2
    · exact h3 i j e1 g2 g e3
    · exact h2 i j g2 e2 e3
theorem Sep.mixL {F G : Nat → α} {a m b : Nat} (h : Sep T F a m b) (g : Mix F G a m) : Sep T G a m b := fun i j h1 h2 h3 h4 => by
  obtain ⟨k, e1, e2, e3⟩ := g.1 i h1 h2
  rw [e3, g.2 j (by omega)]
  exact h k j e1 e2 h3 h4
theorem Sep.mixR {F G : Nat → α} {a m b : Nat} (h : Sep T F a m b) (g : Mix F G m b) : Sep T G a m b := fun i j h1 h2 h3 h4 => by
  obtain ⟨k, e1, e2, e3⟩ := g.1 j h3 h4
  rw [e3, g.2 i (by omega)]
  exact h i k h1 h2 e1 e2
section
variable (tr : ∀ x y z, T x y → T y z → T x z)
include tr
/-- T of neighbours in a sorted part, or the same. -/
theorem Srt.le {F : Nat → α} {a b i j : Nat} (h : Srt T F a b) (h1 : a ≤ i) (h2 : i ≤ j) (h3 : j < b) {z : α} (g : T (F j) z) : T (F i) z := by
  rcases Nat.lt_or_ge i j with e | e
  · exact tr _ _ _ (h i j h1 e h3) g
  · rwa [show i = j from by omega]
theorem Srt.ge {F : Nat → α} {a b i j : Nat} (h : Srt T F a b) (h1 : a ≤ i) (h2 : i ≤ j) (h3 : j < b) {z : α} (g : T z (F i)) : T z (F j) := by
  rcases Nat.lt_or_ge i j with e | e
  · exact tr _ _ _ g (h i j h1 e h3)
  · rwa [show j = i from by omega]
/-- The one left element goes to its place. -/
theorem merge_left {F G : Nat → α} {lt : α → α → Bool} {a b i : Nat} (hs : Srt T F (a + 1) b) (ht : Tst T lt F a (a + 1) b) (h1 : a + 1 ≤ i) (h2 : i ≤ b)
    (hlo : i = a + 1 ∨ lt (F (i - 1)) (F a) = true) (hhi : i = b ∨ lt (F i) (F a) = false) (hG : ∀ k, G k = F (rotI a (a + 1) i k)) : Srt T G a b := fun p q e1 e2 e3 => by
  have below : ∀ k, a + 1 ≤ k → k < i → T (F k) (F a) := fun k g1 g2 => by
    have hx : T (F (i - 1)) (F a) := by
      rcases hlo with h | h
      · omega
      · exact (ht a (i - 1) (Nat.le_refl _) (by omega) (by omega) (by omega)).1 h
    exact hs.le tr g1 (by omega) (by omega) hx
  have above : ∀ k, i ≤ k → k < b → T (F a) (F k) := fun k g1 g2 => by
    have hx : T (F a) (F i) := by
      rcases hhi with h | h
      · omega
      · exact (ht a i (Nat.le_refl _) (by omega) (by omega) (by omega)).2 h
    exact hs.ge tr (by omega) g1 g2 hx
  have e : ∀ k, (a ≤ k → k < i - 1 → G k = F (k + 1)) ∧ (k = i - 1 → G k = F a) ∧ (i ≤ k → G k = F k) := fun k => by
    refine ⟨fun g1 g2 => ?_, fun g1 => ?_, fun g1 => ?_⟩ <;> rw [hG k] <;> congr 1 <;> unfold rotI <;> (repeat' split) <;> omega
  rcases Nat.lt_or_ge p (i - 1) with c1 | c1
  · rw [(e p).1 e1 c1]
    rcases Nat.lt_or_ge q (i - 1) with c2 | c2
    · rw [(e q).1 (by omega) c2]; exact hs (p + 1) (q + 1) (by omega) (by omega) (by omega)
    · by_cases c3 : q = i - 1
      · rw [(e q).2.1 c3]; exact below (p + 1) (by omega) (by omega)
      · rw [(e q).2.2 (by omega)]; exact hs (p + 1) q (by omega) (by omega) e3
  · by_cases c3 : p = i - 1
    · rw [(e p).2.1 c3, (e q).2.2 (by omega)]; exact above q (by omega) e3
    · rw [(e p).2.2 (by omega), (e q).2.2 (by omega)]; exact hs p q (by omega) e2 e3
/-- The one right element goes to its place. -/
theorem merge_right {F G : Nat → α} {lt : α → α → Bool} {a m i : Nat} (hs : Srt T F a m) (ht : Tst T lt F a m (m + 1)) (h1 : a ≤ i) (h2 : i ≤ m)
    (hlo : i = a ∨ lt (F m) (F (i - 1)) = false) (hhi : i = m ∨ lt (F m) (F i) = true) (hG : ∀ k, G k = F (rotI i m (m + 1) k)) : Srt T G a (m + 1) := fun p q e1 e2 e3 => by
  have below : ∀ k, a ≤ k → k < i → T (F k) (F m) := fun k g1 g2 => by
    have hx : T (F (i - 1)) (F m) := by
      rcases hlo with h | h
      · omega
      · exact (ht (i - 1) m (by omega) (by omega) (Nat.le_refl _) (by omega)).2 h
    exact hs.le tr g1 (by omega) (by omega) hx
  have above : ∀ k, i ≤ k → k < m → T (F m) (F k) := fun k g1 g2 => by
    have hx : T (F m) (F i) := by
      rcases hhi with h | h
      · omega
      · exact (ht i m (by omega) (by omega) (Nat.le_refl _) (by omega)).1 h
    exact hs.ge tr (by omega) g1 g2 hx
  have e : ∀ k, (k < i → G k = F k) ∧ (k = i → G k = F m) ∧ (i < k → k < m + 1 → G k = F (k - 1)) := fun k => by
    refine ⟨fun g1 => ?_, fun g1 => ?_, fun g1 g2 => ?_⟩ <;> rw [hG k] <;> congr 1 <;> unfold rotI <;> (repeat' split) <;> omega
  rcases Nat.lt_or_ge p i with c1 | c1
  · rw [(e p).1 c1]
    rcases Nat.lt_or_ge q i with c2 | c2
    · rw [(e q).1 c2]; exact hs p q e1 e2 (by omega)
    · by_cases c3 : q = i
      · rw [(e q).2.1 c3]; exact below p e1 c1
      · rw [(e q).2.2 (by omega) e3]; exact hs p (q - 1) e1 (by omega) (by omega)
  · by_cases c3 : p = i
    · rw [(e p).2.1 c3, (e q).2.2 (by omega) e3]; exact above (q - 1) (by omega) (by omega)
    · rw [(e p).2.2 (by omega) (by omega), (e q).2.2 (by omega) e3]; exact hs (p - 1) (q - 1) (by omega) (by omega) (by omega)
/-- What turning leaves: the left half ahead of the right half, each of them two sorted parts that can be merged. -/
theorem merge_mid {F G : Nat → α} {lt : α → α → Bool} {a m b mid start : Nat} (hl : Srt T F a m) (hr : Srt T F m b) (ht : Tst T lt F a m b) (ham : a < m) (hmb : m < b) (hmid : mid = (a + b) / 2)
    (hs1 : a ≤ start) (hs2 : mid + m ≤ b + start) (hs3 : start ≤ mid) (hs4 : start ≤ m)
    (hlo : start = a ∨ mid + m = b + start ∨ lt (F (mid + m - start)) (F (start - 1)) = false) (hhi : start = mid ∨ start = m ∨ lt (F (mid + m - 1 - start)) (F start) = true)
    (hG : ∀ k, G k = F (rotI start m (mid + m - start) k)) :
    Sep T G a mid b ∧ Srt T G a start ∧ Srt T G start mid ∧ Srt T G mid (mid + m - start) ∧ Srt T G (mid + m - start) b ∧ Tst T lt G a start mid ∧ Tst T lt G mid (mid + m - start) b := by
  have e : ∀ k, (k < start → G k = F k) ∧ (start ≤ k → k < mid → G k = F (k - start + m)) ∧ (mid ≤ k → k < mid + m - start → G k = F (k - (mid - start))) ∧ (mid + m - start ≤ k → G k = F k) := fun k => by
    refine ⟨fun g1 => ?_, fun g1 g2 => ?_, fun g1 g2 => ?_, fun g1 => ?_⟩ <;> rw [hG k] <;> congr 1 <;> unfold rotI <;> (repeat' split) <;> omega
  -- ahead: the left part's first ones; then the right part's first ones; then the left part's last ones; then the right part's last ones
  have low : ∀ i j, a ≤ i → i < start → mid + m - start ≤ j → j < b → T (F i) (F j) := fun i j g1 g2 g3 g4 => by
    have hx : T (F (start - 1)) (F (mid + m - start)) := by
      rcases hlo with h | h | h
      · omega
      · omega
      · exact (ht (start - 1) (mid + m - start) (by omega) (by omega) (by omega) (by omega)).2 h
    exact hl.le tr g1 (show i ≤ start - 1 by omega) (by omega) (hr.ge tr (show m ≤ mid + m - start by omega) g3 g4 hx)
  have high : ∀ i j, m ≤ i → i < mid + m - start → start ≤ j → j < m → T (F i) (F j) := fun i j g1 g2 g3 g4 => by
    have hx : T (F (mid + m - 1 - start)) (F start) := by
      rcases hhi with h | h | h
      · omega
      · omega
      · exact (ht start (mid + m - 1 - start) (by omega) (by omega) (by omega) (by omega)).1 h
    exact hr.le tr g1 (show i ≤ mid + m - 1 - start by omega) (by omega) (hl.ge tr hs1 g3 g4 hx)
  refine ⟨fun i j g1 g2 g3 g4 => ?_, fun i j g1 g2 g3 => ?_, fun i j g1 g2 g3 => ?_, fun i j g1 g2 g3 => ?_, fun i j g1 g2 g3 => ?_, fun i j g1 g2 g3 g4 => ?_, fun i j g1 g2 g3 g4 => ?_⟩
  · rcases Nat.lt_or_ge i start with c1 | c1
    · rw [(e i).1 c1]
      rcases Nat.lt_or_ge j (mid + m - start) with c2 | c2
      · rw [(e j).2.2.1 g3 c2]; exact hl i _ g1 (by omega) (by omega)
      · rw [(e j).2.2.2 c2]; exact low i j g1 c1 c2 g4
    · rw [(e i).2.1 c1 g2]
      rcases Nat.lt_or_ge j (mid + m - start) with c2 | c2
      · rw [(e j).2.2.1 g3 c2]; exact high _ _ (by omega) (by omega) (by omega) (by omega)
      · rw [(e j).2.2.2 c2]; exact hr _ j (by omega) (by omega) g4
  · rw [(e i).1 (by omega), (e j).1 g3]; exact hl i j g1 g2 (by omega)
  · rw [(e i).2.1 g1 (by omega), (e j).2.1 (by omega) g3]; exact hr _ _ (by omega) (by omega) (by omega)
  · rw [(e i).2.2.1 g1 (by omega), (e j).2.2.1 (by omega) g3]; exact hl _ _ (by omega) (by omega) (by omega)
  · rw [(e i).2.2.2 g1, (e j).2.2.2 (by omega)]; exact hr i j (by omega) g2 g3
  · rw [(e i).1 g2, (e j).2.1 g3 g4]; exact ht i _ g1 (by omega) (by omega) (by omega)
  · rw [(e i).2.2.1 g1 g2, (e j).2.2.2 g3]; exact ht _ j (by omega) (by omega) (by omega) g4
end
end Go.Dam.Stable
