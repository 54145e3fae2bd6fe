/-
  Texts of one claim behind each other. Conditions: none of its own.
-/
import Derived.Test.YthiccmncdmohbaaMHullInsides00
set_option linter.unusedVariables false
set_option linter.unusedSimpArgs false
/-
  Plain law of the closest pair of points, no program in sight: which pair it is, and how it is found pair by pair. Conditions: none.
-/
namespace Go.Dam
set_option linter.unusedVariables false
/-- The square of how far two points are from each other. -/
def dist2 (l : List Int) (i j : Nat) : Int := (l.getD (i * 3) 0 - l.getD (j * 3) 0) * (l.getD (i * 3) 0 - l.getD (j * 3) 0) + (l.getD (i * 3 + 1) 0 - l.getD (j * 3 + 1) 0) * (l.getD (i * 3 + 1) 0 - l.getD (j * 3 + 1) 0)
theorem sq_neg (a b : Int) : (a - b) * (a - b) = (b - a) * (b - a) := by
  rw [show a - b = -(b - a) from by omega, Int.neg_mul_neg]
theorem dist2_symm (l : List Int) (i j : Nat) : dist2 l i j = dist2 l j i := by
  unfold dist2
  rw [sq_neg (l.getD (i * 3) 0), sq_neg (l.getD (i * 3 + 1) 0)]
theorem sq_nonneg (a : Int) : 0 ≤ a * a := by
  rcases Int.le_total 0 a with h | h
  · exact Int.mul_nonneg h h
  · exact Int.mul_nonneg_of_nonpos_of_nonpos h h
theorem dist2_nonneg (l : List Int) (i j : Nat) : 0 ≤ dist2 l i j := Int.add_nonneg (sq_nonneg _) (sq_nonneg _)
theorem sq_mono {a b : Int} (h0 : 0 ≤ a) (h : a ≤ b) : a * a ≤ b * b := Int.mul_le_mul h h h0 (by omega)
/-- A pair and its distance, ahead of another one's or the same. -/
def Lex (f : Int) (a b : Nat) (f' : Int) (a' b' : Nat) : Prop := f < f' ∨ (f = f' ∧ (a < a' ∨ (a = a' ∧ b ≤ b')))
theorem Lex.refl (f : Int) (a b : Nat) : Lex f a b f a b := .inr ⟨rfl, .inr ⟨rfl, Nat.le_refl _⟩⟩
theorem Lex.trans {f f' f'' : Int} {a b a' b' a'' b'' : Nat} (h : Lex f a b f' a' b') (g : Lex f' a' b' f'' a'' b'') : Lex f a b f'' a'' b'' := by
  unfold Lex at *; omega
theorem Lex.anti {f f' : Int} {a b a' b' : Nat} (h : Lex f a b f' a' b') (g : Lex f' a' b' f a b) : f = f' ∧ a = a' ∧ b = b' := by
  unfold Lex at *; omega
theorem Lex.total (f f' : Int) (a b a' b' : Nat) : Lex f a b f' a' b' ∨ Lex f' a' b' f a b := by
  unfold Lex; omega
/-- The closest pair: of those that are as close the first. -/
def ClosR (l : List Int) (n a b : Nat) (f : Int) : Prop := a < b ∧ b < n ∧ f = dist2 l a b ∧ ∀ a' b', a' < b' → b' < n → Lex f a b (dist2 l a' b') a' b'
theorem ClosR.uniq {l : List Int} {n a b a' b' : Nat} {f f' : Int} (h : ClosR l n a b f) (g : ClosR l n a' b' f') : f = f' ∧ a = a' ∧ b = b' := by
  obtain ⟨h1, h2, rfl, h3⟩ := h
  obtain ⟨g1, g2, rfl, g3⟩ := g
  exact (h3 _ _ g1 g2).anti (g3 _ _ h1 h2)
/-- The best of the pairs whose greater place is below n. -/
theorem ClosR.ex (l : List Int) : ∀ n, 2 ≤ n → ∃ a b f, ClosR l n a b f
  | 0, h => absurd h (by omega)
  | 1, h => absurd h (by omega)
  | n + 2, _ => by
    -- the best with the last place as the greater one
    have last : ∀ m, 1 ≤ m → m ≤ n + 1 → ∃ a, a < m ∧ ∀ a', a' < m → Lex (dist2 l a (n + 1)) a (n + 1) (dist2 l a' (n + 1)) a' (n + 1) := by
      intro m
      induction m with
      | zero => intro h; omega
      | succ m ih =>
        intro _ hm
        by_cases h0 : m = 0
        · subst h0
          exact ⟨0, by omega, fun a' ha => by rw [show a' = 0 from by omega]; exact Lex.refl _ _ _⟩
        · obtain ⟨a, ha, hb⟩ := ih (by omega) (by omega)
          rcases Lex.total (dist2 l a (n + 1)) (dist2 l m (n + 1)) a (n + 1) m (n + 1) with h | h
          · refine ⟨a, by omega, fun a' ha' => ?_⟩
            rcases Nat.lt_or_ge a' m with g | g
            · exact hb _ g
            · rw [show a' = m from by omega]; exact h
          · refine ⟨m, by omega, fun a' ha' => ?_⟩
            rcases Nat.lt_or_ge a' m with g | g
            · exact h.trans (hb _ g)
            · rw [show a' = m from by omega]; exact Lex.refl _ _ _
    obtain ⟨a, ha, hb⟩ := last (n + 1) (by omega) (Nat.le_refl _)
    by_cases hn : n = 0
    · subst hn
      refine ⟨a, 1, _, by omega, by omega, rfl, fun a' b' h1 h2 => ?_⟩
      obtain rfl : b' = 1 := by omega
      exact hb _ h1
    · obtain ⟨x, y, f, h1, h2, h3, h4⟩ := ClosR.ex l (n + 1) (by omega)
      rcases Lex.total f (dist2 l a (n + 1)) x y a (n + 1) with h | h
      · refine ⟨x, y, f, h1, by omega, h3, fun a' b' g1 g2 => ?_⟩
        rcases Nat.lt_or_ge b' (n + 1) with g | g
        · exact h4 _ _ g1 g
        · obtain rfl : b' = n + 1 := by omega
          exact h.trans (hb _ g1)
      · refine ⟨a, n + 1, _, by omega, by omega, rfl, fun a' b' g1 g2 => ?_⟩
        rcases Nat.lt_or_ge b' (n + 1) with g | g
        · exact h.trans (h4 _ _ g1 g)
        · obtain rfl : b' = n + 1 := by omega
          exact hb _ g1
/-- The reference's way: all pairs up to (i, j) have been looked at. -/
def RefClos (l : List Int) (n i j a b : Nat) (f : Int) : Prop := a < b ∧ b < n ∧ f = dist2 l a b ∧ ∀ a' b', a' < b' → b' < n → (a' < i ∨ (a' = i ∧ b' < j)) → Lex f a b (dist2 l a' b') a' b'
theorem RefClos.start {l : List Int} {n : Nat} (h : 2 ≤ n) : RefClos l n 0 1 0 1 (dist2 l 0 1) := ⟨by omega, by omega, rfl, fun a' b' h1 h2 h3 => by omega⟩
theorem RefClos.less {l : List Int} {n i j a b : Nat} {f : Int} (h : RefClos l n i j a b f) (hij : i < j) (hj : j < n) (hf : dist2 l i j < f) : RefClos l n i (j + 1) i j (dist2 l i j) :=
  ⟨hij, hj, rfl, fun a' b' h1 h2 h3 => by
    by_cases e : a' = i ∧ b' = j
    · rw [e.1, e.2]; exact Lex.refl _ _ _
    · exact (show Lex (dist2 l i j) i j f a b from .inl hf).trans (h.2.2.2 a' b' h1 h2 (by omega))⟩
theorem RefClos.more {l : List Int} {n i j a b : Nat} {f : Int} (h : RefClos l n i j a b f) (hij : i < j) (hj : j < n) (hf : ¬ dist2 l i j < f) (hab : a < i ∨ (a = i ∧ b < j) ∨ (a = 0 ∧ b = 1)) : RefClos l n i (j + 1) a b f :=
  ⟨h.1, h.2.1, h.2.2.1, fun a' b' h1 h2 h3 => by
    by_cases e : a' = i ∧ b' = j
    · rw [e.1, e.2]
      have : a < i ∨ (a = i ∧ b ≤ j) := by
        rcases hab with g | g | g <;> omega
      unfold Lex; omega
    · exact h.2.2.2 a' b' h1 h2 (by omega)⟩
theorem RefClos.row {l : List Int} {n i a b : Nat} {f : Int} (h : RefClos l n i n a b f) : RefClos l n (i + 1) (i + 2) a b f :=
  ⟨h.1, h.2.1, h.2.2.1, fun a' b' h1 h2 h3 => h.2.2.2 a' b' h1 h2 (by omega)⟩
theorem RefClos.done {l : List Int} {n i j a b : Nat} {f : Int} (h : RefClos l n i j a b f) (hi : n ≤ i) : ClosR l n a b f :=
  ⟨h.1, h.2.1, h.2.2.1, fun a' b' h1 h2 => h.2.2.2 a' b' h1 h2 (by omega)⟩
/-- A list of all places below n, by X. -/
def ByX (l : List Int) (n : Nat) (r : List Nat) : Prop := r.length = n ∧ (∀ i, i < n → ∃ u, u < n ∧ r.getD u 0 = i) ∧ (∀ u, u < n → r.getD u 0 < n) ∧ (∀ u v, u < n → v < n → r.getD u 0 = r.getD v 0 → u = v) ∧
  ∀ u v, u < v → v < n → l.getD (r.getD u 0 * 3) 0 ≤ l.getD (r.getD v 0 * 3) 0
/-- The program's way: pairs of places of the sorted list up to (u, v) have been looked at. -/
def ProgClos (l : List Int) (n : Nat) (r : List Nat) (u v a b : Nat) (f : Int) : Prop :=
  (f = -1 ∧ a = 0 ∧ b = 0 ∧ u = 0 ∧ v ≤ 1) ∨
  (a < b ∧ b < n ∧ f = dist2 l a b ∧ ∀ s t, s < t → t < n → (s < u ∨ (s = u ∧ t < v)) → Lex f a b (dist2 l (r.getD s 0) (r.getD t 0)) (min (r.getD s 0) (r.getD t 0)) (max (r.getD s 0) (r.getD t 0)))
section
variable {l : List Int} {n u v a b : Nat} {f : Int} {r : List Nat}
theorem ProgClos.start : ProgClos l n r 0 1 0 0 (-1) := .inl ⟨rfl, rfl, rfl, rfl, by omega⟩
theorem ByX.ne (h : ByX l n r) (huv : u < v) (hv : v < n) : r.getD u 0 ≠ r.getD v 0 := fun e => by
  have := h.2.2.2.1 u v (by omega) hv e; omega
theorem ProgClos.take (h : ProgClos l n r u v a b f) (hr : ByX l n r) (huv : u < v) (hv : v < n)
    (hf : f < 0 ∨ dist2 l (r.getD u 0) (r.getD v 0) < f ∨ (dist2 l (r.getD u 0) (r.getD v 0) = f ∧ (min (r.getD u 0) (r.getD v 0) < a ∨ (min (r.getD u 0) (r.getD v 0) = a ∧ max (r.getD u 0) (r.getD v 0) < b)))) :
    ProgClos l n r u (v + 1) (min (r.getD u 0) (r.getD v 0)) (max (r.getD u 0) (r.getD v 0)) (dist2 l (r.getD u 0) (r.getD v 0)) := by
  have hne := hr.ne huv hv
  have h1 := hr.2.2.1 u (by omega)
  have h2 := hr.2.2.1 v hv
  refine .inr ⟨by omega, by omega, ?_, fun s t g1 g2 g3 => ?_⟩
  · rcases Nat.lt_or_ge (r.getD u 0) (r.getD v 0) with g | g
    · rw [Nat.min_eq_left (by omega), Nat.max_eq_right (by omega)]
    · rw [Nat.min_eq_right (by omega), Nat.max_eq_left (by omega), dist2_symm]
  · by_cases e : s = u ∧ t = v
    · rw [e.1, e.2]; exact Lex.refl _ _ _
    · rcases h with ⟨_, _, _, h4, h5⟩ | ⟨h3, h4, h5, h6⟩
      · omega
      · have hn := dist2_nonneg l a b
        have := h6 s t g1 g2 (by omega)
        exact Lex.trans (by unfold Lex; omega) this
theorem ProgClos.leave (h : ProgClos l n r u v a b f) (hr : ByX l n r) (huv : u < v) (hv : v < n) (hf : 0 ≤ f)
    (hno : ¬ (dist2 l (r.getD u 0) (r.getD v 0) < f ∨ (dist2 l (r.getD u 0) (r.getD v 0) = f ∧ (min (r.getD u 0) (r.getD v 0) < a ∨ (min (r.getD u 0) (r.getD v 0) = a ∧ max (r.getD u 0) (r.getD v 0) < b))))) :
    ProgClos l n r u (v + 1) a b f := by
  rcases h with ⟨h1, _⟩ | ⟨h3, h4, h5, h6⟩
  · omega
  · refine .inr ⟨h3, h4, h5, fun s t g1 g2 g3 => ?_⟩
    by_cases e : s = u ∧ t = v
    · rw [e.1, e.2]
      unfold Lex; omega
    · exact h6 s t g1 g2 (by omega)
/-- The gap alone is too great: so it is for all behind. -/
theorem ProgClos.stop (h : ProgClos l n r u v a b f) (hr : ByX l n r) (huv : u < v) (hv : v < n) (hf : 0 ≤ f)
    (hgap : f < (l.getD (r.getD v 0 * 3) 0 - l.getD (r.getD u 0 * 3) 0) * (l.getD (r.getD v 0 * 3) 0 - l.getD (r.getD u 0 * 3) 0)) : ProgClos l n r u n a b f := by
  rcases h with ⟨h1, _⟩ | ⟨h3, h4, h5, h6⟩
  · omega
  · refine .inr ⟨h3, h4, h5, fun s t g1 g2 g3 => ?_⟩
    by_cases e : s < u ∨ (s = u ∧ t < v)
    · exact h6 s t g1 g2 e
    · obtain ⟨rfl, htv⟩ : s = u ∧ v ≤ t := by omega
      have x1 := hr.2.2.2.2 s v huv hv
      have x2 : l.getD (r.getD v 0 * 3) 0 ≤ l.getD (r.getD t 0 * 3) 0 := by
        rcases Nat.lt_or_ge v t with g | g
        · exact hr.2.2.2.2 v t g g2
        · rw [show v = t from by omega]; exact Int.le_refl _
      have x3 := sq_mono (a := l.getD (r.getD v 0 * 3) 0 - l.getD (r.getD s 0 * 3) 0) (b := l.getD (r.getD t 0 * 3) 0 - l.getD (r.getD s 0 * 3) 0) (by omega) (by omega)
      have x4 : (l.getD (r.getD t 0 * 3) 0 - l.getD (r.getD s 0 * 3) 0) * (l.getD (r.getD t 0 * 3) 0 - l.getD (r.getD s 0 * 3) 0) ≤ dist2 l (r.getD s 0) (r.getD t 0) := by
        rw [dist2_symm]
        have := sq_nonneg (l.getD (r.getD t 0 * 3 + 1) 0 - l.getD (r.getD s 0 * 3 + 1) 0)
        unfold dist2; omega
      exact .inl (by omega)
theorem ProgClos.row (h : ProgClos l n r u n a b f) (hn : 2 ≤ n) : ProgClos l n r (u + 1) (u + 2) a b f := by
  rcases h with ⟨_, _, _, _, h5⟩ | ⟨h3, h4, h5, h6⟩
  · omega
  · exact .inr ⟨h3, h4, h5, fun s t g1 g2 g3 => h6 s t g1 g2 (by omega)⟩
theorem ProgClos.done (h : ProgClos l n r u v a b f) (hr : ByX l n r) (hu : n ≤ u) (hn : 2 ≤ n) : ClosR l n a b f := by
  rcases h with ⟨_, _, _, h4, _⟩ | ⟨h3, h4, h5, h6⟩
  · omega
  · refine ⟨h3, h4, h5, fun a' b' g1 g2 => ?_⟩
    obtain ⟨s, hs, rfl⟩ := hr.2.1 a' (by omega)
    obtain ⟨t, ht, rfl⟩ := hr.2.1 b' g2
    rcases Nat.lt_trichotomy s t with g | g | g
    · have := h6 s t g ht (by omega)
      rwa [Nat.min_eq_left (by omega), Nat.max_eq_right (by omega)] at this
    · subst g; omega
    · have := h6 t s g hs (by omega)
      rwa [Nat.min_eq_right (by omega), Nat.max_eq_left (by omega), dist2_symm] at this
end
attribute [irreducible] dist2
end Go.Dam

/-
  Plain arithmetic of the sum of bytes, no program in sight: eight steps of one bit are one look into the table. Conditions: bounds on the numbers.
-/
namespace Go.Dam
set_option linter.unusedVariables false
open Go
def crcS (n : Nat) : Nat := if n % 2 = 1 then n / 2 ^^^ 3988292384 else n / 2
/-- So many steps. -/
def crcN : Nat → Nat → Nat
  | 0, n => n
  | k + 1, n => crcS (crcN k n)
/-- The sum after k bytes. -/
def crcTo (l : List Int) : Nat → Nat
  | 0 => 4294967295
  | k + 1 => crcN 8 (crcTo l k ^^^ (l.getD k 0).toNat)
theorem crcS_bit (n i : Nat) : (crcS n).testBit i = (n.testBit (i + 1) ^^ (n.testBit 0 && Nat.testBit 3988292384 i)) := by
  unfold crcS
  have h2 : (n / 2).testBit i = n.testBit (i + 1) := by rw [Nat.testBit_succ]
  split
  · rename_i h
    have : n.testBit 0 = true := by rw [Nat.testBit_zero]; simpa using h
    rw [Nat.testBit_xor, h2, this, Bool.true_and]
  · rename_i h
    have : n.testBit 0 = false := by rw [Nat.testBit_zero]; simpa using h
    rw [h2, this, Bool.false_and, Bool.xor_false]
theorem crcS_xor (a b : Nat) : crcS (a ^^^ b) = crcS a ^^^ crcS b := by
  apply Nat.eq_of_testBit_eq; intro i
  simp only [crcS_bit, Nat.testBit_xor]
  cases a.testBit (i + 1) <;> cases b.testBit (i + 1) <;> cases a.testBit 0 <;> cases b.testBit 0 <;> cases Nat.testBit 3988292384 i <;> rfl
theorem crcS_lt {n : Nat} (h : n < 4294967296) : crcS n < 4294967296 := by
  unfold crcS
  split
  · exact Nat.xor_lt_two_pow (n := 32) (by omega) (by omega)
  · omega
theorem crcN_lt {n : Nat} (h : n < 4294967296) : ∀ k, crcN k n < 4294967296
  | 0 => h
  | k + 1 => crcS_lt (crcN_lt h k)
theorem crcN_xor (a b : Nat) : ∀ k, crcN k (a ^^^ b) = crcN k a ^^^ crcN k b
  | 0 => rfl
  | k + 1 => by simp only [crcN, crcN_xor a b k, crcS_xor]
theorem crcS_even (q : Nat) : crcS (2 * q) = q := by
  unfold crcS
  rw [if_neg (by omega)]; omega
theorem crcN_high (k q : Nat) : crcN k (2 ^ k * q) = q := by
  induction k generalizing q with
  | zero => simp [crcN]
  | succ k ih =>
    rw [Nat.pow_succ, Nat.mul_assoc]
    simp only [crcN]
    rw [ih, crcS_even]
theorem split_xor (n x : Nat) (hx : x < 256) : n ^^^ x = (n % 256 ^^^ x) ^^^ 2 ^ 8 * (n / 256) := by
  apply Nat.eq_of_testBit_eq; intro i
  simp only [Nat.testBit_xor]
  have e : 2 ^ 8 * (n / 256) + n % 256 = n := by omega
  have h := Nat.testBit_two_pow_mul_add (n / 256) (show n % 256 < 2 ^ 8 by omega) i
  rw [e] at h
  have h2 := Nat.testBit_two_pow_mul_add (n / 256) (show 0 < 2 ^ 8 by omega) i
  rw [Nat.add_zero] at h2
  have hm : (n % 256).testBit i = (decide (i < 8) && n.testBit i) := Nat.testBit_mod_two_pow n 8 i
  rw [h2, h, hm]
  by_cases hi : i < 8
  · simp [hi, h]
  · simp [hi, Nat.testBit_lt_two_pow (Nat.lt_of_lt_of_le hx (Nat.pow_le_pow_right (by omega : 0 < 2) (by omega : 8 ≤ i)))]
theorem crc_table (n x : Nat) (hx : x < 256) : crcN 8 (n ^^^ x) = crcN 8 (n % 256 ^^^ x) ^^^ n / 256 := by
  rw [split_xor n x hx, crcN_xor, crcN_high]
theorem crcTo_lt {l : List Int} (hl : ∀ i, (l.getD i 0).toNat < 256) : ∀ k, crcTo l k < 4294967296
  | 0 => by simp [crcTo]
  | k + 1 => by
    have := hl k
    exact crcN_lt (Nat.xor_lt_two_pow (n := 32) (crcTo_lt hl k) (by omega)) 8
theorem crcS_odd {n : Nat} (h : n % 2 = 1) : crcS n = n / 2 ^^^ 3988292384 := if_pos h
theorem crcS_ev {n : Nat} (h : n % 2 = 0) : crcS n = n / 2 := if_neg (by omega)
theorem crcN_0 (n : Nat) : crcN 0 n = n := rfl
theorem crcN_succ (k n : Nat) : crcN (k + 1) n = crcS (crcN k n) := rfl
theorem crcTo_0 (l : List Int) : crcTo l 0 = 4294967295 := rfl
theorem crcTo_succ (l : List Int) (k : Nat) : crcTo l (k + 1) = crcN 8 (crcTo l k ^^^ (l.getD k 0).toNat) := rfl
theorem ofInt_n (n a : Nat) (ha : a < 2 ^ n) : (BitVec.ofInt n (a : Int)).toNat = a := by
  rw [BitVec.ofInt_natCast, BitVec.toNat_ofNat]; exact Nat.mod_eq_of_lt ha
theorem wrap_u32 (x : Int) : IntKind.u32.wrap x = x % 4294967296 := by simp [IntKind.wrap, IntKind.bits, IntKind.signed]
theorem wrap_u8 (x : Int) : IntKind.u8.wrap x = x % 256 := by simp [IntKind.wrap, IntKind.bits, IntKind.signed]
theorem xor_u32 (a b : Nat) (ha : a < 4294967296) (hb : b < 4294967296) : bits .xor .u32 (a : Int) (b : Int) = ((a ^^^ b : Nat) : Int) := by
  have hx : a ^^^ b < 2 ^ 32 := Nat.xor_lt_two_pow (by omega) (by omega)
  show IntKind.u32.wrap ((BitVec.ofInt 32 (a : Int) ^^^ BitVec.ofInt 32 (b : Int)).toNat : Int) = _
  rw [BitVec.toNat_xor, ofInt_n 32 a (by omega), ofInt_n 32 b (by omega), wrap_u32]
  omega
theorem not_u32 (a : Nat) (ha : a < 4294967296) : bits .xor .u32 IntKind.u32.max (a : Int) = ((4294967295 - a : Nat) : Int) := by
  have h := xor_u32 4294967295 a (by decide) ha
  have e : (4294967295 : Nat) ^^^ a = 4294967295 - a := by
    apply Nat.eq_of_testBit_eq; intro i
    rw [Nat.testBit_xor, show (4294967295 : Nat) - a = 2 ^ 32 - (a + 1) from by omega, Nat.testBit_two_pow_sub_succ (by omega), show (4294967295 : Nat) = 2 ^ 32 - 1 from rfl, Nat.testBit_two_pow_sub_one]
    by_cases hi : i < 32
    · simp [hi]
    · simp [hi]; exact Nat.testBit_lt_two_pow (Nat.lt_of_lt_of_le ha (Nat.pow_le_pow_right (by omega : 0 < 2) (by omega : 32 ≤ i)))
  rw [e] at h
  exact h
theorem xor_u8 (a b : Nat) (ha : a < 256) (hb : b < 256) : bits .xor .u8 (a : Int) (b : Int) = ((a ^^^ b : Nat) : Int) := by
  have hx : a ^^^ b < 2 ^ 8 := Nat.xor_lt_two_pow (by omega) (by omega)
  show IntKind.u8.wrap ((BitVec.ofInt 8 (a : Int) ^^^ BitVec.ofInt 8 (b : Int)).toNat : Int) = _
  rw [BitVec.toNat_xor, ofInt_n 8 a (by omega), ofInt_n 8 b (by omega), wrap_u8]
  omega
theorem and1_u32 (a : Nat) (ha : a < 4294967296) : bits .and .u32 (a : Int) 1 = ((a % 2 : Nat) : Int) := by
  show IntKind.u32.wrap ((BitVec.ofInt 32 (a : Int) &&& BitVec.ofInt 32 ((1 : Nat) : Int)).toNat : Int) = _
  rw [BitVec.toNat_and, ofInt_n 32 a (by omega), ofInt_n 32 1 (by decide), wrap_u32, Nat.and_one_is_mod]
  omega
theorem wf_u8c {x : Int} (h : (Lit.int .u8 x).wf = true) : 0 ≤ x ∧ x ≤ 255 := by
  simpa [Lit.wf, IntKind.min, IntKind.max, IntKind.signed, IntKind.bits] using h
theorem byte_at {l : List Int} (hw : ∀ z ∈ l, (Lit.int .u8 z).wf = true) (i : Nat) : 0 ≤ l.getD i 0 ∧ l.getD i 0 ≤ 255 := by
  rcases Nat.lt_or_ge i l.length with h | h
  · have : l.getD i 0 = l[i] := by simp [h]
    rw [this]; exact wf_u8c (hw _ (List.getElem_mem h))
  · simp [h]
theorem crc_odd {t : Nat} (ht : t < 4294967296) (h2 : t % 2 = 1) : bits .and .u32 (t : Int) 1 = 1 ∧ bits .xor .u32 ((t : Int) / 2) 3988292384 = ((crcS t : Nat) : Int) := by
  refine ⟨by rw [and1_u32 t ht, h2]; rfl, ?_⟩
  rw [crcS_odd h2]
  have := xor_u32 (t / 2) 3988292384 (by omega) (by decide)
  rw [← this]; congr 1
theorem crc_even {t : Nat} (ht : t < 4294967296) (h2 : t % 2 = 0) : bits .and .u32 (t : Int) 1 = 0 ∧ (t : Int) / 2 = ((crcS t : Nat) : Int) := by
  refine ⟨by rw [and1_u32 t ht, h2]; rfl, ?_⟩
  rw [crcS_ev h2]; omega
attribute [irreducible] crcS crcN crcTo
end Go.Dam

/-
  Plain facts of points as bytes, no program in sight: numbers in groups of seven bits, numbers folded, the bytes of an image. Conditions: bounds on the numbers.
-/
namespace Go.Dam
set_option linter.unusedVariables false
open Go
theorem wf_byte {z : Int} (h1 : 0 ≤ z) (h2 : z ≤ 255) : (Lit.int .u8 z).wf = true := by
  simp [Lit.wf, IntKind.min, IntKind.max, IntKind.signed, IntKind.bits]
  omega
/-- A number in groups of seven bits, the lowest first. -/
def sevL (n : Nat) : List Int := if n < 128 then [(n : Int)] else ((n % 128 + 128 : Nat) : Int) :: sevL (n / 128)
termination_by n
decreasing_by omega
theorem sevL_lo {n : Nat} (h : n < 128) : sevL n = [(n : Int)] := by rw [sevL, if_pos h]
theorem sevL_hi {n : Nat} (h : 128 ≤ n) : sevL n = ((n % 128 + 128 : Nat) : Int) :: sevL (n / 128) := by rw [sevL, if_neg (by omega)]
theorem sevL_len : ∀ k n : Nat, n < 128 ^ (k + 1) → (sevL n).length ≤ k + 1
  | 0, n, h => by rw [sevL_lo (by simpa using h)]; simp
  | k + 1, n, h => by
    by_cases g : n < 128
    · rw [sevL_lo g]; simp
    · rw [sevL_hi (by omega)]
      have := sevL_len k (n / 128) (by rw [Nat.div_lt_iff_lt_mul (by decide)]; rw [Nat.pow_succ] at h; exact h)
      simp only [List.length_cons]; omega
theorem sevL_len4 {n : Nat} (h : n ≤ 2097152) : (sevL n).length ≤ 4 := sevL_len 3 n (by omega)
theorem sevL_pos (n : Nat) : 1 ≤ (sevL n).length := by
  by_cases g : n < 128
  · rw [sevL_lo g]; simp
  · rw [sevL_hi (by omega)]; simp
theorem sevL_byte : ∀ k n : Nat, n ≤ k → ∀ z ∈ sevL n, 0 ≤ z ∧ z ≤ 255
  | k, n, h, z, hz => by
    by_cases g : n < 128
    · rw [sevL_lo g] at hz
      rw [List.mem_singleton.1 hz]; omega
    · rw [sevL_hi (by omega)] at hz
      rcases List.mem_cons.1 hz with e | e
      · rw [e]; omega
      · match k, h with
        | k + 1, h => exact sevL_byte k (n / 128) (by omega) z e
        | 0, h => omega
theorem sevL_wf (n : Nat) : ∀ z ∈ sevL n, (Lit.int .u8 z).wf = true := fun z hz => by
  obtain ⟨h1, h2⟩ := sevL_byte n n (Nat.le_refl _) z hz
  exact wf_byte h1 h2
/-- Numbers folded onto those that are not below 0. -/
def foldN (x : Int) : Nat := if x < 0 then (-2 * x - 1).toNat else (2 * x).toNat
theorem foldN_neg {x : Int} (h : x < 0) : ((foldN x : Nat) : Int) = -2 * x - 1 := by unfold foldN; rw [if_pos h]; omega
theorem foldN_pos {x : Int} (h : 0 ≤ x) : ((foldN x : Nat) : Int) = 2 * x := by unfold foldN; rw [if_neg (by omega)]; omega
theorem foldN_le {x : Int} (h1 : -1048576 ≤ x) (h2 : x ≤ 1048576) : foldN x ≤ 2097152 := by unfold foldN; split <;> omega
attribute [irreducible] foldN
/-- The bytes of the first numbers. -/
def numsL (l : List Int) : Nat → List Int
  | 0 => []
  | i + 1 => numsL l i ++ sevL (foldN (l.getD i 0))
theorem numsL_0 (l : List Int) : numsL l 0 = [] := rfl
theorem numsL_succ (l : List Int) (i : Nat) : numsL l (i + 1) = numsL l i ++ sevL (foldN (l.getD i 0)) := rfl
theorem numsL_len {l : List Int} : ∀ i, (∀ j, j < i → -1048576 ≤ l.getD j 0 ∧ l.getD j 0 ≤ 1048576) → (numsL l i).length ≤ 4 * i
  | 0, _ => by simp [numsL_0]
  | i + 1, h => by
    have h1 := numsL_len i fun j hj => h j (by omega)
    have h2 := sevL_len4 (foldN_le (h i (by omega)).1 (h i (by omega)).2)
    rw [numsL_succ, List.length_append]; omega
theorem numsL_wf (l : List Int) : ∀ i, ∀ z ∈ numsL l i, (Lit.int .u8 z).wf = true
  | 0, z, hz => by rw [numsL_0] at hz; cases hz
  | i + 1, z, hz => by
    rw [numsL_succ] at hz
    rcases List.mem_append.1 hz with e | e
    · exact numsL_wf l i z e
    · exact sevL_wf _ z e
attribute [irreducible] numsL
/-- The bytes ahead of the sum: a head, how many points, the numbers. -/
def bodyL (n : Nat) (l : List Int) (i : Nat) : List Int := [68, 65, 77, 49] ++ sevL n ++ numsL l i
theorem bodyL_0 (n : Nat) (l : List Int) : bodyL n l 0 = [68, 65, 77, 49] ++ sevL n := by unfold bodyL; rw [numsL_0, List.append_nil]
theorem bodyL_succ (n : Nat) (l : List Int) (i : Nat) : bodyL n l (i + 1) = bodyL n l i ++ sevL (foldN (l.getD i 0)) := by unfold bodyL; rw [numsL_succ, ← List.append_assoc]
theorem bodyL_len {n : Nat} {l : List Int} (hn : n ≤ 150) (i : Nat) (h : ∀ j, j < i → -1048576 ≤ l.getD j 0 ∧ l.getD j 0 ≤ 1048576) : (bodyL n l i).length ≤ 8 + 4 * i := by
  have h1 := sevL_len4 (n := n) (by omega)
  have h2 := numsL_len i h
  unfold bodyL
  simp only [List.length_append, List.length_cons, List.length_nil]
  omega
theorem bodyL_wf (n : Nat) (l : List Int) (i : Nat) : ∀ z ∈ bodyL n l i, (Lit.int .u8 z).wf = true := fun z hz => by
  unfold bodyL at hz
  rcases List.mem_append.1 hz with e | e
  · rcases List.mem_append.1 e with e | e
    · simp only [List.mem_cons, List.not_mem_nil, or_false] at e
      rcases e with rfl | rfl | rfl | rfl <;> rfl
    · exact sevL_wf _ z e
  · exact numsL_wf l i z e
attribute [irreducible] bodyL
/-- The sum's four bytes, the highest first. -/
def tailL (s : Nat) : List Int := [((s / 16777216 % 256 : Nat) : Int), ((s / 65536 % 256 : Nat) : Int), ((s / 256 % 256 : Nat) : Int), ((s % 256 : Nat) : Int)]
theorem tailL_wf (s : Nat) : ∀ z ∈ tailL s, (Lit.int .u8 z).wf = true := fun z hz => by
  have : 0 ≤ z ∧ z ≤ 255 := by
    unfold tailL at hz
    simp only [List.mem_cons, List.not_mem_nil, or_false] at hz
    rcases hz with rfl | rfl | rfl | rfl <;> omega
  exact wf_byte this.1 this.2
/-- The sum of bytes. -/
def sumL (l : List Int) : Nat := 4294967295 - crcTo l l.length
/-- The image of points. -/
def saveL (n : Nat) (l : List Int) : List Int := bodyL n l (n * 3) ++ tailL (sumL (bodyL n l (n * 3)))
attribute [irreducible] tailL sumL saveL
theorem sumL_eq (l : List Int) : sumL l = 4294967295 - crcTo l l.length := by unfold sumL; rfl
theorem saveL_eq (n : Nat) (l : List Int) : saveL n l = bodyL n l (n * 3) ++ tailL (sumL (bodyL n l (n * 3))) := by unfold saveL; rfl
theorem tailL_eq (s : Nat) : tailL s = [((s / 16777216 % 256 : Nat) : Int), ((s / 65536 % 256 : Nat) : Int), ((s / 256 % 256 : Nat) : Int), ((s % 256 : Nat) : Int)] := by unfold tailL; rfl
theorem saveL_wf (n : Nat) (l : List Int) : ∀ z ∈ saveL n l, (Lit.int .u8 z).wf = true := fun z hz => by
  rw [saveL_eq] at hz
  rcases List.mem_append.1 hz with e | e
  · exact bodyL_wf _ _ _ z e
  · exact tailL_wf _ z e
theorem saveL_len {n : Nat} {l : List Int} (hn : n ≤ 150) (h : ∀ j, j < n * 3 → -1048576 ≤ l.getD j 0 ∧ l.getD j 0 ≤ 1048576) : (saveL n l).length ≤ 1812 := by
  have := bodyL_len hn (n * 3) h
  rw [saveL_eq, List.length_append, tailL_eq]
  simp only [List.length_cons, List.length_nil]
  omega
end Go.Dam

/-
  Plain facts of reading numbers back out of groups of seven bits, no program in sight. Conditions: bounds on the bytes.
-/
namespace Go.Dam
set_option linter.unusedVariables false
open Go
/-- No group of bytes is the beginning of another one. -/
theorem sevL_free : ∀ k a c : Nat, ∀ x y : List Int, a ≤ k → sevL a ++ x = sevL c ++ y → a = c ∧ x = y := by
  intro k
  induction k using Nat.strongRecOn with
  | _ k ih =>
    intro a c x y hk h
    by_cases ha : a < 128
    · rw [sevL_lo ha] at h
      by_cases hc : c < 128
      · rw [sevL_lo hc] at h
        simp only [List.cons_append, List.nil_append, List.cons.injEq] at h
        exact ⟨by omega, h.2⟩
      · rw [sevL_hi (show 128 ≤ c by omega)] at h
        simp only [List.cons_append, List.nil_append, List.cons.injEq] at h
        omega
    · rw [sevL_hi (show 128 ≤ a by omega)] at h
      by_cases hc : c < 128
      · rw [sevL_lo hc] at h
        simp only [List.cons_append, List.nil_append, List.cons.injEq] at h
        omega
      · rw [sevL_hi (show 128 ≤ c by omega)] at h
        simp only [List.cons_append, List.cons.injEq] at h
        obtain ⟨h1, h2⟩ := ih (a / 128) (by omega) (a / 128) (c / 128) x y (Nat.le_refl _) h.2
        exact ⟨by omega, h2⟩
/-- The number that the first groups make. -/
def valL (r : List Int) : Nat → Nat
  | 0 => 0
  | i + 1 => valL r i + (r.getD i 0).toNat % 128 * 128 ^ i
theorem valL_0 (r : List Int) : valL r 0 = 0 := rfl
theorem valL_succ (r : List Int) (i : Nat) : valL r (i + 1) = valL r i + (r.getD i 0).toNat % 128 * 128 ^ i := rfl
theorem valL_lt (r : List Int) : ∀ i, valL r i < 128 ^ i
  | 0 => by simp [valL_0]
  | i + 1 => by
    have h := valL_lt r i
    have h2 : (r.getD i 0).toNat % 128 ≤ 127 := by omega
    have h3 : (r.getD i 0).toNat % 128 * 128 ^ i ≤ 127 * 128 ^ i := Nat.mul_le_mul_right _ h2
    rw [valL_succ, Nat.pow_succ]; omega
theorem valL_cons (b : Int) (r : List Int) : ∀ i, valL (b :: r) (i + 1) = b.toNat % 128 + 128 * valL r i
  | 0 => by rw [valL_succ, valL_0, valL_0]; simp
  | i + 1 => by
    rw [valL_succ, valL_cons b r i, valL_succ, List.getD_cons_succ, Nat.pow_succ, Nat.mul_add, Nat.mul_comm (128 ^ i) 128, ← Nat.mul_assoc, Nat.mul_comm _ 128, Nat.mul_assoc 128]
    omega
theorem valL_pos (r : List Int) (i : Nat) (h : 0 < (r.getD i 0).toNat % 128) : 0 < valL r (i + 1) := by
  rw [valL_succ]
  have : 0 < (r.getD i 0).toNat % 128 * 128 ^ i := Nat.mul_pos h (Nat.pow_pos (by decide))
  omega
/-- Groups that go on, and one that ends and is not needless. -/
theorem sevL_val : ∀ (i : Nat) (r : List Int), i < r.length → (∀ z ∈ r, 0 ≤ z ∧ z ≤ 255) → (∀ j, j < i → 128 ≤ r.getD j 0) → r.getD i 0 < 128 → (i = 0 ∨ 0 < r.getD i 0) → sevL (valL r (i + 1)) = r.take (i + 1)
  | _, [], h, _, _, _, _ => absurd h (by simp)
  | 0, b :: r, _, hb, _, hlo, _ => by
    have h1 := hb b (by simp)
    simp only [List.getD_cons_zero] at hlo
    rw [valL_cons, valL_0, sevL_lo (by omega)]
    simp only [List.take_succ_cons, List.take_zero, List.cons.injEq, and_true]
    omega
  | i + 1, b :: r, hi, hb, hhi, hlo, hnz => by
    have h1 := hb b (by simp)
    have h0 := hhi 0 (by omega)
    simp only [List.getD_cons_zero] at h0
    rw [List.getD_cons_succ] at hlo hnz
    have hnz' : 0 < r.getD i 0 := by rcases hnz with h | h; exact absurd h (by omega); exact h
    have hpos := valL_pos r i (by omega)
    have ih := sevL_val i r (by simpa using hi) (fun z hz => hb z (by simp [hz])) (fun j hj => by have := hhi (j + 1) (by omega); rwa [List.getD_cons_succ] at this) hlo (.inr hnz')
    rw [valL_cons, sevL_hi (by omega), show (b.toNat % 128 + 128 * valL r (i + 1)) / 128 = valL r (i + 1) from by omega, ih, List.take_succ_cons]
    congr 1
    omega
/-- The bytes of a number: all go on but the last one, which is not needless. -/
theorem sevL_form : ∀ k n : Nat, n ≤ k → ∃ p, (sevL n).length = p + 1 ∧ (∀ j, j < p → 128 ≤ (sevL n).getD j 0) ∧ (sevL n).getD p 0 < 128 ∧ (p = 0 ∨ 0 < (sevL n).getD p 0) := by
  intro k
  induction k using Nat.strongRecOn with
  | _ k ih =>
    intro n hn
    by_cases h : n < 128
    · rw [sevL_lo h]
      exact ⟨0, rfl, fun j hj => absurd hj (by omega), by simp only [List.getD_cons_zero]; omega, .inl rfl⟩
    · obtain ⟨p, h1, h2, h3, h4⟩ := ih (n / 128) (by omega) (n / 128) (Nat.le_refl _)
      rw [sevL_hi (by omega)]
      refine ⟨p + 1, by rw [List.length_cons, h1], fun j hj => ?_, by rw [List.getD_cons_succ]; exact h3, .inr ?_⟩
      · match j with
        | 0 => rw [List.getD_cons_zero]; omega
        | j + 1 => rw [List.getD_cons_succ]; exact h2 j (by omega)
      · rw [List.getD_cons_succ]
        rcases h4 with h4 | h4
        · subst h4
          have hl : (n / 128) < 128 := by
            by_cases g : n / 128 < 128
            · exact g
            · exfalso
              rw [sevL_hi (show 128 ≤ n / 128 by omega)] at h1
              have := sevL_pos (n / 128 / 128)
              simp only [List.length_cons] at h1
              omega
          rw [sevL_lo hl, List.getD_cons_zero]
          omega
        · exact h4
/-- A number can be read at the beginning of the bytes: in at most four of them. -/
def GetR (r : List Int) (m : Nat) (rest : List Int) : Prop := r = sevL m ++ rest ∧ (sevL m).length ≤ 4
theorem GetR.uniq {r : List Int} {m m' : Nat} {rest rest' : List Int} (h : GetR r m rest) (g : GetR r m' rest') : m = m' ∧ rest = rest' := sevL_free m m m' rest rest' (Nat.le_refl _) (h.1.symm.trans g.1)
theorem getD_app_left {l m : List Int} {j : Nat} (h : j < l.length) : (l ++ m).getD j 0 = l.getD j 0 := by
  rw [List.getD_eq_getElem?_getD, List.getElem?_append_left h, ← List.getD_eq_getElem?_getD]
/-- Bytes that begin with a number: the first one that ends is not needless, and comes among the first four. -/
theorem GetR.form {r : List Int} {m : Nat} {rest : List Int} (h : GetR r m rest) : ∃ p, p < 4 ∧ p < r.length ∧ (∀ j, j < p → 128 ≤ r.getD j 0) ∧ r.getD p 0 < 128 ∧ (p = 0 ∨ 0 < r.getD p 0) := by
  obtain ⟨p, h1, h2, h3, h4⟩ := sevL_form m m (Nat.le_refl _)
  obtain ⟨rfl, h6⟩ := h
  refine ⟨p, by omega, by rw [List.length_append]; omega, fun j hj => ?_, ?_, ?_⟩
  · rw [getD_app_left (by omega)]; exact h2 j hj
  · rw [getD_app_left (by omega)]; exact h3
  · rw [getD_app_left (by omega)]; exact h4
theorem getR_yes {r : List Int} {i : Nat} (hb : ∀ z ∈ r, 0 ≤ z ∧ z ≤ 255) (hi : i < r.length) (h4 : i < 4) (hhi : ∀ j, j < i → 128 ≤ r.getD j 0) (hlo : r.getD i 0 < 128) (hnz : i = 0 ∨ 0 < r.getD i 0) : GetR r (valL r (i + 1)) (r.drop (i + 1)) := by
  have h := sevL_val i r hi hb hhi hlo hnz
  exact ⟨by rw [h, List.take_append_drop], by rw [h, List.length_take]; omega⟩
theorem getR_needless {r : List Int} {i : Nat} (hi : i < r.length) (hhi : ∀ j, j < i → 128 ≤ r.getD j 0) (hlo : r.getD i 0 < 128) (hz : i ≠ 0 ∧ r.getD i 0 ≤ 0) (m : Nat) (rest : List Int) : ¬ GetR r m rest := fun h => by
  obtain ⟨p, _, h2, h3, h4, h5⟩ := h.form
  rcases Nat.lt_trichotomy p i with c | c | c
  · have := hhi p c; omega
  · subst c; omega
  · have := h3 i c; omega
theorem getR_long {r : List Int} {i : Nat} (hi : i = 4 ∨ i = r.length) (hhi : ∀ j, j < i → 128 ≤ r.getD j 0) (m : Nat) (rest : List Int) : ¬ GetR r m rest := fun h => by
  obtain ⟨p, h1, h2, h3, h4, h5⟩ := h.form
  have : p < i := by omega
  have := hhi p this
  omega
/-- Folded numbers, back. -/
def unfoldN (m : Nat) : Int := if m % 2 = 1 then -((m + 1 : Nat) : Int) / 2 else ((m / 2 : Nat) : Int)
theorem unfoldN_odd {m : Nat} (h : m % 2 = 1) : unfoldN m = -((m / 2 + 1 : Nat) : Int) := by unfold unfoldN; rw [if_pos h]; omega
theorem unfoldN_even {m : Nat} (h : m % 2 ≠ 1) : unfoldN m = ((m / 2 : Nat) : Int) := by unfold unfoldN; rw [if_neg h]
attribute [irreducible] unfoldN
theorem fold_unfold (m : Nat) : foldN (unfoldN m) = m := by
  by_cases h : m % 2 = 1
  · have e := unfoldN_odd h
    have := foldN_neg (x := unfoldN m) (by omega)
    omega
  · have e := unfoldN_even h
    have := foldN_pos (x := unfoldN m) (by omega)
    omega
theorem unfold_fold (x : Int) : unfoldN (foldN x) = x := by
  by_cases h : x < 0
  · have e := foldN_neg h
    have := unfoldN_odd (m := foldN x) (by omega)
    omega
  · have e := foldN_pos (x := x) (by omega)
    have := unfoldN_even (m := foldN x) (by omega)
    omega
attribute [irreducible] valL
end Go.Dam

/-
  Plain laws of the image of points, no program in sight: at most one list of points has an image; a reading of it number by number finds that list. Conditions: bounds on the numbers.
-/
namespace Go.Dam
set_option linter.unusedVariables false
open Go
/-- The bytes of numbers from one on. -/
def numsT (l : List Int) : Nat → Nat → List Int
  | _, 0 => []
  | i, d + 1 => sevL (foldN (l.getD i 0)) ++ numsT l (i + 1) d
theorem numsT_0 (l : List Int) (i : Nat) : numsT l i 0 = [] := rfl
theorem numsT_succ (l : List Int) (i d : Nat) : numsT l i (d + 1) = sevL (foldN (l.getD i 0)) ++ numsT l (i + 1) d := rfl
theorem numsL_split (l : List Int) : ∀ d i, numsL l (i + d) = numsL l i ++ numsT l i d
  | 0, i => by rw [numsT_0, List.append_nil]; rfl
  | d + 1, i => by
    have := numsL_split l d (i + 1)
    rw [numsL_succ, List.append_assoc, ← numsT_succ] at this
    rw [← this]; congr 1; omega
/-- Two readings of the same bytes go along with each other. -/
theorem nums_sync {o l : List Int} {k : Nat} : ∀ i (rest : List Int), i ≤ k → numsL o i ++ rest = numsL l k → (∀ j, j < i → o.getD j 0 = l.getD j 0) ∧ rest = numsT l i (k - i)
  | 0, rest, _, h => by
    refine ⟨fun j hj => absurd hj (by omega), ?_⟩
    rw [numsL_0, List.nil_append] at h
    have := numsL_split l k 0
    rw [Nat.zero_add, numsL_0, List.nil_append] at this
    rw [h, this]; rfl
  | i + 1, rest, hi, h => by
    rw [numsL_succ, List.append_assoc] at h
    obtain ⟨h1, h2⟩ := nums_sync i _ (by omega) h
    rw [show k - i = (k - (i + 1)) + 1 from by omega, numsT_succ] at h2
    obtain ⟨e1, e2⟩ := sevL_free _ _ _ _ _ (Nat.le_refl _) h2
    refine ⟨fun j hj => ?_, e2⟩
    by_cases g : j = i
    · rw [g]
      have := congrArg unfoldN e1
      rwa [unfold_fold, unfold_fold] at this
    · exact h1 j (by omega)
/-- The coordinates may be. -/
def CoordsOk (n : Nat) (l : List Int) : Prop := ∀ j, j < n * 3 → -1048576 ≤ l.getD j 0 ∧ l.getD j 0 ≤ 1048576
/-- The bytes are the image of these points. -/
def Loads (b : List Int) (n : Nat) (l : List Int) : Prop := n ≤ 150 ∧ l.length = n * 3 ∧ CoordsOk n l ∧ b = saveL n l
theorem body_eq (n : Nat) (l : List Int) (i : Nat) : bodyL n l i = [68, 65, 77, 49] ++ (sevL n ++ numsL l i) := by unfold bodyL; rw [List.append_assoc]
theorem tailL_len (s : Nat) : (tailL s).length = 4 := by rw [tailL_eq]; rfl
theorem Loads.body {b : List Int} {n : Nat} {l : List Int} (h : Loads b n l) : b.take (b.length - 4) = bodyL n l (n * 3) ∧ b.drop (b.length - 4) = tailL (sumL (bodyL n l (n * 3))) := by
  obtain ⟨_, _, _, rfl⟩ := h
  rw [saveL_eq, List.length_append, tailL_len]
  rw [show (bodyL n l (n * 3)).length + 4 - 4 = (bodyL n l (n * 3)).length from by omega]
  exact ⟨List.take_left, List.drop_left⟩
theorem Loads.len {b : List Int} {n : Nat} {l : List Int} (h : Loads b n l) : 9 ≤ b.length := by
  obtain ⟨_, _, _, rfl⟩ := h
  rw [saveL_eq, List.length_append, tailL_len, body_eq]
  have := sevL_pos n
  simp only [List.length_append, List.length_cons, List.length_nil]
  omega
theorem loads_mk {b : List Int} {n : Nat} {l : List Int} (hn : n ≤ 150) (hl : l.length = n * 3) (hc : CoordsOk n l) (h1 : b.take (b.length - 4) = bodyL n l (n * 3)) (h2 : b.drop (b.length - 4) = tailL (sumL (bodyL n l (n * 3)))) : Loads b n l :=
  ⟨hn, hl, hc, by rw [saveL_eq, ← h2, ← h1, List.take_append_drop]⟩
/-- Four bytes that make the sum are those of the sum. -/
def sum4 (b : List Int) (k : Nat) : Int := ((b.getD k 0 * 256 + b.getD (k + 1) 0) * 256 + b.getD (k + 2) 0) * 256 + b.getD (k + 3) 0
theorem sum4_tail {b : List Int} (hb : ∀ z ∈ b, 0 ≤ z ∧ z ≤ 255) (h : 4 ≤ b.length) {s : Nat} (hs : sum4 b (b.length - 4) = s) : b.drop (b.length - 4) = tailL s := by
  obtain ⟨k, hk⟩ : ∃ k, b.length = k + 4 := ⟨b.length - 4, by omega⟩
  rw [show b.length - 4 = k from by omega] at hs ⊢
  have hd : b.drop k = [b.getD k 0, b.getD (k + 1) 0, b.getD (k + 2) 0, b.getD (k + 3) 0] := by
    apply List.ext_getElem
    · rw [List.length_drop]; simp; omega
    · intro i h1 h2
      rw [List.getElem_drop]
      simp only [List.length_cons, List.length_nil] at h2
      match i, h2 with
      | 0, _ => simp [List.getD_eq_getElem?_getD, List.getElem?_eq_getElem (show k < b.length by omega)]
      | 1, _ => simp [List.getD_eq_getElem?_getD, List.getElem?_eq_getElem (show k + 1 < b.length by omega)]
      | 2, _ => simp [List.getD_eq_getElem?_getD, List.getElem?_eq_getElem (show k + 2 < b.length by omega)]
      | 3, _ => simp [List.getD_eq_getElem?_getD, List.getElem?_eq_getElem (show k + 3 < b.length by omega)]
  have hr : ∀ i, i < b.length → 0 ≤ b.getD i 0 ∧ b.getD i 0 ≤ 255 := fun i hi => by
    rw [List.getD_eq_getElem?_getD, List.getElem?_eq_getElem hi]
    exact hb _ (List.getElem_mem hi)
  have r0 := hr k (by omega)
  have r1 := hr (k + 1) (by omega)
  have r2 := hr (k + 2) (by omega)
  have r3 := hr (k + 3) (by omega)
  unfold sum4 at hs
  rw [hd, tailL_eq]
  simp only [List.cons.injEq, and_true]
  omega
theorem tail_sum4 {b : List Int} (h : 4 ≤ b.length) {s : Nat} (h32 : s < 4294967296) (hs : b.drop (b.length - 4) = tailL s) : sum4 b (b.length - 4) = s := by
  have key : ∀ i, i < 4 → b.getD (b.length - 4 + i) 0 = (tailL s).getD i 0 := fun i hi => by
    rw [← hs, List.getD_eq_getElem?_getD, List.getD_eq_getElem?_getD, List.getElem?_drop]
  have k0 := key 0 (by omega)
  have k1 := key 1 (by omega)
  have k2 := key 2 (by omega)
  have k3 := key 3 (by omega)
  rw [tailL_eq] at k0 k1 k2 k3
  simp only [List.getD_cons_zero, List.getD_cons_succ, Nat.add_zero] at k0 k1 k2 k3
  unfold sum4
  rw [k0, k1, k2, k3]
  omega
theorem sumL_lt (l : List Int) : sumL l < 4294967296 := by rw [sumL_eq]; omega
theorem Loads.sum {b : List Int} {n : Nat} {l : List Int} (h : Loads b n l) : sum4 b (b.length - 4) = sumL (b.take (b.length - 4)) := by
  rw [h.body.1]
  exact tail_sum4 (by have := h.len; omega) (sumL_lt _) h.body.2
theorem loads_of {b : List Int} {n : Nat} {l : List Int} (hb : ∀ z ∈ b, 0 ≤ z ∧ z ≤ 255) (h4 : 4 ≤ b.length) (hn : n ≤ 150) (hl : l.length = n * 3) (hc : CoordsOk n l) (h1 : b.take (b.length - 4) = bodyL n l (n * 3)) (hs : sum4 b (b.length - 4) = sumL (b.take (b.length - 4))) : Loads b n l :=
  loads_mk hn hl hc h1 (by rw [h1] at hs; exact sum4_tail hb h4 hs)
/-- What is known while numbers are read: those that were read, and what is left. -/
theorem Loads.at_ {b : List Int} {n n' : Nat} {l o : List Int} {i : Nat} {rest : List Int} (h : Loads b n' l) (hb : b.take (b.length - 4) = bodyL n o i ++ rest) (hi : i ≤ n * 3) : n = n' ∧ (∀ j, j < i → o.getD j 0 = l.getD j 0) ∧ rest = numsT l i (n * 3 - i) := by
  rw [h.body.1, body_eq, body_eq, List.append_assoc, List.append_assoc] at hb
  have h1 := List.append_cancel_left hb
  obtain ⟨e1, e2⟩ := sevL_free _ _ _ _ _ (Nat.le_refl _) h1
  subst e1
  have := nums_sync i rest hi e2.symm
  exact ⟨rfl, this⟩
theorem Loads.uniq {b : List Int} {n n' : Nat} {l l' : List Int} (h : Loads b n l) (g : Loads b n' l') : n = n' ∧ l = l' := by
  have := g.at_ (n := n) (o := l) (i := n * 3) (rest := []) (by rw [h.body.1, List.append_nil]) (Nat.le_refl _)
  obtain ⟨rfl, h2, _⟩ := this
  refine ⟨rfl, List.ext_getElem (by rw [h.2.1, g.2.1]) fun i h1 h3 => ?_⟩
  have := h2 i (by rw [← h.2.1]; exact h1)
  rw [List.getD_eq_getElem?_getD, List.getD_eq_getElem?_getD, List.getElem?_eq_getElem h1, List.getElem?_eq_getElem h3] at this
  simpa using this
/-- What Load answers: points, and a code. -/
def LoadR (b : List Int) (n : Nat) (l : List Int) (c : Int) : Prop :=
  (b.length < 9 ∧ n = 0 ∧ l = [] ∧ c = 5) ∨ (9 ≤ b.length ∧ sum4 b (b.length - 4) ≠ sumL (b.take (b.length - 4)) ∧ n = 0 ∧ l = [] ∧ c = 6) ∨
  (9 ≤ b.length ∧ sum4 b (b.length - 4) = sumL (b.take (b.length - 4)) ∧ ((Loads b n l ∧ c = 0) ∨ ((∀ n' l', ¬ Loads b n' l') ∧ n = 0 ∧ l = [] ∧ c = 4)))
theorem LoadR.ex (b : List Int) : ∃ n l c, LoadR b n l c := by
  by_cases h : b.length < 9
  · exact ⟨_, _, _, .inl ⟨h, rfl, rfl, rfl⟩⟩
  · by_cases h2 : sum4 b (b.length - 4) = sumL (b.take (b.length - 4))
    · by_cases h3 : ∃ n l, Loads b n l
      · obtain ⟨n, l, h3⟩ := h3
        exact ⟨_, _, _, .inr (.inr ⟨by omega, h2, .inl ⟨h3, rfl⟩⟩)⟩
      · exact ⟨_, _, _, .inr (.inr ⟨by omega, h2, .inr ⟨fun n l g => h3 ⟨n, l, g⟩, rfl, rfl, rfl⟩⟩)⟩
    · exact ⟨_, _, _, .inr (.inl ⟨by omega, h2, rfl, rfl, rfl⟩)⟩
end Go.Dam
