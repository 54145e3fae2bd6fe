/-
  Plain facts of reading all numbers of an image, one behind the other, no program in sight. Conditions: bounds on the bytes.
-/
import Derived.Test.YtaipnjoeejgnnaaLoadLaw
namespace Go.Dam
set_option linter.unusedVariables false
open Go
/-- The numbers that were read, what was read of the next one, and where its next bits go. -/
def pz (c : List Int) : Nat → List Nat × Nat × Nat
  | 0 => ([], 0, 0)
  | t + 1 => if (c.getD t 0).toNat < 128 then ((pz c t).1 ++ [(pz c t).2.1 + (c.getD t 0).toNat % 128 * 2 ^ (pz c t).2.2], 0, 0) else ((pz c t).1, (pz c t).2.1 + (c.getD t 0).toNat % 128 * 2 ^ (pz c t).2.2, (pz c t).2.2 + 7)
theorem pz_0 (c : List Int) : pz c 0 = ([], 0, 0) := rfl
theorem pz_lo {c : List Int} {t : Nat} {ns : List Nat} {v s : Nat} (h : pz c t = (ns, v, s)) (hx : (c.getD t 0).toNat < 128) : pz c (t + 1) = (ns ++ [v + (c.getD t 0).toNat % 128 * 2 ^ s], 0, 0) := by rw [pz, if_pos hx, h]
theorem pz_hi {c : List Int} {t : Nat} {ns : List Nat} {v s : Nat} (h : pz c t = (ns, v, s)) (hx : ¬ (c.getD t 0).toNat < 128) : pz c (t + 1) = (ns, v + (c.getD t 0).toNat % 128 * 2 ^ s, s + 7) := by rw [pz, if_neg hx, h]
attribute [irreducible] pz
theorem getD_drop {c r : List Int} {t : Nat} {x : Int} (h : c.drop t = x :: r) : c.getD t 0 = x ∧ c.drop (t + 1) = r := by
  constructor
  · have : (c.drop t).getD 0 0 = x := by rw [h]; rfl
    rw [List.getD_eq_getElem?_getD, List.getElem?_drop, Nat.add_zero, ← List.getD_eq_getElem?_getD] at this
    exact this
  · rw [← List.drop_drop, h]; rfl
/-- A number that lies ahead is read. -/
theorem pz_sev {c : List Int} : ∀ k m t : Nat, ∀ (rest : List Int) (ns : List Nat) (v s : Nat), m ≤ k → c.drop t = sevL m ++ rest → pz c t = (ns, v, s) →
    pz c (t + (sevL m).length) = (ns ++ [v + m * 2 ^ s], 0, 0) ∧ c.drop (t + (sevL m).length) = rest ∧ ∀ j, j < (sevL m).length → (pz c (t + j)).2.2 = s + 7 * j := by
  intro k
  induction k using Nat.strongRecOn with
  | _ k ih =>
    intro m t rest ns v s hm hd hp
    by_cases h : m < 128
    · rw [sevL_lo h] at hd ⊢
      obtain ⟨h1, h2⟩ := getD_drop (by rw [hd]; rfl : c.drop t = (m : Int) :: rest)
      have hx : (c.getD t 0).toNat = m := by rw [h1]; omega
      have hs := pz_lo hp (by rw [hx]; exact h)
      rw [hx, Nat.mod_eq_of_lt h] at hs
      refine ⟨hs, h2, fun j hj => ?_⟩
      have : j = 0 := by simpa using hj
      rw [this, Nat.add_zero, hp]
      simp
    · rw [sevL_hi (by omega)] at hd ⊢
      obtain ⟨h1, h2⟩ := getD_drop (by rw [hd]; rfl : c.drop t = ((m % 128 + 128 : Nat) : Int) :: (sevL (m / 128) ++ rest))
      have hx : (c.getD t 0).toNat = m % 128 + 128 := by rw [h1]; omega
      have hs := pz_hi hp (by rw [hx]; omega)
      rw [hx, show (m % 128 + 128) % 128 = m % 128 from by omega] at hs
      obtain ⟨e1, e2, e3⟩ := ih (m / 128) (by omega) (m / 128) (t + 1) rest ns _ _ (Nat.le_refl _) h2 hs
      rw [List.length_cons, show t + ((sevL (m / 128)).length + 1) = t + 1 + (sevL (m / 128)).length from by omega]
      refine ⟨?_, e2, fun j hj => ?_⟩
      · rw [e1]
        have : v + m % 128 * 2 ^ s + m / 128 * 2 ^ (s + 7) = v + m * 2 ^ s := by
          rw [Nat.pow_add, ← Nat.mul_assoc, Nat.mul_right_comm, show (2 : Nat) ^ 7 = 128 from rfl, Nat.add_assoc, ← Nat.add_mul]
          congr 2; omega
        rw [this]
      · match j with
        | 0 => rw [Nat.add_zero, hp]; simp
        | j + 1 =>
          have := e3 j (by omega)
          rw [show t + (j + 1) = t + 1 + j from by omega, this]; omega
/-- The folded numbers from one on. -/
def foldsL (l : List Int) : Nat → Nat → List Nat
  | _, 0 => []
  | i, d + 1 => foldN (l.getD i 0) :: foldsL l (i + 1) d
theorem foldsL_len (l : List Int) : ∀ d i, (foldsL l i d).length = d
  | 0, _ => rfl
  | d + 1, i => by rw [foldsL, List.length_cons, foldsL_len l d]
theorem foldsL_at (l : List Int) : ∀ d i j, j < d → (foldsL l i d).getD j 0 = foldN (l.getD (i + j) 0)
  | 0, _, _, h => absurd h (by omega)
  | d + 1, i, 0, _ => rfl
  | d + 1, i, j + 1, h => by rw [foldsL, List.getD_cons_succ, foldsL_at l d (i + 1) j (by omega)]; congr 2; omega
theorem pz_nums {c l : List Int} : ∀ d i t : Nat, ∀ ns : List Nat, c.drop t = numsT l i d → pz c t = (ns, 0, 0) → (∀ j, i ≤ j → j < i + d → (sevL (foldN (l.getD j 0))).length ≤ 4) →
    pz c (t + (numsT l i d).length) = (ns ++ foldsL l i d, 0, 0) ∧ ∀ j, j < (numsT l i d).length → (pz c (t + j)).2.2 ≤ 28
  | 0, i, t, ns, hd, hp, hl => by rw [numsT_0]; exact ⟨by simpa [foldsL] using hp, fun j hj => absurd hj (by simp)⟩
  | d + 1, i, t, ns, hd, hp, hl => by
    rw [numsT_succ] at hd ⊢
    obtain ⟨e1, e2, e3⟩ := pz_sev _ _ _ _ _ _ _ (Nat.le_refl _) hd hp
    have h4 := hl i (Nat.le_refl _) (by omega)
    rw [Nat.zero_add, Nat.pow_zero, Nat.mul_one] at e1
    obtain ⟨f1, f2⟩ := pz_nums d (i + 1) _ _ e2 e1 fun j h1 h2 => hl j (by omega) (by omega)
    rw [List.length_append]
    refine ⟨by rw [← Nat.add_assoc, f1, List.append_assoc]; rfl, fun j hj => ?_⟩
    rcases Nat.lt_or_ge j (sevL (foldN (l.getD i 0))).length with g | g
    · rw [e3 j g]; omega
    · have := f2 (j - (sevL (foldN (l.getD i 0))).length) (by omega)
      rwa [show t + (sevL (foldN (l.getD i 0))).length + (j - (sevL (foldN (l.getD i 0))).length) = t + j from by omega] at this
/-- The bytes between the head and the sum. -/
def midL (b : List Int) : List Int := (b.take (b.length - 4)).drop 4
theorem Loads.mid {b : List Int} {n : Nat} {l : List Int} (h : Loads b n l) : midL b = sevL n ++ numsT l 0 (n * 3) := by
  unfold midL
  rw [h.body.1, body_eq]
  have := numsL_split l (n * 3) 0
  rw [Nat.zero_add, numsL_0, List.nil_append] at this
  rw [← this]; rfl
/-- An image is read to its numbers. -/
theorem Loads.parse {b : List Int} {n : Nat} {l : List Int} (h : Loads b n l) : pz (midL b) (midL b).length = (n :: foldsL l 0 (n * 3), 0, 0) ∧ ∀ j, j < (midL b).length → (pz (midL b) j).2.2 ≤ 28 := by
  have hm := h.mid
  obtain ⟨e1, e2, e3⟩ := pz_sev (c := midL b) n n 0 (numsT l 0 (n * 3)) [] 0 0 (Nat.le_refl _) (by rw [List.drop_zero, hm]) (pz_0 _)
  have h4 := sevL_len4 (n := n) (by have := h.1; omega)
  rw [Nat.zero_add, Nat.zero_add, Nat.pow_zero, Nat.mul_one, List.nil_append] at e1
  rw [Nat.zero_add] at e2
  obtain ⟨f1, f2⟩ := pz_nums (c := midL b) (n * 3) 0 _ [n] e2 e1 fun j h1 h2 => sevL_len4 (foldN_le (h.2.2.1 j (by omega)).1 (h.2.2.1 j (by omega)).2)
  have hlen : (midL b).length = (sevL n).length + (numsT l 0 (n * 3)).length := by rw [hm, List.length_append]
  rw [hlen]
  refine ⟨f1, fun j hj => ?_⟩
  rcases Nat.lt_or_ge j (sevL n).length with g | g
  · have := e3 j g
    rw [Nat.zero_add] at this
    rw [this]; omega
  · have := f2 (j - (sevL n).length) (by omega)
    rwa [show (sevL n).length + (j - (sevL n).length) = j from by omega] at this
/-- The points of numbers. -/
def halvesL (ns : List Nat) : List Int := (ns.drop 1).map unfoldN
theorem halves_folds (n : Nat) (l : List Int) (k : Nat) (hl : l.length = k) : halvesL (n :: foldsL l 0 k) = l := by
  unfold halvesL
  apply List.ext_getElem
  · simp [foldsL_len, hl]
  · intro i h1 h2
    have h3 := foldsL_at l k 0 i (by omega)
    simp only [List.drop_succ_cons, List.drop_zero, List.getElem_map]
    rw [List.getD_eq_getElem?_getD, List.getElem?_eq_getElem (by rw [foldsL_len]; omega), Nat.zero_add, List.getD_eq_getElem?_getD, List.getElem?_eq_getElem h2] at h3
    simp only [Option.getD_some] at h3
    rw [h3, unfold_fold]
attribute [irreducible] foldsL
end Go.Dam
