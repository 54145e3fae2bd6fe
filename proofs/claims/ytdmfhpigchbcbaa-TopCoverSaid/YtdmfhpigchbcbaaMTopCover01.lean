/-
  Texts of one claim behind each other. Conditions: none of its own.
-/
import Derived.Test.YtdmfhpigchbcbaaMTopCover00
/-
  Plain facts of reading numbers back out of groups of seven bits, no program in sight. Conditions: bounds on the bytes.
-/
namespace Go.Dam
set_option linter.unusedVariables false
open Go
/-- No group of bytes is the beginning of another one. -/
theorem sevL_free : ∀ k a c : Nat, ∀ x y : List Int, a ≤ k → sevL a ++ x = sevL c ++ y → a = c ∧ x = y := by
  intro k
  induction k using Nat.strongRecOn with
  | _ k ih =>
    intro a c x y hk h
    by_cases ha : a < 128
    · rw [sevL_lo ha] at h
      by_cases hc : c < 128
      · rw [sevL_lo hc] at h
        simp only [List.cons_append, List.nil_append, List.cons.injEq] at h
        exact ⟨by omega, h.2⟩
      · rw [sevL_hi (show 128 ≤ c by omega)] at h
        simp only [List.cons_append, List.nil_append, List.cons.injEq] at h
        omega
    · rw [sevL_hi (show 128 ≤ a by omega)] at h
      by_cases hc : c < 128
      · rw [sevL_lo hc] at h
        simp only [List.cons_append, List.nil_append, List.cons.injEq] at h
        omega
      · rw [sevL_hi (show 128 ≤ c by omega)] at h
        simp only [List.cons_append, List.cons.injEq] at h
        obtain ⟨h1, h2⟩ := ih (a / 128) (by omega) (a / 128) (c / 128) x y (Nat.le_refl _) h.2
        exact ⟨by omega, h2⟩
/-- The number that the first groups make. -/
def valL (r : List Int) : Nat → Nat
  | 0 => 0
  | i + 1 => valL r i + (r.getD i 0).toNat % 128 * 128 ^ i
theorem valL_0 (r : List Int) : valL r 0 = 0 := rfl
theorem valL_succ (r : List Int) (i : Nat) : valL r (i + 1) = valL r i + (r.getD i 0).toNat % 128 * 128 ^ i := rfl
theorem valL_lt (r : List Int) : ∀ i, valL r i < 128 ^ i
  | 0 => by simp [valL_0]
  | i + 1 => by
    have h := valL_lt r i
    have h2 : (r.getD i 0).toNat % 128 ≤ 127 := by omega
    have h3 : (r.getD i 0).toNat % 128 * 128 ^ i ≤ 127 * 128 ^ i := Nat.mul_le_mul_right _ h2
    rw [valL_succ, Nat.pow_succ]; omega
theorem valL_cons (b : Int) (r : List Int) : ∀ i, valL (b :: r) (i + 1) = b.toNat % 128 + 128 * valL r i
  | 0 => by rw [valL_succ, valL_0, valL_0]; simp
  | i + 1 => by
    rw [valL_succ, valL_cons b r i, valL_succ, List.getD_cons_succ, Nat.pow_succ, Nat.mul_add, Nat.mul_comm (128 ^ i) 128, ← Nat.mul_assoc, Nat.mul_comm _ 128, Nat.mul_assoc 128]
    omega
theorem valL_pos (r : List Int) (i : Nat) (h : 0 < (r.getD i 0).toNat % 128) : 0 < valL r (i + 1) := by
  rw [valL_succ]
  have : 0 < (r.getD i 0).toNat % 128 * 128 ^ i := Nat.mul_pos h (Nat.pow_pos (by decide))
  omega
/-- Groups that go on, and one that ends and is not needless. -/
theorem sevL_val : ∀ (i : Nat) (r : List Int), i < r.length → (∀ z ∈ r, 0 ≤ z ∧ z ≤ 255) → (∀ j, j < i → 128 ≤ r.getD j 0) → r.getD i 0 < 128 → (i = 0 ∨ 0 < r.getD i 0) → sevL (valL r (i + 1)) = r.take (i + 1)
  | _, [], h, _, _, _, _ => absurd h (by simp)
  | 0, b :: r, _, hb, _, hlo, _ => by
    have h1 := hb b (by simp)
    simp only [List.getD_cons_zero] at hlo
    rw [valL_cons, valL_0, sevL_lo (by omega)]
    simp only [List.take_succ_cons, List.take_zero, List.cons.injEq, and_true]
    omega
  | i + 1, b :: r, hi, hb, hhi, hlo, hnz => by
    have h1 := hb b (by simp)
    have h0 := hhi 0 (by omega)
    simp only [List.getD_cons_zero] at h0
    rw [List.getD_cons_succ] at hlo hnz
    have hnz' : 0 < r.getD i 0 := by rcases hnz with h | h; exact absurd h (by omega); exact h
    have hpos := valL_pos r i (by omega)
    have ih := sevL_val i r (by simpa using hi) (fun z hz => hb z (by simp [hz])) (fun j hj => by have := hhi (j + 1) (by omega); rwa [List.getD_cons_succ] at this) hlo (.inr hnz')
    rw [valL_cons, sevL_hi (by omega), show (b.toNat % 128 + 128 * valL r (i + 1)) / 128 = valL r (i + 1) from by omega, ih, List.take_succ_cons]
    congr 1
    omega
/-- The bytes of a number: all go on but the last one, which is not needless. -/
theorem sevL_form : ∀ k n : Nat, n ≤ k → ∃ p, (sevL n).length = p + 1 ∧ (∀ j, j < p → 128 ≤ (sevL n).getD j 0) ∧ (sevL n).getD p 0 < 128 ∧ (p = 0 ∨ 0 < (sevL n).getD p 0) := by
  intro k
  induction k using Nat.strongRecOn with
  | _ k ih =>
    intro n hn
    by_cases h : n < 128
    · rw [sevL_lo h]
      exact ⟨0, rfl, fun j hj => absurd hj (by omega), by simp only [List.getD_cons_zero]; omega, .inl rfl⟩
    · obtain ⟨p, h1, h2, h3, h4⟩ := ih (n / 128) (by omega) (n / 128) (Nat.le_refl _)
      rw [sevL_hi (by omega)]
      refine ⟨p + 1, by rw [List.length_cons, h1], fun j hj => ?_, by rw [List.getD_cons_succ]; exact h3, .inr ?_⟩
      · match j with
        | 0 => rw [List.getD_cons_zero]; omega
        | j + 1 => rw [List.getD_cons_succ]; exact h2 j (by omega)
      · rw [List.getD_cons_succ]
        rcases h4 with h4 | h4
        · subst h4
          have hl : (n / 128) < 128 := by
            by_cases g : n / 128 < 128
            · exact g
            · exfalso
              rw [sevL_hi (show 128 ≤ n / 128 by omega)] at h1
              have := sevL_pos (n / 128 / 128)
              simp only [List.length_cons] at h1
              omega
          rw [sevL_lo hl, List.getD_cons_zero]
          omega
        · exact h4
/-- A number can be read at the beginning of the bytes: in at most four of them. -/
def GetR (r : List Int) (m : Nat) (rest : List Int) : Prop := r = sevL m ++ rest ∧ (sevL m).length ≤ 4
theorem GetR.uniq {r : List Int} {m m' : Nat} {rest rest' : List Int} (h : GetR r m rest) (g : GetR r m' rest') : m = m' ∧ rest = rest' := sevL_free m m m' rest rest' (Nat.le_refl _) (h.1.symm.trans g.1)
theorem getD_app_left {l m : List Int} {j : Nat} (h : j < l.length) : (l ++ m).getD j 0 = l.getD j 0 := by
  rw [List.getD_eq_getElem?_getD, List.getElem?_append_left h, ← List.getD_eq_getElem?_getD]
/-- Bytes that begin with a number: the first one that ends is not needless, and comes among the first four. -/
theorem GetR.form {r : List Int} {m : Nat} {rest : List Int} (h : GetR r m rest) : ∃ p, p < 4 ∧ p < r.length ∧ (∀ j, j < p → 128 ≤ r.getD j 0) ∧ r.getD p 0 < 128 ∧ (p = 0 ∨ 0 < r.getD p 0) := by
  obtain ⟨p, h1, h2, h3, h4⟩ := sevL_form m m (Nat.le_refl _)
  obtain ⟨rfl, h6⟩ := h
  refine ⟨p, by omega, by rw [List.length_append]; omega, fun j hj => ?_, ?_, ?_⟩
  · rw [getD_app_left (by omega)]; exact h2 j hj
  · rw [getD_app_left (by omega)]; exact h3
  · rw [getD_app_left (by omega)]; exact h4
theorem getR_yes {r : List Int} {i : Nat} (hb : ∀ z ∈ r, 0 ≤ z ∧ z ≤ 255) (hi : i < r.length) (h4 : i < 4) (hhi : ∀ j, j < i → 128 ≤ r.getD j 0) (hlo : r.getD i 0 < 128) (hnz : i = 0 ∨ 0 < r.getD i 0) : GetR r (valL r (i + 1)) (r.drop (i + 1)) := by
  have h := sevL_val i r hi hb hhi hlo hnz
  exact ⟨by rw [h, List.take_append_drop], by rw [h, List.length_take]; omega⟩
theorem getR_needless {r : List Int} {i : Nat} (hi : i < r.length) (hhi : ∀ j, j < i → 128 ≤ r.getD j 0) (hlo : r.getD i 0 < 128) (hz : i ≠ 0 ∧ r.getD i 0 ≤ 0) (m : Nat) (rest : List Int) : ¬ GetR r m rest := fun h => by
  obtain ⟨p, _, h2, h3, h4, h5⟩ := h.form
  rcases Nat.lt_trichotomy p i with c | c | c
  · have := hhi p c; omega
  · subst c; omega
  · have := h3 i c; omega
theorem getR_long {r : List Int} {i : Nat} (hi : i = 4 ∨ i = r.length) (hhi : ∀ j, j < i → 128 ≤ r.getD j 0) (m : Nat) (rest : List Int) : ¬ GetR r m rest := fun h => by
  obtain ⟨p, h1, h2, h3, h4, h5⟩ := h.form
  have : p < i := by omega
  have := hhi p this
  omega
/-- Folded numbers, back. -/
def unfoldN (m : Nat) : Int := if m % 2 = 1 then -((m + 1 : Nat) : Int) / 2 else ((m / 2 : Nat) : Int)
theorem unfoldN_odd {m : Nat} (h : m % 2 = 1) : unfoldN m = -((m / 2 + 1 : Nat) : Int) := by unfold unfoldN; rw [if_pos h]; omega
theorem unfoldN_even {m : Nat} (h : m % 2 ≠ 1) : unfoldN m = ((m / 2 : Nat) : Int) := by unfold unfoldN; rw [if_neg h]
attribute [irreducible] unfoldN
theorem fold_unfold (m : Nat) : foldN (unfoldN m) = m := by
  by_cases h : m % 2 = 1
  · have e := unfoldN_odd h
    have := foldN_neg (x := unfoldN m) (by omega)
    omega
  · have e := unfoldN_even h
    have := foldN_pos (x := unfoldN m) (by omega)
    omega
theorem unfold_fold (x : Int) : unfoldN (foldN x) = x := by
  by_cases h : x < 0
  · have e := foldN_neg h
    have := unfoldN_odd (m := foldN x) (by omega)
    omega
  · have e := foldN_pos (x := x) (by omega)
    have := unfoldN_even (m := foldN x) (by omega)
    omega
attribute [irreducible] valL
end Go.Dam

/-
  Plain laws of the image of points, no program in sight: at most one list of points has an image; a reading of it number by number finds that list. Conditions: bounds on the numbers.
-/
namespace Go.Dam
set_option linter.unusedVariables false
open Go
/-- The bytes of numbers from one on. -/
def numsT (l : List Int) : Nat → Nat → List Int
  | _, 0 => []
  | i, d + 1 => sevL (foldN (l.getD i 0)) ++ numsT l (i + 1) d
theorem numsT_0 (l : List Int) (i : Nat) : numsT l i 0 = [] := rfl
theorem numsT_succ (l : List Int) (i d : Nat) : numsT l i (d + 1) = sevL (foldN (l.getD i 0)) ++ numsT l (i + 1) d := rfl
theorem numsL_split (l : List Int) : ∀ d i, numsL l (i + d) = numsL l i ++ numsT l i d
  | 0, i => by rw [numsT_0, List.append_nil]; rfl
  | d + 1, i => by
    have := numsL_split l d (i + 1)
    rw [numsL_succ, List.append_assoc, ← numsT_succ] at this
    rw [← this]; congr 1; omega
/-- Two readings of the same bytes go along with each other. -/
theorem nums_sync {o l : List Int} {k : Nat} : ∀ i (rest : List Int), i ≤ k → numsL o i ++ rest = numsL l k → (∀ j, j < i → o.getD j 0 = l.getD j 0) ∧ rest = numsT l i (k - i)
  | 0, rest, _, h => by
    refine ⟨fun j hj => absurd hj (by omega), ?_⟩
    rw [numsL_0, List.nil_append] at h
    have := numsL_split l k 0
    rw [Nat.zero_add, numsL_0, List.nil_append] at this
    rw [h, this]; rfl
  | i + 1, rest, hi, h => by
    rw [numsL_succ, List.append_assoc] at h
    obtain ⟨h1, h2⟩ := nums_sync i _ (by omega) h
    rw [show k - i = (k - (i + 1)) + 1 from by omega, numsT_succ] at h2
    obtain ⟨e1, e2⟩ := sevL_free _ _ _ _ _ (Nat.le_refl _) h2
    refine ⟨fun j hj => ?_, e2⟩
    by_cases g : j = i
    · rw [g]
      have := congrArg unfoldN e1
      rwa [unfold_fold, unfold_fold] at this
    · exact h1 j (by omega)
/-- The coordinates may be. -/
def CoordsOk (n : Nat) (l : List Int) : Prop := ∀ j, j < n * 3 → -1048576 ≤ l.getD j 0 ∧ l.getD j 0 ≤ 1048576
/-- The bytes are the image of these points. -/
def Loads (b : List Int) (n : Nat) (l : List Int) : Prop := n ≤ 150 ∧ l.length = n * 3 ∧ CoordsOk n l ∧ b = saveL n l
theorem body_eq (n : Nat) (l : List Int) (i : Nat) : bodyL n l i = [68, 65, 77, 49] ++ (sevL n ++ numsL l i) := by unfold bodyL; rw [List.append_assoc]
theorem tailL_len (s : Nat) : (tailL s).length = 4 := by rw [tailL_eq]; rfl
theorem Loads.body {b : List Int} {n : Nat} {l : List Int} (h : Loads b n l) : b.take (b.length - 4) = bodyL n l (n * 3) ∧ b.drop (b.length - 4) = tailL (sumL (bodyL n l (n * 3))) := by
  obtain ⟨_, _, _, rfl⟩ := h
  rw [saveL_eq, List.length_append, tailL_len]
  rw [show (bodyL n l (n * 3)).length + 4 - 4 = (bodyL n l (n * 3)).length from by omega]
  exact ⟨List.take_left, List.drop_left⟩
theorem Loads.len {b : List Int} {n : Nat} {l : List Int} (h : Loads b n l) : 9 ≤ b.length := by
  obtain ⟨_, _, _, rfl⟩ := h
  rw [saveL_eq, List.length_append, tailL_len, body_eq]
  have := sevL_pos n
  simp only [List.length_append, List.length_cons, List.length_nil]
  omega
theorem loads_mk {b : List Int} {n : Nat} {l : List Int} (hn : n ≤ 150) (hl : l.length = n * 3) (hc : CoordsOk n l) (h1 : b.take (b.length - 4) = bodyL n l (n * 3)) (h2 : b.drop (b.length - 4) = tailL (sumL (bodyL n l (n * 3)))) : Loads b n l :=
  ⟨hn, hl, hc, by rw [saveL_eq, ← h2, ← h1, List.take_append_drop]⟩
/-- Four bytes that make the sum are those of the sum. -/
def sum4 (b : List Int) (k : Nat) : Int := ((b.getD k 0 * 256 + b.getD (k + 1) 0) * 256 + b.getD (k + 2) 0) * 256 + b.getD (k + 3) 0
theorem sum4_tail {b : List Int} (hb : ∀ z ∈ b, 0 ≤ z ∧ z ≤ 255) (h : 4 ≤ b.length) {s : Nat} (hs : sum4 b (b.length - 4) = s) : b.drop (b.length - 4) = tailL s := by
  obtain ⟨k, hk⟩ : ∃ k, b.length = k + 4 := ⟨b.length - 4, by omega⟩
  rw [show b.length - 4 = k from by omega] at hs ⊢
  have hd : b.drop k = [b.getD k 0, b.getD (k + 1) 0, b.getD (k + 2) 0, b.getD (k + 3) 0] := by
    apply List.ext_getElem
    · rw [List.length_drop]; simp; omega
    · intro i h1 h2
      rw [List.getElem_drop]
      simp only [List.length_cons, List.length_nil] at h2
      match i, h2 with
      | 0, _ => simp [List.getD_eq_getElem?_getD, List.getElem?_eq_getElem (show k < b.length by omega)]
      | 1, _ => simp [List.getD_eq_getElem?_getD, List.getElem?_eq_getElem (show k + 1 < b.length by omega)]
      | 2, _ => simp [List.getD_eq_getElem?_getD, List.getElem?_eq_getElem (show k + 2 < b.length by omega)]
      | 3, _ => simp [List.getD_eq_getElem?_getD, List.getElem?_eq_getElem (show k + 3 < b.length by omega)]
  have hr : ∀ i, i < b.length → 0 ≤ b.getD i 0 ∧ b.getD i 0 ≤ 255 := fun i hi => by
    rw [List.getD_eq_getElem?_getD, List.getElem?_eq_getElem hi]
    exact hb _ (List.getElem_mem hi)
  have r0 := hr k (by omega)
  have r1 := hr (k + 1) (by omega)
  have r2 := hr (k + 2) (by omega)
  have r3 := hr (k + 3) (by omega)
  unfold sum4 at hs
  rw [hd, tailL_eq]
  simp only [List.cons.injEq, and_true]
  omega
theorem tail_sum4 {b : List Int} (h : 4 ≤ b.length) {s : Nat} (h32 : s < 4294967296) (hs : b.drop (b.length - 4) = tailL s) : sum4 b (b.length - 4) = s := by
  have key : ∀ i, i < 4 → b.getD (b.length - 4 + i) 0 = (tailL s).getD i 0 := fun i hi => by
    rw [← hs, List.getD_eq_getElem?_getD, List.getD_eq_getElem?_getD, List.getElem?_drop]
  have k0 := key 0 (by omega)
  have k1 := key 1 (by omega)
  have k2 := key 2 (by omega)
  have k3 := key 3 (by omega)
  rw [tailL_eq] at k0 k1 k2 k3
  simp only [List.getD_cons_zero, List.getD_cons_succ, Nat.add_zero] at k0 k1 k2 k3
  unfold sum4
  rw [k0, k1, k2, k3]
  omega
theorem sumL_lt (l : List Int) : sumL l < 4294967296 := by rw [sumL_eq]; omega
theorem Loads.sum {b : List Int} {n : Nat} {l : List Int} (h : Loads b n l) : sum4 b (b.length - 4) = sumL (b.take (b.length - 4)) := by
  rw [h.body.1]
  exact tail_sum4 (by have := h.len; omega) (sumL_lt _) h.body.2
theorem loads_of {b : List Int} {n : Nat} {l : List Int} (hb : ∀ z ∈ b, 0 ≤ z ∧ z ≤ 255) (h4 : 4 ≤ b.length) (hn : n ≤ 150) (hl : l.length = n * 3) (hc : CoordsOk n l) (h1 : b.take (b.length - 4) = bodyL n l (n * 3)) (hs : sum4 b (b.length - 4) = sumL (b.take (b.length - 4))) : Loads b n l :=
  loads_mk hn hl hc h1 (by rw [h1] at hs; exact sum4_tail hb h4 hs)
/-- What is known while numbers are read: those that were read, and what is left. -/
theorem Loads.at_ {b : List Int} {n n' : Nat} {l o : List Int} {i : Nat} {rest : List Int} (h : Loads b n' l) (hb : b.take (b.length - 4) = bodyL n o i ++ rest) (hi : i ≤ n * 3) : n = n' ∧ (∀ j, j < i → o.getD j 0 = l.getD j 0) ∧ rest = numsT l i (n * 3 - i) := by
  rw [h.body.1, body_eq, body_eq, List.append_assoc, List.append_assoc] at hb
  have h1 := List.append_cancel_left hb
  obtain ⟨e1, e2⟩ := sevL_free _ _ _ _ _ (Nat.le_refl _) h1
  subst e1
  have := nums_sync i rest hi e2.symm
  exact ⟨rfl, this⟩
theorem Loads.uniq {b : List Int} {n n' : Nat} {l l' : List Int} (h : Loads b n l) (g : Loads b n' l') : n = n' ∧ l = l' := by
  have := g.at_ (n := n) (o := l) (i := n * 3) (rest := []) (by rw [h.body.1, List.append_nil]) (Nat.le_refl _)
  obtain ⟨rfl, h2, _⟩ := this
  refine ⟨rfl, List.ext_getElem (by rw [h.2.1, g.2.1]) fun i h1 h3 => ?_⟩
  have := h2 i (by rw [← h.2.1]; exact h1)
  rw [List.getD_eq_getElem?_getD, List.getD_eq_getElem?_getD, List.getElem?_eq_getElem h1, List.getElem?_eq_getElem h3] at this
  simpa using this
/-- What Load answers: points, and a code. -/
def LoadR (b : List Int) (n : Nat) (l : List Int) (c : Int) : Prop :=
  (b.length < 9 ∧ n = 0 ∧ l = [] ∧ c = 5) ∨ (9 ≤ b.length ∧ sum4 b (b.length - 4) ≠ sumL (b.take (b.length - 4)) ∧ n = 0 ∧ l = [] ∧ c = 6) ∨
  (9 ≤ b.length ∧ sum4 b (b.length - 4) = sumL (b.take (b.length - 4)) ∧ ((Loads b n l ∧ c = 0) ∨ ((∀ n' l', ¬ Loads b n' l') ∧ n = 0 ∧ l = [] ∧ c = 4)))
theorem LoadR.ex (b : List Int) : ∃ n l c, LoadR b n l c := by
  by_cases h : b.length < 9
  · exact ⟨_, _, _, .inl ⟨h, rfl, rfl, rfl⟩⟩
  · by_cases h2 : sum4 b (b.length - 4) = sumL (b.take (b.length - 4))
    · by_cases h3 : ∃ n l, Loads b n l
      · obtain ⟨n, l, h3⟩ := h3
        exact ⟨_, _, _, .inr (.inr ⟨by omega, h2, .inl ⟨h3, rfl⟩⟩)⟩
      · exact ⟨_, _, _, .inr (.inr ⟨by omega, h2, .inr ⟨fun n l g => h3 ⟨n, l, g⟩, rfl, rfl, rfl⟩⟩)⟩
    · exact ⟨_, _, _, .inr (.inl ⟨by omega, h2, rfl, rfl, rfl⟩)⟩
end Go.Dam
