/-
  Plain laws of the image of points, no program in sight: at most one list of points has an image; a reading of it number by number finds that list. Conditions: bounds on the numbers.
-/
import Derived.Test.YthiccmncdmohbaaGreatMGridTops00
set_option linter.unusedVariables false
set_option linter.unusedSimpArgs false
namespace Go.Dam
set_option linter.unusedVariables false
open Go
/-- The bytes of numbers from one on. -/
def numsT (l : List Int) : Nat → Nat → List Int
  | _, 0 => []
  | i, d + 1 => sevL (foldN (l.getD i 0)) ++ numsT l (i + 1) d
theorem numsT_0 (l : List Int) (i : Nat) : numsT l i 0 = [] := rfl
theorem numsT_succ (l : List Int) (i d : Nat) : numsT l i (d + 1) = sevL (foldN (l.getD i 0)) ++ numsT l (i + 1) d := rfl
theorem numsL_split (l : List Int) : ∀ d i, numsL l (i + d) = numsL l i ++ numsT l i d
  | 0, i => by rw [numsT_0, List.append_nil]; rfl
  | d + 1, i => by
    have := numsL_split l d (i + 1)
    rw [numsL_succ, List.append_assoc, ← numsT_succ] at this
    rw [← this]; congr 1; omega
/-- Two readings of the same bytes go along with each other. -/
theorem nums_sync {o l : List Int} {k : Nat} : ∀ i (rest : List Int), i ≤ k → numsL o i ++ rest = numsL l k → (∀ j, j < i → o.getD j 0 = l.getD j 0) ∧ rest = numsT l i (k - i)
  | 0, rest, _, h => by
    refine ⟨fun j hj => absurd hj (by omega), ?_⟩
    rw [numsL_0, List.nil_append] at h
    have := numsL_split l k 0
    rw [Nat.zero_add, numsL_0, List.nil_append] at this
    rw [h, this]; rfl
  | i + 1, rest, hi, h => by
    rw [numsL_succ, List.append_assoc] at h
    obtain ⟨h1, h2⟩ := nums_sync i _ (by omega) h
    rw [show k - i = (k - (i + 1)) + 1 from by omega, numsT_succ] at h2
    obtain ⟨e1, e2⟩ := sevL_free _ _ _ _ _ (Nat.le_refl _) h2
    refine ⟨fun j hj => ?_, e2⟩
    by_cases g : j = i
    · rw [g]
      have := congrArg unfoldN e1
      rwa [unfold_fold, unfold_fold] at this
    · exact h1 j (by omega)
/-- The coordinates may be. -/
def CoordsOk (n : Nat) (l : List Int) : Prop := ∀ j, j < n * 3 → -1048576 ≤ l.getD j 0 ∧ l.getD j 0 ≤ 1048576
/-- The bytes are the image of these points. -/
def Loads (b : List Int) (n : Nat) (l : List Int) : Prop := n ≤ 150 ∧ l.length = n * 3 ∧ CoordsOk n l ∧ b = saveL n l
theorem body_eq (n : Nat) (l : List Int) (i : Nat) : bodyL n l i = [68, 65, 77, 49] ++ (sevL n ++ numsL l i) := by unfold bodyL; rw [List.append_assoc]
theorem tailL_len (s : Nat) : (tailL s).length = 4 := by rw [tailL_eq]; rfl
theorem Loads.body {b : List Int} {n : Nat} {l : List Int} (h : Loads b n l) : b.take (b.length - 4) = bodyL n l (n * 3) ∧ b.drop (b.length - 4) = tailL (sumL (bodyL n l (n * 3))) := by
  obtain ⟨_, _, _, rfl⟩ := h
  rw [saveL_eq, List.length_append, tailL_len]
  rw [show (bodyL n l (n * 3)).length + 4 - 4 = (bodyL n l (n * 3)).length from by omega]
  exact ⟨List.take_left, List.drop_left⟩
theorem Loads.len {b : List Int} {n : Nat} {l : List Int} (h : Loads b n l) : 9 ≤ b.length := by
  obtain ⟨_, _, _, rfl⟩ := h
  rw [saveL_eq, List.length_append, tailL_len, body_eq]
  have := sevL_pos n
  simp only [List.length_append, List.length_cons, List.length_nil]
  omega
theorem loads_mk {b : List Int} {n : Nat} {l : List Int} (hn : n ≤ 150) (hl : l.length = n * 3) (hc : CoordsOk n l) (h1 : b.take (b.length - 4) = bodyL n l (n * 3)) (h2 : b.drop (b.length - 4) = tailL (sumL (bodyL n l (n * 3)))) : Loads b n l :=
  ⟨hn, hl, hc, by rw [saveL_eq, ← h2, ← h1, List.take_append_drop]⟩
/-- Four bytes that make the sum are those of the sum. -/
def sum4 (b : List Int) (k : Nat) : Int := ((b.getD k 0 * 256 + b.getD (k + 1) 0) * 256 + b.getD (k + 2) 0) * 256 + b.getD (k + 3) 0
theorem sum4_tail {b : List Int} (hb : ∀ z ∈ b, 0 ≤ z ∧ z ≤ 255) (h : 4 ≤ b.length) {s : Nat} (hs : sum4 b (b.length - 4) = s) : b.drop (b.length - 4) = tailL s := by
  obtain ⟨k, hk⟩ : ∃ k, b.length = k + 4 := ⟨b.length - 4, by omega⟩
  rw [show b.length - 4 = k from by omega] at hs ⊢
  have hd : b.drop k = [b.getD k 0, b.getD (k + 1) 0, b.getD (k + 2) 0, b.getD (k + 3) 0] := by
    apply List.ext_getElem
    · rw [List.length_drop]; simp; omega
    · intro i h1 h2
      rw [List.getElem_drop]
      simp only [List.length_cons, List.length_nil] at h2
      match i, h2 with
      | 0, _ => simp [List.getD_eq_getElem?_getD, List.getElem?_eq_getElem (show k < b.length by omega)]
      | 1, _ => simp [List.getD_eq_getElem?_getD, List.getElem?_eq_getElem (show k + 1 < b.length by omega)]
      | 2, _ => simp [List.getD_eq_getElem?_getD, List.getElem?_eq_getElem (show k + 2 < b.length by omega)]
      | 3, _ => simp [List.getD_eq_getElem?_getD, List.getElem?_eq_getElem (show k + 3 < b.length by omega)]
  have hr : ∀ i, i < b.length → 0 ≤ b.getD i 0 ∧ b.getD i 0 ≤ 255 := fun i hi => by
    rw [List.getD_eq_getElem?_getD, List.getElem?_eq_getElem hi]
    exact hb _ (List.getElem_mem hi)
  have r0 := hr k (by omega)
  have r1 := hr (k + 1) (by omega)
  have r2 := hr (k + 2) (by omega)
  have r3 := hr (k + 3) (by omega)
  unfold sum4 at hs
  rw [hd, tailL_eq]
  simp only [List.cons.injEq, and_true]
  omega
theorem tail_sum4 {b : List Int} (h : 4 ≤ b.length) {s : Nat} (h32 : s < 4294967296) (hs : b.drop (b.length - 4) = tailL s) : sum4 b (b.length - 4) = s := by
  have key : ∀ i, i < 4 → b.getD (b.length - 4 + i) 0 = (tailL s).getD i 0 := fun i hi => by
    rw [← hs, List.getD_eq_getElem?_getD, List.getD_eq_getElem?_getD, List.getElem?_drop]
  have k0 := key 0 (by omega)
  have k1 := key 1 (by omega)
  have k2 := key 2 (by omega)
  have k3 := key 3 (by omega)
  rw [tailL_eq] at k0 k1 k2 k3
  simp only [List.getD_cons_zero, List.getD_cons_succ, Nat.add_zero] at k0 k1 k2 k3
  unfold sum4
  rw [k0, k1, k2, k3]
  omega
theorem sumL_lt (l : List Int) : sumL l < 4294967296 := by rw [sumL_eq]; omega
theorem Loads.sum {b : List Int} {n : Nat} {l : List Int} (h : Loads b n l) : sum4 b (b.length - 4) = sumL (b.take (b.length - 4)) := by
  rw [h.body.1]
  exact tail_sum4 (by have := h.len; omega) (sumL_lt _) h.body.2
theorem loads_of {b : List Int} {n : Nat} {l : List Int} (hb : ∀ z ∈ b, 0 ≤ z ∧ z ≤ 255) (h4 : 4 ≤ b.length) (hn : n ≤ 150) (hl : l.length = n * 3) (hc : CoordsOk n l) (h1 : b.take (b.length - 4) = bodyL n l (n * 3)) (hs : sum4 b (b.length - 4) = sumL (b.take (b.length - 4))) : Loads b n l :=
  loads_mk hn hl hc h1 (by rw [h1] at hs; exact sum4_tail hb h4 hs)
/-- What is known while numbers are read: those that were read, and what is left. -/
theorem Loads.at_ {b : List Int} {n n' : Nat} {l o : List Int} {i : Nat} {rest : List Int} (h : Loads b n' l) (hb : b.take (b.length - 4) = bodyL n o i ++ rest) (hi : i ≤ n * 3) : n = n' ∧ (∀ j, j < i → o.getD j 0 = l.getD j 0) ∧ rest = numsT l i (n * 3 - i) := by
  rw [h.body.1, body_eq, body_eq, List.append_assoc, List.append_assoc] at hb
  have h1 := List.append_cancel_left hb
  obtain ⟨e1, e2⟩ := sevL_free _ _ _ _ _ (Nat.le_refl _) h1
  subst e1
  have := nums_sync i rest hi e2.symm
  exact ⟨rfl, this⟩
theorem Loads.uniq {b : List Int} {n n' : Nat} {l l' : List Int} (h : Loads b n l) (g : Loads b n' l') : n = n' ∧ l = l' := by
  have := g.at_ (n := n) (o := l) (i := n * 3) (rest := []) (by rw [h.body.1, List.append_nil]) (Nat.le_refl _)
  obtain ⟨rfl, h2, _⟩ := this
  refine ⟨rfl, List.ext_getElem (by rw [h.2.1, g.2.1]) fun i h1 h3 => ?_⟩
  have := h2 i (by rw [← h.2.1]; exact h1)
  rw [List.getD_eq_getElem?_getD, List.getD_eq_getElem?_getD, List.getElem?_eq_getElem h1, List.getElem?_eq_getElem h3] at this
  simpa using this
/-- What Load answers: points, and a code. -/
def LoadR (b : List Int) (n : Nat) (l : List Int) (c : Int) : Prop :=
  (b.length < 9 ∧ n = 0 ∧ l = [] ∧ c = 5) ∨ (9 ≤ b.length ∧ sum4 b (b.length - 4) ≠ sumL (b.take (b.length - 4)) ∧ n = 0 ∧ l = [] ∧ c = 6) ∨
  (9 ≤ b.length ∧ sum4 b (b.length - 4) = sumL (b.take (b.length - 4)) ∧ ((Loads b n l ∧ c = 0) ∨ ((∀ n' l', ¬ Loads b n' l') ∧ n = 0 ∧ l = [] ∧ c = 4)))
theorem LoadR.ex (b : List Int) : ∃ n l c, LoadR b n l c := by
  by_cases h : b.length < 9
  · exact ⟨_, _, _, .inl ⟨h, rfl, rfl, rfl⟩⟩
  · by_cases h2 : sum4 b (b.length - 4) = sumL (b.take (b.length - 4))
    · by_cases h3 : ∃ n l, Loads b n l
      · obtain ⟨n, l, h3⟩ := h3
        exact ⟨_, _, _, .inr (.inr ⟨by omega, h2, .inl ⟨h3, rfl⟩⟩)⟩
      · exact ⟨_, _, _, .inr (.inr ⟨by omega, h2, .inr ⟨fun n l g => h3 ⟨n, l, g⟩, rfl, rfl, rfl⟩⟩)⟩
    · exact ⟨_, _, _, .inr (.inl ⟨by omega, h2, rfl, rfl, rfl⟩)⟩
end Go.Dam
