/-
  Plain facts for the texts of expressions: the parts' texts, joined; how large they are. Conditions: none; nothing here names the program.
-/
import Derived.Test.YtlojecajonhmhaaGreatDoorMQueryEvals03
import Derived.Lib.Join
set_option linter.unusedVariables false
set_option linter.unusedSimpArgs false
namespace Go.Dam.Q
open Go Go.RowKit Go.Dam
set_option linter.unusedVariables false
theorem join_tail (sep : List UInt8) : ∀ (s : List UInt8) (l : List (List UInt8)), joinT sep (s :: l) = s ++ Lib.joinTail sep l
  | s, [] => by with_unfolding_all simp [joinT, Lib.joinTail]
  | s, t :: l => by
    have h := join_tail sep t l
    have e : joinT sep (s :: t :: l) = s ++ sep ++ joinT sep (t :: l) := by with_unfolding_all rfl
    rw [e, h]
    simp [Lib.joinTail]
theorem joinT_join (sep : List UInt8) : ∀ l : List (List UInt8), joinT sep l = Lib.join l sep
  | [] => by with_unfolding_all rfl
  | s :: l => by rw [join_tail, Lib.join_cons]
theorem IsEx.kind {w : World} {B f : Nat} {k x0 y0 x1 y1 ww : Int} {A : Option Addr} {n c : Nat} {x : Ex} (h : IsEx w B f (exV k x0 y0 x1 y1 ww A n c) x) : x.k = k := by
  obtain ⟨k', a, b, c', d, e, ps⟩ := x
  obtain ⟨A', c'', h1, _⟩ := h.val
  unfold exV at h1
  simp only [Value.agg.injEq, Array.mk.injEq, List.cons.injEq, Value.int.injEq, true_and] at h1
  exact h1.1.symm
theorem size_part {f : Nat} {k x0 y0 x1 y1 w : Int} {ps : List Ex} {i : Nat} (hi : i < ps.length) : sizeN f (ps.getD i noEx) ≤ sizeN (f + 1) (.mk k x0 y0 x1 y1 w ps) := by
  have e : sizeN (f + 1) (.mk k x0 y0 x1 y1 w ps) = 1 + (ps.map (sizeN f)).sum := by with_unfolding_all rfl
  have h : sizeN f (ps.getD i noEx) ∈ ps.map (sizeN f) := by
    rw [List.getD_eq_getElem?_getD, List.getElem?_eq_getElem hi]
    exact List.mem_map.2 ⟨_, List.getElem_mem hi, rfl⟩
  have h2 : ∀ {l : List Nat} {a : Nat}, a ∈ l → a ≤ l.sum := by
    intro l a ha
    induction l with
    | nil => cases ha
    | cons b l ih =>
      rw [List.sum_cons]
      rcases List.mem_cons.1 ha with rfl | ha
      · omega
      · have := ih ha; omega
  have := h2 h
  omega
theorem size_pos : ∀ (f : Nat) (x : Ex), 1 ≤ sizeN f x
  | 0, x => by with_unfolding_all exact Nat.le_refl _
  | f + 1, .mk k x0 y0 x1 y1 w ps => by
    have e : sizeN (f + 1) (.mk k x0 y0 x1 y1 w ps) = 1 + (ps.map (sizeN f)).sum := by with_unfolding_all rfl
    omega
theorem size_many {f : Nat} {k x0 y0 x1 y1 w : Int} {ps : List Ex} : ps.length ≤ sizeN (f + 1) (.mk k x0 y0 x1 y1 w ps) := by
  have e : sizeN (f + 1) (.mk k x0 y0 x1 y1 w ps) = 1 + (ps.map (sizeN f)).sum := by with_unfolding_all rfl
  have h : ∀ l : List Ex, l.length ≤ (l.map (sizeN f)).sum := by
    intro l
    induction l with
    | nil => simp
    | cons x l ih => have := size_pos f x; simp only [List.map_cons, List.sum_cons, List.length_cons]; omega
  have := h ps
  omega
/-- The texts of the first i parts. -/
def partsT (f : Nat) (k : Int) (ps : List Ex) (i : Nat) : List (List UInt8) := (ps.take i).map fun p => partT k p (textN f p)
theorem partsT_0 (f : Nat) (k : Int) (ps : List Ex) : partsT f k ps 0 = [] := rfl
theorem partsT_s {f : Nat} {k : Int} {ps : List Ex} {i : Nat} (hi : i < ps.length) : partsT f k ps (i + 1) = partsT f k ps i ++ [partT k (ps.getD i noEx) (textN f (ps.getD i noEx))] := by
  unfold partsT
  rw [List.take_add_one, List.map_append, List.getElem?_eq_getElem hi, List.getD_eq_getElem?_getD, List.getElem?_eq_getElem hi]; rfl
theorem partsT_all {f : Nat} {k : Int} {ps : List Ex} {n : Nat} (h : n = ps.length) : partsT f k ps n = ps.map fun p => partT k p (textN f p) := by
  unfold partsT; rw [h, List.take_length]
def strV (s : List UInt8) : Value := .string ⟨s.toArray⟩
/-- The text of a rectangle, so many numbers of it. -/
def inT (xs : List Int) : Nat → List UInt8
  | 0 => [105, 110]
  | j + 1 => inT xs j ++ (32 :: Lib.itoa (xs.getD j 0))
theorem inT_len {xs : List Int} (h : ∀ j, j < 4 → -1048576 ≤ xs.getD j 0 ∧ xs.getD j 0 ≤ 1048576) : ∀ j, j ≤ 4 → (inT xs j).length ≤ 2 + 9 * j
  | 0, _ => by simp [inT]
  | j + 1, hj => by
    have := inT_len h j (by omega)
    have h2 := itoa_len (h j (by omega)).1 (h j (by omega)).2
    simp only [inT, List.length_append, List.length_cons]
    omega
theorem inT_text {f : Nat} {x0 y0 x1 y1 w : Int} {ps : List Ex} : textN (f + 1) (.mk 1 x0 y0 x1 y1 w ps) = inT [x0, y0, x1, y1] 4 := by rw [textN_in]; simp [inT]
theorem inT_0 (xs : List Int) : inT xs 0 = [105, 110] := rfl
theorem inT_s (xs : List Int) (j : Nat) : inT xs (j + 1) = inT xs j ++ (32 :: Lib.itoa (xs.getD j 0)) := rfl
attribute [irreducible] partsT inT
end Go.Dam.Q
