/-
  The plain law of what an expression means: by depth, at a point. Conditions: none; nothing here names the program.
-/
import Derived.Test.YtlojecajonhmhaaGreatDoorMQueryEvals04
import Derived.Test.YtlojecajonhmhaaGreatDoorMQueryEvals37
set_option linter.unusedVariables false
set_option linter.unusedSimpArgs false
namespace Go.Dam.Q
open Go Go.RowKit Go.Dam
set_option linter.unusedVariables false
/-- What an expression means at a point. -/
def meansN : Nat → Ex → Int → Int → Int → Bool
  | 0, _, _, _, _ => false
  | f + 1, .mk k x0 y0 x1 y1 w ps, px, py, pw =>
    if k = 1 then inR px py x0 y0 x1 y1
    else if k = 2 then decide (w ≤ pw)
    else if k = 5 then !((ps.map fun p => meansN f p px py pw).getD 0 false)
    else if k = 3 then ps.all fun p => meansN f p px py pw
    else ps.any fun p => meansN f p px py pw
/-- The same, at the point i of a row. -/
def meansAt (l : List Int) (f : Nat) (x : Ex) (i : Nat) : Bool := meansN f x (l.getD (i * 3) 0) (l.getD (i * 3 + 1) 0) (l.getD (i * 3 + 2) 0)
section
variable {f : Nat} {x0 y0 x1 y1 w px py pw : Int} {ps : List Ex}
theorem means_in : meansN (f + 1) (.mk 1 x0 y0 x1 y1 w ps) px py pw = inR px py x0 y0 x1 y1 := by rw [meansN, if_pos rfl]
theorem means_heavy : meansN (f + 1) (.mk 2 x0 y0 x1 y1 w ps) px py pw = decide (w ≤ pw) := by rw [meansN, if_neg (by decide), if_pos rfl]
theorem means_not (h : ps.length = 1) : meansN (f + 1) (.mk 5 x0 y0 x1 y1 w ps) px py pw = !meansN f (ps.getD 0 noEx) px py pw := by
  obtain ⟨p, rfl⟩ := List.length_eq_one_iff.1 h
  rw [meansN, if_neg (by decide), if_neg (by decide), if_pos rfl]; rfl
theorem means_and : meansN (f + 1) (.mk 3 x0 y0 x1 y1 w ps) px py pw = ps.all fun p => meansN f p px py pw := by rw [meansN, if_neg (by decide), if_neg (by decide), if_neg (by decide), if_pos rfl]
theorem means_or : meansN (f + 1) (.mk 4 x0 y0 x1 y1 w ps) px py pw = ps.any fun p => meansN f p px py pw := by rw [meansN, if_neg (by decide), if_neg (by decide), if_neg (by decide), if_neg (by decide)]
end
/-- How many of the first j parts hold. -/
def holdN (f : Nat) (ps : List Ex) (px py pw : Int) (j : Nat) : Nat := (ps.take j).countP fun p => meansN f p px py pw
theorem holdN_0 (f : Nat) (ps : List Ex) (px py pw : Int) : holdN f ps px py pw 0 = 0 := rfl
theorem holdN_s {f : Nat} {ps : List Ex} {px py pw : Int} {j : Nat} (h : j < ps.length) : holdN f ps px py pw (j + 1) = holdN f ps px py pw j + (if meansN f (ps.getD j noEx) px py pw = true then 1 else 0) := by
  unfold holdN
  rw [List.take_add_one, List.countP_append, List.getElem?_eq_getElem h, List.getD_eq_getElem?_getD, List.getElem?_eq_getElem h]
  show _ + List.countP _ [ps[j]] = _
  rw [List.countP_singleton]; rfl
theorem holdN_le (f : Nat) (ps : List Ex) (px py pw : Int) (j : Nat) : holdN f ps px py pw j ≤ j := by
  unfold holdN
  exact Nat.le_trans List.countP_le_length (by rw [List.length_take]; omega)
theorem hold_all {f : Nat} {ps : List Ex} {px py pw : Int} : (ps.all fun p => meansN f p px py pw) = decide (holdN f ps px py pw ps.length = ps.length) := by
  unfold holdN
  rw [List.take_length]
  rw [Bool.eq_iff_iff, decide_eq_true_eq, List.all_eq_true, List.countP_eq_length]
theorem hold_any {f : Nat} {ps : List Ex} {px py pw : Int} : (ps.any fun p => meansN f p px py pw) = decide (0 < holdN f ps px py pw ps.length) := by
  unfold holdN
  rw [List.take_length]
  rw [Bool.eq_iff_iff, decide_eq_true_eq, List.any_eq_true, List.countP_pos_iff]
/-- What the first j parts give together. -/
def partN (k : Int) (f : Nat) (ps : List Ex) (l : List Int) (j i : Nat) : Bool := if k = 3 then (ps.take j).all fun p => meansAt l f p i else (ps.take j).any fun p => meansAt l f p i
theorem partN_1 {k : Int} {f : Nat} {ps : List Ex} {l : List Int} {i : Nat} (h : 0 < ps.length) : partN k f ps l 1 i = meansAt l f (ps.getD 0 noEx) i := by
  unfold partN
  match ps, h with
  | p :: ps, _ => simp
theorem partN_s {k : Int} {f : Nat} {ps : List Ex} {l : List Int} {j i : Nat} (h : j < ps.length) : partN k f ps l (j + 1) i = if k = 3 then (partN k f ps l j i && meansAt l f (ps.getD j noEx) i) else (partN k f ps l j i || meansAt l f (ps.getD j noEx) i) := by
  unfold partN
  have e : ps.take (j + 1) = ps.take j ++ [ps.getD j noEx] := by
    rw [List.take_add_one, List.getElem?_eq_getElem h, List.getD_eq_getElem?_getD, List.getElem?_eq_getElem h]; rfl
  rw [e]
  by_cases hk : k = 3
  · rw [if_pos hk, if_pos hk, if_pos hk, List.all_append]; simp
  · rw [if_neg hk, if_neg hk, if_neg hk, List.any_append]; simp
theorem partN_n3 {f : Nat} {x0 y0 x1 y1 w : Int} {ps : List Ex} {l : List Int} {i : Nat} : partN 3 f ps l ps.length i = meansAt l (f + 1) (.mk 3 x0 y0 x1 y1 w ps) i := by
  unfold partN meansAt; rw [means_and, List.take_length, if_pos rfl]
theorem partN_n4 {f : Nat} {x0 y0 x1 y1 w : Int} {ps : List Ex} {l : List Int} {i : Nat} : partN 4 f ps l ps.length i = meansAt l (f + 1) (.mk 4 x0 y0 x1 y1 w ps) i := by
  unfold partN meansAt; rw [means_or, List.take_length, if_neg (by decide)]
/-- The places that are meant. -/
def meant (l : List Int) (n : Nat) (x : Ex) : List Nat := (List.range n).filter (meansAt l 8 x)
theorem meant_s (l : List Int) (x : Ex) (i : Nat) : meant l (i + 1) x = meant l i x ++ (if meansAt l 8 x i = true then [i] else []) := by
  unfold meant
  rw [List.range_succ, List.filter_append]
  congr 1
  cases h : meansAt l 8 x i <;> simp [h]
attribute [irreducible] meansN meansAt holdN partN meant
end Go.Dam.Q
