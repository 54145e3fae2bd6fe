/-
  Contracts of paren.matches, paren.matched and paren.Check: which bracket belongs to which. Conditions: the argument is a string.
-/
import Derived.Test.YtlojecajonhmhaaMParenTexts00
import Derived.Test.YtlojecajonhmhaaMParenTexts05
import Derived.Test.YtlojecajonhmhaaMParenTexts06
set_option linter.unusedVariables false
set_option linter.unusedSimpArgs false
namespace Go.Dam
open Go Go.RowKit
theorem snoc_cases {α : Type} (l : List α) : l = [] ∨ ∃ L b, l = L ++ [b] := by
  rcases List.eq_nil_or_concat l with h | ⟨L, b, h⟩
  · exact .inl h
  · exact .inr ⟨L, b, by rw [h, List.concat_eq_append]⟩
/-- A place as a value. -/
def natV (k : Nat) : Value := .int .i64 (k : Int)
/-- The list tells of each place the one that belongs to it. -/
def IsMatch (f : Nat → Nat) (n : Nat) (l : List Int) : Prop := l.length = n ∧ ∀ i, i < n → ∃ p : Nat, p < n ∧ Pt f i p ∧ l.getD i 0 = p
/-- The list while it is made: those that are open lack theirs. -/
def HalfMatch (f : Nat → Nat) (n i : Nat) (st : List Nat) (l : List Int) : Prop := l.length = n ∧ ∀ j, j < i → j ∉ st → ∃ p : Nat, p < n ∧ Pt f j p ∧ l.getD j 0 = p
theorem HalfMatch.push {f : Nat → Nat} {n i : Nat} {st : List Nat} {l : List Int} (h : HalfMatch f n i st l) : HalfMatch f n (i + 1) (st ++ [i]) l := by
  refine ⟨h.1, fun j hj hns => ?_⟩
  rw [List.mem_append] at hns
  refine h.2 j ?_ fun hm => hns (.inl hm)
  rcases Nat.lt_or_ge j i with h1 | h1
  · exact h1
  · obtain rfl : j = i := by omega
    exact absurd (.inr (by simp)) hns
theorem HalfMatch.pop {f : Nat → Nat} {n i k : Nat} {st : List Nat} {l : List Int} (h : HalfMatch f n i (st ++ [k]) l) (hi : i < n) (hm : Mt f k i) : HalfMatch f n (i + 1) st ((l.set i (k : Int)).set k (i : Int)) := by
  have hk := hm.lt
  refine ⟨by rw [List.length_set, List.length_set]; exact h.1, fun j hj hns => ?_⟩
  by_cases hjk : j = k
  · subst hjk
    refine ⟨i, hi, .inl hm, ?_⟩
    rw [List.getD_eq_getElem?_getD, List.getElem?_set_self (by rw [List.length_set, h.1]; omega)]; rfl
  · by_cases hji : j = i
    · subst hji
      refine ⟨k, by omega, .inr hm, ?_⟩
      rw [List.getD_eq_getElem?_getD, List.getElem?_set_ne (fun e => hjk e.symm), List.getElem?_set_self (by rw [h.1]; omega)]; rfl
    · obtain ⟨p, h1, h2, h3⟩ := h.2 j (by omega) (by simp only [List.mem_append, List.mem_singleton, not_or]; exact ⟨hns, hjk⟩)
      refine ⟨p, h1, h2, ?_⟩
      rw [List.getD_eq_getElem?_getD, List.getElem?_set_ne (fun e => hjk e.symm), List.getElem?_set_ne (fun e => hji e.symm), ← List.getD_eq_getElem?_getD]; exact h3
theorem HalfMatch.all {f : Nat → Nat} {n : Nat} {l : List Int} (h : HalfMatch f n n [] l) : IsMatch f n l := ⟨h.1, fun i hi => h.2 i hi (by simp)⟩
end Go.Dam
namespace Go.Proofs.Ytlojecajonhmhaa
open Go Go.RowKit Go.Dam
set_option linter.unusedVariables false
/-- What matches returns: of brackets the places, and true; else false. -/
def GivesMatches (s : ByteArray) (w : World) (e : Ending) (w' : World) : Prop :=
  (Brackets (chr s) s.size ∧ ∃ l, IsMatch (chr s) s.size l ∧ e = .returned (.tuple #[.slice (some ⟨w.heap.size, 0, none⟩) s.size s.size, .bool true]) ∧ IBlk .i64 3 w' w.heap.size l ∧ Below w.heap.size w w') ∨
  (¬ Brackets (chr s) s.size ∧ ∃ v, e = .returned (.tuple #[v, .bool false]) ∧ Below w.heap.size w w')
/-- What matched returns. -/
def GivesMatched (s : ByteArray) (c : Int) (w : World) (e : Ending) (w' : World) : Prop :=
  ∃ v, e = .returned (.tuple #[v, .int .i64 c]) ∧ Below w.heap.size w w' ∧ (c = 0 → ∃ l, IsMatch (chr s) s.size l ∧ v = .slice (some ⟨w.heap.size, 0, none⟩) s.size s.size ∧ IBlk .i64 3 w' w.heap.size l)
end Go.Proofs.Ytlojecajonhmhaa
