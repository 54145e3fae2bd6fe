/-
  A store into a row of the call's own. Conditions: the place is in the row.
-/
import Derived.Test.YthiccmncdmohbaaMHullInsides07
set_option linter.unusedVariables false
set_option linter.unusedSimpArgs false
namespace Go.Dam
open Go Go.RowKit
theorem own_set {w : World} {base g n cap i : Nat} {e : TypeId} {xs : List Value} (h : w.ownsRow base e 1 (.slice (some ⟨g, 0, none⟩) n cap) n xs) (hi : i < n) (u : Value) : (w.setCell ⟨g, i, none⟩ u).ownsRow base e 1 (.slice (some ⟨g, 0, none⟩) n cap) n (xs.set i u) := by
  refine ⟨by rw [List.length_set]; exact h.1, ?_⟩
  rcases h.2 with ⟨hx, _⟩ | ⟨g1, cap1, cur, hv, hb, hg, k1, k2, k3, k4⟩
  · cases hx
  injection hv with a1 a2 a3
  injection a1 with a1
  injection a1 with a1 _ _
  subst a1 a3
  have hB : Blk w g e cur := hg
  refine .inr ⟨g, cap, _, rfl, hb, hB.set_ i u, k1, k2, ?_, ?_⟩
  · simpa using k3
  · rw [← k4]
    apply List.ext_getElem?
    intro j
    simp only [Array.toList_setIfInBounds, Nat.mul_one, List.getElem?_take, List.getElem?_set, List.length_take]
    by_cases c1 : j < n
    · by_cases c2 : i = j
      · subst c2
        have : i < cur.size := by omega
        have h3 : i < min n cur.size := by omega
        simp [c1, this, h3]
      · simp [c1, c2]
    · have : ¬ i = j := by omega
      simp [c1, this]
theorem own_cell0 {w : World} {base g n cap i : Nat} {e : TypeId} {xs : List Value} (h : w.ownsRow base e 1 (.slice (some ⟨g, 0, none⟩) n cap) n xs) (hi : i < n) : (∃ u, w.cell? ⟨g, i, none⟩ = some u) ∧ w.frozen? ⟨g, i, none⟩ = false := by
  rcases h.2 with ⟨hx, _⟩ | ⟨g1, cap1, cur, hv, hb, hg, k1, k2, k3, k4⟩
  · cases hx
  injection hv with a1 a2 a3
  injection a1 with a1
  injection a1 with a1 _ _
  subst a1 a3
  have hB : Blk w g e cur := hg
  refine ⟨⟨cur[i], ?_⟩, hB.frozen i⟩
  have := hB.cell i
  rw [this, Array.getElem?_eq_getElem (by omega)]
end Go.Dam
