/-
  Contract of slices.Reverse at a row of ints of the call's own. Conditions: the row is not longer than a million.
-/
import Derived.Test.YthiccmncdmohbaaMHullInsides12
import Derived.Test.YthiccmncdmohbaaShelf
set_option linter.unusedVariables false
set_option linter.unusedSimpArgs false
namespace Go.Proofs.Ythiccmncdmohbaa
open Go Go.RowKit Go.Dam Go.Shelf Go.Sort Go.Proofs
set_option linter.unusedVariables false
theorem reverse_own {w : World} {base n c : Nat} {A : Option Addr} {l : List Int} (h : w.ownsRow base 3 1 (.slice A n c) n (l.map (Value.int .i64))) (hn : n ≤ 1000000) :
    Calls Try.prog 54 #[.slice A n c] w fun e w' => e = .returned (.tuple #[]) ∧ w'.ownsRow base 3 1 (.slice A n c) n (l.reverse.map (Value.int .i64)) ∧ w.grownBy w' (Value.slice A n c).ownBlock := by
  have hl : l.length = n := by have := h.1; simpa using this
  by_cases h1 : 1 ≤ n
  · rcases h.2 with ⟨hx, h0⟩ | ⟨g1, cap1, cur, hv1, hb1, hb, k1, k2, k3, k4⟩
    · omega
    obtain ⟨rfl, rfl⟩ : A = some ⟨g1, 0, none⟩ ∧ c = cap1 := by injection hv1 with a b c; exact ⟨a, c⟩
    subst hl
    have hH : Sort.Holds (Value.int .i64) w g1 0 l.toArray := holds_blockE hb (by simpa using k4)
    refine (Try.slices_Reverse_int g1 0 c l w hH (by omega)).mono ?_
    rintro e w' ⟨rfl, m, rfl⟩
    have o1 := ownsRow_sortedE (enc := Value.int .i64) (base := base) (n := m) (os := #[]) (ss := l) (ts := l.reverse) (by simp) hb1 hb k1 k2 k3
    have o2 := grownBy_sortedE (enc := Value.int .i64) (w := w) (g := g1) (n := m) (os := #[]) l.reverse.toArray
    rw [Sort.grow_empty] at o1 o2
    exact ⟨rfl, o1, o2⟩
  · obtain rfl : n = 0 := by omega
    obtain rfl : l = [] := List.eq_nil_of_length_eq_zero hl
    refine (Try.slices_Reverse_int_empty A c w).mono ?_
    rintro e w' ⟨rfl, rfl⟩
    exact ⟨rfl, h, ⟨rfl, rfl, rfl, Nat.le_refl _, fun _ _ _ => rfl⟩⟩
end Go.Proofs.Ythiccmncdmohbaa
