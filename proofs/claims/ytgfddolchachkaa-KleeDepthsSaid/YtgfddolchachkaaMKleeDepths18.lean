/-
  sort.Ints at a row of the call's own. Conditions: fewer than 2^62 elements.
-/
import Derived.Test.YtgfddolchachkaaMKleeDepths09
import Derived.Test.YtgfddolchachkaaShelf
namespace Go.Proofs.Ytgfddolchachkaa
open Go Go.RowKit Go.Dam
set_option linter.unusedVariables false
theorem sortInts_own {w : World} {base n c : Nat} {e : TypeId} {A : Option Addr} {l : List Int} (h : w.ownsRow base e 1 (.slice A n c) n (l.map (Value.int .i64))) (hn : n ≤ 1099511627776) :
    Calls Try.prog 164 #[.slice A n c] w fun e' w' => e' = .returned (.tuple #[]) ∧ w'.ownsRow base e 1 (.slice A n c) n ((sortI l).map (Value.int .i64)) ∧ w.grownBy w' (Value.slice A n c).ownBlock := by
  have hl : l.length = n := by have := h.1; simpa using this
  subst hl
  have h0 := h
  rcases h.2 with ⟨hv, hx⟩ | ⟨g, cap, cur, hv, hbase, hb, h1, h2, h3, h4⟩
  · obtain ⟨rfl, h0l, rfl⟩ : A = none ∧ l.length = 0 ∧ c = 0 := by injection hv with a b c; exact ⟨a, b, c⟩
    obtain rfl : l = [] := List.length_eq_zero_iff.1 h0l
    have he : sortI [] = [] := List.length_eq_zero_iff.1 (by rw [sortI_len]; rfl)
    rw [he]
    exact (Try.sort_Ints_none none 0 w).mono fun e' w' ⟨a, b⟩ => ⟨a, by rw [b]; exact h0, by rw [b]; exact World.grownBy.refl _ _⟩
  · obtain ⟨rfl, rfl⟩ : A = some ⟨g, 0, none⟩ ∧ c = cap := by injection hv with a b c; exact ⟨a, c⟩
    refine (Try.sort_Ints g 0 c l w (holds_blockE hb (by simpa using h4)) (Array.getElem?_eq_some_iff.1 hb).1 (by omega)).mono ?_
    rintro e' w' ⟨rfl, nn, os, rfl⟩
    rw [sortI_eq]
    exact ⟨rfl, ownsRow_sortedE (sortI_len l) hbase hb h1 h2 h3, grownBy_sortedE _⟩
end Go.Proofs.Ytgfddolchachkaa
