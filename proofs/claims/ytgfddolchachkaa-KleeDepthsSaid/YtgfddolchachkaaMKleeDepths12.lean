/-
  Contract of sort.SearchInts (with sort.Search and its closure) on an ascending list of at most 2^40 ints: how many of them are less than a number. Conditions: the list can be read as data and does not fall.
-/
import Derived.Test.YtgfddolchachkaaMKleeDepths02
namespace Go.Dam
open Go
/-- The list does not fall. -/
def Asc (l : List Int) : Prop := ∀ i j, i ≤ j → j < l.length → l.getD i 0 ≤ l.getD j 0
/-- k is how many of the ascending list are less than x. -/
def RankOf (l : List Int) (x : Int) (k : Nat) : Prop := k ≤ l.length ∧ (∀ h, h < k → l.getD h 0 < x) ∧ ∀ h, k ≤ h → h < l.length → x ≤ l.getD h 0
theorem RankOf.uniq {l : List Int} {x : Int} {k m : Nat} (h : RankOf l x k) (g : RankOf l x m) : k = m := by
  rcases Nat.lt_trichotomy k m with h1 | h1 | h1
  · have a := g.2.1 k h1
    have b := h.2.2 k (Nat.le_refl _) (by have := g.1; omega)
    omega
  · exact h1
  · have a := h.2.1 m h1
    have b := g.2.2 m (Nat.le_refl _) (by have := h.1; omega)
    omega
end Go.Dam
namespace Go.Proofs.Ytgfddolchachkaa
open Go Go.RowKit Go.Dam
set_option linter.unusedVariables false
end Go.Proofs.Ytgfddolchachkaa
