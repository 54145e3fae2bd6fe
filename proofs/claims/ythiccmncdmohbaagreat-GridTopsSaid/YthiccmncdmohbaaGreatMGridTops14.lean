/-
  Contracts of sort.Search at the closures of package lis: the boundary of a monotone test. Conditions: the closure has a contract.
-/
import Derived.Test.YthiccmncdmohbaaGreatMGridTops03
set_option linter.unusedVariables false
set_option linter.unusedSimpArgs false
namespace Go.Dam
/-- Where a test turns from no to yes. -/
def BoundOf (P : Nat → Bool) (n k : Nat) : Prop := k ≤ n ∧ (∀ h, h < k → P h = false) ∧ ∀ h, k ≤ h → h < n → P h = true
end Go.Dam
namespace Go.Proofs.YthiccmncdmohbaaGreat
open Go Go.RowKit Go.Dam
set_option linter.unusedVariables false
end Go.Proofs.YthiccmncdmohbaaGreat
