/-
  Contract of perm.Order: the order with a number. Conditions: the arguments are ints.
-/
import Derived.Test.YthiccmncdmohbaaGreatMGridTops00
import Derived.Test.YthiccmncdmohbaaGreatMGridTops06
import Derived.Deep.CutRange
set_option linter.unusedVariables false
set_option linter.unusedSimpArgs false
namespace Go.Dam
open Go Go.RowKit
/-- What Order answers. -/
def OrderR (n num : Int) (r : List Int) (c : Int) : Prop :=
  ((n < 0 ∨ 20 < n ∨ num < 0) ∧ r = [] ∧ c = 2) ∨ (∃ a b : Nat, n = a ∧ num = b ∧ a ≤ 20 ∧ ((fact a ≤ b ∧ r = [] ∧ c = 2) ∨ (b < fact a ∧ r = (choseN a b a).map (fun k : Nat => (k : Int)) ∧ c = 0)))
theorem OrderR.ex (n num : Int) : ∃ r c, OrderR n num r c := by
  by_cases h : n < 0 ∨ 20 < n ∨ num < 0
  · exact ⟨_, _, .inl ⟨h, rfl, rfl⟩⟩
  · by_cases h2 : fact n.toNat ≤ num.toNat
    · exact ⟨_, _, .inr ⟨n.toNat, num.toNat, by omega, by omega, by omega, .inl ⟨h2, rfl, rfl⟩⟩⟩
    · exact ⟨_, _, .inr ⟨n.toNat, num.toNat, by omega, by omega, by omega, .inr ⟨by omega, rfl, rfl⟩⟩⟩
theorem chose_wf {n num : Nat} (hn : n ≤ 1000) : ∀ z ∈ (choseN n num n).map (fun k : Nat => (k : Int)), (Lit.int .i64 z).wf = true := by
  intro z hz
  obtain ⟨k, hk, rfl⟩ := List.mem_map.1 hz
  have := choseN_lt n num n (Nat.le_refl _) k hk
  exact int_wf (by unfold I64; omega)
/-- The first d elements of a row of the call's own. -/
theorem own_take {w : World} {base n d c : Nat} {e : TypeId} {A : Option Addr} {xs : List Value} (h : w.ownsRow base e 1 (.slice A n c) n xs) (hd : d ≤ n) (hn : 0 < n) : w.ownsRow base e 1 (.slice A d c) d (xs.take d) := by
  have hl := h.1
  refine ⟨by rw [List.length_take]; omega, ?_⟩
  rcases h.2 with ⟨_, h0⟩ | ⟨g, cap, cur, hv, h1, h2, h3, h4, h5, h6⟩
  · omega
  · obtain ⟨rfl, rfl⟩ : A = some ⟨g, 0, none⟩ ∧ c = cap := by injection hv with a b c; exact ⟨a, c⟩
    refine .inr ⟨g, c, cur, rfl, h1, h2, by omega, h4, h5, ?_⟩
    rw [← h6, List.take_take]; congr 1; omega
end Go.Dam
namespace Go.Proofs.YthiccmncdmohbaaGreat
open Go Go.RowKit Go.Dam
set_option linter.unusedVariables false
end Go.Proofs.YthiccmncdmohbaaGreat
