/-
  The walk of the law PopOnes: the reference's count of 64 bits and pop.Ones are one number. Conditions: the argument is a uint64.
-/
import Derived.Test.YtihiiabibcogjaaRefPopRank
namespace Go.Proofs.Ytihiiabibcogjaa
open Go Go.RowKit Go.Dam
set_option linter.unusedVariables false
set_option maxHeartbeats 400000 in
theorem popOnes_walk (v : Value) (w : World) (h : ∃ n : Nat, v = .int .u64 n ∧ n < 18446744073709551616) :
    Calls Try.prog 11 #[v] w fun e w' => e = .returned (.bool true) ∧ Below w.heap.size w w' := by
  obtain ⟨n, rfl, hn⟩ := h
  go_enter Try.func11, Try.ntmps11
  go_wp2_with (first
    | (go_at_call 31; refine (refRank_any _ _ _ hn).mono ?_; rintro e w' ⟨rfl, rfl⟩)
    | (go_at_call 32; refine (ones_any _ _ hn).mono ?_; rintro e w' ⟨rfl, rfl⟩))
  go_ret
  exact ⟨ret_bool (by simp [rankR]), Below.refl _ _⟩
end Go.Proofs.Ytihiiabibcogjaa
