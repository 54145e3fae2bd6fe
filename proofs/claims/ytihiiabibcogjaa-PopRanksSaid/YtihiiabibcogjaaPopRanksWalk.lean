/-
  The walk of the law PopRanks: pop.Rank and the reference's count answer the same number and the same code. Conditions: the arguments are a uint64 and an int.
-/
import Derived.Test.YtihiiabibcogjaaRefPopRank
namespace Go.Proofs.Ytihiiabibcogjaa
open Go Go.RowKit Go.Dam
set_option linter.unusedVariables false
set_option maxHeartbeats 400000 in
theorem popRanks_walk (v u : Value) (w : World) (h : ∃ n : Nat, v = .int .u64 n ∧ n < 18446744073709551616) (h' : ∃ x : Int, u = .int .i64 x ∧ (-9223372036854775808 ≤ x ∧ x ≤ 9223372036854775807)) :
    Calls Try.prog 12 #[v, u] w fun e w' => e = .returned (.bool true) ∧ Below w.heap.size w w' := by
  obtain ⟨n, rfl, hn⟩ := h
  obtain ⟨i, rfl, hi⟩ := h'
  go_enter Try.func12, Try.ntmps12
  go_wp2_with (first
    | (go_at_call 31; refine (refRank_any _ _ _ hn).mono ?_; rintro e w' ⟨rfl, rfl⟩)
    | (go_at_call 33; refine (rank_any _ _ _ hn).mono ?_; rintro e w' ⟨rfl, rfl⟩))
  all_goals (go_ret; exact ⟨ret_bool (by simp), Below.refl _ _⟩)
end Go.Proofs.Ytihiiabibcogjaa
