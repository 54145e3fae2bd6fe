/-
  The walk of the law MortonBacks: morton.Back and the reference answer alike. Conditions: the arguments are ints.
-/
import Derived.Test.YtmcfdlijkcibbaaRefMorton
namespace Go.Proofs.Ytmcfdlijkcibbaa
open Go Go.RowKit Go.Dam
set_option linter.unusedVariables false
set_option maxHeartbeats 400000 in
theorem mortonBacks_walk (v : Value) (w : World) (h : ∃ x : Int, v = .int .i64 x ∧ I64 x) :
    Calls Try.prog 5 #[v] w fun e w' => e = .returned (.bool true) ∧ Below w.heap.size w w' := by
  obtain ⟨x, rfl, hx⟩ := h
  obtain ⟨a, b, c, hR⟩ := BackR.ex x
  have H1 := Lib.hid (back_any x a b c w hx hR)
  have H2 := Lib.hid (refBack_any x a b c w hx hR)
  clear hR
  go_enter Try.func5, Try.ntmps5
  go_wp2_with (first
    | (go_at_call 19; refine (H1.out).mono ?_; rintro e w1 ⟨rfl, rfl⟩)
    | (go_at_call 20; refine (H2.out).mono ?_; rintro e w2 ⟨rfl, hd2⟩))
  all_goals (go_ret; exact ⟨ret_bool (by simp), hd2.below _⟩)
end Go.Proofs.Ytmcfdlijkcibbaa
