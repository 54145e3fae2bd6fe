/-
  The walk of the law MortonCodes: morton.Code and the reference answer alike. Conditions: the arguments are ints.
-/
import Derived.Test.YtmcfdlijkcibbaaRefMorton
namespace Go.Proofs.Ytmcfdlijkcibbaa
open Go Go.RowKit Go.Dam
set_option linter.unusedVariables false
set_option maxHeartbeats 400000 in
theorem mortonCodes_walk (v u : Value) (w : World) (h : ∃ x : Int, v = .int .i64 x ∧ I64 x) (h' : ∃ x : Int, u = .int .i64 x ∧ I64 x) :
    Calls Try.prog 4 #[v, u] w fun e w' => e = .returned (.bool true) ∧ Below w.heap.size w w' := by
  obtain ⟨x, rfl, hx⟩ := h
  obtain ⟨y, rfl, hy⟩ := h'
  obtain ⟨r, c, hR⟩ := CodeR.ex x y
  have H1 := Lib.hid (code_any x y r c w hR)
  have H2 := Lib.hid (refCode_any x y r c w hx hy hR)
  clear hR
  go_enter Try.func4, Try.ntmps4
  go_wp2_with (first
    | (go_at_call 17; refine (H1.out).mono ?_; rintro e w1 ⟨rfl, rfl⟩)
    | (go_at_call 18; refine (H2.out).mono ?_; rintro e w2 ⟨rfl, hd2⟩))
  all_goals (go_ret; exact ⟨ret_bool (by simp), hd2.below _⟩)
end Go.Proofs.Ytmcfdlijkcibbaa
