/-
  Contract of the reference's coordMay: is a coordinate not too great? Conditions: the argument is an int.
-/
import Derived.Test.YthiccmncdmohbaaMHullInsides03
import Derived.Test.YthiccmncdmohbaaMHullInsides00
set_option linter.unusedVariables false
set_option linter.unusedSimpArgs false
namespace Go.Proofs.Ythiccmncdmohbaa
open Go Go.RowKit Go.Dam
set_option linter.unusedVariables false
set_option maxHeartbeats 400000 in
theorem coordMay_any (x : Int) (b : Bool) (w : World) (h : coordOk x = b) : Calls Try.prog 39 #[.int .i64 x] w fun e w' => e = .returned (.bool b) ∧ w = w' := by
  cases b with
  | true =>
    obtain ⟨h1, h2⟩ := coordOk_yes h
    clear h
    go_enter Try.func39, Try.ntmps39
    go_wp2
    go_ret
    exact ⟨ret_bool (by simp <;> omega), rfl⟩
  | false =>
    have h1 := coordOk_no h
    clear h
    by_cases h2 : x < -1048576
    · clear h1
      go_enter Try.func39, Try.ntmps39
      go_wp2
      go_ret
      exact ⟨ret_bool (by simp <;> omega), rfl⟩
    · have h3 : 1048576 < x := by omega
      clear h1
      go_enter Try.func39, Try.ntmps39
      go_wp2
      go_ret
      exact ⟨ret_bool (by simp <;> omega), rfl⟩
end Go.Proofs.Ythiccmncdmohbaa
