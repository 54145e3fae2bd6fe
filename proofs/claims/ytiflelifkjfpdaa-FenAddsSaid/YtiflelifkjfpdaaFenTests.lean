/-
  Contracts of the small tests of package fen: near, and the tests without names. Conditions: the arguments are ints.
-/
import Derived.Test.YtiflelifkjfpdaaBase
import Derived.Test.YtiflelifkjfpdaaFlat
namespace Go.Dam
/-- May a number stand in a table? -/
def fenOk (z : Int) : Bool := decide (-1099511627776 ≤ z ∧ z ≤ 1099511627776)
theorem fenOk_yes {z : Int} (h : fenOk z = true) : -1099511627776 ≤ z ∧ z ≤ 1099511627776 := by simpa [fenOk] using h
theorem fenOk_no {z : Int} (h : fenOk z = false) : z < -1099511627776 ∨ 1099511627776 < z := by
  rw [fenOk, decide_eq_false_iff_not] at h; omega
theorem fenOk_of {z : Int} (h : -1099511627776 ≤ z ∧ z ≤ 1099511627776) : fenOk z = true := by simpa [fenOk] using h
attribute [irreducible] fenOk
end Go.Dam
namespace Go.Proofs.Ytiflelifkjfpdaa
open Go Go.RowKit Go.Dam
set_option linter.unusedVariables false
set_option maxHeartbeats 400000 in
theorem fenNear_any (x : Int) (b : Bool) (w : World) (h : coordOk x = b) : Calls Try.prog 49 #[.int .i64 x] w fun e w' => e = .returned (.bool b) ∧ w = w' := by
  cases b with
  | true =>
    obtain ⟨h1, h2⟩ := coordOk_yes h
    clear h
    go_enter Try.func49, Try.ntmps49
    go_wp2
    go_ret
    exact ⟨ret_bool (by simp <;> omega), rfl⟩
  | false =>
    have h1 := coordOk_no h
    clear h
    by_cases h2 : x < -1048576
    · clear h1
      go_enter Try.func49, Try.ntmps49
      go_wp2
      go_ret
      exact ⟨ret_bool (by simp <;> omega), rfl⟩
    · have h3 : 1048576 < x := by omega
      have h4 : -1048576 ≤ x := by omega
      clear h1
      go_enter Try.func49, Try.ntmps49
      go_wp2
      go_ret
      exact ⟨ret_bool (by simp <;> omega), rfl⟩
set_option maxHeartbeats 400000 in
theorem fenFar_any (x : Int) (w : World) : Calls Try.prog 48 #[.int .i64 x] w fun e w' => e = .returned (.bool (!coordOk x)) ∧ w = w' := by
  have HC := fun b (hb : coordOk x = b) W => fenNear_any x b W hb
  cases hb : coordOk x with
  | true =>
    have HC := Lib.hid (HC _ hb)
    clear hb
    go_enter Try.func48, Try.ntmps48
    go_wp2_with (go_at_call 49; refine (HC.out _).mono ?_; rintro e w1 ⟨rfl, rfl⟩)
    go_ret
    exact ⟨ret_bool (by simp), rfl⟩
  | false =>
    have HC := Lib.hid (HC _ hb)
    clear hb
    go_enter Try.func48, Try.ntmps48
    go_wp2_with (go_at_call 49; refine (HC.out _).mono ?_; rintro e w1 ⟨rfl, rfl⟩)
    go_ret
    exact ⟨ret_bool (by simp), rfl⟩
set_option maxHeartbeats 400000 in
theorem fenBig_any (x : Int) (w : World) : Calls Try.prog 66 #[.int .i64 x] w fun e w' => e = .returned (.bool (!fenOk x)) ∧ w = w' := by
  cases h : fenOk x with
  | true =>
    obtain ⟨h1, h2⟩ := fenOk_yes h
    clear h
    have t1 : decide (x < -1099511627776) = false := by simp; omega
    go_enter Try.func66, Try.ntmps66
    go_wp2
    go_ret
    exact ⟨ret_bool (by simp <;> omega), rfl⟩
  | false =>
    have h1 := fenOk_no h
    clear h
    by_cases h2 : x < -1099511627776
    · clear h1
      have t1 : decide (x < -1099511627776) = true := by simp; omega
      go_enter Try.func66, Try.ntmps66
      go_wp2
      go_ret
      exact ⟨ret_bool (by simp <;> omega), rfl⟩
    · have h3 : 1099511627776 < x := by omega
      clear h1
      have t1 : decide (x < -1099511627776) = false := by simp; omega
      go_enter Try.func66, Try.ntmps66
      go_wp2
      go_ret
      exact ⟨ret_bool (by simp <;> omega), rfl⟩
end Go.Proofs.Ytiflelifkjfpdaa
