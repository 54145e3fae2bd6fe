/-
  Contracts of the small tests of package skt and of the reference's codeMay. Conditions: the arguments are ints.
-/
import Derived.Test.YtjniiiimkejkiaaSktBase
import Derived.Test.YtjniiiimkejkiaaFlat
namespace Go.Dam
/-- May it be a number that is coded? -/
def codeOk (z : Int) : Bool := decide (0 ≤ z ∧ z ≤ 1048576)
theorem codeOk_yes {z : Int} (h : codeOk z = true) : 0 ≤ z ∧ z ≤ 1048576 := by simpa [codeOk] using h
theorem codeOk_no {z : Int} (h : codeOk z = false) : z < 0 ∨ 1048576 < z := by
  rw [codeOk, decide_eq_false_iff_not] at h; omega
theorem codeOk_of {z : Int} (h : 0 ≤ z ∧ z ≤ 1048576) : codeOk z = true := by simpa [codeOk] using h
attribute [irreducible] codeOk
end Go.Dam
namespace Go.Proofs.Ytjniiiimkejkiaa
open Go Go.RowKit Go.Dam
set_option linter.unusedVariables false
theorem sktFits_any (x : Int) (b : Bool) (w : World) (h : codeOk x = b) : Calls Try.prog 42 #[.int .i64 x] w fun e w' => e = .returned (.bool b) ∧ w = w' := by
  cases b with
  | true => exact sktFits_yes x w (codeOk_yes h).1 (codeOk_yes h).2
  | false => exact sktFits_no x w (codeOk_no h)
theorem codeMay_any (x : Int) (b : Bool) (w : World) (h : codeOk x = b) : Calls Try.prog 44 #[.int .i64 x] w fun e w' => e = .returned (.bool b) ∧ w = w' := by
  cases b with
  | true => exact codeMay_yes x w (codeOk_yes h).1 (codeOk_yes h).2
  | false => exact codeMay_no x w (codeOk_no h)
set_option maxHeartbeats 400000 in
theorem sktFar_any (x : Int) (w : World) : Calls Try.prog 41 #[.int .i64 x] w fun e w' => e = .returned (.bool (!codeOk x)) ∧ w = w' := by
  have HC := fun b (hb : codeOk x = b) W => sktFits_any x b W hb
  cases hb : codeOk x with
  | true =>
    have HC := Lib.hid (HC _ hb)
    clear hb
    go_enter Try.func41, Try.ntmps41
    go_wp2_with (go_at_call 42; refine (HC.out _).mono ?_; rintro e w1 ⟨rfl, rfl⟩)
    go_ret
    exact ⟨ret_bool (by simp), rfl⟩
  | false =>
    have HC := Lib.hid (HC _ hb)
    clear hb
    go_enter Try.func41, Try.ntmps41
    go_wp2_with (go_at_call 42; refine (HC.out _).mono ?_; rintro e w1 ⟨rfl, rfl⟩)
    go_ret
    exact ⟨ret_bool (by simp), rfl⟩
set_option maxHeartbeats 400000 in
theorem sktFar2_any (x : Int) (w : World) : Calls Try.prog 80 #[.int .i64 x] w fun e w' => e = .returned (.bool (!codeOk x)) ∧ w = w' := by
  have HC := fun b (hb : codeOk x = b) W => sktFits_any x b W hb
  cases hb : codeOk x with
  | true =>
    have HC := Lib.hid (HC _ hb)
    clear hb
    go_enter Try.func80, Try.ntmps80
    go_wp2_with (go_at_call 42; refine (HC.out _).mono ?_; rintro e w1 ⟨rfl, rfl⟩)
    go_ret
    exact ⟨ret_bool (by simp), rfl⟩
  | false =>
    have HC := Lib.hid (HC _ hb)
    clear hb
    go_enter Try.func80, Try.ntmps80
    go_wp2_with (go_at_call 42; refine (HC.out _).mono ?_; rintro e w1 ⟨rfl, rfl⟩)
    go_ret
    exact ⟨ret_bool (by simp), rfl⟩
end Go.Proofs.Ytjniiiimkejkiaa
