/-
  Contracts of the tests whether a point lies in a rectangle: package grid's and the reference's. Conditions: none.
-/
import Derived.Test.YtlojecajonhmhaaDoorMSkySkies02
import Derived.Test.YtlojecajonhmhaaDoorMSkySkies04
set_option linter.unusedVariables false
set_option linter.unusedSimpArgs false
namespace Go.Dam
open Go Go.RowKit
/-- Does a point lie in a rectangle? -/
def inR (x y x0 y0 x1 y1 : Int) : Bool := decide (x0 ≤ x) && decide (x ≤ x1) && decide (y0 ≤ y) && decide (y ≤ y1)
end Go.Dam
namespace Go.Proofs.YtlojecajonhmhaaDoor
open Go Go.RowKit Go.Dam
set_option linter.unusedVariables false
section
variable (x y z x0 y0 x1 y1 : Int) (w : World)
set_option maxHeartbeats 1000000 in
theorem refPointIn_any : Calls Tryd.prog 48 #[.agg #[.int .i64 x, .int .i64 y, .int .i64 z], .agg #[.int .i64 x0, .int .i64 y0, .int .i64 x1, .int .i64 y1]] w fun e w' => e = .returned (.bool (inR x y x0 y0 x1 y1)) ∧ Below w.heap.size w w' := by
  have HB0 := Lib.hid (((Below.refl w.heap.size w).alloc (Nat.le_refl _) (.cells #[.int .i64 x, .int .i64 y, .int .i64 z] 46)).alloc (by simp) (.cells #[.int .i64 x0, .int .i64 y0, .int .i64 x1, .int .i64 y1] 23))
  obtain ⟨q, hq⟩ : ∃ q, inR x y x0 y0 x1 y1 = q := ⟨_, rfl⟩
  by_cases h1 : x0 ≤ x
  rotate_left
  · obtain rfl : false = q := by rw [← hq]; unfold inR; simp [h1]
    have t1 : decide (x0 ≤ x) = false := decide_eq_false h1
    rw [hq]; clear hq
    go_enter Tryd.func48, Tryd.ntmps48
    go_wp2_with fail
    go_ret
    exact ⟨rfl, HB0.out⟩
  by_cases h2 : x ≤ x1
  rotate_left
  · obtain rfl : false = q := by rw [← hq]; unfold inR; simp [h2]
    have t1 : decide (x0 ≤ x) = true := decide_eq_true h1
    have t2 : decide (x ≤ x1) = false := decide_eq_false h2
    rw [hq]; clear hq
    go_enter Tryd.func48, Tryd.ntmps48
    go_wp2_with fail
    go_ret
    exact ⟨rfl, HB0.out⟩
  by_cases h3 : y0 ≤ y
  rotate_left
  · obtain rfl : false = q := by rw [← hq]; unfold inR; simp [h3]
    have t1 : decide (x0 ≤ x) = true := decide_eq_true h1
    have t2 : decide (x ≤ x1) = true := decide_eq_true h2
    have t3 : decide (y0 ≤ y) = false := decide_eq_false h3
    rw [hq]; clear hq
    go_enter Tryd.func48, Tryd.ntmps48
    go_wp2_with fail
    go_ret
    exact ⟨rfl, HB0.out⟩
  · have hq2 : decide (y ≤ y1) = q := by rw [← hq]; unfold inR; simp [h1, h2, h3]
    rw [hq]; clear hq
    cases q with
    | true =>
      have h4 : y ≤ y1 := of_decide_eq_true hq2
      have t1 : decide (x0 ≤ x) = true := decide_eq_true h1
      have t2 : decide (x ≤ x1) = true := decide_eq_true h2
      have t3 : decide (y0 ≤ y) = true := decide_eq_true h3
      go_enter Tryd.func48, Tryd.ntmps48
      go_wp2_with fail
      go_ret
      exact ⟨ret_bool (by simp [h4]), HB0.out⟩
    | false =>
      have h4 : ¬ y ≤ y1 := of_decide_eq_false hq2
      have t1 : decide (x0 ≤ x) = true := decide_eq_true h1
      have t2 : decide (x ≤ x1) = true := decide_eq_true h2
      have t3 : decide (y0 ≤ y) = true := decide_eq_true h3
      go_enter Tryd.func48, Tryd.ntmps48
      go_wp2_with fail
      go_ret
      exact ⟨ret_bool (by simp [h4]), HB0.out⟩
end
end Go.Proofs.YtlojecajonhmhaaDoor
