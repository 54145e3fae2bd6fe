/-
  Contract of the reference's isAbove: is a point above another one? Conditions: none.
-/
import Derived.Test.YtlojecajonhmhaaDoorMSkySkies02
import Derived.Test.YtlojecajonhmhaaDoorMSkySkies04
set_option linter.unusedVariables false
set_option linter.unusedSimpArgs false
namespace Go.Dam
open Go Go.RowKit
/-- Is a point above another one? -/
def aboveB (ax ay bx by_ : Int) : Bool := (decide (bx < ax) && decide (by_ ≤ ay)) || (decide (bx ≤ ax) && decide (by_ < ay))
end Go.Dam
namespace Go.Proofs.YtlojecajonhmhaaDoor
open Go Go.RowKit Go.Dam
set_option linter.unusedVariables false
section
variable (x0 y0 z0 x1 y1 z1 : Int) (w : World)
set_option maxHeartbeats 4000000 in
theorem refAbove_any : Calls Tryd.prog 28 #[.agg #[.int .i64 x0, .int .i64 y0, .int .i64 z0], .agg #[.int .i64 x1, .int .i64 y1, .int .i64 z1]] w fun e w' => e = .returned (.bool (aboveB x0 y0 x1 y1)) ∧ Below w.heap.size w w' := by
  have HB0 := Lib.hid (((Below.refl w.heap.size w).alloc (Nat.le_refl _) (.cells #[.int .i64 x0, .int .i64 y0, .int .i64 z0] 46)).alloc (by simp) (.cells #[.int .i64 x1, .int .i64 y1, .int .i64 z1] 46))
  by_cases h1 : x1 < x0
  · have t1 := decide_eq_true h1
    by_cases h2 : y1 ≤ y0
    · have he : aboveB x0 y0 x1 y1 = true := by unfold aboveB; simp [h1, h2]
      rw [he]; clear he
      have t2 := decide_eq_true h2
      go_enter Tryd.func28, Tryd.ntmps28
      go_wp2_with fail
      go_ret
      exact ⟨ret_bool (by simp), HB0.out⟩
    · have h4 : ¬ y1 < y0 := by omega
      have he : aboveB x0 y0 x1 y1 = false := by unfold aboveB; simp [h2, h4]
      rw [he]; clear he
      have t2 := decide_eq_false h2
      have h3 : x1 ≤ x0 := by omega
      have t3 := decide_eq_true h3
      have t4 := decide_eq_false h4
      go_enter Tryd.func28, Tryd.ntmps28
      go_wp2_with fail
      go_ret
      exact ⟨ret_bool (by simp), HB0.out⟩
  · have t1 := decide_eq_false h1
    by_cases h3 : x1 ≤ x0
    · have t3 := decide_eq_true h3
      by_cases h4 : y1 < y0
      · have he : aboveB x0 y0 x1 y1 = true := by unfold aboveB; simp [h1, h3, h4]
        rw [he]; clear he
        have t4 := decide_eq_true h4
        go_enter Tryd.func28, Tryd.ntmps28
        go_wp2_with fail
        go_ret
        exact ⟨ret_bool (by simp), HB0.out⟩
      · have he : aboveB x0 y0 x1 y1 = false := by unfold aboveB; simp [h1, h4]
        rw [he]; clear he
        have t4 := decide_eq_false h4
        go_enter Tryd.func28, Tryd.ntmps28
        go_wp2_with fail
        go_ret
        exact ⟨ret_bool (by simp), HB0.out⟩
    · have t3 := decide_eq_false h3
      have he : aboveB x0 y0 x1 y1 = false := by unfold aboveB; simp [h1, h3]
      rw [he]; clear he
      go_enter Tryd.func28, Tryd.ntmps28
      go_wp2_with fail
      go_ret
      exact ⟨ret_bool (by simp), HB0.out⟩
end
end Go.Proofs.YtlojecajonhmhaaDoor
