/-
  The walk of the law ImageSums: image.Sum and the reference answer one number. Conditions: the argument can be read as data.
-/
import Derived.Test.YtmcfdlijkcibbaaImageSum
namespace Go.Proofs.Ytmcfdlijkcibbaa
open Go Go.RowKit Go.Dam
set_option linter.unusedVariables false
set_option maxHeartbeats 400000 in
theorem imageSums_walk (v : Value) (w : World) (h : ∃ l, IsInts .u8 w w.heap.size v l) :
    Calls Try.prog 6 #[v] w fun e w' => e = .returned (.bool true) ∧ Below w.heap.size w w' := by
  obtain ⟨l, h⟩ := h
  have H1 := Lib.hid (imageSum_any v l w _ h)
  have H2 := Lib.hid (refImageSum_any v l w _ (Nat.le_refl _) h)
  obtain ⟨A, c, rfl, hc, hm, hn, hr, hw⟩ := h
  clear hr hw
  go_enter Try.func6, Try.ntmps6
  go_wp2_with (first
    | (go_at_call 21; refine (H1.out).mono ?_; rintro e w1 ⟨rfl, rfl⟩)
    | (go_at_call 22; refine (H2.out).mono ?_; rintro e w2 ⟨rfl, hb2⟩))
  go_ret
  exact ⟨ret_bool (by simp), hb2⟩
end Go.Proofs.Ytmcfdlijkcibbaa
