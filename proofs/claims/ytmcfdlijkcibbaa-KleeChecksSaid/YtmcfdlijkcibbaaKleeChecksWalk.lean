/-
  The walk of the law KleeChecks: the function and the reference answer one code. Conditions: the argument can be read as data.
-/
import Derived.Test.YtmcfdlijkcibbaaRefRects
namespace Go.Proofs.Ytmcfdlijkcibbaa
open Go Go.RowKit Go.Dam
set_option linter.unusedVariables false
set_option maxHeartbeats 400000 in
theorem kleeChecks_walk (v : Value) (w : World) (h : ∃ n l, IsFlat 4 w w.heap.size v n l) :
    Calls Try.prog 9 #[v] w fun e w' => e = .returned (.bool true) ∧ Below w.heap.size w w' := by
  obtain ⟨n, l, h⟩ := h
  have H1 := Lib.hid (kleeCheck_any v n l w _ (Nat.le_refl _) h)
  have H2 := Lib.hid fun W (hb : Below w.heap.size w W) => rectsFault_any v n l W _ hb.size (h.below hb)
  obtain ⟨A, c, rfl, hc, hm, hn, hl, hr, hw⟩ := h
  clear hr hl hw
  go_enter Try.func9, Try.ntmps9
  go_wp2_with (first
    | (go_at_call 27; refine (H1.out).mono ?_; rintro e w1 ⟨rfl, hb1⟩)
    | (go_at_call 28; refine (H2.out _ hb1).mono ?_; rintro e w2 ⟨rfl, hb2⟩))
  go_ret
  exact ⟨ret_bool (by simp), hb1.trans (hb2.mono hb1.size)⟩
end Go.Proofs.Ytmcfdlijkcibbaa
