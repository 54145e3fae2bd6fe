/-
  The walk of the law StabChecks: the function and the reference answer one code. Conditions: the argument can be read as data.
-/
import Derived.Test.YtmcfdlijkcibbaaRefSpans
namespace Go.Proofs.Ytmcfdlijkcibbaa
open Go Go.RowKit Go.Dam
set_option linter.unusedVariables false
set_option maxHeartbeats 400000 in
theorem stabChecks_walk (v : Value) (w : World) (h : ∃ n l, IsFlat 2 w w.heap.size v n l) :
    Calls Try.prog 8 #[v] w fun e w' => e = .returned (.bool true) ∧ Below w.heap.size w w' := by
  obtain ⟨n, l, h⟩ := h
  have H1 := Lib.hid (stabCheck_any v n l w _ (Nat.le_refl _) h)
  have H2 := Lib.hid fun W (hb : Below w.heap.size w W) => spansFault_any v n l W _ hb.size (h.below hb)
  obtain ⟨A, c, rfl, hc, hm, hn, hl, hr, hw⟩ := h
  clear hr hl hw
  go_enter Try.func8, Try.ntmps8
  go_wp2_with (first
    | (go_at_call 25; refine (H1.out).mono ?_; rintro e w1 ⟨rfl, hb1⟩)
    | (go_at_call 26; refine (H2.out _ hb1).mono ?_; rintro e w2 ⟨rfl, hb2⟩))
  go_ret
  exact ⟨ret_bool (by simp), hb1.trans (hb2.mono hb1.size)⟩
end Go.Proofs.Ytmcfdlijkcibbaa
