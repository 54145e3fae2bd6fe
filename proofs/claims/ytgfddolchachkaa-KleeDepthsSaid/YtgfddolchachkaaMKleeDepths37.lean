/-
  The walk of the law KleeDepths: klee.Depth and the reference answer alike. Conditions: the rectangles can be read as data.
-/
import Derived.Test.YtgfddolchachkaaMKleeDepths36
namespace Go.Proofs.Ytgfddolchachkaa
open Go Go.RowKit Go.Dam Go.Dam.Klee
set_option linter.unusedVariables false
set_option maxHeartbeats 400000 in
theorem kleeDepths_walk (v : Value) (w : World) (h : ∃ n l, IsFlat 4 w w.heap.size v n l) :
    Calls Try.prog 13 #[v] w fun e w' => e = .returned (.bool true) ∧ Below w.heap.size w w' := by
  obtain ⟨n, l, h⟩ := h
  obtain ⟨a, cc, hR⟩ : ∃ a cc, DepthR n l a cc := ⟨_, _, rfl, rfl⟩
  have H1 := Lib.hid (kleeDepth_any v n l a cc w _ (Nat.le_refl _) h hR)
  have H2 := Lib.hid fun W (hb : Below w.heap.size w W) => refKleeDepth_any v n l a cc W _ hb.size (h.below hb) hR
  obtain ⟨A, c, rfl, hc, hm, hn, hl, hr, hw⟩ := h
  clear hr hl hw hR
  go_enter Try.func13, Try.ntmps13
  go_wp2_with (first
    | (go_at_call 38; refine (H1.out).mono ?_; rintro e w1 ⟨rfl, hb1⟩)
    | (go_at_call 39; refine (H2.out _ hb1).mono ?_; rintro e w2 ⟨rfl, hb2⟩))
  all_goals (go_ret; exact ⟨ret_bool (by simp), hb1.trans (hb2.mono hb1.size)⟩)
end Go.Proofs.Ytgfddolchachkaa
