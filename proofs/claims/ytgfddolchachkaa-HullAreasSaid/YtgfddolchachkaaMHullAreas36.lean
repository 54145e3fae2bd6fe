/-
  The walk of the law HullAreas: hull.Area and the reference answer alike. Conditions: the points can be read as data.
-/
import Derived.Test.YtgfddolchachkaaMHullAreas35
namespace Go.Proofs.Ytgfddolchachkaa
open Go Go.RowKit Go.Dam Go.Dam.Hull
set_option linter.unusedVariables false
set_option maxHeartbeats 400000 in
theorem hullAreas_walk (v : Value) (w : World) (h : ∃ n l, IsFlat 3 w w.heap.size v n l) :
    Calls Try.prog 9 #[v] w fun e w' => e = .returned (.bool true) ∧ Below w.heap.size w w' := by
  obtain ⟨n, l, h⟩ := h
  obtain ⟨cc, H, hR⟩ := HullsR.ex n l
  obtain ⟨a, ha⟩ : ∃ a, a = if cc = 0 then shoe (ptF l) H H.length else 0 := ⟨_, rfl⟩
  have H1 := Lib.hid (hullAreaT_any v n l H a cc w _ (Nat.le_refl _) h hR ha)
  have H2 := Lib.hid fun W (hb : Below w.heap.size w W) => refHullArea_any v n l H a cc W _ hb.size (h.below hb) hR ha
  obtain ⟨A, c, rfl, hc, hm, hn, hl, hr, hw⟩ := h
  clear hr hl hw hR ha
  go_enter Try.func9, Try.ntmps9
  go_wp2_with (first
    | (go_at_call 30; refine (H1.out).mono ?_; rintro e w1 ⟨rfl, hb1⟩)
    | (go_at_call 31; refine (H2.out _ hb1).mono ?_; rintro e w2 ⟨rfl, hb2⟩))
  all_goals (go_ret; exact ⟨ret_bool (by simp), hb1.trans (hb2.mono hb1.size)⟩)
end Go.Proofs.Ytgfddolchachkaa
