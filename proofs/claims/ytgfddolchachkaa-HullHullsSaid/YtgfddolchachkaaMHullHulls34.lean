/-
  The walk of the law HullHulls: hull.Hull and the reference answer alike. Conditions: the points can be read as data.
-/
import Derived.Test.YtgfddolchachkaaMHullHulls33
namespace Go.Proofs.Ytgfddolchachkaa
open Go Go.RowKit Go.Dam Go.Dam.Hull
set_option linter.unusedVariables false
set_option maxHeartbeats 400000 in
theorem hullHulls_walk (v : Value) (w : World) (h : ∃ n l, IsFlat 3 w w.heap.size v n l) :
    Calls Try.prog 8 #[v] w fun e w' => e = .returned (.bool true) ∧ Below w.heap.size w w' := by
  obtain ⟨n, l, h⟩ := h
  obtain ⟨cc, H, hR⟩ := HullsR.ex n l
  have H1 := Lib.hid (hullHull_any v n l H cc w _ (Nat.le_refl _) h hR)
  have H2 := Lib.hid fun W (hb : Below w.heap.size w W) => refHullOf_any v n l H cc W _ hb.size (h.below hb) hR
  obtain ⟨A, c, rfl, hc, hm, hn, hl, hr, hw⟩ := h
  clear hr hl hw hR
  go_enter Try.func8, Try.ntmps8
  go_wp2_with (first
    | (go_at_call 27; refine (H1.out).mono ?_; rintro e w1 ⟨v1, rfl, hi1, hb1⟩)
    | (go_at_call 28; refine (H2.out _ hb1).mono ?_; rintro e w2 ⟨v2, rfl, hi2, hb2⟩; have HS := Lib.hid (sameInts_any v1 v2 (natH H) w2 w2.heap.size (hi1.below hb2 |>.more hb2.size) hi2))
    | (go_at_call 29; refine (HS.out).mono ?_; rintro e w3 ⟨rfl, q, rfl⟩))
  all_goals (go_ret; exact ⟨ret_bool (by simp), below_drewN (hb1.trans (hb2.mono hb1.size)) _⟩)
end Go.Proofs.Ytgfddolchachkaa
