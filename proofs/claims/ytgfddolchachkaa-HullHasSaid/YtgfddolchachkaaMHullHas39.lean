/-
  The walk of the law HullHas: hull.Has and the reference answer alike. Conditions: the points can be read as data.
-/
import Derived.Test.YtgfddolchachkaaMHullHas38
namespace Go.Proofs.Ytgfddolchachkaa
open Go Go.RowKit Go.Dam Go.Dam.Hull
set_option linter.unusedVariables false
set_option maxHeartbeats 400000 in
theorem hullHas_walk (v u t : Value) (w : World) (h : ∃ n l, IsFlat 3 w w.heap.size v n l) (hu : ∃ x, u = .int .i64 x ∧ I64 x) (ht : ∃ x, t = .int .i64 x ∧ I64 x) :
    Calls Try.prog 10 #[v, u, t] w fun e w' => e = .returned (.bool true) ∧ Below w.heap.size w w' := by
  obtain ⟨n, l, h⟩ := h
  obtain ⟨x, rfl, _⟩ := hu
  obtain ⟨y, rfl, _⟩ := ht
  obtain ⟨r, cc, hR⟩ := HasR.ex n l x y (by obtain ⟨A, c, rfl, hc, hm, hn, hl, hr, hw⟩ := h; exact hl)
  have H1 := Lib.hid (hullHasT_any v n l x y r cc w _ (Nat.le_refl _) h hR)
  have H2 := Lib.hid fun W (hb : Below w.heap.size w W) => refHullHasT_any v n l x y r cc W _ hb.size (h.below hb) hR
  obtain ⟨A, c, rfl, hc, hm, hn, hl, hr, hw⟩ := h
  have t1 : (r == r) = true := by simp
  clear hr hl hw hR
  go_enter Try.func10, Try.ntmps10
  go_wp2_with (first
    | (go_at_call 32; refine (H1.out).mono ?_; rintro e w1 ⟨rfl, hb1⟩)
    | (go_at_call 33; refine (H2.out _ hb1).mono ?_; rintro e w2 ⟨rfl, hb2⟩))
  all_goals (go_ret; exact ⟨ret_bool (by simp), hb1.trans (hb2.mono hb1.size)⟩)
end Go.Proofs.Ytgfddolchachkaa
