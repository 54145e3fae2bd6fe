/-
  The walk of the law HullInsides: hull.Inside and the reference answer alike. Conditions: the points can be read as data.
-/
import Derived.Test.YthiccmncdmohbaaMHullInsides40
import Derived.Test.YthiccmncdmohbaaMHullInsides44
set_option linter.unusedVariables false
set_option linter.unusedSimpArgs false
namespace Go.Proofs.Ythiccmncdmohbaa
open Go Go.RowKit Go.Dam Go.Dam.Hull
set_option linter.unusedVariables false
set_option maxHeartbeats 400000 in
theorem hullInsides_walk (v : Value) (w : World) (h : ∃ n l, IsFlat 3 w w.heap.size v n l) :
    Calls Try.prog 5 #[v] w fun e w' => e = .returned (.bool true) ∧ Below w.heap.size w w' := by
  obtain ⟨n, l, h⟩ := h
  obtain ⟨cc, H, hR⟩ := HullsR.ex n l
  have H1 := Lib.hid (hullInside_any v n l H cc w _ (Nat.le_refl _) h hR)
  have H2 := Lib.hid fun W (hb : Below w.heap.size w W) => refInside_any v n l H cc W _ hb.size (h.below hb) hR
  obtain ⟨a, ha⟩ : ∃ a, a = if cc = 0 then insA (ptF l) H else 0 := ⟨_, rfl⟩
  obtain ⟨b, hb⟩ : ∃ a, a = if cc = 0 then insB (ptF l) H else 0 := ⟨_, rfl⟩
  rw [← ha, ← hb] at H1 H2
  obtain ⟨A, c, rfl, hc, hm, hn, hl, hr, hw⟩ := h
  clear hr hl hw hR ha hb
  go_enter Try.func5, Try.ntmps5
  go_wp2_with (first
    | (go_at_call 11; refine (H1.out).mono ?_; rintro e w1 ⟨rfl, hb1⟩)
    | (go_at_call 12; refine (H2.out _ hb1).mono ?_; rintro e w2 ⟨rfl, hb2⟩))
  all_goals (go_ret; exact ⟨ret_bool (by simp), hb1.trans (hb2.mono hb1.size)⟩)
end Go.Proofs.Ythiccmncdmohbaa
