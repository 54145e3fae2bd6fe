/-
  The walk of the law StabRefused: stab.Apart, Nails and Rooms refuse what the reference refuses. Conditions: the spans can be read as data.
-/
import Derived.Test.YtgfddolchachkaaMStabRefused19
import Derived.Test.YtgfddolchachkaaMStabRefused21
import Derived.Test.YtgfddolchachkaaMStabRefused23
namespace Go.Proofs.Ytgfddolchachkaa
open Go Go.RowKit Go.Dam
set_option linter.unusedVariables false
set_option maxHeartbeats 1000000 in
theorem stabRefused_walk (v : Value) (w : World) (h : ∃ n l, IsFlat 2 w w.heap.size v n l) :
    Calls Try.prog 7 #[v] w fun e w' => e = .returned (.bool true) ∧ Below w.heap.size w w' := by
  obtain ⟨n, l, h⟩ := h
  have H1 := Lib.hid (stabApart_any v n l w _ (Nat.le_refl _) h)
  have H2 := Lib.hid fun W (hb : Below w.heap.size w W) => stabNails_any v n l W _ hb.size (h.below hb)
  have H3 := Lib.hid fun W (hb : Below w.heap.size w W) => stabRooms_any v n l W _ hb.size (h.below hb)
  have H4 := Lib.hid fun W (hb : Below w.heap.size w W) => spansFault_any v n l W _ hb.size (h.below hb)
  obtain ⟨A, c, rfl, hc, hm, hn, hl, hr, hw⟩ := h
  clear hr hl hw
  obtain ⟨cc, hcc⟩ : ∃ cc, spCode n l = cc := ⟨_, rfl⟩
  rw [hcc] at H1 H2 H3 H4
  by_cases h0 : cc = 0
  · subst h0
    go_enter Try.func7, Try.ntmps7
    go_wp2_with (first
      | (go_at_call 23; refine (H1.out).mono ?_; rintro e w1 ⟨A1, m1, c1, rfl, _, hb1⟩; have HB1 := Lib.hid hb1; clear hb1)
      | (go_at_call 24; refine (H2.out _ HB1.out).mono ?_; rintro e w2 ⟨A2, m2, c2, rfl, _, hb2⟩; have HB2 := Lib.hid (HB1.out.trans (hb2.mono HB1.out.size)); clear hb2)
      | (go_at_call 25; refine (H3.out _ HB2.out).mono ?_; rintro e w3 ⟨A3, m3, c3, rfl, _, hm3, hb3⟩; obtain rfl : m3 = n := hm3 (by first | rfl | trivial); have HB3 := Lib.hid (HB2.out.trans (hb3.mono HB2.out.size)); clear hb3 hm3)
      | (go_at_call 26; refine (H4.out _ HB3.out).mono ?_; rintro e w4 ⟨rfl, hb4⟩; have HB4 := Lib.hid (HB3.out.trans (hb4.mono HB3.out.size)); clear hb4))
    all_goals (go_ret; exact ⟨ret_bool (by simp), HB4.out⟩)
  · have t0 : (cc == 0) = false := beq_eq_false_iff_ne.2 h0
    clear hcc
    go_enter Try.func7, Try.ntmps7
    go_wp2_with (first
      | (go_at_call 23; refine (H1.out).mono ?_; rintro e w1 ⟨A1, m1, c1, rfl, hm1, hb1⟩; obtain rfl : m1 = 0 := hm1 h0; have HB1 := Lib.hid hb1; clear hb1 hm1)
      | (go_at_call 24; refine (H2.out _ HB1.out).mono ?_; rintro e w2 ⟨A2, m2, c2, rfl, hm2, hb2⟩; obtain rfl : m2 = 0 := hm2 h0; have HB2 := Lib.hid (HB1.out.trans (hb2.mono HB1.out.size)); clear hb2 hm2)
      | (go_at_call 25; refine (H3.out _ HB2.out).mono ?_; rintro e w3 ⟨A3, m3, c3, rfl, hm3, _, hb3⟩; obtain rfl : m3 = 0 := hm3 h0; have HB3 := Lib.hid (HB2.out.trans (hb3.mono HB2.out.size)); clear hb3 hm3)
      | (go_at_call 26; refine (H4.out _ HB3.out).mono ?_; rintro e w4 ⟨rfl, hb4⟩; have HB4 := Lib.hid (HB3.out.trans (hb4.mono HB3.out.size)); clear hb4))
    all_goals (go_ret; exact ⟨ret_bool (by simp), HB4.out⟩)
end Go.Proofs.Ytgfddolchachkaa
