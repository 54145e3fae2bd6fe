/-
  The walk of the law ImageSaves: image.Save and the reference answer alike. Conditions: the points can be read as data.
-/
import Derived.Test.YtjniiiimkejkiaaRefImageSave
namespace Go.Proofs.Ytjniiiimkejkiaa
open Go Go.RowKit Go.Dam
set_option linter.unusedVariables false
set_option maxHeartbeats 400000 in
theorem imageSaves_walk (v : Value) (w : World) (h : ∃ n l, IsFlat 3 w w.heap.size v n l) :
    Calls Try.prog 10 #[v] w fun e w' => e = .returned (.bool true) ∧ Below w.heap.size w w' := by
  obtain ⟨n, l, h⟩ := h
  have H1 := Lib.hid (saveImg_any v n l w _ (Nat.le_refl _) h)
  have H2 := Lib.hid fun w1 (hb : Below w.heap.size w w1) => refSave_any v n l w1 w.heap.size hb.size (h.below hb)
  obtain ⟨A, c, rfl, hc, hm, hn, hl, hr, hw⟩ := h
  clear hr hw
  generalize savedL n l = m at *
  generalize ptCode n l = cc at *
  go_enter Try.func10, Try.ntmps10
  go_wp2_with (first
    | (go_at_call 29; refine (H1.out).mono ?_; rintro e w1 ⟨u1, rfl, hi1, hb1⟩; have HI1 := Lib.hid hi1; have HB1 := Lib.hid hb1; obtain ⟨A1, c1, rfl, _, _, _⟩ := hi1.openB rfl; clear hi1 hb1)
    | (go_at_call 30; refine (H2.out _ HB1.out).mono ?_; rintro e w2 ⟨u2, rfl, hi2, hb2⟩; have HI2 := Lib.hid hi2; have HB2 := Lib.hid hb2; obtain ⟨A2, c2, rfl, _, _, _⟩ := hi2.openB rfl; clear hi2 hb2)
    | (go_at_call 31; refine (sameBytes_any _ _ m _ _ ((HI1.out.below HB2.out).more HB2.out.size) HI2.out).mono ?_; rintro e w3 ⟨rfl, hd3⟩))
  go_ret
  exact ⟨ret_bool (by simp), (HB1.out.trans (HB2.out.mono HB1.out.size)).trans (hd3.below _)⟩
end Go.Proofs.Ytjniiiimkejkiaa
