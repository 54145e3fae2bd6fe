/-
  The walk of the law ImageLoads: image.Load and the reference answer alike. Conditions: the bytes can be read as data, and they are at most 1048576.
-/
import Derived.Test.YtaipnjoeejgnnaaRefImageLoad
import Derived.Test.YtaipnjoeejgnnaaSamePoints
namespace Go.Proofs.Ytaipnjoeejgnnaa
open Go Go.RowKit Go.Dam
set_option linter.unusedVariables false
set_option maxHeartbeats 400000 in
theorem imageLoads_walk (v : Value) (w : World) (h : ∃ b, IsInts .u8 w w.heap.size v b) (hsz : ∀ b, IsInts .u8 w w.heap.size v b → b.length ≤ 1048576) :
    Calls Try.prog 3 #[v] w fun e w' => e = .returned (.bool true) ∧ Below w.heap.size w w' := by
  obtain ⟨b, h⟩ := h
  obtain ⟨n, l, cc, hR⟩ := LoadR.ex b
  have H1 := Lib.hid (loadImg_any v b n l cc w _ (Nat.le_refl _) h hR)
  have H2 := Lib.hid fun w1 (hb : Below w.heap.size w w1) => refLoad_any v b n l cc w1 w.heap.size hb.size (h.below hb) hR (hsz b h)
  clear hR hsz
  obtain ⟨A, c, rfl, hc, hm, hn, hr, hw⟩ := h
  clear hr hw
  go_enter Try.func3, Try.ntmps3
  go_wp2_with (first
    | (go_at_call 15; refine (H1.out).mono ?_; rintro e w1 ⟨u1, rfl, hi1, hb1⟩; have HI1 := Lib.hid hi1; have HB1 := Lib.hid hb1; obtain ⟨A1, c1, rfl, _⟩ := hi1; clear hb1)
    | (go_at_call 16; refine (H2.out _ HB1.out).mono ?_; rintro e w2 ⟨u2, rfl, hi2, hb2⟩; have HI2 := Lib.hid hi2; have HB2 := Lib.hid hb2; obtain ⟨A2, c2, rfl, _⟩ := hi2; clear hb2)
    | (go_at_call 17; refine (samePoints_any _ _ n _ _ _ ((HI1.out.below HB2.out).more HB2.out.size) HI2.out).mono ?_; rintro e w3 ⟨rfl, hd3⟩))
  go_ret
  exact ⟨ret_bool (by simp), (HB1.out.trans (HB2.out.mono HB1.out.size)).trans (hd3.below _)⟩
end Go.Proofs.Ytaipnjoeejgnnaa
