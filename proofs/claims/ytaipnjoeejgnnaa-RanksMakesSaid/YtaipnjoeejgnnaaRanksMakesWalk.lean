/-
  The walk of the law RanksMakes: ranks.Make and the reference answer alike. Conditions: the list can be read as data.
-/
import Derived.Test.YtaipnjoeejgnnaaRefRanksMake
namespace Go.Proofs.Ytaipnjoeejgnnaa
open Go Go.RowKit Go.Dam
set_option linter.unusedVariables false
set_option maxHeartbeats 400000 in
theorem ranksMakes_walk (v : Value) (w : World) (h : ∃ l, IsInts .i64 w w.heap.size v l) :
    Calls Try.prog 12 #[v] w fun e w' => e = .returned (.bool true) ∧ Below w.heap.size w w' := by
  obtain ⟨l, h⟩ := h
  obtain ⟨vs, rs, cc, hR⟩ := RankAns.ex l
  have H1 := Lib.hid (ranksMake_any v l vs rs cc w _ (Nat.le_refl _) h hR)
  have H2 := Lib.hid fun w1 (hb : Below w.heap.size w w1) => refRanksMake_any v l vs rs cc w1 w.heap.size hb.size (h.below hb) hR
  clear hR
  obtain ⟨A, c, rfl, hc, hm, hn, hr, hw⟩ := h
  clear hr hw
  go_enter Try.func12, Try.ntmps12
  go_wp2_with (first
    | (go_at_call 37; refine (H1.out).mono ?_; rintro e w1 ⟨u1, v1, rfl, hi1, hj1, hb1⟩; have HI1 := Lib.hid hi1; have HJ1 := Lib.hid hj1; have HB1 := Lib.hid hb1; obtain ⟨A1, c1, rfl, _⟩ := hi1; obtain ⟨D1, k1, rfl, _⟩ := hj1; clear hb1)
    | (go_at_call 38; refine (H2.out _ HB1.out).mono ?_; rintro e w2 ⟨u2, v2, rfl, hi2, hj2, hb2⟩; have HI2 := Lib.hid hi2; have HJ2 := Lib.hid hj2; have HB2 := Lib.hid hb2; obtain ⟨A2, c2, rfl, _⟩ := hi2; obtain ⟨D2, k2, rfl, _⟩ := hj2; clear hb2)
    | (go_at_call 20; (with_reducible refine (sameInts_any _ _ vs _ _ ((HI1.out.below HB2.out).more HB2.out.size) HI2.out).mono ?_); rintro e w3 ⟨rfl, hd3⟩; have HD3 := Lib.hid hd3; clear hd3)
    | (go_at_call 20; refine (sameInts_any _ _ rs _ _ (((HJ1.out.below HB2.out).more HB2.out.size).below (HD3.out.below _)) (HJ2.out.below (HD3.out.below _))).mono ?_; rintro e w4 ⟨rfl, hd4⟩; have HD4 := Lib.hid hd4; clear hd4))
  go_ret
  exact ⟨ret_bool (by simp), ((HB1.out.trans (HB2.out.mono HB1.out.size)).trans (HD3.out.below _)).trans (HD4.out.below _)⟩
end Go.Proofs.Ytaipnjoeejgnnaa
