/-
  The walk of the law ParenTrees: paren.Tree and the reference answer alike. Conditions: the text can be read.
-/
import Derived.Test.YtiflelifkjfpdaaRefParenTree
namespace Go.Proofs.Ytiflelifkjfpdaa
open Go Go.RowKit Go.Dam
set_option linter.unusedVariables false
set_option maxHeartbeats 400000 in
theorem parenTrees_walk (v : Value) (w : World) (h : ∃ s : ByteArray, v = .string s ∧ s.size ≤ 140737488351232) :
    Calls Try.prog 13 #[v] w fun e w' => e = .returned (.bool true) ∧ Below w.heap.size w w' := by
  obtain ⟨s, rfl, hs⟩ := h
  obtain ⟨l, cc, hR⟩ := TreeAns.ex s
  have H1 := Lib.hid (parenTree_any s l cc w hs hR)
  have H2 := Lib.hid fun w1 => refParenTree_any s l cc w1 hs hR
  clear hR
  go_enter Try.func13, Try.ntmps13
  go_wp2_with (first
    | (go_at_call 36; refine (H1.out).mono ?_; rintro e w1 ⟨u1, rfl, hi1, hb1⟩; have HI1 := Lib.hid hi1; have HB1 := Lib.hid hb1; obtain ⟨A1, c1, rfl, _, _, _⟩ := hi1.open_ rfl; clear hi1 hb1)
    | (go_at_call 37; refine (H2.out _).mono ?_; rintro e w2 ⟨u2, rfl, hi2, hb2⟩; have HI2 := Lib.hid hi2; have HB2 := Lib.hid hb2; obtain ⟨A2, c2, rfl, _, _, _⟩ := hi2.open_ rfl; clear hi2 hb2)
    | (go_at_call 17; refine (sameInts_any _ _ l _ _ ((HI1.out.below HB2.out).more HB2.out.size) HI2.out).mono ?_; rintro e w3 ⟨rfl, hd3⟩))
  go_ret
  exact ⟨ret_bool (by simp), (HB1.out.trans (HB2.out.mono HB1.out.size)).trans (hd3.below _)⟩
end Go.Proofs.Ytiflelifkjfpdaa
