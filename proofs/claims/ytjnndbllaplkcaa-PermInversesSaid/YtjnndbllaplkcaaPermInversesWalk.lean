/-
  The walk of the law PermInverses: perm.Inverse and the reference answer one list and one code. Conditions: the argument is a list of ints.
-/
import Derived.Test.YtjnndbllaplkcaaPermInverse
namespace Go.Proofs.Ytjnndbllaplkcaa
open Go Go.RowKit Go.Dam
set_option linter.unusedVariables false
set_option maxHeartbeats 400000 in
theorem permInverses_walk (v : Value) (w : World) (h : ∃ l, IsInts .i64 w w.heap.size v l) :
    Calls Try.prog 8 #[v] w fun e w' => e = .returned (.bool true) ∧ Below w.heap.size w w' := by
  obtain ⟨l, h⟩ := h
  obtain ⟨r, cc, hR⟩ := InvR.ex l
  have H1 := Lib.hid (permInverse_any v l r cc w _ (Nat.le_refl _) h hR)
  have H2 := Lib.hid fun W (hb : Below w.heap.size w W) => refPermInverse_any v l r cc W _ hb.size (h.below hb) hR
  obtain ⟨A, c, rfl, hc, hm, hn, hr, hw⟩ := h
  clear hr hw hR
  go_enter Try.func8, Try.ntmps8
  go_wp2_with (first
    | (go_at_call 26; refine (H1.out).mono ?_; rintro e w1 ⟨v1, rfl, hi1, hb1⟩)
    | (go_at_call 27; refine (H2.out _ hb1).mono ?_; rintro e w2 ⟨v2, rfl, hi2, hb2⟩)
    | (go_at_call 28; refine (sameInts_any v1 v2 r _ _ ((hi1.below hb2).more hb2.size) hi2).mono ?_; rintro e w3 ⟨rfl, hd⟩))
  go_ret
  exact ⟨ret_bool (by simp), (hb1.trans (hb2.mono hb1.size)).trans (hd.below _)⟩
end Go.Proofs.Ytjnndbllaplkcaa
