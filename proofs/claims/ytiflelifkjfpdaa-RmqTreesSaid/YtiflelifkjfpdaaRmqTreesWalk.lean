/-
  The walk of the law damask/damasklaw.RmqTrees: it returns true and changes no old memory. Conditions: the argument is a list of ints.
-/
import Derived.Test.YtiflelifkjfpdaaRefRmqTree
namespace Go.Proofs.Ytiflelifkjfpdaa
open Go Go.RowKit Go.Dam
set_option linter.unusedVariables false
set_option maxHeartbeats 1000000 in
theorem rmqTrees_walk (v : Value) (w : World) (h : ∃ l, IsInts .i64 w w.heap.size v l) :
    Calls Try.prog 4 #[v] w fun e w' => e = .returned (.bool true) ∧ Below w.heap.size w w' := by
  obtain ⟨l, h⟩ := h
  have H1 := Lib.hid (rmqTree_any v l w _ (Nat.le_refl _) h)
  have H2 := Lib.hid fun W (hb : Below w.heap.size w W) => refRmqTree_any v l W _ hb.size (h.below hb)
  obtain ⟨A, c, rfl, hc, hm, hn, hr, hw⟩ := h
  clear hr hw
  go_enter Try.func4, Try.ntmps4
  go_wp2_with (first
    | (go_at_call 18; refine (H1.out).mono ?_; rintro e w1 ⟨v1, o1, cc1, rfl, hi1, hb1, ho1⟩; have HO1 := Lib.hid ho1; clear ho1)
    | (go_at_call 19; refine (H2.out _ hb1).mono ?_; rintro e w2 ⟨v2, o2, cc2, rfl, hi2, hb2, ho2⟩; have HO2 := Lib.hid ho2; clear ho2; obtain ⟨rfl, rfl⟩ : o1 = o2 ∧ cc1 = cc2 := (by rcases HO1.out with ⟨a, b, c⟩ | ⟨a, b, c⟩ <;> rcases HO2.out with ⟨a', b', c'⟩ | ⟨a', b', c'⟩ <;> first | (exact ⟨b.trans b'.symm, c.trans c'.symm⟩) | (exact ⟨b.uniq b', c.trans c'.symm⟩) | omega))
    | (go_at_call 17; refine (sameInts_any v1 v2 o1 _ _ ((hi1.below hb2).more hb2.size) hi2).mono ?_; rintro e w3 ⟨rfl, hd⟩))
  go_ret
  exact ⟨ret_bool (by simp), (hb1.trans (hb2.mono hb1.size)).trans (hd.below _)⟩
end Go.Proofs.Ytiflelifkjfpdaa
