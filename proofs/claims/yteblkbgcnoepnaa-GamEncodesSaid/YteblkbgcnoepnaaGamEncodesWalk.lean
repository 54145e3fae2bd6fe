/-
  The walk of the law GamEncodes: gam.Encode and the reference's GamEncoded answer the same row and the same code. Conditions: the arguments can be read as data.
-/
import Derived.Test.YteblkbgcnoepnaaRefGamEncode
import Derived.Test.YteblkbgcnoepnaaSameRow
namespace Go.Proofs.Yteblkbgcnoepnaa
open Go Go.RowKit Go.Dam
set_option linter.unusedVariables false
set_option maxHeartbeats 400000 in
theorem gamEncodes_walk (u v : Value) (w : World) (h0 : ∃ x : Int, u = .int .i64 x ∧ I64 x) (h : ∃ l, IsInts .i64 w w.heap.size v l) :
    Calls Try.prog 6 #[u, v] w fun e w' => e = .returned (.bool true) ∧ Below w.heap.size w w' := by
  obtain ⟨k, rfl, hk⟩ := h0
  obtain ⟨l, h⟩ := h
  obtain ⟨n, ws, cc, hR⟩ := EncR.ex k l
  have C1 := Lib.hid fun W (hW : Below w.heap.size w W) => gamEncode_any k v l n ws cc W _ hW.size hk (h.below hW) hR
  have C2 := Lib.hid fun W (hW : Below w.heap.size w W) => refGamEncode_any k v l n ws cc W _ hW.size hk (h.below hW) hR
  clear h hR
  unfold I64 at hk
  go_enter Try.func6, Try.ntmps6
  go_wp2_with (first
    | (go_at_call 21; refine (C1.out _ (Below.refl _ _)).mono ?_; rintro e w1 ⟨s1, rfl, ⟨A1, p1, rfl, h1⟩, hb1⟩; have H1 : Hid (IsWords w1 w1.heap.size (.slice A1 ws.length p1) ws) := Lib.hid ⟨A1, p1, rfl, h1⟩; have B1 := Lib.hid hb1; clear h1 hb1)
    | (go_at_call 22; refine (C2.out _ (B1.out.alloc B1.out.size _)).mono ?_; rintro e w2 ⟨s2, rfl, ⟨A2, p2, rfl, h2⟩, hb2⟩; have H2 : Hid (IsWords w2 w2.heap.size (.slice A2 ws.length p2) ws) := Lib.hid ⟨A2, p2, rfl, h2⟩; obtain ⟨k0, k1⟩ := box2 hb2; have hz2 := size_box hb2; have B2 := Lib.hid hb2; clear h2 hb2)
    | (go_at_call 23; refine (sameRow_any _ _ n ws _ w2.heap.size (by simp) (((H1.out.below (below_box B2.out)).more (by omega)).below ((Below.refl _ _).alloc (Nat.le_refl _) _)) (H2.out.below ((Below.refl _ _).alloc (Nat.le_refl _) _))).mono ?_; rintro e w3 ⟨rfl, hb3⟩))
  all_goals (go_ret; exact ⟨ret_bool (by simp), ((B1.out.trans ((below_box B2.out).mono B1.out.size)).trans ((Below.refl _ _).alloc (Nat.le_of_lt (Nat.lt_of_le_of_lt B1.out.size hz2)) _)).trans (hb3.mono (by have := B1.out.size; simp; omega))⟩)
end Go.Proofs.Yteblkbgcnoepnaa
