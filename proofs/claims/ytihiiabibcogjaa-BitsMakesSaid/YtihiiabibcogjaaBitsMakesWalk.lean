/-
  The walk of the law BitsMakes: bits.Make and the reference's BitsMake answer the same row and the same code. Conditions: the list can be read as data.
-/
import Derived.Test.YtihiiabibcogjaaRefBitsMake
import Derived.Test.YtihiiabibcogjaaSameRow
namespace Go.Proofs.Ytihiiabibcogjaa
open Go Go.RowKit Go.Dam
set_option linter.unusedVariables false
set_option maxHeartbeats 400000 in
theorem bitsMakes_walk (v : Value) (w : World) (h : ∃ l, IsBools w w.heap.size v l) :
    Calls Try.prog 6 #[v] w fun e w' => e = .returned (.bool true) ∧ Below w.heap.size w w' := by
  obtain ⟨l, h⟩ := h
  obtain ⟨n, ws, cc, c1, c2⟩ : ∃ n ws cc, (∀ W, Below w.heap.size w W → Calls Try.prog 19 #[v] W (GivesRow n ws cc W)) ∧ (∀ W, Below w.heap.size w W → Calls Try.prog 20 #[v] W (GivesRow n ws cc W)) := by
    by_cases hl : 4096 < l.length
    · exact ⟨_, _, _, fun W hW => make_long v l W _ (h.below hW) hl, fun W hW => refMake_long v l W _ (h.below hW) hl⟩
    · exact ⟨_, _, _, fun W hW => make_any v l W _ hW.size (h.below hW) (by omega), fun W hW => refMake_any v l W _ hW.size (h.below hW) (by omega)⟩
  have C1 := Lib.hid c1
  have C2 := Lib.hid c2
  clear c1 c2 h
  go_enter Try.func6, Try.ntmps6
  go_wp2_with (first
    | (go_at_call 19; refine (C1.out _ (Below.refl _ _)).mono ?_; rintro e w1 ⟨s1, rfl, ⟨A1, p1, rfl, h1⟩, hb1⟩; have H1 : Hid (IsWords w1 w1.heap.size (.slice A1 ws.length p1) ws) := Lib.hid ⟨A1, p1, rfl, h1⟩; have B1 := Lib.hid hb1; clear h1 hb1)
    | (go_at_call 20; refine (C2.out _ (B1.out.alloc B1.out.size _)).mono ?_; rintro e w2 ⟨s2, rfl, ⟨A2, p2, rfl, h2⟩, hb2⟩; have H2 : Hid (IsWords w2 w2.heap.size (.slice A2 ws.length p2) ws) := Lib.hid ⟨A2, p2, rfl, h2⟩; obtain ⟨k0, k1⟩ := box2 hb2; have hz2 := size_box hb2; have B2 := Lib.hid hb2; clear h2 hb2)
    | (go_at_call 21; refine (sameRow_any _ _ n ws _ w2.heap.size (by simp) (((H1.out.below (below_box B2.out)).more (by omega)).below ((Below.refl _ _).alloc (Nat.le_refl _) _)) (H2.out.below ((Below.refl _ _).alloc (Nat.le_refl _) _))).mono ?_; rintro e w3 ⟨rfl, hb3⟩))
  all_goals (go_ret; exact ⟨ret_bool (by simp), ((B1.out.trans ((below_box B2.out).mono B1.out.size)).trans ((Below.refl _ _).alloc (Nat.le_of_lt (Nat.lt_of_le_of_lt B1.out.size hz2)) _)).trans (hb3.mono (by have := B1.out.size; simp; omega))⟩)
end Go.Proofs.Ytihiiabibcogjaa
