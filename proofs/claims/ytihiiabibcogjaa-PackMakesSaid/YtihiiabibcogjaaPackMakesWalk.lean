/-
  The walk of the law PackMakes: pack.Make and the reference's PackMake answer the same numbers and the same code. Conditions: the list can be read as data.
-/
import Derived.Test.YtihiiabibcogjaaRefPackMake
import Derived.Test.YtihiiabibcogjaaSamePacked
namespace Go.Proofs.Ytihiiabibcogjaa
open Go Go.RowKit Go.Dam
set_option linter.unusedVariables false
set_option maxHeartbeats 400000 in
theorem packMakes_walk (u v : Value) (w : World) (h' : ∃ x : Int, u = .int .i64 x ∧ I64 x) (h : ∃ l, IsInts .i64 w w.heap.size v l) :
    Calls Try.prog 9 #[u, v] w fun e w' => e = .returned (.bool true) ∧ Below w.heap.size w w' := by
  obtain ⟨l, h⟩ := h
  obtain ⟨x, rfl, hx⟩ := h'
  obtain ⟨n, m, ws, cc, c1, c2⟩ : ∃ n m ws cc, (∀ W, Below w.heap.size w W → Calls Try.prog 26 #[.int .i64 x, v] W (GivesPacked n m ws cc W)) ∧ (∀ W, Below w.heap.size w W → Calls Try.prog 27 #[.int .i64 x, v] W (GivesPacked n m ws cc W)) := by
    by_cases hl : 300 < l.length
    · exact ⟨_, _, _, _, fun W hW => packMake_long v x l W _ (h.below hW) hl, fun W hW => refPackMake_long v x l W _ (h.below hW) hl⟩
    · by_cases hm : x < 0 ∨ 62 < x
      · exact ⟨_, _, _, _, fun W hW => packMake_width v x l W _ (h.below hW) (by omega) hx hm, fun W hW => refPackMake_width v x l W _ (h.below hW) (by omega) hx hm⟩
      · obtain ⟨m, rfl⟩ := Int.eq_ofNat_of_zero_le (by omega : 0 ≤ x)
        obtain ⟨n', m', ws, cc, hR⟩ := PackR.ex m l
        exact ⟨_, _, _, _, fun W hW => packMake_any v m l n' m' ws cc W _ hW.size (h.below hW) (by omega) (by omega) hR, fun W hW => refPackMake_any v m l n' m' ws cc W _ hW.size (h.below hW) (by omega) (by omega) hR⟩
  have C1 := Lib.hid c1
  have C2 := Lib.hid c2
  clear c1 c2 h hx
  go_enter Try.func9, Try.ntmps9
  go_wp2_with (first
    | (go_at_call 26; refine (C1.out _ (Below.refl _ _)).mono ?_; rintro e w1 ⟨s1, rfl, ⟨A1, p1, rfl, h1⟩, hb1⟩; have H1 : Hid (IsWords w1 w1.heap.size (.slice A1 ws.length p1) ws) := Lib.hid ⟨A1, p1, rfl, h1⟩; have B1 := Lib.hid hb1; clear h1 hb1)
    | (go_at_call 27; refine (C2.out _ (B1.out.alloc B1.out.size _)).mono ?_; rintro e w2 ⟨s2, rfl, ⟨A2, p2, rfl, h2⟩, hb2⟩; have H2 : Hid (IsWords w2 w2.heap.size (.slice A2 ws.length p2) ws) := Lib.hid ⟨A2, p2, rfl, h2⟩; obtain ⟨k0, k1, k2⟩ := box3 hb2; have hz2 := size_box hb2; have B2 := Lib.hid hb2; clear h2 hb2)
    | (go_at_call 28; refine (samePacked_any _ _ n m ws _ w2.heap.size (by simp) (((H1.out.below (below_box B2.out)).more (by omega)).below ((Below.refl _ _).alloc (Nat.le_refl _) _)) (H2.out.below ((Below.refl _ _).alloc (Nat.le_refl _) _))).mono ?_; rintro e w3 ⟨rfl, hb3⟩))
  all_goals (go_ret; exact ⟨ret_bool (by simp), ((B1.out.trans ((below_box B2.out).mono B1.out.size)).trans ((Below.refl _ _).alloc (Nat.le_of_lt (Nat.lt_of_le_of_lt B1.out.size hz2)) _)).trans (hb3.mono (by have := B1.out.size; simp; omega))⟩)
end Go.Proofs.Ytihiiabibcogjaa
