/-
  The walk of the law FanoMakes: fano.Make and the reference's FanoMake answer the same struct and the same code. Conditions: the list can be read as data.
-/
import Derived.Test.YteblkbgcnoepnaaRefFanoMakeZero
import Derived.Test.YteblkbgcnoepnaaSamePacked
import Derived.Test.YteblkbgcnoepnaaSameRow
namespace Go.Proofs.Yteblkbgcnoepnaa
open Go Go.RowKit Go.Dam
set_option linter.unusedVariables false
theorem FanoR.ex (x : Int) (l : List Int) : ∃ bd n1 m1 ws1 n2 ws2 cc, FanoR x l bd n1 m1 ws1 n2 ws2 cc (fun W l n m ws => ∃ c, PackR W l n m ws c) := by
  unfold FanoR
  by_cases h1 : 300 < l.length
  · exact ⟨0, 0, 0, [], 0, [], 1, .inl ⟨by omega, rfl, rfl, rfl, rfl, rfl, rfl, .inl ⟨h1, rfl⟩⟩⟩
  · by_cases h2 : x < 0 ∨ (¬ x < 0 ∧ 1048576 < x)
    · exact ⟨0, 0, 0, [], 0, [], 2, .inl ⟨by omega, rfl, rfl, rfl, rfl, rfl, rfl, .inr (.inl ⟨by omega, h2, rfl⟩)⟩⟩
    · by_cases h3 : OkF x l
      · obtain ⟨b, rfl⟩ := Int.eq_ofNat_of_zero_le (by omega : 0 ≤ x)
        obtain ⟨W, hW⟩ := WidF.ex b l.length
        obtain ⟨n, m, ws, c, hP⟩ := PackR.ex W (lowF W l)
        exact ⟨b, n, m, ws, _, _, 0, .inr ⟨rfl, by omega, h3, b, W, rfl, by omega, hW, rfl, ⟨c, hP⟩, rfl, rfl⟩⟩
      · exact ⟨0, 0, 0, [], 0, [], 4, .inl ⟨by omega, rfl, rfl, rfl, rfl, rfl, rfl, .inr (.inr ⟨by omega, by omega, by omega, h3, rfl⟩)⟩⟩
set_option maxHeartbeats 1000000 in
theorem fanoMakes_walk (u v : Value) (w : World) (h' : ∃ x : Int, u = .int .i64 x ∧ I64 x) (h : ∃ l, IsInts .i64 w w.heap.size v l) :
    Calls Try.prog 8 #[u, v] w fun e w' => e = .returned (.bool true) ∧ Below w.heap.size w w' := by
  obtain ⟨l, h⟩ := h
  obtain ⟨x, rfl, hx⟩ := h'
  obtain ⟨bd, n1, m1, ws1, n2, ws2, cc, hR⟩ := FanoR.ex x l
  have C1 := Lib.hid (fanoMake_any x v l bd n1 m1 ws1 n2 ws2 cc w _ (Nat.le_refl _) hx h hR)
  have C2 := Lib.hid fun W (hW : Below w.heap.size w W) => refFanoMake_any x v l bd n1 m1 ws1 n2 ws2 cc W _ hW.size hx (h.below hW) hR
  clear h hx hR
  go_enter Try.func8, Try.ntmps8
  go_upto_region 3 with (first
    | (go_at_call 27; refine (C1.out).mono ?_; rintro e w1 ⟨s1, t1, rfl, ⟨A1, p1, rfl, h1⟩, ⟨A2, p2, rfl, h2⟩, hb1⟩; have H1 : Hid (IsWords w1 w1.heap.size (.slice A1 ws1.length p1) ws1) := Lib.hid ⟨A1, p1, rfl, h1⟩; have H2 : Hid (IsWords w1 w1.heap.size (.slice A2 ws2.length p2) ws2) := Lib.hid ⟨A2, p2, rfl, h2⟩; have B1 := Lib.hid hb1; clear h1 h2 hb1)
    | (go_at_call 28; refine (C2.out _ (B1.out.alloc B1.out.size _)).mono ?_; rintro e w2 ⟨s2, t2, rfl, ⟨A3, p3, rfl, h3⟩, ⟨A4, p4, rfl, h4⟩, hb2⟩; have H3 : Hid (IsWords w2 w2.heap.size (.slice A3 ws1.length p3) ws1) := Lib.hid ⟨A3, p3, rfl, h3⟩; have H4 : Hid (IsWords w2 w2.heap.size (.slice A4 ws2.length p4) ws2) := Lib.hid ⟨A4, p4, rfl, h4⟩; have B2 := Lib.hid hb2; clear h3 h4 hb2))
  have hz2 := size_box B2.out
  have hz1 := B1.out.size
  have HX := Lib.hid (((Blk.new w1 45 #[.int .i64 bd, .int .i64 n1, .int .i64 m1, .slice A1 ws1.length p1, .int .i64 n2, .slice A2 ws2.length p2]).below B2.out (by simp)).alloc (.cells #[.int .i64 bd, .int .i64 n1, .int .i64 m1, .slice A3 ws1.length p3, .int .i64 n2, .slice A4 ws2.length p4] 45))
  have HY := Lib.hid (Blk.new w2 45 #[.int .i64 bd, .int .i64 n1, .int .i64 m1, .slice A3 ws1.length p3, .int .i64 n2, .slice A4 ws2.length p4])
  have HG := Lib.hid ((Below.refl w2.heap.size w2).alloc (Nat.le_refl _) (.cells #[.int .i64 bd, .int .i64 n1, .int .i64 m1, .slice A3 ws1.length p3, .int .i64 n2, .slice A4 ws2.length p4] 45))
  have HB := Lib.hid ((B1.out.trans ((below_box B2.out).mono B1.out.size)).trans (HG.out.mono (by omega)))
  have G1 := Lib.hid (((H1.out.below (below_box B2.out)).more (Nat.le_of_lt hz2)).below HG.out)
  have G2 := Lib.hid (((H2.out.below (below_box B2.out)).more (Nat.le_of_lt hz2)).below HG.out)
  have G3 := Lib.hid (H3.out.below HG.out)
  have G4 := Lib.hid (H4.out.below HG.out)
  have hsz : (w2.alloc (.cells #[.int .i64 bd, .int .i64 n1, .int .i64 m1, .slice A3 ws1.length p3, .int .i64 n2, .slice A4 ws2.length p4] 45)).heap.size = w2.heap.size + 1 := by simp
  clear H1 H2 H3 H4 B1 B2
  generalize w2.alloc (.cells #[.int .i64 bd, .int .i64 n1, .int .i64 m1, .slice A3 ws1.length p3, .int .i64 n2, .slice A4 ws2.length p4] 45) = w3 at *
  have hw3 : w2.heap.size ≤ w3.heap.size := by omega
  have x0 := HX.out.cell 0
  have x1 := HX.out.cell 1
  have x2 := HX.out.cell 2
  have x3 := HX.out.cell 3
  have y0 := HY.out.cell 0
  have y1 := HY.out.cell 1
  have y2 := HY.out.cell 2
  have y3 := HY.out.cell 3
  go_wp2_with (first
    | (go_at_call 29; refine (samePacked_any _ _ n1 m1 ws1 w3 w2.heap.size hw3 G1.out G3.out).mono ?_; rintro e w4 ⟨rfl, hb4⟩; have hz4 := hb4.size; have u4 := (HX.out.below hb4 HX.out.lt).cell 4; have u5 := (HX.out.below hb4 HX.out.lt).cell 5; have v4 := (HY.out.below hb4 HY.out.lt).cell 4; have v5 := (HY.out.below hb4 HY.out.lt).cell 5; have HB4 := Lib.hid hb4; clear hb4)
    | (go_at_call 23; refine (sameRow_any _ _ n2 ws2 w4 w2.heap.size (by omega) (G2.out.below (HB4.out.mono hw3)) (G4.out.below (HB4.out.mono hw3))).mono ?_; rintro e w5 ⟨rfl, hb5⟩; have HB5 := Lib.hid hb5; clear hb5))
  all_goals (go_ret; exact ⟨ret_bool (by simp), (HB.out.trans (HB4.out.mono (by omega))).trans (HB5.out.mono (by omega))⟩)
end Go.Proofs.Yteblkbgcnoepnaa
