/-
  Contracts of grid.Report and of the reference's GridReport. Conditions: the points can be read as data.
-/
import Derived.Test.YthiccmncdmohbaaGreatMGridTops45
import Derived.Test.YthiccmncdmohbaaGreatMGridTops29
import Derived.Test.YthiccmncdmohbaaGreatMGridTops37
import Derived.Test.YthiccmncdmohbaaGreatMGridTops12
import Derived.Test.YthiccmncdmohbaaGreatMGridTops49
import Derived.BigQuiet
set_option linter.unusedVariables false
set_option linter.unusedSimpArgs false
namespace Go.Proofs.YthiccmncdmohbaaGreat
open Go Go.RowKit Go.Dam Go.Dam.Stable
set_option linter.unusedVariables false
set_option maxHeartbeats 4000000 in
theorem gridReport_any (x0 y0 x1 y1 : Int) (v : Value) (n : Nat) (l : List Int) (w : World) (B : Nat) (hB : B ≤ w.heap.size) (h : IsFlat 3 w B v n l) :
    Calls Tryz.prog 7 #[v, .agg #[.int .i64 x0, .int .i64 y0, .int .i64 x1, .int .i64 y1]] w fun e w' => (∃ u r, e = .returned (.tuple #[u, .int .i64 (ptCode n l)]) ∧ (ptCode n l = 0 → ∃ rn, OrdXY l n rn ∧ r = natL (rn.filter (inP l x0 y0 x1 y1))) ∧ (ptCode n l ≠ 0 → r = []) ∧ IsInts .i64 w' w'.heap.size u r) ∧ Below w.heap.size w w' := by
  have HB0 := Lib.hid ((Below.refl w.heap.size w).alloc (Nat.le_refl _) (.cells #[.int .i64 x0, .int .i64 y0, .int .i64 x1, .int .i64 y1] 24))
  have HK := Lib.hid (Blk.new w 24 #[.int .i64 x0, .int .i64 y0, .int .i64 x1, .int .i64 y1])
  have HP := Lib.hid (gridCheck_any v n l (w.alloc (.cells #[.int .i64 x0, .int .i64 y0, .int .i64 x1, .int .i64 y1] 24)) B (by simp; omega) (h.below (HB0.out.mono hB)))
  have HBu := Lib.hid fun (h0 : ptCode n l = 0) w1 (hb : Below w.heap.size w w1) => gridBuild_any v n l w1 B (Nat.le_trans hB hb.size) (h.below (hb.mono hB)) (pt_coords h0).1
  have hB0 := HB0.out.size
  by_cases h0 : ptCode n l = 0
  · have HW0 := Lib.hid (HBu.out h0)
    have h150 := (pt_coords h0).1
    rw [h0] at HP
    clear HBu h
    go_enter Tryz.func7, Tryz.ntmps7
    go_upto_region 4 with (go_at_call 14; refine (HP.out).mono ?_; rintro e w1 ⟨rfl, hb1⟩)
    have HB1 := Lib.hid (HB0.out.trans (hb1.mono HB0.out.size))
    have HK1 := Lib.hid (HK.out.below hb1 (by simp))
    have k0 := (HK1.out.cell 0).trans rfl
    have k1 := (HK1.out.cell 1).trans rfl
    have k2 := (HK1.out.cell 2).trans rfl
    have k3 := (HK1.out.cell 3).trans rfl
    clear hb1
    go_region_held3 (fun w' => w'.cell? ⟨w.heap.size, 0, none⟩ = some (.int .i64 x0) ∧ w'.cell? ⟨w.heap.size, 1, none⟩ = some (.int .i64 y0) ∧ w'.cell? ⟨w.heap.size, 2, none⟩ = some (.int .i64 x1) ∧ w'.cell? ⟨w.heap.size, 3, none⟩ = some (.int .i64 y1))
      (first
        | exact ⟨k0, k1, k2, k3⟩
        | exact ⟨kept_call hb2 (cell_lt k0) k0, kept_call hb2 (cell_lt k1) k1, kept_call hb2 (cell_lt k2) k2, kept_call hb2 (cell_lt k3) k3⟩
        | exact ⟨kept_call hb3 (cell_lt (kept_call hb2 (cell_lt k0) k0)) (kept_call hb2 (cell_lt k0) k0), kept_call hb3 (cell_lt (kept_call hb2 (cell_lt k1) k1)) (kept_call hb2 (cell_lt k1) k1), kept_call hb3 (cell_lt (kept_call hb2 (cell_lt k2) k2)) (kept_call hb2 (cell_lt k2) k2), kept_call hb3 (cell_lt (kept_call hb2 (cell_lt k3) k3)) (kept_call hb2 (cell_lt k3) k3)⟩)
      (first
        | (go_at_call 15; refine (HW0.out _ HB1.out.drew).mono ?_; rintro e w2 ⟨⟨g, rn, vals, rs, wss, cc, rfl, hR, hI, hfar⟩, hb2⟩)
        | (go_at_call 16; refine (report_any x0 y0 x1 y1 _ g n l rn _ (Nat.le_refl _) hI.two (hR.1.ordX h150)).mono ?_; rintro e w3 ⟨⟨u, rfl, hu⟩, hb3⟩))
    all_goals go_wp2_with fail
    all_goals go_ret2
    all_goals exact ⟨⟨u, _, by rw [h0]; rfl, fun _ => ⟨rn, hR.1, rfl⟩, fun hc => absurd h0 hc, hu⟩, (HB1.out.drew.trans (hb2.mono HB1.out.size)).trans (hb3.mono (Nat.le_trans HB1.out.size hb2.size))⟩
  · clear HBu h
    generalize ptCode n l = cc at *
    have t0 : (cc != 0) = true := bne_iff_ne.2 h0
    go_enter Tryz.func7, Tryz.ntmps7
    go_wp2_with (go_at_call 14; refine (HP.out).mono ?_; rintro e w1 ⟨rfl, hb1⟩)
    go_ret2
    exact ⟨⟨_, [], rfl, fun hc => absurd hc h0, fun _ => rfl, own_ints (l := []) (n := 0) (base := w1.heap.size) (E := 3) (World.ownsRow_nil _ _ _ _) (by simp) (by simp)⟩, HB0.out.trans (hb1.mono HB0.out.size)⟩
end Go.Proofs.YthiccmncdmohbaaGreat
