/-
  Contracts of cmp.Or[int] at three numbers, and of the comparing function of grid.build. Conditions: the two places lie in the row.
-/
import Derived.Test.YthiccmncdmohbaaGreatMGridTops11
import Derived.Test.YthiccmncdmohbaaGreatMGridTops12
import Derived.Test.YthiccmncdmohbaaGreatMGridTops04
import Derived.Deep.RegionHeld3
import Derived.BigQuiet
set_option linter.unusedVariables false
set_option linter.unusedSimpArgs false
namespace Go.Dam
open Go Go.RowKit
/-- The first of three numbers that is not zero. -/
def or3 (a b c : Int) : Int := if a ≠ 0 then a else if b ≠ 0 then b else c
end Go.Dam
namespace Go.Proofs.YthiccmncdmohbaaGreat
open Go Go.RowKit Go.Dam Go.Shelf
set_option linter.unusedVariables false
theorem kept_alloc {w : World} {g i : Nat} {v : Value} {o : Obj} (hp : g < w.heap.size) (h : w.cell? ⟨g, i, none⟩ = some v) : (w.alloc o).drew.cell? ⟨g, i, none⟩ = some v := (World.cell?_alloc_lt w o ⟨g, i, none⟩ hp).trans h
theorem cmpCompareI (x y : Int) (w : World) : Calls Tryz.prog 28 #[.int .i64 x, .int .i64 y] w fun e w' => e = .returned (.int .i64 (Lib.compareInt x y)) ∧ w = w' := by
  have h := AnyG.cmp_Compare_int Tryz.cmpInt x y w
  change Calls Tryz.prog 28 _ _ _ at h
  exact h.mono fun _ _ ⟨he, hw⟩ => ⟨he, hw.symm⟩
set_option maxHeartbeats 1000000 in
theorem cmpOr_any (a b c : Int) (g : Nat) (w : World) (h0 : w.cell? ⟨g, 0, none⟩ = some (.int .i64 a)) (h1 : w.cell? ⟨g, 1, none⟩ = some (.int .i64 b)) (h2 : w.cell? ⟨g, 2, none⟩ = some (.int .i64 c)) :
    Calls Tryz.prog 27 #[.slice (some ⟨g, 0, none⟩) 3 3] w fun e w' => e = .returned (.int .i64 (or3 a b c)) ∧ ∃ q, w' = w.drewN q := by
  have hw := cell_lt h0
  have hcs : ∀ i, i < 3 → w.cell? ⟨g, i, none⟩ = some (.int .i64 (if i = 0 then a else if i = 1 then b else c)) := fun i hi => by
    rcases (show i = 0 ∨ i = 1 ∨ i = 2 by omega) with rfl | rfl | rfl
    · exact h0
    · exact h1
    · exact h2
  have HCs := Lib.hid hcs
  clear hcs h0 h1 h2
  go_enter Tryz.func27, Tryz.ntmps27
  go_wp2_with fail
  go_loopw [5, 8] (fun _ iv wr => ∃ i : Nat, i ≤ 3 ∧ iv = .int .i64 i ∧ (0 < i → a = 0) ∧ (1 < i → b = 0) ∧ (2 < i → c = 0) ∧ ∃ q, wr = w.drewN q) (fun _ iv _ => 3 - (intOf iv).toNat)
  case atStart => exact ⟨0, by omega, rfl, by omega, by omega, by omega, 0, rfl⟩
  case round =>
    obtain ⟨i, hi, rfl, ha, hb, hc, q, rfl⟩ := hrel
    by_cases hlt : i < 3
    · have i1 : (i : Int) < 3 := by omega
      have hci : (w.drewN q).cell? ⟨g, i, none⟩ = some (.int .i64 (if i = 0 then a else if i = 1 then b else c)) := HCs.out i hlt
      obtain ⟨z, hz⟩ : ∃ z, (if i = 0 then a else if i = 1 then b else c) = z := ⟨_, rfl⟩
      rw [hz] at hci
      by_cases h0 : z = 0
      · have t1 : (z != 0) = false := by simp [h0]
        have HZ : Hid ((0 < i + 1 → a = 0) ∧ (1 < i + 1 → b = 0) ∧ (2 < i + 1 → c = 0)) := Lib.hid (by
          rcases (show i = 0 ∨ i = 1 ∨ i = 2 by omega) with rfl | rfl | rfl
          · exact ⟨fun _ => by simp at hz; omega, by omega, by omega⟩
          · exact ⟨fun _ => ha (by omega), fun _ => by simp at hz; omega, by omega⟩
          · exact ⟨fun _ => ha (by omega), fun _ => hb (by omega), fun _ => by simp at hz; omega⟩)
        clear ha hb hc hz h0
        go_wp2_with fail
        go_roundw
        case rel => exact ⟨i + 1, by omega, by go_num, HZ.out.1, HZ.out.2.1, HZ.out.2.2, q, rfl⟩
        case measure => simp [intOf]; omega
      · have t1 : (z != 0) = true := bne_iff_ne.2 h0
        have HZ : Hid (or3 a b c = z) := Lib.hid (by
          unfold or3
          rcases (show i = 0 ∨ i = 1 ∨ i = 2 by omega) with rfl | rfl | rfl
          · simp at hz; rw [hz, if_pos h0]
          · simp at hz; rw [if_neg (by simp [ha (by omega)]), hz, if_pos h0]
          · simp at hz; rw [if_neg (by simp [ha (by omega)]), if_neg (by simp [hb (by omega)]), hz])
        clear ha hb hc hz h0
        go_wp2_with fail
        go_ret
        exact ⟨by rw [HZ.out]; rfl, q, rfl⟩
    · obtain rfl : i = 3 := by omega
      have HZ : Hid (or3 a b c = 0) := Lib.hid (by unfold or3; rw [if_neg (by simp [ha (by omega)]), if_neg (by simp [hb (by omega)]), hc (by omega)])
      clear ha hb hc
      go_wp2_with fail
      go_ret
      exact ⟨by rw [HZ.out]; rfl, q, rfl⟩
set_option maxHeartbeats 1000000 in
theorem gridCmp_any (n c bk off gb i j : Nat) (x0 y0 x1 y1 : Int) (w : World) (hi : i < n) (hj : j < n) (hn : n ≤ 1000000) (hb : w.cell? ⟨gb, 0, none⟩ = some (.slice (some ⟨bk, off, none⟩) n c))
    (hx : w.cell? ⟨bk, off + i * 3, none⟩ = some (.int .i64 x0)) (hy : w.cell? ⟨bk, off + i * 3 + 1, none⟩ = some (.int .i64 y0)) (hx1 : w.cell? ⟨bk, off + j * 3, none⟩ = some (.int .i64 x1)) (hy1 : w.cell? ⟨bk, off + j * 3 + 1, none⟩ = some (.int .i64 y1)) :
    Calls Tryz.prog 26 #[.int .i64 i, .int .i64 j, .pointer (some ⟨gb, 0, none⟩)] w fun e w' => e = .returned (.int .i64 (or3 (Lib.compareInt x0 x1) (Lib.compareInt y0 y1) (Lib.compareInt i j))) ∧ ∃ q os, w' = Sort.grow (w.drewN q) os := by
  have i1 : (i : Int) < (n : Int) := by omega
  have j1 : (j : Int) < (n : Int) := by omega
  have l0 := cell_lt hb
  have l1 : bk < w.heap.size := cell_lt hx
  have HC := Lib.hid cmpCompareI
  have HO := Lib.hid cmpOr_any
  go_enter Tryz.func26, Tryz.ntmps26
  go_wp2_with fail
  go_region_held3 (fun w' => w'.cell? ⟨gb, 0, none⟩ = some (.slice (some ⟨bk, off, none⟩) n c) ∧ w'.cell? ⟨bk, off + i * 3, none⟩ = some (.int .i64 x0) ∧ w'.cell? ⟨bk, off + i * 3 + 1, none⟩ = some (.int .i64 y0) ∧ w'.cell? ⟨bk, off + j * 3, none⟩ = some (.int .i64 x1) ∧ w'.cell? ⟨bk, off + j * 3 + 1, none⟩ = some (.int .i64 y1))
    (first
      | exact ⟨hb, hx, hy, hx1, hy1⟩
      | exact ⟨kept_alloc l0 hb, kept_alloc l1 hx, kept_alloc l1 hy, kept_alloc l1 hx1, kept_alloc l1 hy1⟩)
    (first
      | (go_at_call 28; refine (HC.out _ _ _).mono ?_; rintro e w' ⟨rfl, rfl⟩)
      | (go_at_call 27; refine (HO.out (Lib.compareInt x0 x1) (Lib.compareInt y0 y1) (Lib.compareInt i j) w.heap.size _ (((Blk.new w 3 #[.int .i64 (Lib.compareInt x0 x1), .int .i64 (Lib.compareInt y0 y1), .int .i64 (Lib.compareInt i j)]).drew.cell 0).trans rfl) (((Blk.new w 3 #[.int .i64 (Lib.compareInt x0 x1), .int .i64 (Lib.compareInt y0 y1), .int .i64 (Lib.compareInt i j)]).drew.cell 1).trans rfl) (((Blk.new w 3 #[.int .i64 (Lib.compareInt x0 x1), .int .i64 (Lib.compareInt y0 y1), .int .i64 (Lib.compareInt i j)]).drew.cell 2).trans rfl)).mono ?_; rintro e w' ⟨rfl, q, rfl⟩))
  all_goals go_wp2_with fail
  all_goals go_ret
  all_goals exact ⟨rfl, _, _, by rw [Sort.alloc_eq_grow]; rfl⟩
end Go.Proofs.YthiccmncdmohbaaGreat
