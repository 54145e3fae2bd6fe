/-
  Contracts of cmp.Or[int] at three numbers, and of the comparing function of grid.build. Conditions: the two places lie in the row.
-/
import Derived.Test.YthiccmncdmohbaaMHullInsides14
import Derived.Test.YthiccmncdmohbaaMHullInsides19
import Derived.Test.YthiccmncdmohbaaMHullInsides05
import Derived.Deep.RegionHeld3
import Derived.BigQuiet
set_option linter.unusedVariables false
set_option linter.unusedSimpArgs false
namespace Go.Dam
open Go Go.RowKit
/-- The first of three numbers that is not zero. -/
def or3 (a b c : Int) : Int := if a ≠ 0 then a else if b ≠ 0 then b else c
end Go.Dam
namespace Go.Proofs.Ythiccmncdmohbaa
open Go Go.RowKit Go.Dam Go.Shelf
set_option linter.unusedVariables false
theorem kept_alloc {w : World} {g i : Nat} {v : Value} {o : Obj} (hp : g < w.heap.size) (h : w.cell? ⟨g, i, none⟩ = some v) : (w.alloc o).drew.cell? ⟨g, i, none⟩ = some v := (World.cell?_alloc_lt w o ⟨g, i, none⟩ hp).trans h
theorem cmpCompareI (x y : Int) (w : World) : Calls Try.prog 50 #[.int .i64 x, .int .i64 y] w fun e w' => e = .returned (.int .i64 (Lib.compareInt x y)) ∧ w = w' := by
  have h := AnyG.cmp_Compare_int Try.cmpInt x y w
  change Calls Try.prog 50 _ _ _ at h
  exact h.mono fun _ _ ⟨he, hw⟩ => ⟨he, hw.symm⟩
set_option maxHeartbeats 1000000 in
theorem cmpOr_any (a b c : Int) (g : Nat) (w : World) (h0 : w.cell? ⟨g, 0, none⟩ = some (.int .i64 a)) (h1 : w.cell? ⟨g, 1, none⟩ = some (.int .i64 b)) (h2 : w.cell? ⟨g, 2, none⟩ = some (.int .i64 c)) :
    Calls Try.prog 49 #[.slice (some ⟨g, 0, none⟩) 3 3] w fun e w' => e = .returned (.int .i64 (or3 a b c)) ∧ ∃ q, w' = w.drewN q := by
  have hw := cell_lt h0
  have hcs : ∀ i, i < 3 → w.cell? ⟨g, i, none⟩ = some (.int .i64 (if i = 0 then a else if i = 1 then b else c)) := fun i hi => by
    rcases (show i = 0 ∨ i = 1 ∨ i = 2 by omega) with rfl | rfl | rfl
    · exact h0
    · exact h1
    · exact h2
  have HCs := Lib.hid hcs
  clear hcs h0 h1 h2
  go_enter Try.func49, Try.ntmps49
  go_wp2_with fail
  go_loopw [5, 8] (fun _ iv wr => ∃ i : Nat, i ≤ 3 ∧ iv = .int .i64 i ∧ (0 < i → a = 0) ∧ (1 < i → b = 0) ∧ (2 < i → c = 0) ∧ ∃ q, wr = w.drewN q) (fun _ iv _ => 3 - (intOf iv).toNat)
  case atStart => exact ⟨0, by omega, rfl, by omega, by omega, by omega, 0, rfl⟩
  case round =>
    obtain ⟨i, hi, rfl, ha, hb, hc, q, rfl⟩ := hrel
    by_cases hlt : i < 3
    · have i1 : (i : Int) < 3 := by omega
      have hci : (w.drewN q).cell? ⟨g, i, none⟩ = some (.int .i64 (if i = 0 then a else if i = 1 then b else c)) := HCs.out i hlt
      obtain ⟨z, hz⟩ : ∃ z, (if i = 0 then a else if i = 1 then b else c) = z := ⟨_, rfl⟩
      rw [hz] at hci
      by_cases h0 : z = 0
      · have t1 : (z != 0) = false := by simp [h0]
        have HZ : Hid ((0 < i + 1 → a = 0) ∧ (1 < i + 1 → b = 0) ∧ (2 < i + 1 → c = 0)) := Lib.hid (by
          rcases (show i = 0 ∨ i = 1 ∨ i = 2 by omega) with rfl | rfl | rfl
          · exact ⟨fun _ => by simp at hz; omega, by omega, by omega⟩
          · exact ⟨fun _ => ha (by omega), fun _ => by simp at hz; omega, by omega⟩
          · exact ⟨fun _ => ha (by omega), fun _ => hb (by omega), fun _ => by simp at hz; omega⟩)
        clear ha hb hc hz h0
        go_wp2_with fail
        go_roundw
        case rel => exact ⟨i + 1, by omega, by go_num, HZ.out.1, HZ.out.2.1, HZ.out.2.2, q, rfl⟩
        case measure => simp [intOf]; omega
      · have t1 : (z != 0) = true := bne_iff_ne.2 h0
        have HZ : Hid (or3 a b c = z) := Lib.hid (by
          unfold or3
          rcases (show i = 0 ∨ i = 1 ∨ i = 2 by omega) with rfl | rfl | rfl
          · simp at hz; rw [hz, if_pos h0]
          · simp at hz; rw [if_neg (by simp [ha (by omega)]), hz, if_pos h0]
          · simp at hz; rw [if_neg (by simp [ha (by omega)]), if_neg (by simp [hb (by omega)]), hz])
        clear ha hb hc hz h0
        go_wp2_with fail
        go_ret
        exact ⟨by rw [HZ.out]; rfl, q, rfl⟩
    · obtain rfl : i = 3 := by omega
      have HZ : Hid (or3 a b c = 0) := Lib.hid (by unfold or3; rw [if_neg (by simp [ha (by omega)]), if_neg (by simp [hb (by omega)]), hc (by omega)])
      clear ha hb hc
      go_wp2_with fail
      go_ret
      exact ⟨by rw [HZ.out]; rfl, q, rfl⟩
end Go.Proofs.Ythiccmncdmohbaa
