/-
  The walk of the law Names: the error numbers, kinds and limits of package api are the document's. Conditions: none, there is no argument.
-/
import Derived.Test.YtihiiabibcogjaaBase
namespace Go.Proofs.Ytihiiabibcogjaa
open Go Go.RowKit Go.Dam
set_option linter.unusedVariables false
theorem cells_at {w : World} {g : Nat} {t : TypeId} {cs : Array Value} {l : List Int} (h : Blk w g t cs) (hl : cs.toList = l.map (Value.int .i64)) {j : Nat} (hj : j < l.length) : w.cell? ⟨g, j, none⟩ = some (.int .i64 (l.getD j 0)) := by
  rw [h.cell, ← Array.getElem?_toList, hl]
  simp [hj]
theorem kinds_list : (#[.int .i64 1, .int .i64 2, .int .i64 1, .int .i64 2, .int .i64 3, .int .i64 4, .int .i64 1, .int .i64 2, .int .i64 1, .int .i64 2, .int .i64 3, .int .i64 4, .int .i64 5, .int .i64 1, .int .i64 2, .int .i64 3, .int .i64 4, .int .i64 5] : Array Value).toList = ([1, 2, 1, 2, 3, 4, 1, 2, 1, 2, 3, 4, 5, 1, 2, 3, 4, 5] : List Int).map (Value.int .i64) := rfl
theorem limits_list : (#[.int .i64 4096, .int .i64 300, .int .i64 1048576, .int .i64 150, .int .i64 21, .int .i64 200, .int .i64 300, .int .i64 100, .int .i64 40, .int .i64 1048576, .int .i64 60, .int .i64 400, .int .i64 8, .int .i64 8, .int .i64 64, .int .i64 64] : Array Value).toList = ([4096, 300, 1048576, 150, 21, 200, 300, 100, 40, 1048576, 60, 400, 8, 8, 64, 64] : List Int).map (Value.int .i64) := rfl
set_option maxHeartbeats 400000 in
theorem names_walk (w : World) :
    Calls Try.prog 3 #[] w fun e w' => e = .returned (.bool true) ∧ Below w.heap.size w w' := by
  go_enter Try.func3, Try.ntmps3
  go_wp2_with fail
  go_loopw [2] (fun kv wr => ∃ i : Nat, i ≤ 12 ∧ kv = .int .i64 i ∧ (∀ j : Nat, j < 12 → wr.cell? ⟨w.heap.size, j, none⟩ = some (.int .i64 j)) ∧ Below w.heap.size w wr) (fun kv _ => 12 - (intOf kv).toNat)
  case atStart =>
    refine ⟨0, by omega, rfl, fun j hj => ?_, (Below.refl _ _).alloc (Nat.le_refl _) _⟩
    rcases j with _ | _ | _ | _ | _ | _ | _ | _ | _ | _ | _ | _ | j <;> first | (simp; done) | omega
  case round =>
    obtain ⟨wo, rfl⟩ : ∃ wo : World, wo = wr := ⟨_, rfl⟩
    obtain ⟨i, hi, rfl, hc, hb⟩ := hrel
    have hz := hb.size
    by_cases hlt : i < 12
    · have hci := hc i hlt
      have HC := Lib.hid hc; clear hc
      go_wp2
      go_roundw
      case rel => exact ⟨i + 1, by omega, by go_num, HC.out, hb⟩
      case measure => simp [intOf]; omega
    · obtain rfl : i = 12 := by omega
      clear hc
      go_wp2
      go_loopw [7] (fun kv wq => ∃ i : Nat, i ≤ 18 ∧ kv = .int .i64 i ∧ (∀ j : Nat, j < 18 → ∃ x : Int, wq.cell? ⟨wo.heap.size, j, none⟩ = some (.int .i64 x) ∧ wq.cell? ⟨wo.heap.size + 1, j, none⟩ = some (.int .i64 x)) ∧
          (∀ j : Nat, j < 16 → ∃ x : Int, wq.cell? ⟨wo.heap.size + 1 + 1, j, none⟩ = some (.int .i64 x) ∧ wq.cell? ⟨wo.heap.size + 1 + 1 + 1, j, none⟩ = some (.int .i64 x)) ∧ Below w.heap.size w wq) (fun kv _ => 18 - (intOf kv).toNat)
      case atStart =>
        refine ⟨0, by omega, rfl, fun j hj => ?_, fun j hj => ?_, (((hb.alloc hz _).alloc (by simp; omega) _).alloc (by simp; omega) _).alloc (by simp; omega) _⟩
        · exact ⟨_, (cells_at ((((Blk.new wo _ _).alloc _).alloc _).alloc _) kinds_list hj), (cells_at ((((Blk.new_at (wo.alloc _) _ _ _ (by simp)).alloc _).alloc _)) kinds_list hj)⟩
        · exact ⟨_, (cells_at (((Blk.new_at ((wo.alloc _).alloc _) _ _ _ (by simp)).alloc _)) limits_list hj), (cells_at (Blk.new_at (((wo.alloc _).alloc _).alloc _) _ _ _ (by simp)) limits_list hj)⟩
      case round =>
        obtain ⟨i, hi, rfl, hc, hd, hb2⟩ := hrel
        by_cases hlt : i < 18
        · obtain ⟨x, hx, hy⟩ := hc i hlt
          have HC := Lib.hid hc; clear hc
          have HD := Lib.hid hd; clear hd
          go_wp2_with fail
          go_quiet (fail)
          go_wp2
          go_roundw
          case rel => exact ⟨i + 1, by omega, by go_num, HC.out, HD.out, hb2.trans (Drawn.below ⟨_, rfl⟩ _)⟩
          case measure => simp [intOf]; omega
        · obtain rfl : i = 18 := by omega
          clear hc
          have HD := Lib.hid hd; clear hd
          go_wp2
          go_loopw [8] (fun kv wp => ∃ i : Nat, i ≤ 16 ∧ kv = .int .i64 i ∧ (∀ j : Nat, j < 16 → ∃ x : Int, wp.cell? ⟨wo.heap.size + 1 + 1, j, none⟩ = some (.int .i64 x) ∧ wp.cell? ⟨wo.heap.size + 1 + 1 + 1, j, none⟩ = some (.int .i64 x)) ∧ Below w.heap.size w wp) (fun kv _ => 16 - (intOf kv).toNat)
          case atStart => exact ⟨0, by omega, rfl, HD.out, hb2⟩
          case round =>
            obtain ⟨i, hi, rfl, hd, hb3⟩ := hrel
            by_cases hlt : i < 16
            · obtain ⟨x, hx, hy⟩ := hd i hlt
              have HE := Lib.hid hd; clear hd
              go_wp2_with fail
              go_quiet (fail)
              go_wp2
              go_roundw
              case rel => exact ⟨i + 1, by omega, by go_num, HE.out, hb3.trans (Drawn.below ⟨_, rfl⟩ _)⟩
              case measure => simp [intOf]; omega
            · obtain rfl : i = 16 := by omega
              clear hd
              go_wp2
              go_ret
              exact ⟨rfl, hb3⟩
end Go.Proofs.Ytihiiabibcogjaa
