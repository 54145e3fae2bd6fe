/-
  Texts of one claim behind each other. Conditions: none of its own.
-/
import Derived.Test.YthiccmncdmohbaaGreatMGridTops26
import Derived.Test.YthiccmncdmohbaaGreatMGridTops06
import Derived.Test.YthiccmncdmohbaaGreatMGridTops03
import Derived.Test.YthiccmncdmohbaaGreatMGridTops00
set_option linter.unusedVariables false
set_option linter.unusedSimpArgs false
/-
  Contract of the reference's BitsMake: the words of a list of bits, or that it is too long. Conditions: the list can be read as data.
-/
namespace Go.Proofs.YthiccmncdmohbaaGreat
open Go Go.RowKit Go.Dam
set_option linter.unusedVariables false

/-- What stands while the reference makes its words: the result's box, the row's own box with its length and its slice, and the slice's words. -/
structure Making (W0 : World) (n : Int) (l : List Bool) (i : Nat) (w : World) : Prop where
  s : ∃ sv m, m = (i + 63) / 64 ∧ Blk w (W0.heap.size + 1) 94 #[.int .i64 n, sv] ∧ w.ownsRow (W0.heap.size + 1 + 1) 115 1 sv m ((packW l m i).map wordV)
  r : Blk w W0.heap.size 94 #[.int .i64 0, .slice none 0 0]
  b : Below W0.heap.size W0 w
/-- The bit is added to the last word. -/
theorem step_b {W0 w2 : World} {n : Int} {l : List Bool} {i M j g cap : Nat}
    (hS : Blk w2 (W0.heap.size + 1) 94 #[.int .i64 n, .slice (some ⟨g, 0, none⟩) M cap]) (hO : w2.ownsRow (W0.heap.size + 1 + 1) 115 1 (.slice (some ⟨g, 0, none⟩) M cap) M ((packW l M i).map wordV))
    (hR : Blk w2 W0.heap.size 94 #[.int .i64 0, .slice none 0 0]) (hB : Below W0.heap.size W0 w2) (hM : M = (i + 1 + 63) / 64) (hj : j + 1 = M) (hij : i / 64 = j) (hb : l.getD i false = true) :
    ∃ x : Nat, x < 18446744073709551616 ∧ x + 2 ^ (i % 64) < 18446744073709551616 ∧ IntKind.u64.wrap ((x : Int) + IntKind.u64.wrap (2 ^ (i % 64))) = ((x + 2 ^ (i % 64) : Nat) : Int) ∧
      w2.cell? ⟨W0.heap.size + 1, 1, none⟩ = some (.slice (some ⟨g, 0, none⟩) M cap) ∧ w2.cell? ⟨g, j, none⟩ = some (.int .u64 x) ∧ w2.frozen? ⟨g, j, none⟩ = false ∧
      Making W0 n l (i + 1) (w2.setCell ⟨g, j, none⟩ (.int .u64 ((x + 2 ^ (i % 64) : Nat) : Int))).drew := by
  have hl := packW_length l M i
  have hcl := packW_clear l M i i (by omega) (Nat.le_refl _)
  have hxl : (packW l M i).getD (i / 64) 0 < 18446744073709551616 := word_lt (packW_lt l M i (by omega)) _
  have hal := add_pow_lt _ _ hxl (by omega) hcl
  have hyes := packW_yes (W := M) hb
  rw [hij] at hxl hcl hal hyes
  have hgl := hO.lt g rfl
  refine ⟨(packW l M i).getD j 0, hxl, hal, ?_, by rw [hS.cell]; rfl, ?_, hO.frozenAt j, ⟨⟨.slice (some ⟨g, 0, none⟩) M cap, M, hM, Blk.drew (hS.far (by simp; omega) _), ?_⟩, Blk.drew (hR.far (by simp; omega) _), (hB.setCell (by simp; omega) _).drew⟩⟩
  · rw [pow_u64 _ (by omega), wrap_u64]
    generalize (packW l M i).getD j 0 = x at *
    generalize 2 ^ (i % 64) = q at *
    omega
  · rw [hO.cellAt j (by omega)]
    simp [hl, wordV, show j < M from by omega]
  · have := (hO.stored j (.int .u64 (((packW l M i).getD j 0 + 2 ^ (i % 64) : Nat) : Int))).1
    rw [hyes, List.map_set]
    exact this.drew
theorem last_word (l : List Bool) (m i : Nat) : ((packW l m i).map wordV ++ [.int .u64 0])[m]? = some (.int .u64 0) := by
  have := packW_length l m i
  rw [List.getElem?_append_right (by simp [this])]; simp [this]
end Go.Proofs.YthiccmncdmohbaaGreat

/-
  Contracts of bits.Make and of the reference's BitsMake, with the words as a row of the call's own. Conditions: at most 4096 bits.
-/
namespace Go.Proofs.YthiccmncdmohbaaGreat
open Go Go.RowKit Go.Dam
set_option linter.unusedVariables false
/-- Words in a row of the call's own. -/
def OwnWords (w : World) (base : Nat) (s : Value) (ws : List Nat) : Prop := w.ownsRow base 115 1 s ws.length (ws.map wordV) ∧ (∀ z ∈ ws, z < 18446744073709551616) ∧ ws.length ≤ 1000
/-- A row of n bits in these words, which are the call's own, and a code. -/
def GivesRowO (n : Int) (ws : List Nat) (c : Int) (w : World) (e : Ending) (w' : World) : Prop :=
  ∃ s, e = .returned (.tuple #[.agg #[.int .i64 n, s], .int .i64 c]) ∧ OwnWords w' w.heap.size s ws ∧ Below w.heap.size w w'
set_option maxHeartbeats 400000 in
theorem makeO_any (v : Value) (l : List Bool) (w : World) (B : Nat) (hB : B ≤ w.heap.size) (h : IsBools w B v l) (hl : l.length ≤ 4096) :
    Calls Tryz.prog 46 #[v] w (GivesRowO l.length (packW l ((l.length + 63) / 64) l.length) 0 w) := by
  obtain ⟨A, c, rfl, hc, hm, hb, hr⟩ := h
  obtain ⟨W, hW⟩ : ∃ W, W = (l.length + 63) / 64 := ⟨_, rfl⟩
  rw [← hW]
  have hmk := fun w' => run_make1 el_u64 rfl (((l.length : Int) + 64 - 1) / 64) W (by omega) (by omega) (by omega) w'
  have hW1 : l.length ≤ 64 * W := by omega
  have hW2 : W ≤ 64 := by omega
  have HW := Lib.hid hW
  clear hW
  go_enter Tryz.func46, Tryz.ntmps46
  go_wp2_with fail
  go_loopw [22] (fun iv wr => ∃ i : Nat, i ≤ l.length ∧ iv = .int .i64 i ∧ WBlk wr (w.heap.size + 1) (packW l W i) ∧ Blk wr w.heap.size 94 #[.int .i64 0, .slice none 0 0] ∧
      Blk wr (w.heap.size + 1 + 1) 94 #[.int .i64 l.length, .slice (some ⟨w.heap.size + 1, 0, none⟩) W W] ∧ Below w.heap.size w wr) (fun iv _ => l.length - (intOf iv).toNat)
  case atStart =>
    refine ⟨0, by omega, rfl, ?_, ((Blk.new w _ _).alloc _).alloc _, Blk.new_at _ _ _ _ (by simp), (((Below.refl _ _).alloc (Nat.le_refl _) _).alloc (by simp) _).alloc (by simp; omega) _⟩
    rw [packW_0]
    have := (Blk.new_at (w.alloc (.cells #[.int .i64 0, .slice none 0 0] 94)) 115 (List.replicate W (Value.int .u64 0)).toArray (w.heap.size + 1) (by simp)).alloc (.cells #[.int .i64 l.length, .slice (some ⟨w.heap.size + 1, 0, none⟩) W W] 94)
    unfold WBlk
    rw [List.map_replicate]
    exact this
  case round =>
    obtain ⟨i, hi, rfl, hW, hR, hS, hbel⟩ := hrel
    have hz := hbel.size
    by_cases hlt : i < l.length
    · obtain ⟨b, off, rfl, hbB, hcells⟩ := bools_at hr (by omega)
      have k2 := (hbel.cell (p := ⟨b, off + i, none⟩) (by simp; omega)).trans (hcells i hlt)
      have k3 : wr.cell? ⟨w.heap.size + 1 + 1, 1, none⟩ = some (.slice (some ⟨w.heap.size + 1, 0, none⟩) W W) := by rw [hS.cell]; rfl
      have k4 := hW.cell (k := i / 64) (by rw [packW_length]; omega)
      have k5 := Blk.frozen hW (i / 64)
      have hcl := packW_clear l W i i (by omega) (Nat.le_refl _)
      have hxl : (packW l W i).getD (i / 64) 0 < 18446744073709551616 := word_lt (packW_lt l W i (by omega)) _
      have HS := Lib.hid hS
      have HR := Lib.hid hR
      have HB := Lib.hid hbel
      have hor := or_pow ((packW l W i).getD (i / 64) 0) (i % 64) hxl (by omega) hcl
      have hnext : l.getD i false = true → Hid (WBlk (wr.setCell ⟨w.heap.size + 1, i / 64, none⟩ (.int .u64 (((packW l W i).getD (i / 64) 0 + 2 ^ (i % 64) : Nat) : Int))) (w.heap.size + 1) (packW l W (i + 1))) := by
        intro hb
        rw [packW_yes hb]
        exact Lib.hid (hW.set (i / 64) _)
      have HW := Lib.hid hW
      clear hS hR hbel hcells hW hcl
      generalize hx : (packW l W i).getD (i / 64) 0 = x at *
      have HX := Lib.hid hx
      clear hx
      cases hb : l.getD i false with
      | true =>
        rw [hb] at k2
        have HN := hnext hb
        clear hnext hb
        go_wp2_with fail
        go_region
        go_wp2
        go_roundw
        case rel => exact ⟨i + 1, by omega, by go_num, HN.out, HR.out.far (by simp) _, HS.out.far (by simp) _, (HB.out.setCell (p := ⟨w.heap.size + 1, i / 64, none⟩) (Nat.le_succ _) _).drew⟩
        case measure => simp [intOf]; omega
      | false =>
        rw [hb] at k2
        have HN := Lib.hid (packW_no (W := W) hb)
        clear hnext hb
        go_wp2
        go_roundw
        case rel => exact ⟨i + 1, by omega, by go_num, by rw [HN.out]; exact HW.out, HR.out, HS.out, HB.out⟩
        case measure => simp [intOf]; omega
    · obtain rfl : i = l.length := by omega
      have k3 : wr.cell? ⟨w.heap.size + 1 + 1, 0, none⟩ = some (.int .i64 l.length) := by rw [hS.cell]; rfl
      have k4 : wr.cell? ⟨w.heap.size + 1 + 1, 1, none⟩ = some (.slice (some ⟨w.heap.size + 1, 0, none⟩) W W) := by rw [hS.cell]; rfl
      have k5 : wr.cell? ⟨w.heap.size, 0, none⟩ = some (.int .i64 0) := by rw [hR.cell]; rfl
      have k6 : wr.cell? ⟨w.heap.size, 1, none⟩ = some (.slice none 0 0) := by rw [hR.cell]; rfl
      have f0 := hR.frozen 0
      have f1 := hR.frozen 1
      have hR2 := (hR.set_ 0 (.int .i64 l.length)).set_ 1 (.slice (some ⟨w.heap.size + 1, 0, none⟩) W W)
      have c0 : Hid (_ = some (Value.int .i64 l.length)) := Lib.hid ((hR2.cell 0).trans rfl)
      have c1 : Hid (_ = some (Value.slice (some ⟨w.heap.size + 1, 0, none⟩) W W)) := Lib.hid ((hR2.cell 1).trans rfl)
      clear hR2
      have HW' := Lib.hid hW
      have HB := Lib.hid hbel
      clear hS hR hbel hW
      have HL : Hid ((packW l W l.length).length = W) := Lib.hid (packW_length _ _ _)
      have HT : Hid (∀ z ∈ packW l W l.length, z < 18446744073709551616) := Lib.hid (packW_lt l W l.length hW1)
      go_wp2
      refine bodyPost_ret (v := .tuple #[.agg #[.int .i64 l.length, .slice (some ⟨w.heap.size + 1, 0, none⟩) W W], .int .i64 0]) (by have c0 := c0.out; have c1 := c1.out; simp [results, Tryz.results46, go_sem, c0, c1]) rfl ⟨_, rfl, ?_, ?_⟩
      · have h1 : WBlk ((wr.setCell ⟨w.heap.size, 0, none⟩ (.int .i64 l.length)).setCell ⟨w.heap.size, 1, none⟩ (.slice (some ⟨w.heap.size + 1, 0, none⟩) W W)) (w.heap.size + 1) (packW l W l.length) :=
          Blk.far (Blk.far HW'.out (p := ⟨w.heap.size, 0, none⟩) (by simp) _) (p := ⟨w.heap.size, 1, none⟩) (by simp) _
        have h2 := own_of_blk (base := w.heap.size) (n := (packW l W l.length).length) h1 (by omega) (by simp) (by rw [HL.out]; omega)
        rw [HL.out] at h2
        exact ⟨by rw [HL.out]; exact h2, HT.out, by rw [HL.out]; omega⟩
      · exact (HB.out.setCell (p := ⟨w.heap.size, 0, none⟩) (Nat.le_refl _) _).setCell (p := ⟨w.heap.size, 1, none⟩) (Nat.le_refl _) _
end Go.Proofs.YthiccmncdmohbaaGreat

/-
  The contract of the reference's bitOf: bit i of a word. Conditions: the word is below 2 to the 64th, i is below 64.
-/
namespace Go.Proofs.YthiccmncdmohbaaGreat
open Go Go.RowKit Go.Dam
set_option linter.unusedVariables false

end Go.Proofs.YthiccmncdmohbaaGreat

/-
  Contracts of bits.May and of the reference's BitsMay: both say whether a row is well formed. Conditions: the row can be read as data.
-/
namespace Go.Proofs.YthiccmncdmohbaaGreat
open Go Go.RowKit Go.Dam
set_option linter.unusedVariables false

theorem zero_test (x m : Nat) : (((x : Int) / 2 ^ m) == 0) = decide (x / 2 ^ m = 0) := by
  have e : (x : Int) / 2 ^ m = ((x / 2 ^ m : Nat) : Int) := by simp
  rw [e, Bool.eq_iff_iff, beq_iff_eq, decide_eq_true_iff]
  omega
theorem bit_of_word (ws : List Nat) (i : Nat) : (ws.getD (i / 64) 0).testBit (i % 64) = bitAt ws i := by unfold bitAt; rfl
end Go.Proofs.YthiccmncdmohbaaGreat

/-
  Contract of the reference's bools: the bits of a row as a slice of its own. Conditions: the row can be read as data and is well formed.
-/
namespace Go.Proofs.YthiccmncdmohbaaGreat
open Go Go.RowKit Go.Dam
set_option linter.unusedVariables false

theorem el_bool : El Tryz.prog 90 4 (.bool false) 1 1 := ⟨Tryz.underlying90, by kernel_rfl, rfl, by decide⟩
/-- The bits of a row. -/
def rowBits (ws : List Nat) (n : Nat) : List Bool := (List.range n).map (bitAt ws)
theorem rowBits_succ (ws : List Nat) (n : Nat) : rowBits ws (n + 1) = rowBits ws n ++ [bitAt ws n] := by
  unfold rowBits; rw [List.range_succ, List.map_append]; rfl
theorem rowBits_length (ws : List Nat) (n : Nat) : (rowBits ws n).length = n := by unfold rowBits; simp
theorem rowBits_0 (ws : List Nat) : rowBits ws 0 = [] := rfl
theorem rowBits_get (ws : List Nat) (n k : Nat) (hk : k < n) : (rowBits ws n).getD k false = bitAt ws k := by
  unfold rowBits; simp [hk]
attribute [irreducible] rowBits
/-- It returns a slice of its own that reads as the bits. -/
def GivesBools (l : List Bool) (w : World) (e : Ending) (w' : World) : Prop := ∃ v, e = .returned v ∧ IsBools w' w'.heap.size v l ∧ Below w.heap.size w w'
end Go.Proofs.YthiccmncdmohbaaGreat
