/-
  Texts of one claim behind each other. Conditions: none of its own.
-/
import Derived.Test.YthiccmncdmohbaaGreatMGridTops03
import Derived.Test.YthiccmncdmohbaaGreatMGridTops00
set_option linter.unusedVariables false
set_option linter.unusedSimpArgs false
/-
  A slice of words: the cell of each word, and its bound. Conditions: the slice reads as the words.
-/
namespace Go.Proofs.YthiccmncdmohbaaGreat
open Go Go.RowKit Go.Dam
set_option linter.unusedVariables false
theorem word_at {w : World} {B : Nat} {A : Option Addr} {ws : List Nat} (hr : Reads w B 1 A ws.length (ws.map wordV)) (hn : 0 < ws.length) :
    ∃ b off, A = some ⟨b, off, none⟩ ∧ b < B ∧ ∀ k, k < ws.length → w.cell? ⟨b, off + k, none⟩ = some (.int .u64 ((ws.getD k 0 : Nat) : Int)) := by
  obtain ⟨b, off, e, hb, hc⟩ := hr.addr hn
  refine ⟨b, off, e, hb, fun k hk => ?_⟩
  obtain ⟨u, hx, hu⟩ := hc k hk
  rw [hu, ← hx]
  simp [hk, wordV]
theorem word_lt {ws : List Nat} (hw : ∀ z ∈ ws, z < 18446744073709551616) (k : Nat) : ws.getD k 0 < 18446744073709551616 := by
  rw [List.getD_eq_getElem?_getD]
  rcases Nat.lt_or_ge k ws.length with h | h
  · rw [List.getElem?_eq_getElem h]; exact hw _ (List.getElem_mem _)
  · rw [List.getElem?_eq_none h]; simp

end Go.Proofs.YthiccmncdmohbaaGreat

/-
  Contract of bits.Make: the words of a list of bits, or that it is too long. Conditions: the list can be read as data.
-/
namespace Go.Proofs.YthiccmncdmohbaaGreat
open Go Go.RowKit Go.Dam
set_option linter.unusedVariables false

theorem el_u64 : El Tryz.prog 92 115 (.int .u64 0) 1 8 := ⟨Tryz.underlying92, by kernel_rfl, rfl, by decide⟩
/-- It returns a row of n bits in these words, and a code. -/
def GivesRow (n : Int) (ws : List Nat) (c : Int) (w : World) (e : Ending) (w' : World) : Prop :=
  ∃ s, e = .returned (.tuple #[.agg #[.int .i64 n, s], .int .i64 c]) ∧ IsWords w' w'.heap.size s ws ∧ Below w.heap.size w w'
theorem isWords_nil (w : World) (B : Nat) : IsWords w B (.slice none 0 0) [] := ⟨none, 0, rfl, Nat.le_refl _, Nat.zero_le _, Nat.zero_le _, Reads.none_, fun z hz => by cases hz⟩
/-- The block of the words while they are made. -/
def WBlk (w : World) (g : Nat) (ws : List Nat) : Prop := Blk w g 115 (ws.map wordV).toArray
theorem WBlk.cell {w : World} {g : Nat} {ws : List Nat} (h : WBlk w g ws) {k : Nat} (hk : k < ws.length) : w.cell? ⟨g, k, none⟩ = some (.int .u64 ((ws.getD k 0 : Nat) : Int)) := by
  rw [Blk.cell h]; simp [hk, wordV]
theorem WBlk.set {w : World} {g : Nat} {ws : List Nat} (h : WBlk w g ws) (k n : Nat) : WBlk (w.setCell ⟨g, k, none⟩ (.int .u64 n)) g (ws.set k n) := by
  have := Blk.set_ h k (.int .u64 n)
  unfold WBlk
  rw [List.map_set]
  simpa [wordV] using this
theorem WBlk.isWords {w : World} {g : Nat} {ws : List Nat} (h : WBlk w g ws) (hl : ws.length ≤ 140737488351232) (hw : ∀ z ∈ ws, z < 18446744073709551616) : IsWords w w.heap.size (.slice (some ⟨g, 0, none⟩) ws.length ws.length) ws := by
  refine ⟨_, _, rfl, Nat.le_refl _, by unfold maxLen; omega, hl, ⟨by simp, fun _ => ⟨_, rfl, Blk.lt h, fun j u hu => ?_⟩⟩, hw⟩
  have : (⟨g, 0, none⟩ : Addr).add j = ⟨g, j, none⟩ := by unfold Addr.add; split <;> simp_all
  rw [this, Blk.cell h, ← hu]; simp
set_option maxHeartbeats 400000 in
theorem make_long (v : Value) (l : List Bool) (w : World) (B : Nat) (h : IsBools w B v l) (hl : 4096 < l.length) :
    Calls Tryz.prog 46 #[v] w (GivesRow 0 [] 1 w) := by
  obtain ⟨A, c, rfl, hc, hm, hb, hr⟩ := h
  go_enter Tryz.func46, Tryz.ntmps46
  go_wp2_with fail
  exact bodyPost_ret (v := .tuple #[.agg #[.int .i64 0, .slice none 0 0], .int .i64 1]) (by simp [results, Tryz.results46, go_sem]) rfl ⟨_, rfl, isWords_nil _ _, (Below.refl _ _).alloc (Nat.le_refl _) _⟩
set_option maxHeartbeats 400000 in
theorem make_any (v : Value) (l : List Bool) (w : World) (B : Nat) (hB : B ≤ w.heap.size) (h : IsBools w B v l) (hl : l.length ≤ 4096) :
    Calls Tryz.prog 46 #[v] w (GivesRow l.length (packW l ((l.length + 63) / 64) l.length) 0 w) := by
  obtain ⟨A, c, rfl, hc, hm, hb, hr⟩ := h
  obtain ⟨W, hW⟩ : ∃ W, W = (l.length + 63) / 64 := ⟨_, rfl⟩
  rw [← hW]
  have hmk := fun w' => run_make1 el_u64 rfl (((l.length : Int) + 64 - 1) / 64) W (by omega) (by omega) (by omega) w'
  have hW1 : l.length ≤ 64 * W := by omega
  have hW2 : W ≤ 64 := by omega
  have HW := Lib.hid hW
  clear hW
  go_enter Tryz.func46, Tryz.ntmps46
  go_wp2_with fail
  go_loopw [22] (fun iv wr => ∃ i : Nat, i ≤ l.length ∧ iv = .int .i64 i ∧ WBlk wr (w.heap.size + 1) (packW l W i) ∧ Blk wr w.heap.size 94 #[.int .i64 0, .slice none 0 0] ∧
      Blk wr (w.heap.size + 1 + 1) 94 #[.int .i64 l.length, .slice (some ⟨w.heap.size + 1, 0, none⟩) W W] ∧ Below w.heap.size w wr) (fun iv _ => l.length - (intOf iv).toNat)
  case atStart =>
    refine ⟨0, by omega, rfl, ?_, ((Blk.new w _ _).alloc _).alloc _, Blk.new_at _ _ _ _ (by simp), (((Below.refl _ _).alloc (Nat.le_refl _) _).alloc (by simp) _).alloc (by simp; omega) _⟩
    rw [packW_0]
    have := (Blk.new_at (w.alloc (.cells #[.int .i64 0, .slice none 0 0] 94)) 115 (List.replicate W (Value.int .u64 0)).toArray (w.heap.size + 1) (by simp)).alloc (.cells #[.int .i64 l.length, .slice (some ⟨w.heap.size + 1, 0, none⟩) W W] 94)
    unfold WBlk
    rw [List.map_replicate]
    exact this
  case round =>
    obtain ⟨i, hi, rfl, hW, hR, hS, hbel⟩ := hrel
    have hz := hbel.size
    by_cases hlt : i < l.length
    · obtain ⟨b, off, rfl, hbB, hcells⟩ := bools_at hr (by omega)
      have k2 := (hbel.cell (p := ⟨b, off + i, none⟩) (by simp; omega)).trans (hcells i hlt)
      have k3 : wr.cell? ⟨w.heap.size + 1 + 1, 1, none⟩ = some (.slice (some ⟨w.heap.size + 1, 0, none⟩) W W) := by rw [hS.cell]; rfl
      have k4 := hW.cell (k := i / 64) (by rw [packW_length]; omega)
      have k5 := Blk.frozen hW (i / 64)
      have hcl := packW_clear l W i i (by omega) (Nat.le_refl _)
      have hxl : (packW l W i).getD (i / 64) 0 < 18446744073709551616 := word_lt (packW_lt l W i (by omega)) _
      have HS := Lib.hid hS
      have HR := Lib.hid hR
      have HB := Lib.hid hbel
      have hor := or_pow ((packW l W i).getD (i / 64) 0) (i % 64) hxl (by omega) hcl
      have hnext : l.getD i false = true → Hid (WBlk (wr.setCell ⟨w.heap.size + 1, i / 64, none⟩ (.int .u64 (((packW l W i).getD (i / 64) 0 + 2 ^ (i % 64) : Nat) : Int))) (w.heap.size + 1) (packW l W (i + 1))) := by
        intro hb
        rw [packW_yes hb]
        exact Lib.hid (hW.set (i / 64) _)
      have HW := Lib.hid hW
      clear hS hR hbel hcells hW hcl
      generalize hx : (packW l W i).getD (i / 64) 0 = x at *
      have HX := Lib.hid hx
      clear hx
      cases hb : l.getD i false with
      | true =>
        rw [hb] at k2
        have HN := hnext hb
        clear hnext hb
        go_wp2_with fail
        go_region
        go_wp2
        go_roundw
        case rel => exact ⟨i + 1, by omega, by go_num, HN.out, HR.out.far (by simp) _, HS.out.far (by simp) _, (HB.out.setCell (p := ⟨w.heap.size + 1, i / 64, none⟩) (Nat.le_succ _) _).drew⟩
        case measure => simp [intOf]; omega
      | false =>
        rw [hb] at k2
        have HN := Lib.hid (packW_no (W := W) hb)
        clear hnext hb
        go_wp2
        go_roundw
        case rel => exact ⟨i + 1, by omega, by go_num, by rw [HN.out]; exact HW.out, HR.out, HS.out, HB.out⟩
        case measure => simp [intOf]; omega
    · obtain rfl : i = l.length := by omega
      have k3 : wr.cell? ⟨w.heap.size + 1 + 1, 0, none⟩ = some (.int .i64 l.length) := by rw [hS.cell]; rfl
      have k4 : wr.cell? ⟨w.heap.size + 1 + 1, 1, none⟩ = some (.slice (some ⟨w.heap.size + 1, 0, none⟩) W W) := by rw [hS.cell]; rfl
      have k5 : wr.cell? ⟨w.heap.size, 0, none⟩ = some (.int .i64 0) := by rw [hR.cell]; rfl
      have k6 : wr.cell? ⟨w.heap.size, 1, none⟩ = some (.slice none 0 0) := by rw [hR.cell]; rfl
      have f0 := hR.frozen 0
      have f1 := hR.frozen 1
      have hR2 := (hR.set_ 0 (.int .i64 l.length)).set_ 1 (.slice (some ⟨w.heap.size + 1, 0, none⟩) W W)
      have c0 : Hid (_ = some (Value.int .i64 l.length)) := Lib.hid ((hR2.cell 0).trans rfl)
      have c1 : Hid (_ = some (Value.slice (some ⟨w.heap.size + 1, 0, none⟩) W W)) := Lib.hid ((hR2.cell 1).trans rfl)
      clear hR2
      have HW' := Lib.hid hW
      have HB := Lib.hid hbel
      clear hS hR hbel hW
      have HL : Hid ((packW l W l.length).length = W) := Lib.hid (packW_length _ _ _)
      have HT : Hid (∀ z ∈ packW l W l.length, z < 18446744073709551616) := Lib.hid (packW_lt l W l.length hW1)
      go_wp2
      refine bodyPost_ret (v := .tuple #[.agg #[.int .i64 l.length, .slice (some ⟨w.heap.size + 1, 0, none⟩) W W], .int .i64 0]) (by have c0 := c0.out; have c1 := c1.out; simp [results, Tryz.results46, go_sem, c0, c1]) rfl ⟨_, rfl, ?_, ?_⟩
      · have h1 : WBlk ((wr.setCell ⟨w.heap.size, 0, none⟩ (.int .i64 l.length)).setCell ⟨w.heap.size, 1, none⟩ (.slice (some ⟨w.heap.size + 1, 0, none⟩) W W)) (w.heap.size + 1) (packW l W l.length) :=
          Blk.far (Blk.far HW'.out (p := ⟨w.heap.size, 0, none⟩) (by simp) _) (p := ⟨w.heap.size, 1, none⟩) (by simp) _
        have h2 := h1.isWords (by rw [HL.out]; omega) HT.out
        rwa [HL.out] at h2
      · exact (HB.out.setCell (p := ⟨w.heap.size, 0, none⟩) (Nat.le_refl _) _).setCell (p := ⟨w.heap.size, 1, none⟩) (Nat.le_refl _) _
end Go.Proofs.YthiccmncdmohbaaGreat
