/-
  Contract of the reference's BitsMake: the words of a list of bits, or that it is too long. Conditions: the list can be read as data.
-/
import Derived.Test.YtjnndbllaplkcaaBitsMake
namespace Go.Proofs.Ytjnndbllaplkcaa
open Go Go.RowKit Go.Dam
set_option linter.unusedVariables false

set_option maxHeartbeats 400000 in
theorem refMake_long (v : Value) (l : List Bool) (w : World) (B : Nat) (h : IsBools w B v l) (hl : 4096 < l.length) :
    Calls Try.prog 43 #[v] w (GivesRow 0 [] 1 w) := by
  obtain ⟨A, c, rfl, hc, hm, hb, hr⟩ := h
  go_enter Try.func43, Try.ntmps43
  go_wp2_with fail
  exact bodyPost_ret (v := .tuple #[.agg #[.int .i64 0, .slice none 0 0], .int .i64 1]) (by simp [results, Try.results43, go_sem]) rfl ⟨_, rfl, isWords_nil _ _, (Below.refl _ _).alloc (Nat.le_refl _) _⟩
/-- What stands while the reference makes its words: the result's box, the row's own box with its length and its slice, and the slice's words. -/
structure Making (W0 : World) (n : Int) (l : List Bool) (i : Nat) (w : World) : Prop where
  s : ∃ sv m, m = (i + 63) / 64 ∧ Blk w (W0.heap.size + 1) 32 #[.int .i64 n, sv] ∧ w.ownsRow (W0.heap.size + 1 + 1) 82 1 sv m ((packW l m i).map wordV)
  r : Blk w W0.heap.size 32 #[.int .i64 0, .slice none 0 0]
  b : Below W0.heap.size W0 w
/-- The bit is added to the last word. -/
theorem step_b {W0 w2 : World} {n : Int} {l : List Bool} {i M j g cap : Nat}
    (hS : Blk w2 (W0.heap.size + 1) 32 #[.int .i64 n, .slice (some ⟨g, 0, none⟩) M cap]) (hO : w2.ownsRow (W0.heap.size + 1 + 1) 82 1 (.slice (some ⟨g, 0, none⟩) M cap) M ((packW l M i).map wordV))
    (hR : Blk w2 W0.heap.size 32 #[.int .i64 0, .slice none 0 0]) (hB : Below W0.heap.size W0 w2) (hM : M = (i + 1 + 63) / 64) (hj : j + 1 = M) (hij : i / 64 = j) (hb : l.getD i false = true) :
    ∃ x : Nat, x < 18446744073709551616 ∧ x + 2 ^ (i % 64) < 18446744073709551616 ∧ IntKind.u64.wrap ((x : Int) + IntKind.u64.wrap (2 ^ (i % 64))) = ((x + 2 ^ (i % 64) : Nat) : Int) ∧
      w2.cell? ⟨W0.heap.size + 1, 1, none⟩ = some (.slice (some ⟨g, 0, none⟩) M cap) ∧ w2.cell? ⟨g, j, none⟩ = some (.int .u64 x) ∧ w2.frozen? ⟨g, j, none⟩ = false ∧
      Making W0 n l (i + 1) (w2.setCell ⟨g, j, none⟩ (.int .u64 ((x + 2 ^ (i % 64) : Nat) : Int))).drew := by
  have hl := packW_length l M i
  have hcl := packW_clear l M i i (by omega) (Nat.le_refl _)
  have hxl : (packW l M i).getD (i / 64) 0 < 18446744073709551616 := word_lt (packW_lt l M i (by omega)) _
  have hal := add_pow_lt _ _ hxl (by omega) hcl
  have hyes := packW_yes (W := M) hb
  rw [hij] at hxl hcl hal hyes
  have hgl := hO.lt g rfl
  refine ⟨(packW l M i).getD j 0, hxl, hal, ?_, by rw [hS.cell]; rfl, ?_, hO.frozenAt j, ⟨⟨.slice (some ⟨g, 0, none⟩) M cap, M, hM, Blk.drew (hS.far (by simp; omega) _), ?_⟩, Blk.drew (hR.far (by simp; omega) _), (hB.setCell (by simp; omega) _).drew⟩⟩
  · rw [pow_u64 _ (by omega), wrap_u64]
    generalize (packW l M i).getD j 0 = x at *
    generalize 2 ^ (i % 64) = q at *
    omega
  · rw [hO.cellAt j (by omega)]
    simp [hl, wordV, show j < M from by omega]
  · have := (hO.stored j (.int .u64 (((packW l M i).getD j 0 + 2 ^ (i % 64) : Nat) : Int))).1
    rw [hyes, List.map_set]
    exact this.drew
theorem last_word (l : List Bool) (m i : Nat) : ((packW l m i).map wordV ++ [.int .u64 0])[m]? = some (.int .u64 0) := by
  have := packW_length l m i
  rw [List.getElem?_append_right (by simp [this])]; simp [this]
set_option maxHeartbeats 1000000 in
theorem refMake_any (v : Value) (l : List Bool) (w : World) (B : Nat) (hB : B ≤ w.heap.size) (h : IsBools w B v l) (hl : l.length ≤ 4096) :
    Calls Try.prog 43 #[v] w (GivesRow l.length (packW l ((l.length + 63) / 64) l.length) 0 w) := by
  obtain ⟨A, c, rfl, hc, hm, hb, hr⟩ := h
  go_enter Try.func43, Try.ntmps43
  go_wp2_with fail
  go_loopw [16] (fun iv wr => ∃ i : Nat, i ≤ l.length ∧ iv = .int .i64 i ∧ Making w l.length l i wr) (fun iv _ => l.length - (intOf iv).toNat)
  case atStart =>
    refine ⟨0, by omega, rfl, ⟨.slice none 0 0, 0, rfl, Blk.new_at _ _ _ _ (by simp), ?_⟩, (Blk.new w _ _).alloc _, ((Below.refl _ _).alloc (Nat.le_refl _) _).alloc (by simp) _⟩
    rw [packW_0]; exact World.ownsRow_nil _ _ _ _
  case round =>
    obtain ⟨i, hi, rfl, ⟨sv, m, hmm, hS, hown⟩, hR, hbel⟩ := hrel
    have hz := hS.lt
    by_cases hlt : i < l.length
    · obtain ⟨b, off, rfl, hbB, hcells⟩ := bools_at hr (by omega)
      have k2 := (hbel.cell (p := ⟨b, off + i, none⟩) (by simp; omega)).trans (hcells i hlt)
      have k3 : wr.cell? ⟨w.heap.size + 1, 1, none⟩ = some sv := by rw [hS.cell]; rfl
      clear hcells
      by_cases h0 : i % 64 = 0
      · have t0 : ((i : Int) % 64 == 0) = true := by simp; omega
        have hm1 : m * 64 = i := by omega
        have HG := Lib.hid (packW_grow l m i (by omega))
        have HS := Lib.hid hS
        have HO := Lib.hid hown
        have HR := Lib.hid hR
        have HB := Lib.hid hbel
        cases hb : l.getD i false with
        | true =>
          rw [hb] at k2
          have HB1 := Lib.hid hb
          clear hb hS hown hR hbel h0 hmm
          go_wp2_with ((at_builtin; refine wpList_push el_u64 rfl (.tmp 25) (.tmp 26) rfl (w.heap.size + 1 + 1) _ m _ (HO.out.alloc _) rfl wr.heap.size 1 (.int .u64 0) rfl (by simp) rfl (by omega) (by omega) (by simp; omega) ?_; intro v' w1 hown1 hg1; obtain ⟨g, cap, hgv⟩ := Go.Joins.ownsRow_form hown1 (by omega); rw [hgv] at hown1 ⊢; have hS1 := (HS.out.alloc _).grown hg1 (Ne.symm (own_ne HO.out (by omega))); have c1 : w1.cell? ⟨w.heap.size + 1, 1, none⟩ = some sv := (hS1.cell 1).trans rfl; have f1 := hS1.frozen 1; have hgl := hown1.lt g rfl; have k5 := (hown1.cellAt m (by omega)).trans (last_word l m i); have f5 := hown1.frozenAt m; have HO1 := Lib.hid hown1; have HG1 := Lib.hid hg1; have HS1 := Lib.hid hS1; clear hown1 hg1 hS1))
          have hS2 := HS1.out.set_ 1 (.slice (some ⟨g, 0, none⟩) (m + 1) cap)
          have hO2 := ownsRow_setCell_below HO1.out (a := ⟨w.heap.size + 1, 1, none⟩) (Nat.lt_succ_self _) (.slice (some ⟨g, 0, none⟩) (m + 1) cap)
          have hB2 := (below_push (HB.out.alloc (by omega) _) (HO.out.alloc _) (by omega) (by simp; omega) HG1.out).setCell (p := ⟨w.heap.size + 1, 1, none⟩) (Nat.le_succ _) (.slice (some ⟨g, 0, none⟩) (m + 1) cap)
          have hR2 := ((HR.out.alloc _).grown HG1.out (Ne.symm (own_ne HO.out (by omega)))).far (p := ⟨w.heap.size + 1, 1, none⟩) (by simp) (.slice (some ⟨g, 0, none⟩) (m + 1) cap)
          generalize w1.setCell ⟨w.heap.size + 1, 1, none⟩ (.slice (some ⟨g, 0, none⟩) (m + 1) cap) = w2 at *
          rw [show (packW l m i).map wordV ++ [.int .u64 0] = (packW l (m + 1) i).map wordV from by rw [HG.out, List.map_append]; rfl] at hO2
          have hS3 : Blk w2 (w.heap.size + 1) 32 #[.int .i64 l.length, .slice (some ⟨g, 0, none⟩) (m + 1) cap] := hS2
          obtain ⟨x, hx, hadd, hwr, c2, k6, f6, hfin⟩ := step_b hS3 hO2 hR2 hB2 (by omega) (by omega) (show i / 64 = m from by omega) HB1.out
          have H6 := Lib.hid hfin
          clear hS2 hO2 hB2 hR2 hS3 hfin k5 f5 c1 f1 HO1 HG1 HS1 HB HR HO HS
          go_region
          go_wp2
          go_roundw
          case rel => exact ⟨i + 1, by omega, by go_num, H6.out⟩
          case measure => simp [intOf]; omega
        | false =>
          rw [hb] at k2
          have HB1 := Lib.hid (packW_no (W := m + 1) hb)
          clear hb hS hown hR hbel h0 hmm
          go_wp2_with ((at_builtin; refine wpList_push el_u64 rfl (.tmp 25) (.tmp 26) rfl (w.heap.size + 1 + 1) _ m _ (HO.out.alloc _) rfl wr.heap.size 1 (.int .u64 0) rfl (by simp) rfl (by omega) (by omega) (by simp; omega) ?_; intro v' w1 hown1 hg1; obtain ⟨g, cap, hgv⟩ := Go.Joins.ownsRow_form hown1 (by omega); rw [hgv] at hown1 ⊢; have hS1 := (HS.out.alloc _).grown hg1 (Ne.symm (own_ne HO.out (by omega))); have c1 : w1.cell? ⟨w.heap.size + 1, 1, none⟩ = some sv := (hS1.cell 1).trans rfl; have f1 := hS1.frozen 1; have hgl := hown1.lt g rfl; have HO1 := Lib.hid hown1; have HG1 := Lib.hid hg1; have HS1 := Lib.hid hS1; clear hown1 hg1 hS1))
          have hS2 := HS1.out.set_ 1 (.slice (some ⟨g, 0, none⟩) (m + 1) cap)
          have hO2 := ownsRow_setCell_below HO1.out (a := ⟨w.heap.size + 1, 1, none⟩) (Nat.lt_succ_self _) (.slice (some ⟨g, 0, none⟩) (m + 1) cap)
          have hB2 := (below_push (HB.out.alloc (by omega) _) (HO.out.alloc _) (by omega) (by simp; omega) HG1.out).setCell (p := ⟨w.heap.size + 1, 1, none⟩) (Nat.le_succ _) (.slice (some ⟨g, 0, none⟩) (m + 1) cap)
          have hR2 := ((HR.out.alloc _).grown HG1.out (Ne.symm (own_ne HO.out (by omega)))).far (p := ⟨w.heap.size + 1, 1, none⟩) (by simp) (.slice (some ⟨g, 0, none⟩) (m + 1) cap)
          generalize w1.setCell ⟨w.heap.size + 1, 1, none⟩ (.slice (some ⟨g, 0, none⟩) (m + 1) cap) = w2 at *
          rw [show (packW l m i).map wordV ++ [.int .u64 0] = (packW l (m + 1) i).map wordV from by rw [HG.out, List.map_append]; rfl] at hO2
          have H6 : Hid (Making w l.length l (i + 1) w2) := Lib.hid ⟨⟨_, m + 1, by omega, hS2, by rw [HB1.out]; exact hO2⟩, hR2, hB2⟩
          clear hS2 hO2 hB2 hR2 c1 f1 HO1 HG1 HS1 HB HR HO HS
          go_roundw
          case rel => exact ⟨i + 1, by omega, by go_num, H6.out⟩
          case measure => simp [intOf]; omega
      · have t0 : ((i : Int) % 64 == 0) = false := by simp; omega
        have hm1 : 0 < m := by omega
        have hm2 : i / 64 = m - 1 := by omega
        have hm3 : m = (i + 1 + 63) / 64 := by omega
        have hm4 : m ≤ 64 := by omega
        clear h0 hmm
        obtain ⟨g, cap, rfl⟩ := Go.Joins.ownsRow_form hown hm1
        cases hb : l.getD i false with
        | true =>
          rw [hb] at k2
          obtain ⟨x, hx, hadd, hwr, c2, k6, f6, hfin⟩ := step_b hS hown hR hbel hm3 (show m - 1 + 1 = m from by omega) hm2 hb
          have H6 := Lib.hid hfin
          have hgl := hown.lt g rfl
          clear hb hS hown hR hbel hm3 hm2 hfin
          go_wp2
          go_region
          go_wp2
          go_roundw
          case rel => exact ⟨i + 1, by omega, by go_num, H6.out⟩
          case measure => simp [intOf]; omega
        | false =>
          rw [hb] at k2
          have H6 : Hid (Making w l.length l (i + 1) wr) := Lib.hid ⟨⟨_, m, hm3, hS, by rw [packW_no hb]; exact hown⟩, hR, hbel⟩
          clear hb hS hown hR hbel hm3 hm2
          go_wp2
          go_roundw
          case rel => exact ⟨i + 1, by omega, by go_num, H6.out⟩
          case measure => simp [intOf]; omega
    · obtain rfl : i = l.length := by omega
      obtain ⟨A2, cap2, rfl⟩ := own_shape hown
      have k3 : wr.cell? ⟨w.heap.size + 1, 0, none⟩ = some (.int .i64 l.length) := by rw [hS.cell]; rfl
      have k4 : wr.cell? ⟨w.heap.size + 1, 1, none⟩ = some (.slice A2 m cap2) := by rw [hS.cell]; rfl
      have k5 : wr.cell? ⟨w.heap.size, 0, none⟩ = some (.int .i64 0) := by rw [hR.cell]; rfl
      have k6 : wr.cell? ⟨w.heap.size, 1, none⟩ = some (.slice none 0 0) := by rw [hR.cell]; rfl
      have f0 := hR.frozen 0
      have f1 := hR.frozen 1
      have hR2 := (hR.set_ 0 (.int .i64 l.length)).set_ 1 (.slice A2 m cap2)
      have c0 : Hid (_ = some (Value.int .i64 l.length)) := Lib.hid ((hR2.cell 0).trans rfl)
      have c1 : Hid (_ = some (Value.slice A2 m cap2)) := Lib.hid ((hR2.cell 1).trans rfl)
      have HT : Hid (∀ z ∈ packW l m l.length, z < 18446744073709551616) := Lib.hid (packW_lt l m l.length (by omega))
      have hml : m ≤ 64 := by omega
      have HL := Lib.hid (packW_length l m l.length)
      have HM := Lib.hid hmm
      have HB := Lib.hid ((hbel.setCell (p := ⟨w.heap.size, 0, none⟩) (Nat.le_refl _) (.int .i64 l.length)).setCell (p := ⟨w.heap.size, 1, none⟩) (Nat.le_refl _) (.slice A2 m cap2))
      have HO := Lib.hid (ownsRow_setCell_below (ownsRow_setCell_below hown (a := ⟨w.heap.size, 0, none⟩) (by show w.heap.size < _; omega) (.int .i64 l.length)) (a := ⟨w.heap.size, 1, none⟩) (by show w.heap.size < _; omega) (.slice A2 m cap2))
      clear hR2 hS hown hR hbel hmm
      go_wp2
      refine bodyPost_ret (v := .tuple #[.agg #[.int .i64 l.length, .slice A2 m cap2], .int .i64 0]) ?_ rfl ?_
      · have c0 := c0.out
        have c1 := c1.out
        simp [results, Try.results43, go_sem, c0, c1]
      · refine ⟨_, rfl, ?_, HB.out⟩
        rw [← HM.out]
        exact own_words HO.out (by rw [HL.out]; omega) HT.out
end Go.Proofs.Ytjnndbllaplkcaa
