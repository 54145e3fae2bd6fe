/-
  Contract of the reference's KleeCross: the pairs of rectangles that have a place together. Conditions: the rectangles can be read as data.
-/
import Derived.Test.YtmcfdlijkcibbaaKleeCross
namespace Go.Proofs.Ytmcfdlijkcibbaa
open Go Go.RowKit Go.Dam
set_option linter.unusedVariables false
set_option maxRecDepth 100000 in
set_option maxHeartbeats 4000000 in
theorem refKleeCross_any (v : Value) (n : Nat) (l r : List Int) (cc : Int) (w : World) (B : Nat) (hB : B ≤ w.heap.size) (h : IsFlat 4 w B v n l) (hR : CrossR n l r cc) :
    Calls Try.prog 37 #[v] w (GivesPairs r cc w) := by
  have HC := rectsFault_any v n l w B hB h
  obtain ⟨A, c, rfl, hc, hm, hn, hl, hr, hw⟩ := h
  obtain ⟨h1, h2⟩ := hR
  rw [← h1] at HC
  by_cases c0 : cc = 0
  rotate_left
  · rw [if_neg c0] at h2
    subst h2
    have t0 : (cc != 0) = true := by simpa using c0
    have HC := Lib.hid HC
    clear hr hl hw h1 c0
    go_enter Try.func37, Try.ntmps37
    go_wp2_with (go_at_call 28; refine (HC.out).mono ?_; rintro e w1 ⟨rfl, hb1⟩)
    go_ret2
    exact ⟨_, 0, rfl, by omega, isFlat_nil _ _ _, hb1⟩
  subst c0
  rw [if_pos rfl] at h2
  subst h2
  obtain ⟨hn1, hfine⟩ := rcCode_ok h1.symm
  have HC := Lib.hid HC
  clear h1 hfine
  go_enter Try.func37, Try.ntmps37
  go_wp2_with (go_at_call 28; refine (HC.out).mono ?_; rintro e w1 ⟨rfl, hb1⟩)
  have hz1 := hb1.size
  go_loopw [5, 16] (fun ov iv wr => ∃ a k : Nat, a ≤ n ∧ iv = .int .i64 a ∧ wr.ownsRow w1.heap.size 53 2 ov k ((pairAll (meets l) n a).map (Value.int .i64)) ∧ k ≤ 40 * a ∧ Below w.heap.size w wr ∧ w1.heap.size ≤ wr.heap.size) (fun _ iv _ => n - (intOf iv).toNat)
  case atStart => exact ⟨0, 0, by omega, rfl, by rw [pairAll_0]; exact World.ownsRow_nil _ _ _ _, by omega, hb1, Nat.le_refl _⟩
  case round =>
    obtain ⟨wo, rfl⟩ : ∃ wo : World, wo = wr := ⟨_, rfl⟩
    obtain ⟨a, k, ha, rfl, hown, hk, hbel, hsz⟩ := hrel
    obtain ⟨A1, cap1, rfl⟩ := own_shape hown
    have HO := Lib.hid hown
    have HB := Lib.hid hbel
    by_cases hlt : a < n
    · obtain ⟨b, off, rfl, hb, hcells⟩ := flat_cells hr hl (by omega) (by omega)
      have HCells := Lib.hid hcells
      clear hown hbel hcells
      go_wp2_with fail
      go_loopw [5, 21] (fun ov bv wr => ∃ m k2 : Nat, m ≤ n ∧ bv = .int .i64 m ∧ wr.ownsRow w1.heap.size 53 2 ov k2 ((pairAll (meets l) n a ++ pairRow (meets l) a m).map (Value.int .i64)) ∧ k2 ≤ 40 * a + m ∧ Below w.heap.size w wr ∧ w1.heap.size ≤ wr.heap.size) (fun _ bv _ => n - (intOf bv).toNat)
      case atStart => exact ⟨0, k, by omega, rfl, by rw [pairRow_0, List.append_nil]; exact HO.out, by omega, HB.out, hsz⟩
      case round =>
        obtain ⟨wi, rfl⟩ : ∃ wi : World, wi = wr := ⟨_, rfl⟩
        obtain ⟨m, k2, hm2, rfl, hown, hk2, hbel, hsz2⟩ := hrel
        have HO2 := Lib.hid hown
        have HB2 := Lib.hid hbel
        have hzi := hbel.size
        obtain ⟨A2, cap2, rfl⟩ := own_shape hown
        by_cases hlt2 : m < n
        · have c0 := (hbel.cell (p := ⟨b, off + a * 4, none⟩) (by simp; omega)).trans (HCells.out (a * 4) (by omega))
          have c1 := (hbel.cell (p := ⟨b, off + a * 4 + 1, none⟩) (by simp; omega)).trans (HCells.out (a * 4 + 1) (by omega))
          have c2 := (hbel.cell (p := ⟨b, off + a * 4 + 2, none⟩) (by simp; omega)).trans (HCells.out (a * 4 + 2) (by omega))
          have c3 := (hbel.cell (p := ⟨b, off + a * 4 + 3, none⟩) (by simp; omega)).trans (HCells.out (a * 4 + 3) (by omega))
          have d0 := (hbel.cell (p := ⟨b, off + m * 4, none⟩) (by simp; omega)).trans (HCells.out (m * 4) (by omega))
          have d1 := (hbel.cell (p := ⟨b, off + m * 4 + 1, none⟩) (by simp; omega)).trans (HCells.out (m * 4 + 1) (by omega))
          have d2 := (hbel.cell (p := ⟨b, off + m * 4 + 2, none⟩) (by simp; omega)).trans (HCells.out (m * 4 + 2) (by omega))
          have d3 := (hbel.cell (p := ⟨b, off + m * 4 + 3, none⟩) (by simp; omega)).trans (HCells.out (m * 4 + 3) (by omega))
          have hI := meets_iff l a m
          have hN := meets_not l a m
          generalize l.getD (a * 4) 0 = x0 at *
          generalize l.getD (a * 4 + 1) 0 = x1 at *
          generalize l.getD (a * 4 + 2) 0 = x2 at *
          generalize l.getD (a * 4 + 3) 0 = x3 at *
          generalize l.getD (m * 4) 0 = y0 at *
          generalize l.getD (m * 4 + 1) 0 = y1 at *
          generalize l.getD (m * 4 + 2) 0 = y2 at *
          generalize l.getD (m * 4 + 3) 0 = y3 at *
          clear hown hbel
          cases hp : meets l a m with
          | true =>
            have hq := hI.1 hp
            have HS := Lib.hid (pairRow_yes hp)
            have t1 : decide (x2 < y0) = false := by simp; omega
            have t2 : decide (y2 < x0) = false := by simp; omega
            have t3 : decide (x3 < y1) = false := by simp; omega
            have t4 : decide (y3 < x1) = false := by simp; omega
            have ham : a < m := by omega
            clear hI hN hp hq hr hw HC
            go_wp2_with fail
            go_quiet (fail)
            have HO3 := Lib.hid (show (wi.drewN nq).ownsRow _ _ _ _ _ _ from HO2.out)
            have HB3 := Lib.hid (below_drewN HB2.out nq)
            have hzd : w1.heap.size ≤ (wi.drewN nq).heap.size := hsz2
            have hze : w.heap.size ≤ (wi.drewN nq).heap.size := hzi
            generalize wi.drewN nq = wd at *
            go_wp2_with (at_builtin; refine wpList_pushM el_pair rfl (.tmp 81) (.tmp 85) rfl w1.heap.size _ k2 _ (HO3.out.alloc _) rfl ⟨wd.heap.size, 0, none⟩ 1 _ [.int .i64 (a : Int), .int .i64 (m : Int)] rfl rfl (pair_news rfl) pair_ones (by omega) (by omega) (by simp; omega) ?_; intro v' w2 hown2 hg2 hl2)
            have q2 := HB3.out.alloc hze (.cells #[.int .i64 (a : Int), .int .i64 (m : Int)] 53)
            have q3 := hg2.size
            refine ⟨⟨m + 1, k2 + 1, by omega, by go_num, ?_, by omega, below_push q2 (HO3.out.alloc _) hz1 (by simp; omega) hg2, by simp at q3; omega⟩, by simp [intOf]; omega⟩
            rw [HS.out, ← List.append_assoc, List.map_append]; exact hown2
          | false =>
            have hq := hN.1 hp
            have HS := Lib.hid (pairRow_no hp)
            clear hI hN hp hr hw HC
            by_cases e0 : x2 < y0
            · have t0 : decide (x2 < y0) = true := by simpa using e0
              clear hq e0
              go_wp2_with fail
              go_quiet (fail)
              have HO3 := Lib.hid (show (wi.drewN nq).ownsRow _ _ _ _ _ _ from HO2.out)
              have HB3 := Lib.hid (below_drewN HB2.out nq)
              have hzd : w1.heap.size ≤ (wi.drewN nq).heap.size := hsz2
              generalize wi.drewN nq = wd at *
              go_wp2_with fail
              all_goals refine ⟨⟨m + 1, k2, by omega, by go_num, by rw [HS.out]; exact HO3.out, by omega, HB3.out, hzd⟩, by simp [intOf]; omega⟩
            have t0 : decide (x2 < y0) = false := by rw [decide_eq_false_iff_not]; exact e0
            by_cases e1 : y2 < x0
            · have t1 : decide (y2 < x0) = true := by simpa using e1
              clear hq e1
              go_wp2_with fail
              go_quiet (fail)
              have HO3 := Lib.hid (show (wi.drewN nq).ownsRow _ _ _ _ _ _ from HO2.out)
              have HB3 := Lib.hid (below_drewN HB2.out nq)
              have hzd : w1.heap.size ≤ (wi.drewN nq).heap.size := hsz2
              generalize wi.drewN nq = wd at *
              go_wp2_with fail
              all_goals refine ⟨⟨m + 1, k2, by omega, by go_num, by rw [HS.out]; exact HO3.out, by omega, HB3.out, hzd⟩, by simp [intOf]; omega⟩
            have t1 : decide (y2 < x0) = false := by rw [decide_eq_false_iff_not]; exact e1
            by_cases e2 : x3 < y1
            · have t2 : decide (x3 < y1) = true := by simpa using e2
              clear hq e2
              go_wp2_with fail
              go_quiet (fail)
              have HO3 := Lib.hid (show (wi.drewN nq).ownsRow _ _ _ _ _ _ from HO2.out)
              have HB3 := Lib.hid (below_drewN HB2.out nq)
              have hzd : w1.heap.size ≤ (wi.drewN nq).heap.size := hsz2
              generalize wi.drewN nq = wd at *
              go_wp2_with fail
              all_goals refine ⟨⟨m + 1, k2, by omega, by go_num, by rw [HS.out]; exact HO3.out, by omega, HB3.out, hzd⟩, by simp [intOf]; omega⟩
            have t2 : decide (x3 < y1) = false := by rw [decide_eq_false_iff_not]; exact e2
            by_cases e3 : y3 < x1
            · have t3 : decide (y3 < x1) = true := by simpa using e3
              clear hq e3
              go_wp2_with fail
              go_quiet (fail)
              have HO3 := Lib.hid (show (wi.drewN nq).ownsRow _ _ _ _ _ _ from HO2.out)
              have HB3 := Lib.hid (below_drewN HB2.out nq)
              have hzd : w1.heap.size ≤ (wi.drewN nq).heap.size := hsz2
              generalize wi.drewN nq = wd at *
              go_wp2_with fail
              all_goals refine ⟨⟨m + 1, k2, by omega, by go_num, by rw [HS.out]; exact HO3.out, by omega, HB3.out, hzd⟩, by simp [intOf]; omega⟩
            have t3 : decide (y3 < x1) = false := by rw [decide_eq_false_iff_not]; exact e3
            have ham : m ≤ a := by omega
            clear hq e0 e1 e2 e3
            go_wp2_with fail
            go_quiet (fail)
            have HO3 := Lib.hid (show (wi.drewN nq).ownsRow _ _ _ _ _ _ from HO2.out)
            have HB3 := Lib.hid (below_drewN HB2.out nq)
            have hzd : w1.heap.size ≤ (wi.drewN nq).heap.size := hsz2
            generalize wi.drewN nq = wd at *
            go_wp2_with fail
            all_goals refine ⟨⟨m + 1, k2, by omega, by go_num, by rw [HS.out]; exact HO3.out, by omega, HB3.out, hzd⟩, by simp [intOf]; omega⟩
        · obtain rfl : m = n := by omega
          have HP := Lib.hid (pairAll_succ (meets l) m a)
          clear hown hbel
          go_wp2_with fail
          refine ⟨⟨a + 1, k2, by omega, by go_num, by rw [HP.out]; exact HO2.out, by omega, HB2.out, by omega⟩, by simp [intOf]; omega⟩
    · obtain rfl : a = n := by omega
      clear hown hbel
      go_wp2_with fail
      go_ret2
      exact ⟨_, k, rfl, by omega, own_flat HO.out (by omega) (pairAll_wf (by omega) _ (by omega)), HB.out⟩
end Go.Proofs.Ytmcfdlijkcibbaa
