/-
  Contract of hull.Inside. Conditions: the points can be read as data.
-/
import Derived.Test.YthiccmncdmohbaaMHullInsides36
import Derived.Test.YthiccmncdmohbaaMHullInsides39
set_option linter.unusedVariables false
set_option linter.unusedSimpArgs false
namespace Go.Proofs.Ythiccmncdmohbaa
open Go Go.RowKit Go.Dam Go.Dam.Hull
set_option linter.unusedVariables false
set_option maxHeartbeats 2000000 in
theorem hullInsE_any (n c bk off : Nat) (l : List Int) (H : List Nat) (co gH gB : Nat) (w : World) (hn : n ≤ 1000) (hm : 0 < H.length) (hm2 : H.length ≤ 1000) (hH : ∀ u, u < H.length → H.getD u 0 < n)
    (hco : ∀ i, i < n → okC (l.getD (i * 3) 0) ∧ okC (l.getD (i * 3 + 1) 0)) (hbk : bk < w.heap.size) (hgH : gH < w.heap.size) (hb1 : bk ≠ gB) (hb2 : gH ≠ gB)
    (hcs : ∀ q, q < n * 3 → w.cell? ⟨bk, off + q, none⟩ = some (.int .i64 (l.getD q 0))) (hhs : ∀ u, u < H.length → w.cell? ⟨gH, u, none⟩ = some (.int .i64 ((H.getD u 0 : Nat) : Int))) (hgB : Blk w gB 3 #[.int .i64 0]) :
    Calls Try.prog 23 #[.slice (some ⟨bk, off, none⟩) n c, .slice (some ⟨gH, 0, none⟩) H.length co, .func (.func 24) #[] #[.pointer (some ⟨gB, 0, none⟩)]] w fun e w' => e = .returned (.tuple #[]) ∧ BelowBut w.heap.size gB w w' ∧ Blk w' gB 3 #[.int .i64 (bord (ptF l) H H.length)] := by
  have hok : ∀ u, u < H.length → okC (ptF l (H.getD u 0)).1 ∧ okC (ptF l (H.getD u 0)).2 := fun u hu => hco _ (hH u hu)
  have hok0 := okH_all hm hH hco
  refine hullEdges_any n c bk off l H H.length co gH 24 #[.pointer (some ⟨gB, 0, none⟩)] (fun j W => BelowBut w.heap.size gB w W ∧ Blk W gB 3 #[.int .i64 (bord (ptF l) H j)])
    w hn hm hm2 hH (enters_of Try.func24 (by kernel_rfl) rfl)
    (fun j W q h => ⟨h.1.trans (.of_below (below_drewN (Below.refl _ _) q)), h.2.drewN q⟩)
    (fun j W h => ⟨fun q hq => (h.1.cell (p := ⟨bk, off + q, none⟩) hbk hb1).trans (hcs q hq), fun u hu => (h.1.cell (p := ⟨gH, u, none⟩) hgH hb2).trans (hhs u hu)⟩)
    (fun j W hj h => by
      have hr : (j + 1) % H.length < H.length := Nat.mod_lt _ hm
      have b := bord_bd hok0 j (by omega)
      have ha := hok j hj
      have hb := hok _ hr
      refine (hullInside1_any _ _ _ _ _ _ _ gB 3 W h.2 ha.1 ha.2 hb.1 hb.2 (by omega) (by omega)).mono ?_
      rintro e w' ⟨rfl, hbb, hk⟩
      refine ⟨rfl, h.1.trans ⟨hbb.os, hbb.tape, hbb.output, hbb.size, fun i hi he => hbb.block i (Nat.lt_of_lt_of_le hi h.1.size) he⟩, ?_⟩
      rw [bord_s, gg_at hj]
      exact hk)
    ⟨BelowBut.refl _ _ _, by rw [bord_0]; exact hgB⟩
set_option maxRecDepth 100000 in
set_option maxHeartbeats 4000000 in
theorem hullInside_any (v : Value) (n : Nat) (l : List Int) (H : List Nat) (cc : Int) (w : World) (B : Nat) (hB : B ≤ w.heap.size) (h : IsFlat 3 w B v n l) (hR : HullsR n l cc H) :
    Calls Try.prog 11 #[v] w fun e w' => e = .returned (.tuple #[.int .i64 (if cc = 0 then insA (ptF l) H else 0), .int .i64 (if cc = 0 then insB (ptF l) H else 0), .int .i64 cc]) ∧ Below w.heap.size w w' := by
  have HB0 := Lib.hid ((Below.refl w.heap.size w).alloc (Nat.le_refl _) (.cells #[.int .i64 0] 3))
  have HK0 := Lib.hid (Blk.new w 3 #[.int .i64 0])
  have hz0 : (w.alloc (.cells #[.int .i64 0] 3)).heap.size = w.heap.size + 1 := by simp
  have HC := Lib.hid (hullfault_any v n l (w.alloc (.cells #[.int .i64 0] 3)) B (by omega) (h.below (HB0.out.mono hB)))
  obtain ⟨h1, hHl, h2, h3⟩ := hR
  rw [← h1] at HC
  by_cases c0 : cc = 0
  rotate_left
  · obtain ⟨A, c, rfl, hc, hm, hn, hl, hr, hw⟩ := h
    rw [if_neg c0, if_neg c0]
    have t0 : (cc != 0) = true := bne_iff_ne.2 c0
    clear hr hl hw h1 c0 h2 h3
    go_enter Try.func11, Try.ntmps11
    go_wp2_with (go_at_call 21; refine (HC.out).mono ?_; rintro e w1 ⟨rfl, hb1⟩; have HK1 := Lib.hid (HK0.out.below hb1 (by omega)); have k0 := HK1.out.cell 0; have f0 := HK1.out.frozen 0)
    have q0 : (w1.setCell ⟨w.heap.size, 0, none⟩ (.int .i64 0)).cell? ⟨w.heap.size, 0, none⟩ = some (.int .i64 0) := (HK1.out.set_ 0 _).cell 0
    exact bodyPost_ret (v := .tuple #[.int .i64 0, .int .i64 0, .int .i64 cc]) (by simp [results, Try.results11, go_sem, q0]) rfl ⟨rfl, (HB0.out.trans (hb1.mono (by omega))).setCell (by show w.heap.size ≤ w.heap.size; omega) _⟩
  · rw [if_pos c0, if_pos c0]
    subst c0
    obtain ⟨g1, g2⟩ := hullCode_ok h1.symm
    obtain ⟨g3, g4⟩ := pt_okC g1
    have HP := Lib.hid fun W (hb : Below w.heap.size w W) => hullCorners_any v n l W B (Nat.le_trans hB hb.size) (h.below (hb.mono hB)) g2 g3 g4
    have HU : Hid (∀ o, OrdIs (ptF l) n o → corners (ptF l) o = H) := Lib.hid fun o ho => (corners_ok ho g2).uniq (pt_nr g4) (h3 rfl)
    have HLn : Hid ((natH H).length = H.length) := Lib.hid (natH_len H)
    have hm0 := (h3 rfl).ne
    have HI : Hid (∀ u, u < H.length → H.getD u 0 < n) := Lib.hid (fun u hu => (h3 rfl).lt hu)
    have HBd := Lib.hid (bord_bd (okH_all hm0 HI.out g4) H.length (Nat.le_refl _))
    have HSh := Lib.hid (shoe_bd (okH_all hm0 HI.out g4) H.length)
    have HPk := Lib.hid fun h3' => insA_pick (pt_nr g4) (fun i hi => (g4 i hi).1) (h3 rfl) h3'
    obtain ⟨A, c, rfl, hc, hm, hn, hl, hr, hw⟩ := h
    obtain ⟨bk, off, rfl, hbk, hcells⟩ := flat_cells hr hl g2 (by omega)
    have HCs := Lib.hid hcells
    have HEd := Lib.hid fun W gH co (hbw : Below w.heap.size w W) (hg1 : w.heap.size < gH) (hg : gH < W.heap.size) hhs hK => hullInsE_any n c bk off l H co gH w.heap.size W (by omega) hm0 (by omega) HI.out g4 (by have := hbw.size; omega) hg (by omega) (by omega)
      (fun q hq => (hbw.cell (p := ⟨bk, off + q, none⟩) (by show bk < _; omega)).trans (HCs.out q hq)) hhs hK
    have HAr := Lib.hid fun W gH co (hbw : Below w.heap.size w W) (hg : gH < W.heap.size) hhs => hullArea0_any n c bk off l H co gH W (by omega) hm0 (by omega) HI.out g4 (by have := hbw.size; omega) hg
      (fun q hq => (hbw.cell (p := ⟨bk, off + q, none⟩) (by show bk < _; omega)).trans (HCs.out q hq)) hhs
    obtain ⟨ia, hia⟩ : ∃ x, x = insA (ptF l) H := ⟨_, rfl⟩
    obtain ⟨ib, hib⟩ : ∃ x, x = insB (ptF l) H := ⟨_, rfl⟩
    have HIA := Lib.hid hia
    have HIB := Lib.hid hib
    rw [← hia, ← hib]
    clear hr hl hw h1 h2 h3 g1 g4 hcells hia hib
    go_enter Try.func11, Try.ntmps11
    go_upto_region 5 with (first
      | (go_at_call 21; refine (HC.out).mono ?_; rintro e w1 ⟨rfl, hb1⟩; have HK1 := Lib.hid (HK0.out.below hb1 (by omega)); have HB1 := Lib.hid (HB0.out.trans (hb1.mono (by omega))); have hz1 := hb1.size; clear hb1)
      | (go_at_call 22; refine (HP.out _ HB1.out).mono ?_; rintro e w2 ⟨v2, o, rfl, ho, hl2, hown2, hb2⟩; rw [HU.out o ho] at hown2))
    have HK2 := Lib.hid (HK1.out.below hb2 (by omega))
    have HB2 := Lib.hid (HB1.out.trans (hb2.mono HB1.out.size))
    clear hb2 ho hl2
    obtain ⟨gH, cH, rfl, hgb, hgl⟩ := hown2.form (by omega)
    have HOw := Lib.hid hown2
    clear hown2
    have k0 : w2.cell? ⟨w.heap.size, 0, none⟩ = some (.int .i64 0) := HK2.out.cell 0
    have f0 := HK2.out.frozen 0
    obtain ⟨m, hm1⟩ : ∃ m, m = H.length := ⟨_, rfl⟩
    have HEd2 := Lib.hid (HEd.out w2 gH cH HB2.out (by omega) hgl (fun u hu => own_atH HOw.out rfl hu) HK2.out)
    obtain ⟨bd, hbd⟩ : ∃ b, b = bord (ptF l) H H.length := ⟨_, rfl⟩
    have hbb := HBd.out
    rw [← hbd, ← hm1] at hbb
    rw [← hbd, ← hm1] at HEd2
    by_cases c1 : m = 1
    · have e1 : insA (ptF l) H = 0 := by unfold insA; rw [if_pos (by omega)]
      have e2 : insB (ptF l) H = 1 := by unfold insB; rw [if_pos (by omega)]
      rw [← hm1]
      subst c1
      have HE := Lib.hid (And.intro (HIA.out.trans e1) (HIB.out.trans e2))
      clear hm1 e1 e2 hbd hbb
      go_wp2_with fail
      have q0 : (w2.setCell ⟨w.heap.size, 0, none⟩ (.int .i64 1)).cell? ⟨w.heap.size, 0, none⟩ = some (.int .i64 1) := (HK2.out.set_ 0 _).cell 0
      exact bodyPost_ret (v := .tuple #[.int .i64 0, .int .i64 1, .int .i64 0]) (by simp [results, Try.results11, go_sem, q0]) rfl ⟨by rw [HE.out.1, HE.out.2], HB2.out.setCell (by show w.heap.size ≤ w.heap.size; omega) _⟩
    · have t1 : ((m : Int) == 1) = false := beq_eq_false_iff_ne.2 (by omega)
      by_cases c2 : m = 2
      · have e1 : insA (ptF l) H = 0 := by unfold insA; rw [if_pos (by omega)]
        have e2 : insB (ptF l) H = bd.tdiv 2 + 1 := by unfold insB; rw [if_neg (by omega), if_pos (by omega), hbd]
        rw [← hm1]
        have HE := Lib.hid (And.intro (HIA.out.trans e1) (HIB.out.trans e2))
        obtain ⟨hb, hhb⟩ : ∃ h, bd.tdiv 2 = h := ⟨_, rfl⟩
        have hhb2 : 0 ≤ hb ∧ hb ≤ bd := by rw [← hhb, Int.tdiv_eq_ediv_of_nonneg (by omega)]; omega
        rw [hhb] at HE
        have HHb := Lib.hid hhb
        have w1' : IntKind.i64.wrap hb = hb := by rw [IntKind.wrap_i64]; omega
        have w2' : IntKind.i64.wrap (hb + 1) = hb + 1 := by rw [IntKind.wrap_i64]; omega
        subst c2
        clear hm1 e1 e2 hbd t1 c1
        go_wp2_with (go_at_call 23; (with_reducible refine (HEd2.out).mono ?_); rintro e w3 ⟨rfl, hb3, hK3⟩; have HK3 := Lib.hid hK3; have HB3 := Lib.hid hb3; have k3 : w3.cell? ⟨w.heap.size, 0, none⟩ = some (.int .i64 bd) := HK3.out.cell 0; have f3 := HK3.out.frozen 0; clear hb3 hK3)
        go_region
        all_goals go_wp2_with fail
        have q0 : ((w3.setCell ⟨w.heap.size, 0, none⟩ (.int .i64 (hb + 1))).drew).cell? ⟨w.heap.size, 0, none⟩ = some (.int .i64 (hb + 1)) := (HK3.out.set_ 0 _).cell 0
        exact bodyPost_ret (v := .tuple #[.int .i64 0, .int .i64 (hb + 1), .int .i64 0]) (by simp [results, Try.results11, go_sem, q0]) rfl ⟨by rw [HE.out.1, HE.out.2], ((HB2.out.trans (HB3.out.below HB2.out.size (Nat.le_refl _))).setCell (by show w.heap.size ≤ w.heap.size; omega) _).drew⟩
      · have t2 : ((m : Int) == 2) = false := beq_eq_false_iff_ne.2 (by omega)
        have e2 : insB (ptF l) H = bd := by unfold insB; rw [if_neg (by omega), if_neg (by omega), hbd]
        have e1 := HPk.out (by omega)
        have hsh := HSh.out
        obtain ⟨sv, hsv⟩ : ∃ s, s = shoe (ptF l) H H.length := ⟨_, rfl⟩
        have HArs := HAr
        rw [← hsv, ← hbd] at e1
        rw [← hsv, ← hm1] at hsh
        rw [← hsv, ← hm1] at HArs
        rw [← hm1]
        have HE := Lib.hid (And.intro (HIA.out.trans e1.symm) (HIB.out.trans e2))
        rw [← HIA.out] at e1
        have w1' : IntKind.i64.wrap (sv - bd) = sv - bd := by rw [IntKind.wrap_i64]; omega
        have w2' : IntKind.i64.wrap (sv - bd + 2) = sv - bd + 2 := by rw [IntKind.wrap_i64]; omega
        have hq : -9007199254740992 ≤ ia ∧ ia ≤ 9007199254740992 := by
          have h1 : ia.natAbs ≤ (sv - bd + 2).natAbs := by rw [← e1, Int.natAbs_tdiv]; exact Nat.div_le_self _ _
          omega
        have w3' : IntKind.i64.wrap ia = ia := by rw [IntKind.wrap_i64]; omega
        have HRw : Hid (∀ u, u < m → w2.cell? ⟨gH, u, none⟩ = some (.int .i64 ((H.getD u 0 : Nat) : Int))) := Lib.hid (fun u hu => own_atH HOw.out rfl (by omega))
        clear hm1 e2 hbd hsv
        go_wp2_with (go_at_call 23; (with_reducible refine (HEd2.out).mono ?_); rintro e w3 ⟨rfl, hb3, hK3⟩; have HK3 := Lib.hid hK3; have HB3 := Lib.hid hb3; have k3 : w3.cell? ⟨w.heap.size, 0, none⟩ = some (.int .i64 bd) := HK3.out.cell 0; have f3 := HK3.out.frozen 0; clear hb3 hK3)
        have HB3' := Lib.hid (HB2.out.trans (HB3.out.below HB2.out.size (Nat.le_refl _)))
        have hgl3 : gH < w3.heap.size := Nat.lt_of_lt_of_le hgl HB3.out.size
        have HA3 := Lib.hid (HArs.out w3.drew gH cH HB3'.out.drew hgl3 (fun u hu => (HB3.out.cell (p := ⟨gH, u, none⟩) hgl (by show gH ≠ _; omega)).trans (HRw.out u hu)))
        have hlt3 := HK3.out.lt
        go_region_held3 (fun W => W.cell? ⟨w.heap.size, 0, none⟩ = some (.int .i64 bd) ∧ W.frozen? ⟨w.heap.size, 0, none⟩ = false)
          (first
            | exact ⟨k3, f3⟩
            | exact ⟨(HK3.out.drew.below hb4 hlt3).cell 0, (HK3.out.drew.below hb4 hlt3).frozen 0⟩
            | exact ⟨((HK3.out.drew.below hb4 hlt3).set_ 0 _).cell 0, ((HK3.out.drew.below hb4 hlt3).set_ 0 _).frozen 0⟩)
          (first | (go_at_call 26; refine (HA3.out).mono ?_; rintro e w4 ⟨rfl, hb4⟩))
        all_goals go_wp2_with fail
        have q0 : (w4.setCell ⟨w.heap.size, 0, none⟩ (.int .i64 bd)).cell? ⟨w.heap.size, 0, none⟩ = some (.int .i64 bd) := ((HK3.out.drew.below hb4 hlt3).set_ 0 _).cell 0
        exact bodyPost_ret (v := .tuple #[.int .i64 ia, .int .i64 bd, .int .i64 0]) (by simp [results, Try.results11, go_sem, q0]) rfl ⟨by rw [HE.out.2], (HB3'.out.drew.trans (hb4.mono HB3'.out.size)).setCell (by show w.heap.size ≤ w.heap.size; omega) _⟩
end Go.Proofs.Ythiccmncdmohbaa
