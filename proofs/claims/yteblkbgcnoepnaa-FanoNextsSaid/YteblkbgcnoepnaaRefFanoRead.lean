/-
  Contract of the reference's FanoRead. Conditions: the struct can be read as data.
-/
import Derived.Test.YteblkbgcnoepnaaRefFanoReadBad
import Derived.Test.YteblkbgcnoepnaaRefFanoMakeZero
namespace Go.Proofs.Yteblkbgcnoepnaa
open Go Go.RowKit Go.Dam
set_option linter.unusedVariables false
set_option maxRecDepth 100000 in
set_option maxHeartbeats 1000000 in
theorem refFanoRead_good (bd : Int) (A1 A2 : Option Addr) (c1 c2 : Nat) (N1 W : Nat) (ws1 : List Nat) (N2 : Nat) (ws2 : List Nat) (ok : Bool) (gbd gn1 gm : Int) (gws1 : List Nat) (gn2 : Int) (gws2 : List Nat) (gc : Int) (w : World) (B : Nat) (hB : B ≤ w.heap.size)
    (hbd : I64 bd) (h1 : IsWords w B (.slice A1 ws1.length c1) ws1) (h2 : IsWords w B (.slice A2 ws2.length c2) ws2)
    (hM1 : mayPacked N1 W ws1 = true) (hM2 : mayBits N2 ws2 = true)
    (hR : FanoR bd (readTo ws1 ws2 W N2) gbd gn1 gm gws1 gn2 gws2 gc (fun W l n m ws => ∃ c, PackR W l n m ws c)) (hok : ok = true ↔ GoodF N1 W ws1 N2 ws2 gm gws1 gn2 gws2 gc) :
    Calls Try.prog 30 #[.agg #[.int .i64 bd, .int .i64 N1, .int .i64 W, .slice A1 ws1.length c1, .int .i64 N2, .slice A2 ws2.length c2]] w (GivesRead (readTo ws1 ws2 W N2) ok w) := by
  obtain ⟨_, hN1, _, hW62, _⟩ := packed_facts hM1
  obtain ⟨_, hN2, _⟩ := may_facts hM2
  have hN1' : N1 ≤ 300 := by omega
  have hW' : W ≤ 62 := by omega
  have hN2' : N2 ≤ 4096 := by omega
  have i1 : I64 (N1 : Int) := by unfold I64; omega
  have i2 : I64 (W : Int) := by unfold I64; omega
  have i3 : I64 (N2 : Int) := by unfold I64; omega
  have HMay1 := Lib.hid hM1
  have HMay2 := Lib.hid hM2
  have HM1 := Lib.hid fun Wd (hW : Below w.heap.size w Wd) => refPackMay_any (.agg #[.int .i64 N1, .int .i64 W, .slice A1 ws1.length c1]) N1 W ws1 Wd B (Nat.le_trans hB hW.size) ⟨_, rfl, i1, i2, h1.below (hW.mono hB)⟩
  rw [hM1] at HM1
  have HM2 := Lib.hid fun Wd (hW : Below w.heap.size w Wd) => refMay_any (.agg #[.int .i64 N2, .slice A2 ws2.length c2]) N2 ws2 Wd B (Nat.le_trans hB hW.size) ⟨_, rfl, i3, h2.below (hW.mono hB)⟩
  rw [hM2] at HM2
  have HBo := Lib.hid fun Wd (hW : Below w.heap.size w Wd) => bools_any (.agg #[.int .i64 N2, .slice A2 ws2.length c2]) N2 ws2 Wd B (Nat.le_trans hB hW.size) ⟨_, rfl, i3, h2.below (hW.mono hB)⟩ hM2
  have HPA := Lib.hid fun Wd (hW : Below w.heap.size w Wd) i r cc (hi : I64 i) (hR : PackAtR N1 W ws1 i r cc) => refPackAt_any (.agg #[.int .i64 N1, .int .i64 W, .slice A1 ws1.length c1]) N1 W i ws1 r cc Wd B (Nat.le_trans hB hW.size) ⟨_, rfl, i1, i2, h1.below (hW.mono hB)⟩ hi hR
  have HBk := Lib.hid (Blk.new w 45 #[.int .i64 bd, .int .i64 N1, .int .i64 W, .slice A1 ws1.length c1, .int .i64 N2, .slice A2 ws2.length c2])
  have HA := Lib.hid ((Below.refl w.heap.size w).alloc (Nat.le_refl _) (.cells #[.int .i64 bd, .int .i64 N1, .int .i64 W, .slice A1 ws1.length c1, .int .i64 N2, .slice A2 ws2.length c2] 45))
  have HW1 := Lib.hid h1
  have HW2 := Lib.hid h2
  have HR := Lib.hid hR
  have HOk := Lib.hid hok
  have HRl := Lib.hid (rowBits_length ws2 N2)
  have HRg := Lib.hid fun t (ht : t < N2) => rowBits_get ws2 N2 t ht
  clear h1 h2 hM1 hM2 hR hok hN1 hW62 hN2 i1 i2 i3
  go_enter Try.func30, Try.ntmps30
  go_wp2_with (first
    | (go_at_call 60; refine (HM1.out _ HA.out).mono ?_; rintro e w1 ⟨rfl, hb1⟩; have hz1 := size_box hb1; have HK1 := Lib.hid (HBk.out.below hb1 HBk.out.lt); have k14 := HK1.out.cell 4; have k15 := HK1.out.cell 5; have HB1 := Lib.hid (below_box hb1); clear hb1)
    | (go_at_call 45; refine (HM2.out _ HB1.out).mono ?_; rintro e w2 ⟨rfl, hb2⟩; have hz2 := hb2.size; have HK2 := Lib.hid (HK1.out.below hb2 (by omega)); have k24 := HK2.out.cell 4; have k25 := HK2.out.cell 5; have HB2 := Lib.hid (HB1.out.trans (hb2.mono HB1.out.size)); clear hb2 k14 k15)
    | (go_at_call 46; refine (HBo.out _ HB2.out).mono ?_; rintro e w3 ⟨u, rfl, hu, hb3⟩; have hz3 := hb3.size; have HK3 := Lib.hid (HK2.out.below hb3 (by omega)); have HB3 := Lib.hid (HB2.out.trans (hb3.mono HB2.out.size)); have HU := Lib.hid hu; obtain ⟨Au, cu, hveq, _⟩ := hu; rw [HRl.out] at hveq; subst hveq; clear hb3 k24 k25))
  clear HM1 HM2 HBo HBk HA
  go_loopw [4, 26] (fun ov iv wr => ∃ j : Nat, j ≤ N2 ∧ iv = .int .i64 j ∧ cntB ws2 true j ≤ N1 ∧ wr.ownsRow w3.heap.size 3 1 ov (cntB ws2 true j) ((readTo ws1 ws2 W j).map (Value.int .i64)) ∧ Below w3.heap.size w3 wr) (fun _ iv _ => N2 - (intOf iv).toNat)
  case atStart => exact ⟨0, by omega, rfl, by rw [cntB_0]; omega, by rw [cntB_0, readTo_0]; exact World.ownsRow_nil _ _ _ _, Below.refl _ _⟩
  case round =>
    obtain ⟨j, hj, rfl, hcn, hown, hbel⟩ := hrel
    obtain ⟨Ao, co, rfl⟩ := own_shape hown
    have hz4 := hbel.size
    have HK4 := Lib.hid (HK3.out.below hbel (by omega))
    have HB4 := Lib.hid (HB3.out.trans (hbel.mono HB3.out.size))
    by_cases hlt : j < N2
    · obtain ⟨_, bb, offb, rfl, hbb, hbc⟩ := bool_cellF (l := rowBits ws2 N2) (by rw [HRl.out]; exact HU.out) (by rw [HRl.out]; omega)
      have kb := (hbel.cell (p := ⟨bb, offb + j, none⟩) hbb).trans (hbc j (by rw [HRl.out]; exact hlt))
      rw [HRg.out j hlt] at kb
      have HO := Lib.hid hown
      have HBe := Lib.hid hbel
      clear hbc hown hbel
      cases hbit : bitAt ws2 j
      · rw [hbit] at kb
        have hne : ¬ bitAt ws2 j = true := by rw [hbit]; decide
        have HC := Lib.hid (cntB_no hne)
        have HT := Lib.hid (readTo_no (ws1 := ws1) (W := W) hne)
        go_wp2_with fail
        go_roundw
        case rel => exact ⟨j + 1, by omega, by go_num, by rw [HC.out]; exact hcn, by rw [HC.out, HT.out]; exact HO.out, HBe.out⟩
        case measure => simp [intOf]; omega
      · rw [hbit] at kb
        have k41 := HK4.out.cell 1
        have k42 := HK4.out.cell 2
        have k43 := HK4.out.cell 3
        have hcle := cntB_le ws2 true j
        have HC := Lib.hid (cntB_yes hbit)
        have HT := Lib.hid (readTo_yes (ws1 := ws1) (W := W) hbit)
        have HMono := Lib.hid (cntB_mono ws2 true (j + 1) (N2 - (j + 1)))
        by_cases hin : cntB ws2 true j < N1
        · obtain ⟨x, hx⟩ : ∃ x, x = numAt ws1 (cntB ws2 true j * W) W := ⟨_, rfl⟩
          have HP := Lib.hid fun Wd (hW : Below w.heap.size w Wd) => HPA.out Wd hW (cntB ws2 true j : Nat) (x : Nat) 0 (by unfold I64; omega) (.inr (.inr ⟨HMay1.out, by omega, by omega, by rw [hx]; rfl, rfl⟩))
          have HV := Lib.hid (valF_eq ws1 W j (cntB ws2 true j))
          have HV2 := Lib.hid (valF_add ws1 W j (cntB ws2 true j) hW')
          rw [← hx] at HV HV2
          have hsub : (j : Int) - ((cntB ws2 true j : Nat) : Int) = ((j - cntB ws2 true j : Nat) : Int) := by omega
          have hp : (2 : Int) ^ W = ((2 ^ W : Nat) : Int) := by simp
          have hp62 : 2 ^ W ≤ 2 ^ 62 := Nat.pow_le_pow_right (by decide) hW'
          clear hx
          generalize cntB ws2 true j = i at *
          generalize 2 ^ W = Q at *
          go_wp2_with (first
            | (go_at_call 61; refine (HP.out _ HB4.out).mono ?_; rintro e w5 ⟨rfl, hb5⟩; have hz5 := hb5.size; have HK5 := Lib.hid (HK4.out.below hb5 (by omega)); have k52 := HK5.out.cell 2; have HB5 := Lib.hid (HBe.out.trans (hb5.mono hz4)); have HO5 := Lib.hid (own_size HO.out hb5); clear hb5)
            | (at_builtin; refine wpList_push el_int rfl (.tmp 44) (.tmp 55) rfl w3.heap.size (.slice Ao i co) i _ (HO5.out.alloc _) rfl w5.heap.size 1 _ rfl (new_cell (by simp)) rfl (by omega) (by omega) (by simp; omega) ?_; intro v' w6 hown6 hg6))
          have e6 : (readTo ws1 ws2 W j).map (Value.int .i64) ++ [.int .i64 (wrap64 (wrap64 (((j - i : Nat) : Int) * (Q : Int)) + (x : Int)))] = (readTo ws1 ws2 W (j + 1)).map (Value.int .i64) := by rw [HT.out, HV2.out, List.map_append]; rfl
          rw [e6] at hown6
          go_roundw
          case rel => exact ⟨j + 1, by omega, by go_num, by rw [HC.out]; omega, by rw [HC.out]; exact hown6, below_push (HB5.out.alloc (by omega) _) (HO5.out.alloc _) (by omega) (by simp; omega) hg6⟩
          case measure => simp [intOf]; omega
        · have hiN : cntB ws2 true j = N1 := by omega
          have hno : ok = false := by
            cases hk : ok with
            | false => rfl
            | true =>
              have hg := (goodF_iff.1 (HOk.out.1 hk)).2.2.1
              have hm := HMono.out
              rw [HC.out, show j + 1 + (N2 - (j + 1)) = N2 from by omega] at hm
              rw [Int.toNat_natCast] at hg
              omega
          have HNo := Lib.hid hno
          have HP := Lib.hid fun Wd (hW : Below w.heap.size w Wd) => HPA.out Wd hW (cntB ws2 true j : Nat) 0 2 (by unfold I64; omega) (.inr (.inl ⟨HMay1.out, .inr (by omega), rfl, rfl⟩))
          generalize cntB ws2 true j = i at *
          clear hno
          subst hiN
          go_wp2_with (first
            | (go_at_call 61; refine (HP.out _ HB4.out).mono ?_; rintro e w5 ⟨rfl, hb5⟩; have HB5 := Lib.hid (HB4.out.trans (hb5.mono HB4.out.size)); clear hb5))
          go_ret2
          exact givesRead_no HNo.out HB5.out
    · obtain rfl : j = N2 := by omega
      have k40 := HK4.out.cell 0
      have k41 := HK4.out.cell 1
      have HO := Lib.hid hown
      have HRlen := Lib.hid (readTo_length ws1 ws2 W j)
      have HR64 := Lib.hid (readTo_i64 ws1 ws2 W hW' j)
      have HIns := Lib.hid (own_ints hown (by rw [HRlen.out]; omega) (fun z hz => int_wf (HR64.out z hz)))
      clear hown hbel
      by_cases hN : cntB ws2 true j = N1
      · have HN := Lib.hid hN
        have HMk := Lib.hid fun Wd (hW : Below wr.heap.size wr Wd) => refFanoMake_any bd (.slice Ao (cntB ws2 true j) co) (readTo ws1 ws2 W j) gbd gn1 gm gws1 gn2 gws2 gc Wd wr.heap.size hW.size hbd (HIns.out.below hW) HR.out
        generalize cntB ws2 true j = i at *
        subst hN
        have hne : ((i : Int) != (i : Int)) = false := by simp
        go_upto_region 17 with (go_at_call 28; refine (HMk.out _ (Below.refl _ _)).mono ?_; rintro e w5 ⟨t1, t2, rfl, ⟨B1, d1, rfl, h3⟩, ⟨B2, d2, rfl, h4⟩, hb5⟩; have H3 : Hid (IsWords w5 w5.heap.size (.slice B1 gws1.length d1) gws1) := Lib.hid ⟨B1, d1, rfl, h3⟩; have H4 : Hid (IsWords w5 w5.heap.size (.slice B2 gws2.length d2) gws2) := Lib.hid ⟨B2, d2, rfl, h4⟩; have HB5 := Lib.hid hb5; have hz5 := hb5.size; have HK5 := Lib.hid (HK4.out.below hb5 (by omega)); clear h3 h4 hb5)
        have HX := Lib.hid ((HK5.out).alloc (.cells #[.int .i64 gbd, .int .i64 gn1, .int .i64 gm, .slice B1 gws1.length d1, .int .i64 gn2, .slice B2 gws2.length d2] 45))
        have HY := Lib.hid (Blk.new w5 45 #[.int .i64 gbd, .int .i64 gn1, .int .i64 gm, .slice B1 gws1.length d1, .int .i64 gn2, .slice B2 gws2.length d2])
        have HG := Lib.hid ((Below.refl w5.heap.size w5).alloc (Nat.le_refl _) (.cells #[.int .i64 gbd, .int .i64 gn1, .int .i64 gm, .slice B1 gws1.length d1, .int .i64 gn2, .slice B2 gws2.length d2] 45))
        have hwr5 : w.heap.size ≤ w5.heap.size := by omega
        have HB6 := Lib.hid ((HB4.out.trans (HB5.out.mono HB4.out.size)).trans (HG.out.mono hwr5))
        have G1 := Lib.hid (HW1.out.below (HB6.out.mono hB))
        have G2 := Lib.hid (HW2.out.below (HB6.out.mono hB))
        have G3 := Lib.hid (H3.out.below HG.out)
        have G4 := Lib.hid (H4.out.below HG.out)
        have GI := Lib.hid (((HIns.out.below HB5.out).more hz5).below HG.out)
        have hsz : (w5.alloc (.cells #[.int .i64 gbd, .int .i64 gn1, .int .i64 gm, .slice B1 gws1.length d1, .int .i64 gn2, .slice B2 gws2.length d2] 45)).heap.size = w5.heap.size + 1 := by simp
        clear H3 H4 HB5 HB4 HB3 HB2 HB1 HK1 HK2 HK3 HK4 HK5 HG HMk HO HPA HRg HRl HU HIns HW1 HW2
        generalize (w5.alloc (.cells #[.int .i64 gbd, .int .i64 gn1, .int .i64 gm, .slice B1 gws1.length d1, .int .i64 gn2, .slice B2 gws2.length d2] 45)) = w6 at *
        have hw6 : w5.heap.size ≤ w6.heap.size := by omega
        have x0 := HX.out.cell 0
        have x1 := HX.out.cell 1
        have x2 := HX.out.cell 2
        have x3 := HX.out.cell 3
        have x4 := HX.out.cell 4
        have x5 := HX.out.cell 5
        have y0 := HY.out.cell 0
        have y1 := HY.out.cell 1
        have y2 := HY.out.cell 2
        have y3 := HY.out.cell 3
        have y4 := HY.out.cell 4
        have y5 := HY.out.cell 5
        by_cases q1 : gc = 0
        · have r1 : (gc != 0) = false := by simp [q1]
          have HS1 := Lib.hid fun Wd (hW : Drawn w6 Wd) => sameWordList_any (.slice B1 gws1.length d1) (.slice A1 ws1.length c1) gws1 ws1 (eqW gws1 ws1) Wd w5.heap.size B (G3.out.below (hW.below _)) (G1.out.below (hW.below _)) rfl
          have HS2 := Lib.hid fun Wd (hW : Drawn w6 Wd) => sameWordList_any (.slice B2 gws2.length d2) (.slice A2 ws2.length c2) gws2 ws2 (eqW gws2 ws2) Wd w5.heap.size B (G4.out.below (hW.below _)) (G2.out.below (hW.below _)) rfl
          by_cases q2 : gm = W
          · have r2 : (gm != (W : Int)) = false := by simp [q2]
            by_cases q3 : gn2 = j
            · have r3 : (gn2 != (j : Int)) = false := by simp [q3]
              by_cases q4 : gws1 = ws1
              · by_cases q5 : gws2 = ws2
                · have hyes : Hid (ok = true) := Lib.hid (HOk.out.2 (goodF_iff.2 ⟨HMay1.out, HMay2.out, by rw [Int.toNat_natCast]; exact congrArg _ ((readTo_length ws1 ws2 W j).symm.trans HRlen.out), q1, q2, q4, q3, q5⟩))
                  rw [eqW_of q4] at HS1
                  rw [eqW_of q5] at HS2
                  clear HOk q1 q2 q3 q4 q5 HN
                  go_wp2_with (first
              | (go_at_call 62; (with_reducible refine (HS1.out _ (Drawn.refl _)).mono ?_); rintro e w7 ⟨rfl, ⟨nd, rfl⟩⟩; have x0' := (HX.out.drewN nd).cell 5; have y0' := (HY.out.drewN nd).cell 5)
              | (go_at_call 62; (with_reducible refine (HS2.out _ ((Drawn.refl _).drewN nd)).mono ?_); rintro e w8 ⟨rfl, ⟨nd2, rfl⟩⟩))
                  go_ret2
                  exact ⟨Ao, co, readTo ws1 ws2 W j, by rw [hyes.out, HRlen.out]; rfl, by rw [HRlen.out]; exact (GI.out.more hw6).below (below_drewN (Below.refl _ _) _), fun _ => rfl, below_drewN HB6.out _⟩
                · have hno : Hid (ok = false) := Lib.hid (by
                    cases hk : ok with
                    | false => rfl
                    | true => exact absurd (goodF_iff.1 (HOk.out.1 hk)).2.2.2.2.2.2.2 q5)
                  rw [eqW_of q4] at HS1
                  rw [eqW_not q5] at HS2
                  clear HOk q1 q2 q3 q4 q5 HN
                  go_wp2_with (first
              | (go_at_call 62; (with_reducible refine (HS1.out _ (Drawn.refl _)).mono ?_); rintro e w7 ⟨rfl, ⟨nd, rfl⟩⟩; have x0' := (HX.out.drewN nd).cell 5; have y0' := (HY.out.drewN nd).cell 5)
              | (go_at_call 62; (with_reducible refine (HS2.out _ ((Drawn.refl _).drewN nd)).mono ?_); rintro e w8 ⟨rfl, ⟨nd2, rfl⟩⟩))
                  go_ret2
                  exact givesRead_no hno.out (below_drewN HB6.out _)
              · have hno : Hid (ok = false) := Lib.hid (by
                  cases hk : ok with
                  | false => rfl
                  | true => exact absurd (goodF_iff.1 (HOk.out.1 hk)).2.2.2.2.2.1 q4)
                rw [eqW_not q4] at HS1
                clear HOk q1 q2 q3 q4 HN
                go_wp2_with (first
              | (go_at_call 62; (with_reducible refine (HS1.out _ (Drawn.refl _)).mono ?_); rintro e w7 ⟨rfl, ⟨nd, rfl⟩⟩; have x0' := (HX.out.drewN nd).cell 5; have y0' := (HY.out.drewN nd).cell 5)
              | (go_at_call 62; (with_reducible refine (HS2.out _ ((Drawn.refl _).drewN nd)).mono ?_); rintro e w8 ⟨rfl, ⟨nd2, rfl⟩⟩))
                go_ret2
                exact givesRead_no hno.out (below_drewN HB6.out _)
            · have hno : Hid (ok = false) := Lib.hid (by
                cases hk : ok with
                | false => rfl
                | true => exact absurd (goodF_iff.1 (HOk.out.1 hk)).2.2.2.2.2.2.1 q3)
              have r3 : (gn2 != (j : Int)) = true := by simpa using q3
              clear HOk q1 q2 q3 HN
              go_wp2_with fail
              go_ret2
              exact givesRead_no hno.out HB6.out
          · have hno : Hid (ok = false) := Lib.hid (by
              cases hk : ok with
              | false => rfl
              | true => exact absurd (goodF_iff.1 (HOk.out.1 hk)).2.2.2.2.1 q2)
            have r2 : (gm != (W : Int)) = true := by simpa using q2
            clear HOk q1 q2 HN
            go_wp2_with fail
            go_ret2
            exact givesRead_no hno.out HB6.out
        · have hno : Hid (ok = false) := Lib.hid (by
            cases hk : ok with
            | false => rfl
            | true => exact absurd (goodF_iff.1 (HOk.out.1 hk)).2.2.2.1 q1)
          have r1 : (gc != 0) = true := by simpa using q1
          clear HOk q1
          go_wp2_with fail
          go_ret2
          exact givesRead_no hno.out HB6.out
      · have hno : ok = false := by
          cases hk : ok with
          | false => rfl
          | true =>
            have hg := (goodF_iff.1 (HOk.out.1 hk)).2.2.1
            rw [Int.toNat_natCast] at hg
            omega
        have HNo := Lib.hid hno
        have hne : (((cntB ws2 true j : Nat) : Int) != (N1 : Int)) = true := by simp; omega
        generalize cntB ws2 true j = i at *
        clear hno
        go_wp2_with fail
        go_ret2
        exact givesRead_no HNo.out HB4.out
/-- Reading, whatever the parts are. -/
theorem refFanoRead_any (v : Value) (bd n1 m1 : Int) (ws1 : List Nat) (n2 : Int) (ws2 : List Nat) (ok : Bool) (gbd gn1 gm : Int) (gws1 : List Nat) (gn2 : Int) (gws2 : List Nat) (gc : Int) (w : World) (B : Nat) (hB : B ≤ w.heap.size) (h : IsFano w B v bd n1 m1 ws1 n2 ws2)
    (hR : FanoR bd (listF m1 ws1 n2 ws2) gbd gn1 gm gws1 gn2 gws2 gc (fun W l n m ws => ∃ c, PackR W l n m ws c)) (hok : ok = true ↔ GoodF n1 m1 ws1 n2 ws2 gm gws1 gn2 gws2 gc) :
    Calls Try.prog 30 #[v] w (GivesRead (listF m1 ws1 n2 ws2) ok w) := by
  by_cases hm : mayPacked n1 m1 ws1 = true ∧ mayBits n2 ws2 = true
  · obtain ⟨hM1, hM2⟩ := hm
    obtain ⟨p1, _, p3, _, _⟩ := packed_facts hM1
    obtain ⟨p2, _, _⟩ := may_facts hM2
    obtain ⟨N1, rfl⟩ := Int.eq_ofNat_of_zero_le p1
    obtain ⟨W, rfl⟩ := Int.eq_ofNat_of_zero_le p3
    obtain ⟨N2, rfl⟩ := Int.eq_ofNat_of_zero_le p2
    obtain ⟨s1, s2, rfl, hbd, _, _, _, h1, h2⟩ := h
    obtain ⟨A1, c1, rfl, _⟩ := id h1
    obtain ⟨A2, c2, rfl, _⟩ := id h2
    rw [listF_nat] at hR ⊢
    exact refFanoRead_good bd A1 A2 c1 c2 N1 W ws1 N2 ws2 ok gbd gn1 gm gws1 gn2 gws2 gc w B hB hbd h1 h2 hM1 hM2 hR hok
  · have hno : ok = false := by
      cases hk : ok with
      | false => rfl
      | true => exact absurd ⟨(goodF_iff.1 (hok.1 hk)).1, (goodF_iff.1 (hok.1 hk)).2.1⟩ hm
    subst hno
    exact refFanoRead_bad v bd n1 m1 ws1 n2 ws2 _ w B hB h (by
      cases e : mayPacked n1 m1 ws1 with
      | false => exact .inl rfl
      | true =>
        cases e2 : mayBits n2 ws2 with
        | false => exact .inr rfl
        | true => exact absurd ⟨e, e2⟩ hm)
end Go.Proofs.Yteblkbgcnoepnaa
