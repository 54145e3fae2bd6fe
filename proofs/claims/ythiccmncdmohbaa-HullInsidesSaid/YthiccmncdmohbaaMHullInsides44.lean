/-
  Contract of the reference's HullInside: rows are counted. Conditions: the points can be read as data.
-/
import Derived.Test.YthiccmncdmohbaaMHullInsides36
import Derived.Test.YthiccmncdmohbaaMHullInsides42
import Derived.Test.YthiccmncdmohbaaMHullInsides41
import Derived.Test.YthiccmncdmohbaaMHullInsides43
set_option linter.unusedVariables false
set_option linter.unusedSimpArgs false
namespace Go.Dam.Hull
open Go Go.RowKit Go.Dam Go.Dam.Pick
theorem lowC_s (F : Nat → Pt) (H : List Nat) (k : Nat) : lowC F H (k + 1) = min (lowC F H k) (vY F H k) := rfl
theorem highC_s (F : Nat → Pt) (H : List Nat) (k : Nat) : highC F H (k + 1) = max (highC F H k) (vY F H k) := rfl
theorem lowC_0 (F : Nat → Pt) (H : List Nat) : lowC F H 0 = vY F H 0 := rfl
theorem highC_0 (F : Nat → Pt) (H : List Nat) : highC F H 0 = vY F H 0 := rfl
theorem allF_s (F : Nat → Pt) (H : List Nat) (low : Int) (r : Nat) : allF F H low (r + 1) = allF F H low r + Pick.cnt (vX F H) (vY F H) H.length (low + r) := rfl
theorem vY_at {l : List Int} {H : List Nat} {j : Nat} (hj : j < H.length) : vY (ptF l) H j = l.getD (H.getD j 0 * 3 + 1) 0 := by unfold vY; rw [Nat.mod_eq_of_lt hj]; rfl
theorem lowC_bd {F : Nat → Pt} {H : List Nat} (h : ∀ u, okC (F (H.getD u 0)).2) : ∀ k, okC (lowC F H k)
  | 0 => h _
  | k + 1 => by
    have a := lowC_bd h k
    have b : okC (vY F H k) := h _
    rw [lowC_s]; unfold okC at *; omega
theorem highC_bd {F : Nat → Pt} {H : List Nat} (h : ∀ u, okC (F (H.getD u 0)).2) : ∀ k, okC (highC F H k)
  | 0 => h _
  | k + 1 => by
    have a := highC_bd h k
    have b : okC (vY F H k) := h _
    rw [highC_s]; unfold okC at *; omega
theorem hiF_le (X Y : Nat → Int) (y : Int) : ∀ k, hiF X Y y k ≤ 4000000
  | 0 => by have : hiF X Y y 0 = 4000000 := by with_unfolding_all rfl
            omega
  | k + 1 => by
    have := hiF_le X Y y k
    rw [hiF_s]; split <;> omega
theorem loF_ge (X Y : Nat → Int) (y : Int) : ∀ k, -4000000 ≤ loF X Y y k
  | 0 => by have : loF X Y y 0 = -4000000 := by with_unfolding_all rfl
            omega
  | k + 1 => by
    have := loF_ge X Y y k
    rw [loF_s]; split <;> omega
theorem cnt_bd (X Y : Nat → Int) (m : Nat) (y : Int) : 0 ≤ Pick.cnt X Y m y ∧ Pick.cnt X Y m y ≤ 8000001 := by
  have h1 := hiF_le X Y y m
  have h2 := loF_ge X Y y m
  unfold Pick.cnt; split <;> omega
theorem allF_bd (F : Nat → Pt) (H : List Nat) (low : Int) : ∀ r : Nat, 0 ≤ allF F H low r ∧ allF F H low r ≤ 8000001 * (r : Int)
  | 0 => by have : allF F H low 0 = 0 := rfl
            omega
  | r + 1 => by
    have := allF_bd F H low r
    have := cnt_bd (vX F H) (vY F H) H.length (low + r)
    rw [allF_s]; push_cast; omega
end Go.Dam.Hull
namespace Go.Proofs.Ythiccmncdmohbaa
open Go Go.RowKit Go.Dam Go.Dam.Hull Go.Dam.Pick
set_option linter.unusedVariables false
set_option maxRecDepth 100000 in
set_option maxHeartbeats 8000000 in
theorem refInside_any (v : Value) (n : Nat) (l : List Int) (H : List Nat) (cc : Int) (w : World) (B : Nat) (hB : B ≤ w.heap.size) (h : IsFlat 3 w B v n l) (hR : HullsR n l cc H) :
    Calls Try.prog 12 #[v] w fun e w' => e = .returned (.tuple #[.int .i64 (if cc = 0 then insA (ptF l) H else 0), .int .i64 (if cc = 0 then insB (ptF l) H else 0), .int .i64 cc]) ∧ Below w.heap.size w w' := by
  have HC := Lib.hid (refHullFault_any v n l w B hB h)
  have HAr0 := Lib.hid fun W (hb : Below w.heap.size w W) a ha => refHullArea_any v n l H a cc W B (Nat.le_trans hB hb.size) (h.below (hb.mono hB)) hR ha
  obtain ⟨h1, hHl, h2, h3⟩ := hR
  rw [← h1] at HC
  by_cases c0 : cc = 0
  rotate_left
  · obtain ⟨A, c, rfl, hc, hm, hn, hl, hr, hw⟩ := h
    rw [if_neg c0, if_neg c0]
    have t0 : (cc != 0) = true := bne_iff_ne.2 c0
    clear hr hl hw h1 c0 h2 h3
    go_enter Try.func12, Try.ntmps12
    go_wp2_with (go_at_call 27; refine (HC.out).mono ?_; rintro e w1 ⟨rfl, hb1⟩)
    go_ret3
    exact ⟨rfl, hb1⟩
  · rw [if_pos c0, if_pos c0]
    subst c0
    obtain ⟨g1, g2⟩ := hullCode_ok h1.symm
    obtain ⟨g3, g4⟩ := pt_okC g1
    have hm0 := (h3 rfl).ne
    have HI : Hid (∀ u, u < H.length → H.getD u 0 < n) := Lib.hid (fun u hu => (h3 rfl).lt hu)
    have HCo := Lib.hid g4
    have HOk := Lib.hid (okH_all hm0 HI.out g4)
    have HIs := Lib.hid (h3 rfl)
    have HNr := Lib.hid (pt_nr g4)
    have HX : Hid (∀ i, i < n → -1048576 ≤ (ptF l i).1 ∧ (ptF l i).1 ≤ 1048576) := Lib.hid (fun i hi => (g4 i hi).1)
    obtain ⟨A, c, rfl, hc, hm, hn, hl, hr, hw⟩ := h
    obtain ⟨bk, off, rfl, hbk, hcells⟩ := flat_cells hr hl g2 (by omega)
    have HP := Lib.hid fun W (hb : Below w.heap.size w W) => refWrap_any n c bk off l H W g2 (by omega) (by have := hb.size; omega) (h3 rfl) (by omega) g4 (fun j hj => (hb.cell (p := ⟨bk, off + j, none⟩) (by show bk < _; omega)).trans (hcells j hj))
    have HCs := Lib.hid hcells
    have HSt := Lib.hid refSteps_any
    obtain ⟨ia, hia⟩ : ∃ x, x = insA (ptF l) H := ⟨_, rfl⟩
    obtain ⟨ib, hib⟩ : ∃ x, x = insB (ptF l) H := ⟨_, rfl⟩
    have HIA := Lib.hid hia
    have HIB := Lib.hid hib
    rw [← hia, ← hib]
    clear hr hl hw h1 h2 h3 g1 g4 hcells hia hib
    go_enter Try.func12, Try.ntmps12
    go_upto_region 5 with (first
      | (go_at_call 27; refine (HC.out).mono ?_; rintro e w1 ⟨rfl, hb1⟩; have HB1 := Lib.hid hb1; clear hb1)
      | (go_at_call 28; refine (HP.out _ HB1.out).mono ?_; rintro e w2 ⟨v2, rfl, hown2, hb2⟩; have HB2 := Lib.hid (HB1.out.trans (hb2.mono HB1.out.size)); clear hb2; obtain ⟨gH, cH, rfl, hgb, hgl⟩ := hown2.form (by omega); have HOw := Lib.hid hown2; clear hown2))
    have hz1 := HB1.out.size
    have hz2 := HB2.out.size
    have HRw : Hid (∀ u, u < H.length → w2.cell? ⟨gH, u, none⟩ = some (.int .i64 ((H.getD u 0 : Nat) : Int))) := Lib.hid (fun u hu => own_atH HOw.out rfl hu)
    obtain ⟨m, hm1⟩ : ∃ m, m = H.length := ⟨_, rfl⟩
    rw [← hm1]
    have HM := Lib.hid hm1
    clear hm1 HOw HP HC
    by_cases c1 : m = 1
    · have e1 : insA (ptF l) H = 0 := by have := HM.out; unfold insA; rw [if_pos (by omega)]
      have e2 : insB (ptF l) H = 1 := by have := HM.out; unfold insB; rw [if_pos (by omega)]
      have HE := Lib.hid (And.intro (HIA.out.trans e1) (HIB.out.trans e2))
      subst c1
      clear e1 e2
      go_wp2_with fail
      go_ret3
      exact ⟨by rw [HE.out.1, HE.out.2]; rfl, HB2.out⟩
    · have t1 : ((m : Int) == 1) = false := beq_eq_false_iff_ne.2 (by omega)
      have hm2 : 2 ≤ m := by have := HM.out; omega
      clear c1
      go_wp2_with fail
      go_loopw [8, 9, 10, 34] (fun bv _ _ iv wr => ∃ (j : Nat) (b : Int), j ≤ m ∧ iv = .int .i64 j ∧ bv = .int .i64 b ∧ Hid (b = bord (ptF l) H j) ∧ Hid (Below w2.heap.size w2 wr)) (fun _ _ _ iv _ => m - (intOf iv).toNat)
      case atStart => exact ⟨0, 0, by omega, rfl, rfl, Lib.hid (bord_0 _ _).symm, Lib.hid (Below.refl _ _)⟩
      case round =>
        obtain ⟨j, b, hj, rfl, rfl, HBo, HB⟩ := hrel
        obtain ⟨wo, rfl⟩ : ∃ wo : World, wo = wr := ⟨_, rfl⟩
        have hzo := HB.out.size
        by_cases hlt : j < m
        · have hjH : j < H.length := by have := HM.out; omega
          have hr : (j + 1) % H.length < H.length := Nat.mod_lt _ hm0
          obtain ⟨r, hrr⟩ : ∃ r, r = (j + 1) % H.length := ⟨_, rfl⟩
          rw [← hrr] at hr
          have hc' : ∀ u, u < H.length → wo.cell? ⟨gH, u, none⟩ = some (.int .i64 ((H.getD u 0 : Nat) : Int)) := fun u hu => (HB.out.cell (p := ⟨gH, u, none⟩) hgl).trans (HRw.out u hu)
          have pt : ∀ j, j < n * 3 → wo.cell? ⟨bk, off + j, none⟩ = some (.int .i64 (l.getD j 0)) := fun j hj => (HB.out.cell (p := ⟨bk, off + j, none⟩) (by show bk < _; omega)).trans ((HB2.out.cell (p := ⟨bk, off + j, none⟩) (by show bk < _; omega)).trans (HCs.out j hj))
          have b0 := hc' j hjH
          have b1 := hc' r hr
          have ha := HI.out j hjH
          have hb := HI.out r hr
          have HBd := Lib.hid (bord_bd HOk.out (j + 1) (by omega))
          have HGg : Hid (bord (ptF l) H (j + 1) = b + Int.gcd (l.getD (H.getD r 0 * 3) 0 - l.getD (H.getD j 0 * 3) 0) (l.getD (H.getD r 0 * 3 + 1) 0 - l.getD (H.getD j 0 * 3 + 1) 0)) := Lib.hid (by rw [bord_s, gg_at hjH, ← HBo.out, ← hrr]; rfl)
          have er : ((j : Int) + 1) % (m : Int) = (r : Int) := by rw [hrr, HM.out]; exact (Int.natCast_emod (j + 1) H.length).symm
          have er2 : ((j : Int) + 1).tmod (m : Int) = (r : Int) := by rw [Int.tmod_eq_emod_of_nonneg (by omega)]; exact er
          have hrm : r < m := by have := HM.out; omega
          obtain ⟨a, haa⟩ : ∃ a, a = H.getD j 0 := ⟨_, rfl⟩
          obtain ⟨b', hbb⟩ : ∃ a, a = H.getD r 0 := ⟨_, rfl⟩
          rw [← haa] at b0 ha HGg
          rw [← hbb] at b1 hb HGg
          have a0 := pt (a * 3) (by omega)
          have a1 : wo.cell? ⟨bk, off + a * 3 + 1, none⟩ = some (.int .i64 (l.getD (a * 3 + 1) 0)) := pt (a * 3 + 1) (by omega)
          have a2 : wo.cell? ⟨bk, off + a * 3 + 2, none⟩ = some (.int .i64 (l.getD (a * 3 + 2) 0)) := pt (a * 3 + 2) (by omega)
          have c0 := pt (b' * 3) (by omega)
          have c1 : wo.cell? ⟨bk, off + b' * 3 + 1, none⟩ = some (.int .i64 (l.getD (b' * 3 + 1) 0)) := pt (b' * 3 + 1) (by omega)
          have c2 : wo.cell? ⟨bk, off + b' * 3 + 2, none⟩ = some (.int .i64 (l.getD (b' * 3 + 2) 0)) := pt (b' * 3 + 2) (by omega)
          have na : (a : Int) < (n : Int) := by omega
          have nb : (b' : Int) < (n : Int) := by omega
          have nr' : (r : Int) < (m : Int) := by omega
          have nj : (j : Int) < (m : Int) := by omega
          have nm : (m : Int) ≠ 0 := by omega
          have rc : IntKind.i64.wrap ((j : Int) + 1) = (j : Int) + 1 := by rw [IntKind.wrap_i64]; omega
          have nm3 : m ≠ 0 := by omega
          have rr : IntKind.i64.wrap (r : Int) = (r : Int) := by rw [IntKind.wrap_i64]; omega
          have nm2 : ((m : Int) == 0) = false := beq_eq_false_iff_ne.2 nm
          have oka := HCo.out a ha
          have okb := HCo.out b' hb
          clear haa hbb hrr hc' pt
          obtain ⟨xa, hxa⟩ : ∃ x, x = l.getD (a * 3) 0 := ⟨_, rfl⟩
          obtain ⟨ya, hya⟩ : ∃ x, x = l.getD (a * 3 + 1) 0 := ⟨_, rfl⟩
          obtain ⟨za, hza⟩ : ∃ x, x = l.getD (a * 3 + 2) 0 := ⟨_, rfl⟩
          obtain ⟨xb, hxb⟩ : ∃ x, x = l.getD (b' * 3) 0 := ⟨_, rfl⟩
          obtain ⟨yb, hyb⟩ : ∃ x, x = l.getD (b' * 3 + 1) 0 := ⟨_, rfl⟩
          obtain ⟨zb, hzb⟩ : ∃ x, x = l.getD (b' * 3 + 2) 0 := ⟨_, rfl⟩
          rw [← hxa, ← hya, ← hxb, ← hyb] at HGg
          rw [← hxa] at a0 oka
          rw [← hya] at a1 oka
          rw [← hza] at a2
          rw [← hxb] at c0 okb
          rw [← hyb] at c1 okb
          rw [← hzb] at c2
          clear hxa hya hza hxb hyb hzb
          have HQ : Hid (∀ d os, Calls Try.prog 29 #[.agg #[.int .i64 xa, .int .i64 ya, .int .i64 za], .agg #[.int .i64 xb, .int .i64 yb, .int .i64 zb]] (Sort.grow (redrawn wo d) os) fun e w' => e = .returned (.int .i64 (Int.gcd (xb - xa) (yb - ya))) ∧ ∃ p : Regrown, w' = Sort.grow (redrawn wo p.d) p.os) := Lib.hid fun d os =>
            Calls.regrown_of (HSt.out xa ya za xb yb zb (Sort.grow (redrawn wo d) os) oka.1 oka.2 okb.1 okb.2)
          obtain ⟨gv, hgv⟩ : ∃ g : Nat, g = Int.gcd (xb - xa) (yb - ya) := ⟨_, rfl⟩
          rw [← hgv] at HQ HGg
          have hbd := HBd.out
          rw [HGg.out] at hbd
          have e3 : IntKind.i64.wrap (b + (gv : Int)) = b + (gv : Int) := by rw [IntKind.wrap_i64]; push_cast at hbd; omega
          have x1 := fun d os => cell_regrown a0 d os
          have x2 := fun d os => cell_regrown a1 d os
          have x3 := fun d os => cell_regrown a2 d os
          have x4 := fun d os => cell_regrown c0 d os
          have x5 := fun d os => cell_regrown c1 d os
          have x6 := fun d os => cell_regrown c2 d os
          have y1 := fun d os => cell_regrown b0 d os
          have y2 := fun d os => cell_regrown b1 d os
          clear hgv hbd oka okb
          go_wp2_with fail
          clear a0 a1 a2 c0 c1 c2 b0 b1
          refine wp_region_quiet_below (by kernel_rfl) (by kernel_rfl) ?_
          repeat (quiet_step ((go_at_call 29; exact HQ.out _ _)))
          refine wpQuiet_nil ?_
          intro _ hw'
          obtain ⟨⟨dq, osq⟩, hw''⟩ := hw'
          subst hw''
          have HW3 := Lib.hid (HB.out.trans ((below_regrown wo dq osq).mono hzo))
          clear x1 x2 x3 x4 x5 x6 y1 y2 HQ
          generalize Sort.grow (redrawn wo dq) osq = w3 at *
          go_wp2
          go_roundw
          case rel => exact ⟨j + 1, _, by omega, by go_num, rfl, Lib.hid HGg.out.symm, HW3⟩
          case measure => simp [intOf]; omega
        · obtain rfl : j = m := by omega
          have hbb := bord_bd HOk.out H.length (Nat.le_refl _)
          rw [← HM.out, ← HBo.out] at hbb
          have hj300 : j ≤ 300 := by have := HM.out; omega
          by_cases c2 : j = 2
          · have e1 : insA (ptF l) H = 0 := by have := HM.out; unfold insA; rw [if_pos (by omega)]
            have e2 : insB (ptF l) H = b.tdiv 2 + 1 := by have := HM.out; unfold insB; rw [if_neg (by omega), if_pos (by omega), HBo.out, this]
            have HE := Lib.hid (And.intro (HIA.out.trans e1) (HIB.out.trans e2))
            obtain ⟨hb, hhb⟩ : ∃ h, b.tdiv 2 = h := ⟨_, rfl⟩
            have hhb2 : 0 ≤ hb ∧ hb ≤ b := by rw [← hhb, Int.tdiv_eq_ediv_of_nonneg (by omega)]; omega
            rw [hhb] at HE
            have w1' : IntKind.i64.wrap hb = hb := by rw [IntKind.wrap_i64]; omega
            have w2' : IntKind.i64.wrap (hb + 1) = hb + 1 := by rw [IntKind.wrap_i64]; omega
            subst c2
            clear e1 e2
            go_wp2_with fail
            go_ret3
            exact ⟨by rw [HE.out.1, HE.out.2]; rfl, HB2.out.trans (HB.out.mono hz2)⟩
          · have t2 : ((j : Int) == 2) = false := beq_eq_false_iff_ne.2 (by omega)
            have h3 : 3 ≤ H.length := by have := HM.out; omega
            have e2 : insB (ptF l) H = b := by have := HM.out; unfold insB; rw [if_neg (by omega), if_neg (by omega), HBo.out, this]
            have HE2 := Lib.hid (HIB.out.trans e2)
            have HPk := Lib.hid (insA_pick HNr.out HX.out HIs.out h3)
            have HB3 := Lib.hid (HB2.out.trans (HB.out.mono hz2))
            have hc' : ∀ u, u < H.length → wo.cell? ⟨gH, u, none⟩ = some (.int .i64 ((H.getD u 0 : Nat) : Int)) := fun u hu => (HB.out.cell (p := ⟨gH, u, none⟩) hgl).trans (HRw.out u hu)
            have pt : ∀ j, j < n * 3 → wo.cell? ⟨bk, off + j, none⟩ = some (.int .i64 (l.getD j 0)) := fun j hj => (HB3.out.cell (p := ⟨bk, off + j, none⟩) (by show bk < _; omega)).trans (HCs.out j hj)
            have HRo := Lib.hid hc'
            have HPt := Lib.hid pt
            have b0 := hc' 0 hm0
            have hp0 := HI.out 0 hm0
            have hy0 := vY_at (l := l) (H := H) hm0
            obtain ⟨p0, hpp⟩ : ∃ p, p = H.getD 0 0 := ⟨_, rfl⟩
            rw [← hpp] at b0 hp0 hy0
            have a1 : wo.cell? ⟨bk, off + p0 * 3 + 1, none⟩ = some (.int .i64 (l.getD (p0 * 3 + 1) 0)) := pt (p0 * 3 + 1) (by omega)
            rw [← hy0] at a1
            have HL0 := Lib.hid (lowC_0 (ptF l) H)
            have HH0 := Lib.hid (highC_0 (ptF l) H)
            obtain ⟨yv, hyv⟩ : ∃ y, y = vY (ptF l) H 0 := ⟨_, rfl⟩
            rw [← hyv] at a1 HL0 HH0
            have n0 : (0 : Int) < (j : Int) := by omega
            have np0 : (p0 : Int) < (n : Int) := by omega
            clear hc' pt e2 hpp hy0 hyv c2
            go_wp2_with fail
            go_loopw [11, 12, 14, 75] (fun lv hv _ iv wr => ∃ (t : Nat) (lo hi : Int), t ≤ j ∧ iv = .int .i64 t ∧ lv = .int .i64 lo ∧ hv = .int .i64 hi ∧ Hid (lo = lowC (ptF l) H t) ∧ Hid (hi = highC (ptF l) H t) ∧ wr = wo) (fun _ _ _ iv _ => j - (intOf iv).toNat)
            case atStart => exact ⟨0, yv, yv, by omega, rfl, rfl, rfl, Lib.hid HL0.out.symm, Lib.hid HH0.out.symm, rfl⟩
            case round =>
              obtain ⟨t, lo, hi, ht, rfl, rfl, rfl, HLo, HHi, rfl⟩ := hrel
              by_cases hlt2 : t < j
              · have htH : t < H.length := by have := HM.out; omega
                have b1 := HRo.out t htH
                have hp1 := HI.out t htH
                have hy1 := vY_at (l := l) (H := H) htH
                have HLs := Lib.hid (lowC_s (ptF l) H t)
                have HHs := Lib.hid (highC_s (ptF l) H t)
                obtain ⟨p1, hpp⟩ : ∃ p, p = H.getD t 0 := ⟨_, rfl⟩
                rw [← hpp] at b1 hp1 hy1
                have a2 := HPt.out (p1 * 3 + 1) (by omega)
                rw [← hy1, ← Nat.add_assoc] at a2
                obtain ⟨y1, hyv⟩ : ∃ y, y = vY (ptF l) H t := ⟨_, rfl⟩
                rw [← hyv] at a2 HLs HHs
                rw [← HLo.out] at HLs
                rw [← HHi.out] at HHs
                have n1 : (t : Int) < (j : Int) := by omega
                have np1 : (p1 : Int) < (n : Int) := by omega
                clear hpp hy1 hyv a1 b0
                go_wp2_with fail
                all_goals go_roundw
                case rel => exact ⟨t + 1, _, _, by omega, by go_num, rfl, rfl, Lib.hid HLs.out.symm, Lib.hid HHs.out.symm, by first | trivial | rfl⟩
                case measure => simp [intOf]; omega
              · obtain rfl : t = j := by omega
                obtain ⟨wz, rfl⟩ : ∃ wz : World, wz = wr := ⟨_, rfl⟩
                have HLo' : Hid (lo = lowC (ptF l) H H.length) := Lib.hid (by rw [HLo.out, HM.out])
                have HHi' : Hid (hi = highC (ptF l) H H.length) := Lib.hid (by rw [HHi.out, HM.out])
                have hlb := lowC_bd (fun u => (HOk.out u).2) H.length
                have hhb := highC_bd (fun u => (HOk.out u).2) H.length
                rw [← HLo'.out] at hlb
                rw [← HHi'.out] at hhb
                unfold okC at hlb hhb
                have hlt' := HIs.out.rows_lt HNr.out HX.out h3
                rw [← HLo'.out, ← HHi'.out] at hlt'
                have w1' : IntKind.i64.wrap (hi - lo) = hi - lo := by rw [IntKind.wrap_i64]; omega
                have hsh := shoe_bd HOk.out H.length
                clear HLo HHi a1 b0
                by_cases h5 : 5000 < hi - lo
                · have t5 : decide (5000 < hi - lo) = true := decide_eq_true h5
                  have HA2 := Lib.hid (HAr0.out wz HB3.out _ rfl)
                  obtain ⟨sv, hsv⟩ : ∃ s, s = shoe (ptF l) H H.length := ⟨_, rfl⟩
                  have hpk := HPk.out
                  rw [← hsv, ← HM.out, ← HBo.out] at hpk
                  have hq : -9007199254740992 ≤ ia ∧ ia ≤ 9007199254740992 := by
                    have h1 : ia.natAbs ≤ (sv - b + 2).natAbs := by rw [HIA.out, ← hpk, Int.natAbs_tdiv]; exact Nat.div_le_self _ _
                    omega
                  have e1 : (sv + 2 - b).tdiv 2 = ia := by rw [HIA.out, ← hpk]; congr 1; omega
                  have w2' : IntKind.i64.wrap (sv + 2) = sv + 2 := by rw [IntKind.wrap_i64]; omega
                  have w3' : IntKind.i64.wrap (sv + 2 - b) = sv + 2 - b := by rw [IntKind.wrap_i64]; omega
                  have w4' : IntKind.i64.wrap ia = ia := by rw [IntKind.wrap_i64]; omega
                  have HA3 : Hid (Calls Try.prog 30 #[.slice (some ⟨bk, off, none⟩) n c] wz fun e w' => e = .returned (.tuple #[.int .i64 sv, .int .i64 0]) ∧ Below wz.heap.size wz w') := Lib.hid (by have := HA2.out; rw [if_pos trivial, ← hsv] at this; exact this)
                  clear hsv hpk HA2
                  go_wp2_with (go_at_call 30; (with_reducible refine (HA3.out).mono ?_); rintro e w4 ⟨rfl, hb4⟩)
                  go_ret3
                  exact ⟨by rw [HE2.out]; rfl, HB3.out.trans (hb4.mono HB3.out.size)⟩
                · have t5 : decide (5000 < hi - lo) = false := decide_eq_false h5
                  have HNb : Hid (∀ y, lo ≤ y → y ≤ hi → ∀ j, ¬ bad (vX (ptF l) H) (vY (ptF l) H) y j) := Lib.hid (fun y h1 h2 j => HIs.out.no_bad HNr.out HX.out h3 j (by rw [← HLo'.out]; exact h1) (by rw [← HHi'.out]; exact h2))
                  obtain ⟨N, hN⟩ : ∃ N : Nat, (N : Int) = hi - lo := ⟨(hi - lo).toNat, by omega⟩
                  have HFin : Hid (allF (ptF l) H lo (N + 1) - b = ia) := Lib.hid (by
                    rw [HIA.out, HLo'.out, HBo.out, HM.out]
                    unfold insA
                    rw [if_neg (by omega), ← HLo'.out, ← HHi'.out, ← hN]
                    rfl)
                  clear hsh
                  go_wp2_with fail
                  go_loopw [17, 18, 19, 20, 21] (fun av yv _ _ _ wx => ∃ (r : Nat) (al : Int), r ≤ N + 1 ∧ yv = .int .i64 (lo + (r : Int)) ∧ av = .int .i64 al ∧ Hid (al = allF (ptF l) H lo r) ∧ Hid (Below wz.heap.size wz wx)) (fun _ yv _ _ _ _ => (hi + 1 - intOf yv).toNat)
                  case atStart => exact ⟨0, 0, by omega, by simp, rfl, Lib.hid rfl, Lib.hid (Below.refl _ _)⟩
                  case round =>
                    obtain ⟨r, al, hr, rfl, rfl, HAl, HBx⟩ := hrel
                    obtain ⟨wy, rfl⟩ : ∃ wy : World, wy = wr := ⟨_, rfl⟩
                    have hzy := HBx.out.size
                    have HB4 := Lib.hid (HB3.out.trans (HBx.out.mono HB3.out.size))
                    have hab := allF_bd (ptF l) H lo r
                    rw [← HAl.out] at hab
                    by_cases hrN : r ≤ N
                    · have t6 : decide (lo + (r : Int) ≤ hi) = true := decide_eq_true (by omega)
                      have HQ := Lib.hid (refRow_any n c bk off l H cH gH (lo + (r : Int)) wy (by omega) hm0 (by omega) HI.out HCo.out (by have := HB4.out.size; omega) (Nat.lt_of_lt_of_le hgl (Nat.le_trans HB.out.size hzy)) (by unfold okC; omega)
                        (fun q hq => (HBx.out.cell (p := ⟨bk, off + q, none⟩) (by show bk < _; have := HB3.out.size; omega)).trans (HPt.out q hq)) (fun u hu => (HBx.out.cell (p := ⟨gH, u, none⟩) (Nat.lt_of_lt_of_le hgl HB.out.size)).trans (HRo.out u hu)) (HNb.out _ (by omega) (by omega)))
                      have HAs := Lib.hid (allF_s (ptF l) H lo r)
                      rw [← HAl.out] at HAs
                      have hb1 := hiF_le (vX (ptF l) H) (vY (ptF l) H) (lo + (r : Int)) H.length
                      have hb2 := loF_ge (vX (ptF l) H) (vY (ptF l) H) (lo + (r : Int)) H.length
                      have HCn : Hid (Pick.cnt (vX (ptF l) H) (vY (ptF l) H) H.length (lo + (r : Int)) = if loF (vX (ptF l) H) (vY (ptF l) H) (lo + (r : Int)) H.length ≤ hiF (vX (ptF l) H) (vY (ptF l) H) (lo + (r : Int)) H.length then hiF (vX (ptF l) H) (vY (ptF l) H) (lo + (r : Int)) H.length - loF (vX (ptF l) H) (vY (ptF l) H) (lo + (r : Int)) H.length + 1 else 0) := Lib.hid rfl
                      obtain ⟨p, hp⟩ : ∃ p, p = loF (vX (ptF l) H) (vY (ptF l) H) (lo + (r : Int)) H.length := ⟨_, rfl⟩
                      obtain ⟨q, hq⟩ : ∃ p, p = hiF (vX (ptF l) H) (vY (ptF l) H) (lo + (r : Int)) H.length := ⟨_, rfl⟩
                      rw [← hp, ← hq] at HQ HCn
                      rw [← hp] at hb2
                      rw [← hq] at hb1
                      have w8 : IntKind.i64.wrap (lo + (r : Int) + 1) = lo + (r : Int) + 1 := by rw [IntKind.wrap_i64]; omega
                      have HM2 := HM.out
                      rw [← HM2] at HQ
                      have HQ' := Lib.hid HQ.out
                      clear hp hq HM2 HQ
                      by_cases hpq : p ≤ q
                      · have t7 : decide (p ≤ q) = true := decide_eq_true hpq
                        rw [t7] at HQ'
                        have HCn' := HCn.out
                        rw [if_pos hpq] at HCn'
                        have HNx : Hid (allF (ptF l) H lo (r + 1) = al + (q - p + 1)) := Lib.hid (by rw [HAs.out, HCn'])
                        have w9 : IntKind.i64.wrap (q - p) = q - p := by rw [IntKind.wrap_i64]; omega
                        have wA : IntKind.i64.wrap (q - p + 1) = q - p + 1 := by rw [IntKind.wrap_i64]; omega
                        have wB : IntKind.i64.wrap (al + (q - p + 1)) = al + (q - p + 1) := by rw [IntKind.wrap_i64]; omega
                        clear HCn' hpq t7
                        go_wp2_with (go_at_call 31; (with_reducible refine (HQ'.out).mono ?_); rintro e w5 ⟨rfl, hb5⟩; have HB5 := Lib.hid (HBx.out.trans (hb5.mono hzy)); clear hb5)
                        go_roundw
                        case rel => exact ⟨r + 1, _, by omega, by push_cast; rw [Int.add_assoc], rfl, Lib.hid HNx.out.symm, HB5⟩
                        case measure => simp [intOf]; omega
                      · have t7 : decide (p ≤ q) = false := decide_eq_false hpq
                        rw [t7] at HQ'
                        have HCn' := HCn.out
                        rw [if_neg hpq] at HCn'
                        have HNx : Hid (allF (ptF l) H lo (r + 1) = al) := Lib.hid (by rw [HAs.out, HCn', Int.add_zero])
                        clear HCn' hpq t7
                        go_wp2_with (go_at_call 31; (with_reducible refine (HQ'.out).mono ?_); rintro e w5 ⟨rfl, hb5⟩; have HB5 := Lib.hid (HBx.out.trans (hb5.mono hzy)); clear hb5)
                        go_roundw
                        case rel => exact ⟨r + 1, _, by omega, by push_cast; rw [Int.add_assoc], rfl, Lib.hid HNx.out.symm, HB5⟩
                        case measure => simp [intOf]; omega
                    · obtain rfl : r = N + 1 := by omega
                      have t6 : decide (lo + ((N + 1 : Nat) : Int) ≤ hi) = false := decide_eq_false (by omega)
                      have HF2 : Hid (al - b = ia) := Lib.hid (by rw [HAl.out]; exact HFin.out)
                      have w8 : IntKind.i64.wrap (al - b) = al - b := by rw [IntKind.wrap_i64]; omega
                      go_wp2_with fail
                      go_ret3
                      exact ⟨by rw [← HF2.out, HE2.out]; rfl, HB4.out⟩
end Go.Proofs.Ythiccmncdmohbaa
