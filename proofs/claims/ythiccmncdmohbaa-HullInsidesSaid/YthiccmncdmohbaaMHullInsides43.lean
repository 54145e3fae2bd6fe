/-
  Contracts of hull.Area and the reference's HullArea: twice the area, or the code of what is refused. Conditions: the points can be read as data.
-/
import Derived.Test.YthiccmncdmohbaaMHullInsides35
set_option linter.unusedVariables false
set_option linter.unusedSimpArgs false
namespace Go.Proofs.Ythiccmncdmohbaa
open Go Go.RowKit Go.Dam Go.Dam.Hull
set_option linter.unusedVariables false
set_option maxRecDepth 100000 in
set_option maxHeartbeats 8000000 in
theorem refHullArea_any (v : Value) (n : Nat) (l : List Int) (H : List Nat) (a cc : Int) (w : World) (B : Nat) (hB : B ≤ w.heap.size) (h : IsFlat 3 w B v n l) (hR : HullsR n l cc H) (ha : a = if cc = 0 then shoe (ptF l) H H.length else 0) :
    Calls Try.prog 30 #[v] w fun e w' => e = .returned (.tuple #[.int .i64 a, .int .i64 cc]) ∧ Below w.heap.size w w' := by
  have HC := Lib.hid (refHullFault_any v n l w B hB h)
  obtain ⟨h1, hHl, h2, h3⟩ := hR
  rw [← h1] at HC
  by_cases c0 : cc = 0
  rotate_left
  · obtain ⟨A, c, rfl, hc, hm, hn, hl, hr, hw⟩ := h
    rw [if_neg c0] at ha
    subst ha
    have t0 : (cc != 0) = true := bne_iff_ne.2 c0
    clear hr hl hw h1 c0 h2 h3
    go_enter Try.func30, Try.ntmps30
    go_wp2_with (go_at_call 27; refine (HC.out).mono ?_; rintro e w1 ⟨rfl, hb1⟩)
    go_ret2
    exact ⟨rfl, hb1⟩
  · rw [if_pos c0] at ha
    subst c0
    obtain ⟨g1, g2⟩ := hullCode_ok h1.symm
    obtain ⟨g3, g4⟩ := pt_okC g1
    have hm0 := (h3 rfl).ne
    have HH : Hid (∀ u, u < H.length → H.getD u 0 < n) := Lib.hid (fun u hu => (h3 rfl).lt hu)
    have HCo := Lib.hid g4
    have HOk := Lib.hid (okH_all hm0 HH.out g4)
    have HA : Hid (a = fan (ptF l) H H.length) := Lib.hid (ha.trans (area_eq hm0))
    obtain ⟨A, c, rfl, hc, hm, hn, hl, hr, hw⟩ := h
    obtain ⟨bk, off, rfl, hbk, hcells⟩ := flat_cells hr hl g2 (by omega)
    have HP := Lib.hid fun W (hb : Below w.heap.size w W) => refWrap_any n c bk off l H W g2 (by omega) (by have := hb.size; omega) (h3 rfl) (by omega) g4 (fun j hj => (hb.cell (p := ⟨bk, off + j, none⟩) (by show bk < _; omega)).trans (hcells j hj))
    have HCs := Lib.hid hcells
    clear hr hl hw h1 h2 h3 g1 g4 hcells ha
    go_enter Try.func30, Try.ntmps30
    go_wp2_with (first
      | (go_at_call 27; refine (HC.out).mono ?_; rintro e w1 ⟨rfl, hb1⟩; have HB1 := Lib.hid hb1; clear hb1)
      | (go_at_call 28; refine (HP.out _ HB1.out).mono ?_; rintro e w2 ⟨v2, rfl, hown2, hb2⟩; have HB2 := Lib.hid (HB1.out.trans (hb2.mono HB1.out.size)); clear hb2; obtain ⟨gH, cH, rfl, hgb, hgl⟩ := hown2.form (by omega); have HOw := Lib.hid hown2; clear hown2))
    have hz1 := HB1.out.size
    go_loopw [6, 7] (fun nv iv wr => ∃ k : Nat, (k = 0 ∨ k + 2 ≤ H.length) ∧ iv = .int .i64 ((k : Int) + 2) ∧ nv = .int .i64 (fan (ptF l) H (k + 2)) ∧ Hid (wr.ownsRow w1.heap.size 3 1 (.slice (some ⟨gH, 0, none⟩) H.length cH) H.length ((natH H).map (Value.int .i64))) ∧ Hid (Below w.heap.size w wr)) (fun _ iv _ => H.length - (intOf iv).toNat)
    case atStart => exact ⟨0, .inl rfl, rfl, by rw [fan_low _ _ 2 (by omega)], HOw, HB2⟩
    case round =>
      clear HOw HB2 hgl
      obtain ⟨k, hk, rfl, rfl, HOw, HB2⟩ := hrel
      obtain ⟨wo, rfl⟩ : ∃ wo : World, wo = wr := ⟨_, rfl⟩
      have hzo := HB2.out.size
      by_cases hlt : k + 2 < H.length
      · have hc0 := own_cap HOw.out
        have t0 : decide ((k : Int) + 2 < (H.length : Int)) = true := decide_eq_true (by omega)
        go_wp2_with fail
        have oH : ∀ u, u < H.length → wo.cell? ⟨gH, u, none⟩ = some (.int .i64 ((H.getD u 0 : Nat) : Int)) := fun u hu => own_atH HOw.out rfl hu
        have o1 := oH 0 hm0
        have o2 := oH (k + 1) (by omega)
        have o3 := oH (k + 2) hlt
        obtain ⟨p, hp⟩ : ∃ x, x = H.getD 0 0 := ⟨_, rfl⟩
        obtain ⟨q, hq⟩ : ∃ x, x = H.getD (k + 1) 0 := ⟨_, rfl⟩
        obtain ⟨r, hr⟩ : ∃ x, x = H.getD (k + 2) 0 := ⟨_, rfl⟩
        have hpn := HH.out 0 hm0
        have hqn := HH.out (k + 1) (by omega)
        have hrn := HH.out (k + 2) hlt
        have HFS := Lib.hid (fan_s (ptF l) H k)
        have fb := fan_bd HOk.out (k + 2)
        have fc := crs_bd (HOk.out 0).1 (HOk.out 0).2 (HOk.out (k + 1)).1 (HOk.out (k + 1)).2 (HOk.out (k + 2)).1 (HOk.out (k + 2)).2
        rw [← hp] at o1 hpn HFS fc
        rw [← hq] at o2 hqn HFS fc
        rw [← hr] at o3 hrn HFS fc
        clear oH hp hq hr
        obtain ⟨fv, hfv⟩ : ∃ x, x = fan (ptF l) H (k + 2) := ⟨_, rfl⟩
        rw [← hfv] at HFS fb ⊢
        have pt : ∀ j, j < n * 3 → wo.cell? ⟨bk, off + j, none⟩ = some (.int .i64 (l.getD j 0)) := fun j hj => (HB2.out.cell (p := ⟨bk, off + j, none⟩) (by show bk < _; omega)).trans (HCs.out j hj)
        have p0 := pt (p * 3) (by omega)
        have p1 : wo.cell? ⟨bk, off + p * 3 + 1, none⟩ = some (.int .i64 (l.getD (p * 3 + 1) 0)) := pt (p * 3 + 1) (by omega)
        have p2 : wo.cell? ⟨bk, off + p * 3 + 2, none⟩ = some (.int .i64 (l.getD (p * 3 + 2) 0)) := pt (p * 3 + 2) (by omega)
        have q0 := pt (q * 3) (by omega)
        have q1 : wo.cell? ⟨bk, off + q * 3 + 1, none⟩ = some (.int .i64 (l.getD (q * 3 + 1) 0)) := pt (q * 3 + 1) (by omega)
        have q2 : wo.cell? ⟨bk, off + q * 3 + 2, none⟩ = some (.int .i64 (l.getD (q * 3 + 2) 0)) := pt (q * 3 + 2) (by omega)
        have r0 := pt (r * 3) (by omega)
        have r1 : wo.cell? ⟨bk, off + r * 3 + 1, none⟩ = some (.int .i64 (l.getD (r * 3 + 1) 0)) := pt (r * 3 + 1) (by omega)
        have r2 : wo.cell? ⟨bk, off + r * 3 + 2, none⟩ = some (.int .i64 (l.getD (r * 3 + 2) 0)) := pt (r * 3 + 2) (by omega)
        have HCp := Lib.hid (HCo.out p hpn)
        have HCq := Lib.hid (HCo.out q hqn)
        have HCr := Lib.hid (HCo.out r hrn)
        have HPt : Hid (ptF l p = (l.getD (p * 3) 0, l.getD (p * 3 + 1) 0) ∧ ptF l q = (l.getD (q * 3) 0, l.getD (q * 3 + 1) 0) ∧ ptF l r = (l.getD (r * 3) 0, l.getD (r * 3 + 1) 0)) := Lib.hid ⟨rfl, rfl, rfl⟩
        obtain ⟨xp, hxp⟩ : ∃ x, x = l.getD (p * 3) 0 := ⟨_, rfl⟩
        obtain ⟨yp, hyp⟩ : ∃ x, x = l.getD (p * 3 + 1) 0 := ⟨_, rfl⟩
        obtain ⟨zp, hzp⟩ : ∃ x, x = l.getD (p * 3 + 2) 0 := ⟨_, rfl⟩
        obtain ⟨xq, hxq⟩ : ∃ x, x = l.getD (q * 3) 0 := ⟨_, rfl⟩
        obtain ⟨yq, hyq⟩ : ∃ x, x = l.getD (q * 3 + 1) 0 := ⟨_, rfl⟩
        obtain ⟨zq, hzq⟩ : ∃ x, x = l.getD (q * 3 + 2) 0 := ⟨_, rfl⟩
        obtain ⟨xr, hxr⟩ : ∃ x, x = l.getD (r * 3) 0 := ⟨_, rfl⟩
        obtain ⟨yr, hyr⟩ : ∃ x, x = l.getD (r * 3 + 1) 0 := ⟨_, rfl⟩
        obtain ⟨zr, hzr⟩ : ∃ x, x = l.getD (r * 3 + 2) 0 := ⟨_, rfl⟩
        rw [← hxp, ← hyp, ← hxq, ← hyq, ← hxr, ← hyr] at HPt
        rw [← hxp, ← hyp] at HCp
        rw [← hxq, ← hyq] at HCq
        rw [← hxr, ← hyr] at HCr
        rw [← hxp] at p0
        rw [← hyp] at p1
        rw [← hzp] at p2
        rw [← hxq] at q0
        rw [← hyq] at q1
        rw [← hzq] at q2
        rw [← hxr] at r0
        rw [← hyr] at r1
        rw [← hzr] at r2
        clear pt hxp hyp hzp hxq hyq hzq hxr hyr hzr
        have np : (p : Int) < (n : Int) := by omega
        have nq' : (q : Int) < (n : Int) := by omega
        have nr' : (r : Int) < (n : Int) := by omega
        have x1 := fun d os => cell_regrown p0 d os
        have x2 := fun d os => cell_regrown p1 d os
        have x3 := fun d os => cell_regrown p2 d os
        have x4 := fun d os => cell_regrown q0 d os
        have x5 := fun d os => cell_regrown q1 d os
        have x6 := fun d os => cell_regrown q2 d os
        have x7 := fun d os => cell_regrown r0 d os
        have x8 := fun d os => cell_regrown r1 d os
        have x9 := fun d os => cell_regrown r2 d os
        have y1 := fun d os => cell_regrown o1 d os
        have y2 := fun d os => cell_regrown o2 d os
        have y3 := fun d os => cell_regrown o3 d os
        have HQ : Hid (∀ d os, Calls Try.prog 56 #[.agg #[.int .i64 xp, .int .i64 yp, .int .i64 zp], .agg #[.int .i64 xq, .int .i64 yq, .int .i64 zq], .agg #[.int .i64 xr, .int .i64 yr, .int .i64 zr]] (Sort.grow (redrawn wo d) os) fun e w' => e = .returned (.int .i64 (crs (ptF l p) (ptF l q) (ptF l r))) ∧ ∃ p : Regrown, w' = Sort.grow (redrawn wo p.d) p.os) := Lib.hid fun d os => by
          rw [HPt.out.1, HPt.out.2.1, HPt.out.2.2]
          exact Calls.regrown_of (refCross_any xp yp zp xq yq zq xr yr zr (Sort.grow (redrawn wo d) os) HCp.out.1 HCp.out.2 HCq.out.1 HCq.out.2 HCr.out.1 HCr.out.2)
        obtain ⟨cv, hcv⟩ : ∃ cv, cv = crs (ptF l p) (ptF l q) (ptF l r) := ⟨_, rfl⟩
        rw [← hcv] at HQ HFS fc
        have e1 : (k : Int) + 2 - 1 = (k : Int) + 1 := by omega
        have e2 : IntKind.i64.wrap ((k : Int) + 1) = (k : Int) + 1 := by rw [IntKind.wrap_i64]; omega
        have e3 : IntKind.i64.wrap (fv + cv) = fv + cv := by rw [IntKind.wrap_i64]; push_cast at fb; omega
        have u1 : (k : Int) + 1 < (H.length : Int) := by omega
        have u2 : (k : Int) + 2 < (H.length : Int) := by omega
        have u3 : (0 : Int) < (H.length : Int) := by omega
        have u4 : (0 : Int) ≤ (k : Int) + 1 := by omega
        have u5 : (0 : Int) ≤ (k : Int) + 2 := by omega
        have u6 : ((k : Int) + 1).toNat = k + 1 := by omega
        have u7 : ((k : Int) + 2).toNat = k + 2 := by omega
        have HFv := Lib.hid hfv
        clear hcv hfv o1 o2 o3 p0 p1 p2 q0 q1 q2 r0 r1 r2 fb fc t0
        refine wp_region_quiet_below (by kernel_rfl) (by kernel_rfl) ?_
        repeat (quiet_step ((go_at_call 56; exact HQ.out _ _)))
        refine wpQuiet_nil ?_
        intro _ hw'
        obtain ⟨⟨dq, osq⟩, hw''⟩ := hw'
        subst hw''
        have HW3 := Lib.hid (below_regrown wo dq osq)
        have HB3 := Lib.hid (HB2.out.trans (HW3.out.mono HB2.out.size))
        have HO3 := Lib.hid (own_size HOw.out HW3.out)
        clear x1 x2 x3 x4 x5 x6 x7 x8 x9 y1 y2 y3 HQ HW3 HB2 HOw
        generalize Sort.grow (redrawn wo dq) osq = w3 at *
        go_wp2
        go_roundw
        case rel => exact ⟨k + 1, .inr (by omega), by go_num, by rw [HFS.out], HO3, HB3⟩
        case measure => simp [intOf]; omega
      · have HE : Hid (fan (ptF l) H (k + 2) = a) := Lib.hid (by
          rw [HA.out]
          rcases hk with rfl | hk
          · rw [fan_low _ _ 2 (by omega), fan_low _ _ H.length (by omega)]
          · rw [show k + 2 = H.length by omega])
        have t0 : decide ((k : Int) + 2 < (H.length : Int)) = false := decide_eq_false (by omega)
        rw [HE.out]
        go_wp2
        go_ret2
        exact ⟨rfl, HB2.out⟩
end Go.Proofs.Ythiccmncdmohbaa
