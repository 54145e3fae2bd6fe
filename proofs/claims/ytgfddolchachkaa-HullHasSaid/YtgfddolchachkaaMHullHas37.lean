/-
  Contract of hull.Has: does the hull have a place, or the code of what is refused. Conditions: the points can be read as data.
-/
import Derived.Test.YtgfddolchachkaaMHullHas36
namespace Go.Proofs.Ytgfddolchachkaa
open Go Go.RowKit Go.Dam Go.Dam.Hull
set_option linter.unusedVariables false
set_option maxRecDepth 100000 in
set_option maxHeartbeats 8000000 in
theorem hullHasT_any (v : Value) (n : Nat) (l : List Int) (x y : Int) (r : Bool) (cc : Int) (w : World) (B : Nat) (hB : B ≤ w.heap.size) (h : IsFlat 3 w B v n l) (hR : HasR n l x y r cc) :
    Calls Try.prog 32 #[v, .int .i64 x, .int .i64 y] w fun e w' => e = .returned (.tuple #[.bool r, .int .i64 cc]) ∧ Below w.heap.size w w' := by
  have HC := Lib.hid (hullfault_any v n l w B hB h)
  rcases hR with ⟨h0, rfl, rfl⟩ | ⟨h0, h1, rfl, rfl⟩ | ⟨h0, hx, hy, rfl, H, K, hH, hHl, hK, hKl, hs⟩
  · obtain ⟨A, c, rfl, hc, hm, hn, hl, hr, hw⟩ := h
    generalize hullCode n l = cc at *
    have t0 : (cc != 0) = true := by simpa using h0
    clear h0 hl hr hw
    go_enter Try.func32, Try.ntmps32
    go_wp2_with (go_at_call 62; refine (HC.out).mono ?_; rintro e w1 ⟨rfl, hb1⟩)
    go_ret2
    exact ⟨rfl, hb1⟩
  · obtain ⟨A, c, rfl, hc, hm, hn, hl, hr, hw⟩ := h
    rw [h0] at HC
    clear h0 hl hr hw
    cases hx : coordOk x with
    | false =>
      clear h1
      have HX := Lib.hid fun W => hullNear_any x false W hx
      clear hx
      go_enter Try.func32, Try.ntmps32
      go_wp2_with (first
        | (go_at_call 62; refine (HC.out).mono ?_; rintro e w1 ⟨rfl, hb1⟩)
        | (go_at_call 69; refine (HX.out _).mono ?_; rintro e w1 ⟨rfl, rfl⟩))
      go_ret2
      exact ⟨rfl, hb1⟩
    | true =>
      rw [hx, Bool.true_and] at h1
      have HX := Lib.hid fun W => hullNear_any x true W hx
      have HY := Lib.hid fun W => hullNear_any y false W h1
      clear hx h1
      go_enter Try.func32, Try.ntmps32
      go_wp2_with (first
        | (go_at_call 62; refine (HC.out).mono ?_; rintro e w1 ⟨rfl, hb1⟩)
        | (go_at_call 69; (with_reducible refine (HX.out _).mono ?_); rintro e w1 ⟨rfl, rfl⟩)
        | (go_at_call 69; (with_reducible refine (HY.out _).mono ?_); rintro e w1 ⟨rfl, rfl⟩))
      go_ret2
      exact ⟨rfl, hb1⟩
  · rw [h0] at HC
    obtain ⟨g1, g2⟩ := hullCode_ok h0
    obtain ⟨g3, g4⟩ := pt_okC g1
    have hll : l.length = n * 3 := by obtain ⟨A, c, rfl, hc, hm, hn, hl, hr, hw⟩ := h; exact hl
    have HX := Lib.hid fun W => hullNear_any x true W hx
    have HY := Lib.hid fun W => hullNear_any y true W hy
    have bx := coordOk_yes hx
    have by_ := coordOk_yes hy
    have HP := Lib.hid fun W (hb : Below w.heap.size w W) => hullCorners_any v n l W B (Nat.le_trans hB hb.size) (h.below (hb.mono hB)) g2 g3 g4
    have HU : Hid (∀ o, OrdIs (ptF l) n o → corners (ptF l) o = H) := Lib.hid fun o ho => (corners_ok ho g2).uniq (pt_nr g4) hH
    have hm0 := hH.ne
    have HLt : Hid (∀ u, u < H.length → H.getD u 0 < n) := Lib.hid (fun u hu => hH.lt hu)
    have HCo := Lib.hid g4
    have HOk := Lib.hid (okC_more hll g4 bx by_)
    have H12 : Hid (H.length < 3 → btB (ptF l (H.getD 0 0)) (ptF l (H.getD (H.length - 1) 0)) (x, y) = r) := Lib.hid (fun h3 => by
      have := has12 (fun i hi => ptF_app hll x y hi) (fun i hi => (HOk.out i hi).2) hH hK h3
      rw [ptF_new hll, ← btB_iff, ← hs] at this
      cases r <;> simp_all)
    have H3 : Hid (3 ≤ H.length → allB (ptF l) H (x, y) H.length = r) := Lib.hid (fun h3 => by
      have := has3 (fun i hi => ptF_app hll x y hi) (fun i hi => (HOk.out i hi).2) hH hK h3
      rw [ptF_new hll, ← allB_iff, ← hs] at this
      cases r <;> simp_all)
    obtain ⟨A, c, rfl, hc, hm, hn, hl, hr, hw⟩ := h
    obtain ⟨bk, off, rfl, hbk, hcells⟩ := flat_cells hr hl g2 (by omega)
    have HCs := Lib.hid hcells
    clear hl hr hw h0 hx hy hs hK hKl hH g1 g4 hcells HOk
    go_enter Try.func32, Try.ntmps32
    go_upto_region 7 with (first
      | (go_at_call 62; refine (HC.out).mono ?_; rintro e w1 ⟨rfl, hb1⟩; have HB1 := Lib.hid hb1; clear hb1)
      | (go_at_call 69; (with_reducible refine (HX.out _).mono ?_); rintro e w1 ⟨rfl, rfl⟩)
      | (go_at_call 69; (with_reducible refine (HY.out _).mono ?_); rintro e w1 ⟨rfl, rfl⟩))
    have hz1 := HB1.out.size
    obtain ⟨gP, hgP⟩ : ∃ g, g = w1.heap.size := ⟨_, rfl⟩
    have HPB : Hid (Blk (w1.alloc (.cells #[.int .i64 x, .int .i64 y, .int .i64 0] 101)) gP 101 #[.int .i64 x, .int .i64 y, .int .i64 0]) := Lib.hid (by rw [hgP]; exact Blk.new _ _ _)
    have HB2 := Lib.hid (HB1.out.alloc hz1 (.cells #[.int .i64 x, .int .i64 y, .int .i64 0] 101))
    rw [← hgP]
    have hgw : w.heap.size ≤ gP := by omega
    clear hgP hz1
    generalize w1.alloc (.cells #[.int .i64 x, .int .i64 y, .int .i64 0] 101) = wp at *
    have HF := Lib.hid (HP.out _ HB2.out)
    clear HP HX HY HC HB1
    by_cases h3 : H.length < 3
    · have t0 : decide ((H.length : Int) < 3) = true := decide_eq_true (by omega)
      have HBt := Lib.hid (H12.out h3)
      go_upto_region 9 with (go_at_call 64; refine (HF.out).mono ?_; rintro e w2 ⟨v2, o, rfl, ho, hl2, hown2, hb2⟩; rw [HU.out o ho] at hown2; have HB3 := Lib.hid (HB2.out.trans (hb2.mono HB2.out.size)); have HPB2 := Lib.hid (HPB.out.below hb2 HPB.out.lt); clear hb2 ho hl2; obtain ⟨gH, cH, rfl, hgb, hgl⟩ := hown2.form (by omega); have HOw := Lib.hid hown2; clear hown2)
      have hcH := own_cap HOw.out
      obtain ⟨m1, hm1⟩ : ∃ m1, H.length = m1 + 1 := ⟨H.length - 1, by omega⟩
      have oH : ∀ u, u < H.length → w2.cell? ⟨gH, u, none⟩ = some (.int .i64 ((H.getD u 0 : Nat) : Int)) := fun u hu => own_atH HOw.out rfl hu
      have o1 := oH 0 hm0
      have o2 := oH m1 (by omega)
      have hpn := HLt.out 0 hm0
      have hqn := HLt.out m1 (by omega)
      have eL : H.length - 1 = m1 := by omega
      rw [eL] at HBt
      obtain ⟨p, hp⟩ : ∃ x, x = H.getD 0 0 := ⟨_, rfl⟩
      obtain ⟨q, hq⟩ : ∃ x, x = H.getD m1 0 := ⟨_, rfl⟩
      rw [← hp] at o1 hpn HBt
      rw [← hq] at o2 hqn HBt
      clear oH hp hq eL
      have pt : ∀ j, j < n * 3 → w2.cell? ⟨bk, off + j, none⟩ = some (.int .i64 (l.getD j 0)) := fun j hj => (HB3.out.cell (p := ⟨bk, off + j, none⟩) (by show bk < _; omega)).trans (HCs.out j hj)
      have p0 := pt (p * 3) (by omega)
      have p1 : w2.cell? ⟨bk, off + p * 3 + 1, none⟩ = some (.int .i64 (l.getD (p * 3 + 1) 0)) := pt (p * 3 + 1) (by omega)
      have p2 : w2.cell? ⟨bk, off + p * 3 + 2, none⟩ = some (.int .i64 (l.getD (p * 3 + 2) 0)) := pt (p * 3 + 2) (by omega)
      have q0 := pt (q * 3) (by omega)
      have q1 : w2.cell? ⟨bk, off + q * 3 + 1, none⟩ = some (.int .i64 (l.getD (q * 3 + 1) 0)) := pt (q * 3 + 1) (by omega)
      have q2 : w2.cell? ⟨bk, off + q * 3 + 2, none⟩ = some (.int .i64 (l.getD (q * 3 + 2) 0)) := pt (q * 3 + 2) (by omega)
      have HCp := Lib.hid (HCo.out p hpn)
      have HCq := Lib.hid (HCo.out q hqn)
      have HPt : Hid (ptF l p = (l.getD (p * 3) 0, l.getD (p * 3 + 1) 0) ∧ ptF l q = (l.getD (q * 3) 0, l.getD (q * 3 + 1) 0)) := Lib.hid ⟨rfl, rfl⟩
      obtain ⟨xp, hxp⟩ : ∃ x, x = l.getD (p * 3) 0 := ⟨_, rfl⟩
      obtain ⟨yp, hyp⟩ : ∃ x, x = l.getD (p * 3 + 1) 0 := ⟨_, rfl⟩
      obtain ⟨zp, hzp⟩ : ∃ x, x = l.getD (p * 3 + 2) 0 := ⟨_, rfl⟩
      obtain ⟨xq, hxq⟩ : ∃ x, x = l.getD (q * 3) 0 := ⟨_, rfl⟩
      obtain ⟨yq, hyq⟩ : ∃ x, x = l.getD (q * 3 + 1) 0 := ⟨_, rfl⟩
      obtain ⟨zq, hzq⟩ : ∃ x, x = l.getD (q * 3 + 2) 0 := ⟨_, rfl⟩
      rw [← hxp, ← hyp, ← hxq, ← hyq] at HPt
      rw [← hxp, ← hyp] at HCp
      rw [← hxq, ← hyq] at HCq
      rw [← hxp] at p0
      rw [← hyp] at p1
      rw [← hzp] at p2
      rw [← hxq] at q0
      rw [← hyq] at q1
      rw [← hzq] at q2
      rw [HPt.out.1, HPt.out.2] at HBt
      clear pt hxp hyp hzp hxq hyq hzq HPt
      have np : (p : Int) < (n : Int) := by omega
      have nq' : (q : Int) < (n : Int) := by omega
      have x1 := fun d os => cell_regrown p0 d os
      have x2 := fun d os => cell_regrown p1 d os
      have x3 := fun d os => cell_regrown p2 d os
      have x4 := fun d os => cell_regrown q0 d os
      have x5 := fun d os => cell_regrown q1 d os
      have x6 := fun d os => cell_regrown q2 d os
      have x7 := fun d os => cell_regrown (show w2.cell? ⟨gP, 0, none⟩ = some (.int .i64 x) from (HPB2.out.cell 0).trans rfl) d os
      have x8 := fun d os => cell_regrown (show w2.cell? ⟨gP, 1, none⟩ = some (.int .i64 y) from (HPB2.out.cell 1).trans rfl) d os
      have x9 := fun d os => cell_regrown (show w2.cell? ⟨gP, 2, none⟩ = some (.int .i64 0) from (HPB2.out.cell 2).trans rfl) d os
      have y1 := fun d os => cell_regrown o1 d os
      have y2 := fun d os => cell_regrown o2 d os
      have HQ : Hid (∀ d os, Calls Try.prog 70 #[.agg #[.int .i64 xp, .int .i64 yp, .int .i64 zp], .agg #[.int .i64 xq, .int .i64 yq, .int .i64 zq], .agg #[.int .i64 x, .int .i64 y, .int .i64 0]] (Sort.grow (redrawn w2 d) os) fun e w' => e = .returned (.bool r) ∧ ∃ p : Regrown, w' = Sort.grow (redrawn w2 p.d) p.os) := Lib.hid fun d os => by
        rw [← HBt.out]
        exact Calls.regrown_of (hullBetween_any xp yp zp xq yq zq x y 0 (Sort.grow (redrawn w2 d) os) HCp.out.1 HCp.out.2 HCq.out.1 HCq.out.2 bx by_)
      have HHl := Lib.hid hm1
      obtain ⟨hl', hhl'⟩ : ∃ k, k = H.length := ⟨_, rfl⟩
      rw [← hhl']
      have e1 : (hl' : Int) - 1 = (m1 : Int) := by omega
      have e2 : IntKind.i64.wrap (m1 : Int) = (m1 : Int) := by rw [IntKind.wrap_i64]; omega
      have u1 : (m1 : Int) < (hl' : Int) := by omega
      have u3 : (0 : Int) < (hl' : Int) := by omega
      have u5 : 0 < hl' := by omega
      have u6 : m1 < hl' := by omega
      have hcH2 : hl' ≤ cH := by omega
      clear hhl' hm1 HBt o1 o2 p0 p1 p2 q0 q1 q2 t0 hcH h3 H12 H3 HF HU
      refine wp_region_quiet_below (by kernel_rfl) (by kernel_rfl) ?_
      repeat (quiet_step ((go_at_call 70; exact HQ.out _ _)))
      refine wpQuiet_nil ?_
      intro _ hw'
      obtain ⟨⟨dq, osq⟩, hw''⟩ := hw'
      subst hw''
      have HW3 := Lib.hid (below_regrown w2 dq osq)
      have HB4 := Lib.hid (HB3.out.trans (HW3.out.mono HB3.out.size))
      clear x1 x2 x3 x4 x5 x6 x7 x8 x9 y1 y2 HQ HW3
      generalize Sort.grow (redrawn w2 dq) osq = w3 at *
      go_wp2
      go_ret2
      exact ⟨rfl, HB4.out⟩
    · have t0 : decide ((H.length : Int) < 3) = false := decide_eq_false (by omega)
      have HAl := Lib.hid (H3.out (by omega))
      go_upto_region 10 with (go_at_call 64; refine (HF.out).mono ?_; rintro e w2 ⟨v2, o, rfl, ho, hl2, hown2, hb2⟩; rw [HU.out o ho] at hown2; have HB3 := Lib.hid (HB2.out.trans (hb2.mono HB2.out.size)); have HPB2 := Lib.hid (HPB.out.below hb2 HPB.out.lt); clear hb2 ho hl2; obtain ⟨gH, cH, rfl, hgb, hgl⟩ := hown2.form (by omega); have HOw := Lib.hid hown2; clear hown2)
      have hz3 := HB3.out.size
      have HE := Lib.hid (hullEdges_any n c bk off l H H.length cH gH 72 #[.pointer (some ⟨w2.heap.size, 0, none⟩), .pointer (some ⟨gP, 0, none⟩)] (fun j W => Below w2.heap.size w2 W ∧ Blk W w2.heap.size 4 #[.bool (allB (ptF l) H (x, y) j)])
        (w2.alloc (.cells #[.bool true] 4)) (by omega) hm0 (by omega) HLt.out (enters_of Try.func72 (by kernel_rfl) rfl)
        (fun j W q h => ⟨below_drewN h.1 q, h.2.drewN q⟩)
        (fun j W h => ⟨fun q hq => (h.1.cell (p := ⟨bk, off + q, none⟩) (by show bk < _; omega)).trans ((HB3.out.cell (p := ⟨bk, off + q, none⟩) (by show bk < _; omega)).trans (HCs.out q hq)), fun u hu => (h.1.cell (p := ⟨gH, u, none⟩) (by show gH < _; omega)).trans (own_atH HOw.out rfl hu)⟩)
        (fun j W hj h => by
          have hr : (j + 1) % H.length < H.length := Nat.mod_lt _ hm0
          have ha := HCo.out _ (HLt.out j hj)
          have hb := HCo.out _ (HLt.out _ hr)
          refine (hullHas1_any _ _ _ _ _ _ x y 0 _ w2.heap.size gP w2.heap.size 4 W h.2 (HPB2.out.below h.1 HPB2.out.lt) (Nat.le_refl _) ha.1 ha.2 hb.1 hb.2 bx by_).mono ?_
          rintro e w' ⟨rfl, hb', hk'⟩
          refine ⟨rfl, h.1.trans hb', ?_⟩
          rw [allB_s]
          exact hk')
        ⟨(Below.refl _ _).alloc (Nat.le_refl _) _, by rw [allB_0]; exact Blk.new _ _ _⟩)
      clear H12 H3 HF HU HPB HPB2
      go_wp2_with (go_at_call 71; refine (HE.out).mono ?_; rintro e w3 ⟨rfl, hb3, hk3⟩; have c1 : w3.cell? ⟨w2.heap.size, 0, none⟩ = some (.bool r) := by rw [← HAl.out]; exact hk3.cell 0)
      go_ret2
      exact ⟨rfl, HB3.out.trans (hb3.mono hz3)⟩
end Go.Proofs.Ytgfddolchachkaa
