/-
  Contract of the reference's SkyOf: what nothing is above. Conditions: the points can be read as data; the variable everywhere holds what the program's text lays.
-/
import Derived.Test.YtlojecajonhmhaaDoorMSkySkies39
import Derived.Test.YtlojecajonhmhaaDoorMSkySkies40
import Derived.Test.YtlojecajonhmhaaDoorMSkySkies22
import Derived.Lib.QuietBelow
import Derived.Deep.CutRange
set_option linter.unusedVariables false
set_option linter.unusedSimpArgs false
namespace Go.Dam.Sky
open Go Go.RowKit Go.Dam Go.Dam.Stable
set_option linter.unusedVariables false
theorem above_B (l : List Int) (k i : Nat) : above (pX l) (pY l) k i = aboveB (l.getD (k * 3) 0) (l.getD (k * 3 + 1) 0) (l.getD (i * 3) 0) (l.getD (i * 3 + 1) 0) := rfl
/-- All points lie in the rectangle of all places. -/
theorem all_in {l : List Int} {n : Nat} (hc : ptCode n l = 0) : (List.range n).filter (inQ l (-1048576) (-1048576) 1048576 1048576) = List.range n := by
  rw [List.filter_eq_self]
  intro i hi
  have hi := List.mem_range.1 hi
  have a := badPt_fine ((ptCode_ok hc).2 i hi)
  unfold inQ Go.Dam.inR
  generalize l.getD (i * 3) 0 = x at *
  generalize l.getD (i * 3 + 1) 0 = y at *
  simp only [Bool.and_eq_true, decide_eq_true_eq]
  omega
end Go.Dam.Sky
namespace Go.Proofs.YtlojecajonhmhaaDoor
open Go Go.RowKit Go.Dam Go.Dam.Sky Go.Dam.Stable
set_option linter.unusedVariables false
/-- What the variable everywhere holds. -/
def Every (w : World) : Prop := w.cell? ⟨0, 0, none⟩ = some (.int .i64 (-1048576)) ∧ w.cell? ⟨0, 1, none⟩ = some (.int .i64 (-1048576)) ∧ w.cell? ⟨0, 2, none⟩ = some (.int .i64 1048576) ∧ w.cell? ⟨0, 3, none⟩ = some (.int .i64 1048576)
theorem Every.below {w w' : World} (h : Every w) (hb : RowKit.Below w.heap.size w w') : Every w' := by
  have h0 : 0 < w.heap.size := cell_lt h.1
  exact ⟨(hb.cell (p := ⟨0, 0, none⟩) h0).trans h.1, (hb.cell (p := ⟨0, 1, none⟩) h0).trans h.2.1, (hb.cell (p := ⟨0, 2, none⟩) h0).trans h.2.2.1, (hb.cell (p := ⟨0, 3, none⟩) h0).trans h.2.2.2⟩
attribute [local irreducible] Go.Dam.Sky.above
set_option maxRecDepth 100000 in
set_option maxHeartbeats 16000000 in
theorem refSky_any (v : Value) (n : Nat) (l : List Int) (w : World) (B : Nat) (hB : B ≤ w.heap.size) (h : IsFlat 3 w B v n l) (hE : Every w) :
    Calls Tryd.prog 12 #[v] w fun e w' => ∃ u r, e = .returned (.tuple #[u, .int .i64 (ptCode n l)]) ∧ SkyR l n r (ptCode n l) ∧ IsInts .i64 w' w'.heap.size u r ∧ RowKit.Below w.heap.size w w' := by
  have HC := Lib.hid (pointsFault_any v n l w B hB h)
  obtain ⟨cc, hcc⟩ : ∃ c, c = ptCode n l := ⟨_, rfl⟩
  rw [← hcc] at HC ⊢
  have HCc := Lib.hid hcc
  by_cases c0 : cc = 0
  rotate_left
  · obtain ⟨A, c, rfl, hc, hm, hn, hl, hr, hw⟩ := h
    have t0 : (cc != 0) = true := bne_iff_ne.2 c0
    have HR : Hid (SkyR l n [] cc) := Lib.hid ⟨hcc, fun _ => rfl, fun h => absurd h c0⟩
    clear hr hl hw hcc c0 hE
    go_enter Tryd.func12, Tryd.ntmps12
    go_wp2_with (go_at_call 25; refine (HC.out).mono ?_; rintro e w1 ⟨rfl, hb1⟩)
    go_ret2
    exact ⟨_, [], rfl, HR.out, isInts_nil _ _ _, hb1⟩
  · subst c0
    obtain ⟨hn1, hf⟩ := ptCode_ok hcc.symm
    have HAll := Lib.hid (all_in (l := l) hcc.symm)
    have HWi := Lib.hid fun W (hb : RowKit.Below w.heap.size w W) => repSWithin_any (-1048576) (-1048576) 1048576 1048576 v n l W B (Nat.le_trans hB hb.size) (h.below (hb.mono hB)) hn1
    rw [HAll.out] at HWi
    obtain ⟨A, c, rfl, hc, hm, hn, hl, hr, hw⟩ := h
    have HR := Lib.hid hr
    have HE := Lib.hid fun W (hb : RowKit.Below w.heap.size w W) => hE.below hb
    clear hr hw hcc hf hE
    go_enter Tryd.func12, Tryd.ntmps12
    go_wp2_with (first
      | (go_at_call 25; refine (HC.out).mono ?_; rintro e w1 ⟨rfl, hb1⟩; have HB1 := Lib.hid hb1; have HEv := HE.out _ hb1; have E0 := HEv.1; have E1 := HEv.2.1; have E2 := HEv.2.2.1; have E3 := HEv.2.2.2; clear hb1 HEv)
      | (go_at_call 26; refine (HWi.out _ HB1.out).mono ?_; rintro e wS ⟨⟨u, r, rfl, hst, hiS, hownO⟩, hbS⟩; obtain ⟨o, ho, rfl⟩ := natL_perm hst.perm; have HSt := Lib.hid hst; have HPm := Lib.hid ho; have HOw := Lib.hid hownO; have HBS := Lib.hid hbS; obtain ⟨Ao, co, rfl⟩ := own_shape hownO; clear ho hownO hbS hiS hst))
    clear E0 E1 E2 E3
    have hz1 := HB1.out.size
    have hzS := HBS.out.size
    have HBw : Hid (RowKit.Below w.heap.size w wS) := Lib.hid (HB1.out.trans (HBS.out.mono hz1))
    have HOl : Hid (o.length = n) := Lib.hid (by have := HPm.out.length_eq; simpa using this)
    have HNl : Hid ((natL o).length = n) := Lib.hid (by rw [natL_len, HOl.out])
    rw [HNl.out]
    have HOw2 : Hid (wS.ownsRow w1.heap.size 3 1 (.slice Ao n co) n ((natL o).map (Value.int .i64))) := Lib.hid (by have := HOw.out; rw [HNl.out] at this; exact this)
    clear HOw HWi HE
    go_loopw [5, 20] (fun ov tv wr => ∃ (t : Nat), t ≤ n ∧ tv = .int .i64 t ∧ Hid (wr.ownsRow wS.heap.size 3 1 ov ((o.take t).filter (freeB l n)).length ((natL ((o.take t).filter (freeB l n))).map (Value.int .i64))) ∧ Hid (RowKit.Below wS.heap.size wS wr)) (fun _ tv _ => n - (intOf tv).toNat)
    case atStart => exact ⟨0, by omega, rfl, Lib.hid (World.ownsRow_nil _ _ _ _), Lib.hid (RowKit.Below.refl _ _)⟩
    case round =>
      obtain ⟨wo, rfl⟩ : ∃ wo : World, wo = wr := ⟨_, rfl⟩
      obtain ⟨t, ht, rfl, HO, HBu⟩ := hrel
      obtain ⟨fl, hfl⟩ : ∃ f, (o.take t).filter (freeB l n) = f := ⟨_, rfl⟩
      rw [hfl] at HO
      have hfn : fl.length ≤ 150 := by rw [← hfl]; exact Nat.le_trans (List.length_filter_le _ _) (by rw [List.length_take, HOl.out]; omega)
      obtain ⟨A2, c2, rfl⟩ := own_shape HO.out
      have hzo := HBu.out.size
      by_cases hlt : t < n
      · have t1 : decide ((t : Int) < (n : Int)) = true := decide_eq_true (by omega)
        obtain ⟨go, capo, hvo, hgo, hlto⟩ := HOw2.out.form (by omega)
        obtain rfl : Ao = some ⟨go, 0, none⟩ := by injection hvo
        obtain ⟨bk, off, rfl, hbk, hcs⟩ := flat_cells HR.out hl (by omega) (by omega)
        have hwS := HBw.out.size
        have HPt : Hid (∀ W, RowKit.Below wS.heap.size wS W → ∀ q, q < n * 3 → W.cell? ⟨bk, off + q, none⟩ = some (.int .i64 (l.getD q 0))) := Lib.hid fun W hb q hq => (hb.cell (p := ⟨bk, off + q, none⟩) (by show bk < _; omega)).trans ((HBw.out.cell (p := ⟨bk, off + q, none⟩) (by show bk < _; omega)).trans (hcs q hq))
        have ha := perm_lt HPm.out hlt
        have o0 : wo.cell? ⟨go, t, none⟩ = some (.int .i64 ((o.getD t 0 : Nat) : Int)) := by
          rw [(HBu.out.cell (p := ⟨go, t, none⟩) hlto), HOw2.out.cellAt t (by omega), List.getElem?_map, List.getElem?_eq_getElem (by rw [HNl.out]; omega), ← natL_at, List.getD_eq_getElem?_getD, List.getElem?_eq_getElem (by rw [HNl.out]; omega)]; rfl
        have HN := Lib.hid (filt_step l n o (t := t) (by rw [HOl.out]; exact hlt))
        rw [hfl] at HN
        obtain ⟨a, haa⟩ : ∃ a, a = o.getD t 0 := ⟨_, rfl⟩
        rw [← haa] at o0 ha HN
        have ia : (a : Int) < (n : Int) := by omega
        have w1t : IntKind.i64.wrap ((t : Int) + 1) = (t : Int) + 1 := by rw [IntKind.wrap_i64]; omega
        clear hcs haa hvo hgo hfl
        go_wp2_with fail
        go_loopw [8, 26] (fun fv sv wr => ∃ (s : Nat) (fb : Bool), s ≤ n ∧ sv = .int .i64 s ∧ fv = .bool fb ∧ Hid (freeTo l a s = fb) ∧ Hid (RowKit.Below wo.heap.size wo wr)) (fun _ sv _ => n - (intOf sv).toNat)
        case atStart => exact ⟨0, true, by omega, rfl, rfl, Lib.hid (freeTo_0 l a), Lib.hid (RowKit.Below.refl _ _)⟩
        case round =>
          clear o0
          obtain ⟨wi, rfl⟩ : ∃ wi : World, wi = wr := ⟨_, rfl⟩
          obtain ⟨s, fb, hs, rfl, rfl, HF, HBi⟩ := hrel
          have hzi := HBi.out.size
          by_cases hlt2 : s < n
          · have t2 : decide ((s : Int) < (n : Int)) = true := decide_eq_true (by omega)
            have is_ : (s : Int) < (n : Int) := by omega
            have w1s : IntKind.i64.wrap ((s : Int) + 1) = (s : Int) + 1 := by rw [IntKind.wrap_i64]; omega
            have HBx : Hid (RowKit.Below wS.heap.size wS wi) := Lib.hid (HBu.out.trans (HBi.out.mono hzo))
            have p0 := HPt.out wi HBx.out (s * 3) (by omega)
            have p1 : wi.cell? ⟨bk, off + s * 3 + 1, none⟩ = some (.int .i64 (l.getD (s * 3 + 1) 0)) := HPt.out wi HBx.out (s * 3 + 1) (by omega)
            have p2 : wi.cell? ⟨bk, off + s * 3 + 2, none⟩ = some (.int .i64 (l.getD (s * 3 + 2) 0)) := HPt.out wi HBx.out (s * 3 + 2) (by omega)
            have q0 := HPt.out wi HBx.out (a * 3) (by omega)
            have q1 : wi.cell? ⟨bk, off + a * 3 + 1, none⟩ = some (.int .i64 (l.getD (a * 3 + 1) 0)) := HPt.out wi HBx.out (a * 3 + 1) (by omega)
            have q2 : wi.cell? ⟨bk, off + a * 3 + 2, none⟩ = some (.int .i64 (l.getD (a * 3 + 2) 0)) := HPt.out wi HBx.out (a * 3 + 2) (by omega)
            obtain ⟨bq, hbq⟩ : ∃ b', above (pX l) (pY l) s a = b' := ⟨_, rfl⟩
            have HP := Lib.hid fun W => refAbove_any (w := W) (x0 := l.getD (s * 3) 0) (y0 := l.getD (s * 3 + 1) 0) (z0 := l.getD (s * 3 + 2) 0) (x1 := l.getD (a * 3) 0) (y1 := l.getD (a * 3 + 1) 0) (z1 := l.getD (a * 3 + 2) 0)
            rw [← above_B, hbq] at HP
            have HNx := Lib.hid (freeTo_s l a s)
            rw [HF.out, hbq] at HNx
            generalize l.getD (s * 3) 0 = bx at *
            generalize l.getD (s * 3 + 1) 0 = by' at *
            generalize l.getD (s * 3 + 2) 0 = bz at *
            generalize l.getD (a * 3) 0 = ax at *
            generalize l.getD (a * 3 + 1) 0 = ay at *
            generalize l.getD (a * 3 + 2) 0 = az at *
            have i0 : (0 : Int) ≤ (a : Int) := by omega
            clear hbq
            have z0 := fun ob => (World.cell?_alloc_lt wi ob ⟨bk, off + a * 3, none⟩ (by show bk < _; omega)).trans q0
            have z1 := fun ob => (World.cell?_alloc_lt wi ob ⟨bk, off + a * 3 + 1, none⟩ (by show bk < _; omega)).trans q1
            have z2 := fun ob => (World.cell?_alloc_lt wi ob ⟨bk, off + a * 3 + 2, none⟩ (by show bk < _; omega)).trans q2
            clear q0 q1 q2
            cases fb with
            | true =>
              rw [Bool.true_and] at HNx
              go_upto_region 12 with fail
              have HB2 : Hid (RowKit.Below wo.heap.size wo (wi.alloc (.cells #[.int .i64 bx, .int .i64 by', .int .i64 bz] 46))) := Lib.hid (HBi.out.alloc (by omega) _)
              have r0 := ((Blk.new wi 46 #[.int .i64 bx, .int .i64 by', .int .i64 bz]).cell 0).trans rfl
              have r1 := ((Blk.new wi 46 #[.int .i64 bx, .int .i64 by', .int .i64 bz]).cell 1).trans rfl
              have r2 := ((Blk.new wi 46 #[.int .i64 bx, .int .i64 by', .int .i64 bz]).cell 2).trans rfl
              have Z0 := z0 (.cells #[.int .i64 bx, .int .i64 by', .int .i64 bz] 46)
              have Z1 := z1 (.cells #[.int .i64 bx, .int .i64 by', .int .i64 bz] 46)
              have Z2 := z2 (.cells #[.int .i64 bx, .int .i64 by', .int .i64 bz] 46)
              clear z0 z1 z2 p0 p1 p2
              generalize wi.alloc (.cells #[.int .i64 bx, .int .i64 by', .int .i64 bz] 46) = W2 at *
              have P0 := fun d os => cell_regrown r0 d os
              have P1 := fun d os => cell_regrown r1 d os
              have P2 := fun d os => cell_regrown r2 d os
              have Q0 := fun d os => cell_regrown Z0 d os
              have Q1 := fun d os => cell_regrown Z1 d os
              have Q2 := fun d os => cell_regrown Z2 d os
              have HPq := Lib.hid fun d os => Calls.regrown_of (HP.out (Sort.grow (redrawn W2 d) os))
              clear r0 r1 r2 Z0 Z1 Z2 HP
              refine wp_region_quiet_below (by kernel_rfl) (by kernel_rfl) ?_
              iterate 7 (quiet_step (fail))
              quiet_step ((go_at_call 28; exact HPq.out _ _))
              iterate 3 (quiet_step (fail))
              clear P0 P1 P2 Q0 Q1 Q2 HPq
              refine wpQuiet_nil ?_
              intro _ hw'
              obtain ⟨⟨dq, osq⟩, hw''⟩ := hw'
              subst hw''
              have HB3 := Lib.hid (HB2.out.trans ((below_regrown W2 dq osq).mono HB2.out.size))
              generalize Sort.grow (redrawn W2 dq) osq = wt at *
              clear HB2
              go_wp2_with fail
              go_roundw
              case rel => exact ⟨s + 1, !bq, by omega, by go_num, rfl, HNx, HB3⟩
              case measure => simp [intOf]; omega
            | false =>
              rw [Bool.false_and] at HNx
              go_upto_region 12 with fail
              have HB2 : Hid (RowKit.Below wo.heap.size wo (wi.alloc (.cells #[.int .i64 bx, .int .i64 by', .int .i64 bz] 46))) := Lib.hid (HBi.out.alloc (by omega) _)
              have r0 := ((Blk.new wi 46 #[.int .i64 bx, .int .i64 by', .int .i64 bz]).cell 0).trans rfl
              have r1 := ((Blk.new wi 46 #[.int .i64 bx, .int .i64 by', .int .i64 bz]).cell 1).trans rfl
              have r2 := ((Blk.new wi 46 #[.int .i64 bx, .int .i64 by', .int .i64 bz]).cell 2).trans rfl
              have Z0 := z0 (.cells #[.int .i64 bx, .int .i64 by', .int .i64 bz] 46)
              have Z1 := z1 (.cells #[.int .i64 bx, .int .i64 by', .int .i64 bz] 46)
              have Z2 := z2 (.cells #[.int .i64 bx, .int .i64 by', .int .i64 bz] 46)
              clear z0 z1 z2 p0 p1 p2
              generalize wi.alloc (.cells #[.int .i64 bx, .int .i64 by', .int .i64 bz] 46) = W2 at *
              have P0 := fun d os => cell_regrown r0 d os
              have P1 := fun d os => cell_regrown r1 d os
              have P2 := fun d os => cell_regrown r2 d os
              have Q0 := fun d os => cell_regrown Z0 d os
              have Q1 := fun d os => cell_regrown Z1 d os
              have Q2 := fun d os => cell_regrown Z2 d os
              have HPq := Lib.hid fun d os => Calls.regrown_of (HP.out (Sort.grow (redrawn W2 d) os))
              clear r0 r1 r2 Z0 Z1 Z2 HP
              refine wp_region_quiet_below (by kernel_rfl) (by kernel_rfl) ?_
              iterate 2 (quiet_step (fail))
              obtain ⟨fv, hfv⟩ : ∃ v, v = Value.bool false := ⟨_, rfl⟩
              rw [← hfv]
              have HFv := Lib.hid hfv
              clear hfv
              iterate 7 (refine wpQuiet_step (fun K hK => ?_); go_simp; refine (if_neg (by rw [HFv.out]; intro h; cases h)).mpr ?_; refine hK _ ?_; clear hK K)
              rw [HFv.out]
              clear HFv fv
              iterate 2 (quiet_step (fail))
              clear P0 P1 P2 Q0 Q1 Q2 HPq
              refine wpQuiet_nil ?_
              intro _ hw'
              obtain ⟨⟨dq, osq⟩, hw''⟩ := hw'
              subst hw''
              have HB3 := Lib.hid (HB2.out.trans ((below_regrown W2 dq osq).mono HB2.out.size))
              generalize Sort.grow (redrawn W2 dq) osq = wt at *
              clear HB2
              go_wp2_with fail
              go_roundw
              case rel => exact ⟨s + 1, false, by omega, by go_num, rfl, HNx, HB3⟩
              case measure => simp [intOf]; omega
          · obtain rfl : s = n := by omega
            have t2 : decide ((s : Int) < (s : Int)) = false := decide_eq_false (by omega)
            rw [freeTo_n] at HF
            have HB4 : Hid (RowKit.Below wS.heap.size wS wi) := Lib.hid (HBu.out.trans (HBi.out.mono hzo))
            have HO4 := Lib.hid (own_size HO.out HBi.out)
            have HTk := HN
            cases fb with
            | true =>
              rw [HF.out, if_pos rfl] at HN
              go_wp2_with (at_builtin; refine wpList_pushD el_int rfl _ _ rfl wS.heap.size _ fl.length _ (HO4.out.alloc _) rfl wi.heap.size 1 _ rfl (new_cell rfl) rfl (by omega) (by omega) (by simp; omega) ?_; intro v2 w4 hown2 hg2 hl2; obtain ⟨A3, c3, rfl⟩ := own_shape hown2)
              go_roundw
              case rel => exact ⟨t + 1, by omega, by go_num, Lib.hid (by have e := congrArg List.length HN.out; rw [List.length_append, natL_len, natL_len] at e; rw [HN.out, e, List.map_append]; exact hown2), Lib.hid (below_push (HB4.out.alloc (by omega) _) (HO4.out.alloc _) (Nat.le_refl _) (by simp; omega) hg2)⟩
              case measure => simp [intOf]; omega
            | false =>
              rw [HF.out, if_neg (by simp), List.append_nil] at HN
              go_wp2_with fail
              go_roundw
              case rel => exact ⟨t + 1, by omega, by go_num, Lib.hid (by have e := congrArg List.length HN.out; rw [natL_len, natL_len] at e; rw [HN.out, e]; exact HO4.out), HB4⟩
              case measure => simp [intOf]; omega
      · obtain rfl : t = n := by omega
        have t1 : decide ((t : Int) < (t : Int)) = false := decide_eq_false (by omega)
        have hfl2 : o.filter (freeB l t) = fl := by rw [← hfl, List.take_of_length_le (by rw [HOl.out]; exact Nat.le_refl _)]
        have HLR : Hid (SkyR l t (natL fl) 0) := Lib.hid ⟨HCc.out, fun h => absurd rfl h, fun _ => ⟨o, HSt.out, by rw [hfl2]⟩⟩
        have hmem : ∀ z ∈ natL fl, (Lit.int .i64 z).wf = true := fun z hz => by
          unfold natL at hz
          obtain ⟨j, hj, rfl⟩ := List.mem_map.1 hz
          rw [← hfl2] at hj
          have := List.mem_range.1 (HPm.out.mem_iff.1 (List.mem_filter.1 hj).1)
          exact WalkArith.wf_i64 (by omega)
        have HI := Lib.hid (own_ints (by have := HO.out; rw [← natL_len fl] at this; exact this) (by rw [natL_len]; omega) hmem)
        rw [natL_len] at HI
        clear hmem hfl hfl2
        go_wp2_with fail
        go_ret2
        exact ⟨_, natL fl, rfl, HLR.out, HI.out, HBw.out.trans (HBu.out.mono (by omega))⟩
end Go.Proofs.YtlojecajonhmhaaDoor
