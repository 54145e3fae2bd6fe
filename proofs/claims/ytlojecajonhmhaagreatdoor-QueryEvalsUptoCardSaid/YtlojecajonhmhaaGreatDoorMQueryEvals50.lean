/-
  Contract of the reference's exprMeans: what an expression means at a point. Conditions: the expression can be read, and is fine.
-/
import Derived.Test.YtlojecajonhmhaaGreatDoorMQueryEvals38
import Derived.Test.YtlojecajonhmhaaGreatDoorMQueryEvals16
import Derived.BigQuiet
import Derived.Lib.QuietBelow
set_option linter.unusedVariables false
set_option linter.unusedSimpArgs false
namespace Go.Proofs.YtlojecajonhmhaaGreatDoor
open Go Go.RowKit Go.Dam Go.Dam.Q
set_option linter.unusedVariables false
set_option maxRecDepth 100000 in
set_option maxHeartbeats 8000000 in
theorem refMeans_k1 (x0 y0 x1 y1 ww px py pw : Int) (EA : Option Addr) (en ec : Nat) (w : World) :
    Calls Tryz.prog 12 #[exV 1 x0 y0 x1 y1 ww EA en ec, .agg #[.int .i64 px, .int .i64 py, .int .i64 pw]] w fun e w' => e = .returned (.bool (inR px py x0 y0 x1 y1)) ∧ Below w.heap.size w w' := by
  have HBx : Hid (Below w.heap.size w ((w.alloc (.cells #[.int .i64 1, .int .i64 x0, .int .i64 y0, .int .i64 x1, .int .i64 y1, .int .i64 ww, .slice EA en ec] 26)).alloc (.cells #[.int .i64 px, .int .i64 py, .int .i64 pw] 39))) := Lib.hid (((Below.refl _ _).alloc (Nat.le_refl _) _).alloc (by simp) _)
  have HK : Hid (Blk ((w.alloc (.cells #[.int .i64 1, .int .i64 x0, .int .i64 y0, .int .i64 x1, .int .i64 y1, .int .i64 ww, .slice EA en ec] 26)).alloc (.cells #[.int .i64 px, .int .i64 py, .int .i64 pw] 39)) w.heap.size 26 #[.int .i64 1, .int .i64 x0, .int .i64 y0, .int .i64 x1, .int .i64 y1, .int .i64 ww, .slice EA en ec]) := Lib.hid ((Blk.new w _ _).alloc _)
  have HKp : Hid (Blk ((w.alloc (.cells #[.int .i64 1, .int .i64 x0, .int .i64 y0, .int .i64 x1, .int .i64 y1, .int .i64 ww, .slice EA en ec] 26)).alloc (.cells #[.int .i64 px, .int .i64 py, .int .i64 pw] 39)) (w.heap.size + 1) 39 #[.int .i64 px, .int .i64 py, .int .i64 pw]) := Lib.hid (Blk.new_at _ _ _ _ (by simp))
  unfold exV
  go_enter Tryz.func12, Tryz.ntmps12
  go_upto_region 3 with fail
  have k1 := (HK.out.cell 1).trans rfl
  have k2 := (HK.out.cell 2).trans rfl
  have k3 := (HK.out.cell 3).trans rfl
  have k4 := (HK.out.cell 4).trans rfl
  have p0 := (HKp.out.cell 0).trans rfl
  have p1 := (HKp.out.cell 1).trans rfl
  have p2 := (HKp.out.cell 2).trans rfl
  have HIn := Lib.hid refPointIn_any
  generalize ((w.alloc (.cells #[.int .i64 1, .int .i64 x0, .int .i64 y0, .int .i64 x1, .int .i64 y1, .int .i64 ww, .slice EA en ec] 26)).alloc (.cells #[.int .i64 px, .int .i64 py, .int .i64 pw] 39)) = Wb at *
  go_wp2_with (go_at_call 22; refine (HIn.out _ _ _ _ _ _ _ _).mono ?_; rintro e w3 ⟨rfl, hb3⟩)
  go_ret
  exact ⟨rfl, HBx.out.trans (hb3.mono HBx.out.size)⟩
set_option maxRecDepth 100000 in
set_option maxHeartbeats 8000000 in
theorem refMeans_k2 (x0 y0 x1 y1 ww px py pw : Int) (EA : Option Addr) (en ec : Nat) (w : World) :
    Calls Tryz.prog 12 #[exV 2 x0 y0 x1 y1 ww EA en ec, .agg #[.int .i64 px, .int .i64 py, .int .i64 pw]] w fun e w' => e = .returned (.bool (decide (ww ≤ pw))) ∧ Below w.heap.size w w' := by
  have HBx : Hid (Below w.heap.size w ((w.alloc (.cells #[.int .i64 2, .int .i64 x0, .int .i64 y0, .int .i64 x1, .int .i64 y1, .int .i64 ww, .slice EA en ec] 26)).alloc (.cells #[.int .i64 px, .int .i64 py, .int .i64 pw] 39))) := Lib.hid (((Below.refl _ _).alloc (Nat.le_refl _) _).alloc (by simp) _)
  have HK : Hid (Blk ((w.alloc (.cells #[.int .i64 2, .int .i64 x0, .int .i64 y0, .int .i64 x1, .int .i64 y1, .int .i64 ww, .slice EA en ec] 26)).alloc (.cells #[.int .i64 px, .int .i64 py, .int .i64 pw] 39)) w.heap.size 26 #[.int .i64 2, .int .i64 x0, .int .i64 y0, .int .i64 x1, .int .i64 y1, .int .i64 ww, .slice EA en ec]) := Lib.hid ((Blk.new w _ _).alloc _)
  have HKp : Hid (Blk ((w.alloc (.cells #[.int .i64 2, .int .i64 x0, .int .i64 y0, .int .i64 x1, .int .i64 y1, .int .i64 ww, .slice EA en ec] 26)).alloc (.cells #[.int .i64 px, .int .i64 py, .int .i64 pw] 39)) (w.heap.size + 1) 39 #[.int .i64 px, .int .i64 py, .int .i64 pw]) := Lib.hid (Blk.new_at _ _ _ _ (by simp))
  unfold exV
  go_enter Tryz.func12, Tryz.ntmps12
  go_wp2_with fail
  go_ret
  exact ⟨rfl, HBx.out⟩
set_option maxRecDepth 100000 in
set_option maxHeartbeats 8000000 in
theorem refMeans_k5 (x0 y0 x1 y1 ww px py pw : Int) (en ec : Nat) (w : World) (b o : Nat) (he : 0 < en) (hbl : b < w.heap.size) (pv : Value) (hat : ExAt w b o pv) (bb : Bool) (HIH : Hid (∀ W, Below w.heap.size w W → Calls Tryz.prog 12 #[pv, .agg #[.int .i64 px, .int .i64 py, .int .i64 pw]] W fun e w' => e = .returned (.bool bb) ∧ Below W.heap.size W w')) :
    Calls Tryz.prog 12 #[exV 5 x0 y0 x1 y1 ww (some ⟨b, o, none⟩) en ec, .agg #[.int .i64 px, .int .i64 py, .int .i64 pw]] w fun e w' => e = .returned (.bool (!bb)) ∧ Below w.heap.size w w' := by
  have HBx : Hid (Below w.heap.size w ((w.alloc (.cells #[.int .i64 5, .int .i64 x0, .int .i64 y0, .int .i64 x1, .int .i64 y1, .int .i64 ww, .slice (some ⟨b, o, none⟩) en ec] 26)).alloc (.cells #[.int .i64 px, .int .i64 py, .int .i64 pw] 39))) := Lib.hid (((Below.refl _ _).alloc (Nat.le_refl _) _).alloc (by simp) _)
  have HK : Hid (Blk ((w.alloc (.cells #[.int .i64 5, .int .i64 x0, .int .i64 y0, .int .i64 x1, .int .i64 y1, .int .i64 ww, .slice (some ⟨b, o, none⟩) en ec] 26)).alloc (.cells #[.int .i64 px, .int .i64 py, .int .i64 pw] 39)) w.heap.size 26 #[.int .i64 5, .int .i64 x0, .int .i64 y0, .int .i64 x1, .int .i64 y1, .int .i64 ww, .slice (some ⟨b, o, none⟩) en ec]) := Lib.hid ((Blk.new w _ _).alloc _)
  have HKp : Hid (Blk ((w.alloc (.cells #[.int .i64 5, .int .i64 x0, .int .i64 y0, .int .i64 x1, .int .i64 y1, .int .i64 ww, .slice (some ⟨b, o, none⟩) en ec] 26)).alloc (.cells #[.int .i64 px, .int .i64 py, .int .i64 pw] 39)) (w.heap.size + 1) 39 #[.int .i64 px, .int .i64 py, .int .i64 pw]) := Lib.hid (Blk.new_at _ _ _ _ (by simp))
  unfold exV
  go_enter Tryz.func12, Tryz.ntmps12
  go_upto_region 7 with fail
  obtain ⟨qk, qx0, qy0, qx1, qy1, qw, QA, qn, qc, rfl, d0, d1, d2, d3, d4, d5, d6⟩ := hat.below HBx.out hbl
  unfold exV at HIH
  have k6 := (HK.out.cell 6).trans rfl
  have p0 := (HKp.out.cell 0).trans rfl
  have p1 := (HKp.out.cell 1).trans rfl
  have p2 := (HKp.out.cell 2).trans rfl
  have e1 : (0 : Int) < (en : Int) := by omega
  generalize ((w.alloc (.cells #[.int .i64 5, .int .i64 x0, .int .i64 y0, .int .i64 x1, .int .i64 y1, .int .i64 ww, .slice (some ⟨b, o, none⟩) en ec] 26)).alloc (.cells #[.int .i64 px, .int .i64 py, .int .i64 pw] 39)) = Wb at *
  have P0 := fun d os => cell_regrown d0 d os
  have P1 := fun d os => cell_regrown d1 d os
  have P2 := fun d os => cell_regrown d2 d os
  have P3 := fun d os => cell_regrown d3 d os
  have P4 := fun d os => cell_regrown d4 d os
  have P5 := fun d os => cell_regrown d5 d os
  have P6 := fun d os => cell_regrown d6 d os
  have K6 := fun d os => cell_regrown k6 d os
  have R0 := fun d os => cell_regrown p0 d os
  have R1 := fun d os => cell_regrown p1 d os
  have R2 := fun d os => cell_regrown p2 d os
  have HQ := Lib.hid fun d os => Calls.regrown_of (HIH.out (Sort.grow (redrawn Wb d) os) (HBx.out.trans ((below_regrown Wb d os).mono HBx.out.size)))
  clear d0 d1 d2 d3 d4 d5 d6 k6 p0 p1 p2
  refine wp_region_quiet_below (by kernel_rfl) (by kernel_rfl) ?_
  repeat (quiet_step ((go_at_call 12; exact HQ.out _ _)))
  refine wpQuiet_nil ?_
  intro _ hw'
  obtain ⟨⟨dq, osq⟩, hw''⟩ := hw'
  subst hw''
  have HB3 := Lib.hid (HBx.out.trans ((below_regrown Wb dq osq).mono HBx.out.size))
  generalize Sort.grow (redrawn Wb dq) osq = wt at *
  go_wp2_with fail
  go_ret
  exact ⟨rfl, HB3.out⟩
set_option maxRecDepth 100000 in
set_option maxHeartbeats 8000000 in
theorem refMeans_k3 (x0 y0 x1 y1 ww px py pw : Int) (en ec : Nat) (w : World) (b o : Nat) (he : 0 < en) (heb : en ≤ 140737488355328) (hbl : b < w.heap.size) (cnt : Nat → Nat) (hc0 : cnt 0 = 0) (hcn : ∀ j, cnt j ≤ j) (hpa : ∀ j, j < en → ∃ pv bb, ExAt w b (o + j * 7) pv ∧ Hid (∀ W, Below w.heap.size w W → Calls Tryz.prog 12 #[pv, .agg #[.int .i64 px, .int .i64 py, .int .i64 pw]] W fun e w' => e = .returned (.bool bb) ∧ Below W.heap.size W w') ∧ cnt (j + 1) = cnt j + (if bb = true then 1 else 0)) :
    Calls Tryz.prog 12 #[exV 3 x0 y0 x1 y1 ww (some ⟨b, o, none⟩) en ec, .agg #[.int .i64 px, .int .i64 py, .int .i64 pw]] w fun e w' => e = .returned (.bool (decide (cnt en = en))) ∧ Below w.heap.size w w' := by
  have HBx : Hid (Below w.heap.size w ((w.alloc (.cells #[.int .i64 3, .int .i64 x0, .int .i64 y0, .int .i64 x1, .int .i64 y1, .int .i64 ww, .slice (some ⟨b, o, none⟩) en ec] 26)).alloc (.cells #[.int .i64 px, .int .i64 py, .int .i64 pw] 39))) := Lib.hid (((Below.refl _ _).alloc (Nat.le_refl _) _).alloc (by simp) _)
  have HK : Hid (Blk ((w.alloc (.cells #[.int .i64 3, .int .i64 x0, .int .i64 y0, .int .i64 x1, .int .i64 y1, .int .i64 ww, .slice (some ⟨b, o, none⟩) en ec] 26)).alloc (.cells #[.int .i64 px, .int .i64 py, .int .i64 pw] 39)) w.heap.size 26 #[.int .i64 3, .int .i64 x0, .int .i64 y0, .int .i64 x1, .int .i64 y1, .int .i64 ww, .slice (some ⟨b, o, none⟩) en ec]) := Lib.hid ((Blk.new w _ _).alloc _)
  have HKp : Hid (Blk ((w.alloc (.cells #[.int .i64 3, .int .i64 x0, .int .i64 y0, .int .i64 x1, .int .i64 y1, .int .i64 ww, .slice (some ⟨b, o, none⟩) en ec] 26)).alloc (.cells #[.int .i64 px, .int .i64 py, .int .i64 pw] 39)) (w.heap.size + 1) 39 #[.int .i64 px, .int .i64 py, .int .i64 pw]) := Lib.hid (Blk.new_at _ _ _ _ (by simp))
  unfold exV
  go_enter Tryz.func12, Tryz.ntmps12
  go_upto_region 8 with fail
  have hz2 : ((w.alloc (.cells #[.int .i64 3, .int .i64 x0, .int .i64 y0, .int .i64 x1, .int .i64 y1, .int .i64 ww, .slice (some ⟨b, o, none⟩) en ec] 26)).alloc (.cells #[.int .i64 px, .int .i64 py, .int .i64 pw] 39)).heap.size = w.heap.size + 1 + 1 := by simp
  have HK6 := Lib.hid fun W (hb : Below ((w.alloc (.cells #[.int .i64 3, .int .i64 x0, .int .i64 y0, .int .i64 x1, .int .i64 y1, .int .i64 ww, .slice (some ⟨b, o, none⟩) en ec] 26)).alloc (.cells #[.int .i64 px, .int .i64 py, .int .i64 pw] 39)).heap.size ((w.alloc (.cells #[.int .i64 3, .int .i64 x0, .int .i64 y0, .int .i64 x1, .int .i64 y1, .int .i64 ww, .slice (some ⟨b, o, none⟩) en ec] 26)).alloc (.cells #[.int .i64 px, .int .i64 py, .int .i64 pw] 39)) W) => HK.out.below hb (by simp; omega)
  have HKp6 := Lib.hid fun W (hb : Below ((w.alloc (.cells #[.int .i64 3, .int .i64 x0, .int .i64 y0, .int .i64 x1, .int .i64 y1, .int .i64 ww, .slice (some ⟨b, o, none⟩) en ec] 26)).alloc (.cells #[.int .i64 px, .int .i64 py, .int .i64 pw] 39)).heap.size ((w.alloc (.cells #[.int .i64 3, .int .i64 x0, .int .i64 y0, .int .i64 x1, .int .i64 y1, .int .i64 ww, .slice (some ⟨b, o, none⟩) en ec] 26)).alloc (.cells #[.int .i64 px, .int .i64 py, .int .i64 pw] 39)) W) => HKp.out.below hb (by simp)
  have k6 := (HK.out.cell 6).trans rfl
  have k0 := (HK.out.cell 0).trans rfl
  generalize ((w.alloc (.cells #[.int .i64 3, .int .i64 x0, .int .i64 y0, .int .i64 x1, .int .i64 y1, .int .i64 ww, .slice (some ⟨b, o, none⟩) en ec] 26)).alloc (.cells #[.int .i64 px, .int .i64 py, .int .i64 pw] 39)) = Wb at *
  go_wp2_with fail
  clear k6 k0
  go_loopw [5, 35] (fun cv jv wr => ∃ j : Nat, j ≤ en ∧ jv = .int .i64 j ∧ cv = .int .i64 (cnt j : Nat) ∧ Hid (Below Wb.heap.size Wb wr)) (fun _ jv _ => en - (intOf jv).toNat)
  case atStart => exact ⟨0, by omega, rfl, by rw [hc0]; rfl, Lib.hid (Below.refl _ _)⟩
  case round =>
    obtain ⟨wo, rfl⟩ : ∃ wo : World, wo = wr := ⟨_, rfl⟩
    obtain ⟨j, hj, rfl, rfl, HB⟩ := hrel
    have hzo := HB.out.size
    have hzb := HBx.out.size
    have HBw : Hid (Below w.heap.size w wo) := Lib.hid (HBx.out.trans (HB.out.mono hzb))
    have hcl := hcn j
    have HKo := Lib.hid (HK6.out _ HB.out)
    have HKq := Lib.hid fun W (hb : Below wo.heap.size wo W) => HKp6.out W (HB.out.trans (hb.mono hzo))
    by_cases hlt : j < en
    · have t1 : decide ((j : Int) < (en : Int)) = true := decide_eq_true (by omega)
      obtain ⟨pv, bb, hat, HI, hcs⟩ := hpa j hlt
      obtain ⟨qk, qx0, qy0, qx1, qy1, qw, QA, qn, qc, rfl, d0, d1, d2, d3, d4, d5, d6⟩ := hat.below HBw.out hbl
      unfold exV at HI
      have i1 : (j : Int) < (en : Int) := by omega
      have w1 : IntKind.i64.wrap ((j : Int) + 1) = (j : Int) + 1 := by rw [IntKind.wrap_i64]; omega
      have HBa := Lib.hid fun o => (Below.refl wo.heap.size wo).alloc (Nat.le_refl _) o
      have s0 := fun o => ((HKq.out _ (HBa.out o)).cell 0).trans rfl
      have s1 := fun o => ((HKq.out _ (HBa.out o)).cell 1).trans rfl
      have s2 := fun o => ((HKq.out _ (HBa.out o)).cell 2).trans rfl
      have hc1 := hcn (j + 1)
      obtain ⟨cj, hcj⟩ : ∃ c, c = cnt j := ⟨_, rfl⟩
      obtain ⟨cs, hcs1⟩ : ∃ c, c = cnt (j + 1) := ⟨_, rfl⟩
      rw [← hcj, ← hcs1] at hcs
      rw [← hcj] at hcl ⊢
      have HCs := Lib.hid hcs1
      have w2 : IntKind.i64.wrap ((cj : Int) + 1) = (cj : Int) + 1 := by rw [IntKind.wrap_i64]; omega
      clear hcj hcs1 hc1
      cases bb with
      | true =>
        have HS : Hid (cs = cj + 1) := Lib.hid (by rw [hcs, if_pos rfl])
        clear hcs
        go_wp2_with (go_at_call 12; refine (HI.out _ (HBw.out.trans ((HBa.out _).mono HBw.out.size))).mono ?_; rintro e w2 ⟨rfl, hb2⟩)
        go_roundw
        case rel => exact ⟨j + 1, by omega, by go_num, by rw [← HCs.out, HS.out]; go_num, Lib.hid (HB.out.trans (((HBa.out _).trans (hb2.mono (by simp))).mono hzo))⟩
        case measure => simp [intOf]; omega
      | false =>
        have HS : Hid (cs = cj) := Lib.hid (by rw [hcs, if_neg (by decide)]; rfl)
        clear hcs
        go_wp2_with (go_at_call 12; refine (HI.out _ (HBw.out.trans ((HBa.out _).mono HBw.out.size))).mono ?_; rintro e w2 ⟨rfl, hb2⟩)
        go_roundw
        case rel => exact ⟨j + 1, by omega, by go_num, by rw [← HCs.out, HS.out], Lib.hid (HB.out.trans (((HBa.out _).trans (hb2.mono (by simp))).mono hzo))⟩
        case measure => simp [intOf]; omega
    · obtain rfl : j = en := by omega
      have t1 : decide ((j : Int) < (j : Int)) = false := decide_eq_false (by omega)
      have s0 := (HKo.out.cell 0).trans rfl
      have s6 := (HKo.out.cell 6).trans rfl
      obtain ⟨cj, hcj⟩ : ∃ c, c = cnt j := ⟨_, rfl⟩
      rw [← hcj] at hcl ⊢
      have HCj := Lib.hid hcj
      clear hcj
      by_cases hq : cj = j
      · obtain rfl := hq
        go_wp2_with fail
        go_ret
        exact ⟨by rw [← HCj.out]; simp, HBw.out⟩
      · have hq2 : ((cj : Int) == (j : Int)) = false := beq_eq_false_iff_ne.2 (by omega)
        go_wp2_with fail
        go_ret
        exact ⟨by rw [← HCj.out]; simp [hq], HBw.out⟩
set_option maxRecDepth 100000 in
set_option maxHeartbeats 8000000 in
theorem refMeans_k4 (x0 y0 x1 y1 ww px py pw : Int) (en ec : Nat) (w : World) (b o : Nat) (he : 0 < en) (heb : en ≤ 140737488355328) (hbl : b < w.heap.size) (cnt : Nat → Nat) (hc0 : cnt 0 = 0) (hcn : ∀ j, cnt j ≤ j) (hpa : ∀ j, j < en → ∃ pv bb, ExAt w b (o + j * 7) pv ∧ Hid (∀ W, Below w.heap.size w W → Calls Tryz.prog 12 #[pv, .agg #[.int .i64 px, .int .i64 py, .int .i64 pw]] W fun e w' => e = .returned (.bool bb) ∧ Below W.heap.size W w') ∧ cnt (j + 1) = cnt j + (if bb = true then 1 else 0)) :
    Calls Tryz.prog 12 #[exV 4 x0 y0 x1 y1 ww (some ⟨b, o, none⟩) en ec, .agg #[.int .i64 px, .int .i64 py, .int .i64 pw]] w fun e w' => e = .returned (.bool (decide (0 < cnt en))) ∧ Below w.heap.size w w' := by
  have HBx : Hid (Below w.heap.size w ((w.alloc (.cells #[.int .i64 4, .int .i64 x0, .int .i64 y0, .int .i64 x1, .int .i64 y1, .int .i64 ww, .slice (some ⟨b, o, none⟩) en ec] 26)).alloc (.cells #[.int .i64 px, .int .i64 py, .int .i64 pw] 39))) := Lib.hid (((Below.refl _ _).alloc (Nat.le_refl _) _).alloc (by simp) _)
  have HK : Hid (Blk ((w.alloc (.cells #[.int .i64 4, .int .i64 x0, .int .i64 y0, .int .i64 x1, .int .i64 y1, .int .i64 ww, .slice (some ⟨b, o, none⟩) en ec] 26)).alloc (.cells #[.int .i64 px, .int .i64 py, .int .i64 pw] 39)) w.heap.size 26 #[.int .i64 4, .int .i64 x0, .int .i64 y0, .int .i64 x1, .int .i64 y1, .int .i64 ww, .slice (some ⟨b, o, none⟩) en ec]) := Lib.hid ((Blk.new w _ _).alloc _)
  have HKp : Hid (Blk ((w.alloc (.cells #[.int .i64 4, .int .i64 x0, .int .i64 y0, .int .i64 x1, .int .i64 y1, .int .i64 ww, .slice (some ⟨b, o, none⟩) en ec] 26)).alloc (.cells #[.int .i64 px, .int .i64 py, .int .i64 pw] 39)) (w.heap.size + 1) 39 #[.int .i64 px, .int .i64 py, .int .i64 pw]) := Lib.hid (Blk.new_at _ _ _ _ (by simp))
  unfold exV
  go_enter Tryz.func12, Tryz.ntmps12
  go_upto_region 8 with fail
  have hz2 : ((w.alloc (.cells #[.int .i64 4, .int .i64 x0, .int .i64 y0, .int .i64 x1, .int .i64 y1, .int .i64 ww, .slice (some ⟨b, o, none⟩) en ec] 26)).alloc (.cells #[.int .i64 px, .int .i64 py, .int .i64 pw] 39)).heap.size = w.heap.size + 1 + 1 := by simp
  have HK6 := Lib.hid fun W (hb : Below ((w.alloc (.cells #[.int .i64 4, .int .i64 x0, .int .i64 y0, .int .i64 x1, .int .i64 y1, .int .i64 ww, .slice (some ⟨b, o, none⟩) en ec] 26)).alloc (.cells #[.int .i64 px, .int .i64 py, .int .i64 pw] 39)).heap.size ((w.alloc (.cells #[.int .i64 4, .int .i64 x0, .int .i64 y0, .int .i64 x1, .int .i64 y1, .int .i64 ww, .slice (some ⟨b, o, none⟩) en ec] 26)).alloc (.cells #[.int .i64 px, .int .i64 py, .int .i64 pw] 39)) W) => HK.out.below hb (by simp; omega)
  have HKp6 := Lib.hid fun W (hb : Below ((w.alloc (.cells #[.int .i64 4, .int .i64 x0, .int .i64 y0, .int .i64 x1, .int .i64 y1, .int .i64 ww, .slice (some ⟨b, o, none⟩) en ec] 26)).alloc (.cells #[.int .i64 px, .int .i64 py, .int .i64 pw] 39)).heap.size ((w.alloc (.cells #[.int .i64 4, .int .i64 x0, .int .i64 y0, .int .i64 x1, .int .i64 y1, .int .i64 ww, .slice (some ⟨b, o, none⟩) en ec] 26)).alloc (.cells #[.int .i64 px, .int .i64 py, .int .i64 pw] 39)) W) => HKp.out.below hb (by simp)
  have k6 := (HK.out.cell 6).trans rfl
  have k0 := (HK.out.cell 0).trans rfl
  generalize ((w.alloc (.cells #[.int .i64 4, .int .i64 x0, .int .i64 y0, .int .i64 x1, .int .i64 y1, .int .i64 ww, .slice (some ⟨b, o, none⟩) en ec] 26)).alloc (.cells #[.int .i64 px, .int .i64 py, .int .i64 pw] 39)) = Wb at *
  go_wp2_with fail
  clear k6 k0
  go_loopw [5, 35] (fun cv jv wr => ∃ j : Nat, j ≤ en ∧ jv = .int .i64 j ∧ cv = .int .i64 (cnt j : Nat) ∧ Hid (Below Wb.heap.size Wb wr)) (fun _ jv _ => en - (intOf jv).toNat)
  case atStart => exact ⟨0, by omega, rfl, by rw [hc0]; rfl, Lib.hid (Below.refl _ _)⟩
  case round =>
    obtain ⟨wo, rfl⟩ : ∃ wo : World, wo = wr := ⟨_, rfl⟩
    obtain ⟨j, hj, rfl, rfl, HB⟩ := hrel
    have hzo := HB.out.size
    have hzb := HBx.out.size
    have HBw : Hid (Below w.heap.size w wo) := Lib.hid (HBx.out.trans (HB.out.mono hzb))
    have hcl := hcn j
    have HKo := Lib.hid (HK6.out _ HB.out)
    have HKq := Lib.hid fun W (hb : Below wo.heap.size wo W) => HKp6.out W (HB.out.trans (hb.mono hzo))
    by_cases hlt : j < en
    · have t1 : decide ((j : Int) < (en : Int)) = true := decide_eq_true (by omega)
      obtain ⟨pv, bb, hat, HI, hcs⟩ := hpa j hlt
      obtain ⟨qk, qx0, qy0, qx1, qy1, qw, QA, qn, qc, rfl, d0, d1, d2, d3, d4, d5, d6⟩ := hat.below HBw.out hbl
      unfold exV at HI
      have i1 : (j : Int) < (en : Int) := by omega
      have w1 : IntKind.i64.wrap ((j : Int) + 1) = (j : Int) + 1 := by rw [IntKind.wrap_i64]; omega
      have HBa := Lib.hid fun o => (Below.refl wo.heap.size wo).alloc (Nat.le_refl _) o
      have s0 := fun o => ((HKq.out _ (HBa.out o)).cell 0).trans rfl
      have s1 := fun o => ((HKq.out _ (HBa.out o)).cell 1).trans rfl
      have s2 := fun o => ((HKq.out _ (HBa.out o)).cell 2).trans rfl
      have hc1 := hcn (j + 1)
      obtain ⟨cj, hcj⟩ : ∃ c, c = cnt j := ⟨_, rfl⟩
      obtain ⟨cs, hcs1⟩ : ∃ c, c = cnt (j + 1) := ⟨_, rfl⟩
      rw [← hcj, ← hcs1] at hcs
      rw [← hcj] at hcl ⊢
      have HCs := Lib.hid hcs1
      have w2 : IntKind.i64.wrap ((cj : Int) + 1) = (cj : Int) + 1 := by rw [IntKind.wrap_i64]; omega
      clear hcj hcs1 hc1
      cases bb with
      | true =>
        have HS : Hid (cs = cj + 1) := Lib.hid (by rw [hcs, if_pos rfl])
        clear hcs
        go_wp2_with (go_at_call 12; refine (HI.out _ (HBw.out.trans ((HBa.out _).mono HBw.out.size))).mono ?_; rintro e w2 ⟨rfl, hb2⟩)
        go_roundw
        case rel => exact ⟨j + 1, by omega, by go_num, by rw [← HCs.out, HS.out]; go_num, Lib.hid (HB.out.trans (((HBa.out _).trans (hb2.mono (by simp))).mono hzo))⟩
        case measure => simp [intOf]; omega
      | false =>
        have HS : Hid (cs = cj) := Lib.hid (by rw [hcs, if_neg (by decide)]; rfl)
        clear hcs
        go_wp2_with (go_at_call 12; refine (HI.out _ (HBw.out.trans ((HBa.out _).mono HBw.out.size))).mono ?_; rintro e w2 ⟨rfl, hb2⟩)
        go_roundw
        case rel => exact ⟨j + 1, by omega, by go_num, by rw [← HCs.out, HS.out], Lib.hid (HB.out.trans (((HBa.out _).trans (hb2.mono (by simp))).mono hzo))⟩
        case measure => simp [intOf]; omega
    · obtain rfl : j = en := by omega
      have t1 : decide ((j : Int) < (j : Int)) = false := decide_eq_false (by omega)
      have s0 := (HKo.out.cell 0).trans rfl
      have s6 := (HKo.out.cell 6).trans rfl
      obtain ⟨cj, hcj⟩ : ∃ c, c = cnt j := ⟨_, rfl⟩
      rw [← hcj] at hcl ⊢
      have HCj := Lib.hid hcj
      clear hcj
      go_wp2_with fail
      go_ret
      exact ⟨by rw [← HCj.out]; simp, HBw.out⟩
end Go.Proofs.YtlojecajonhmhaaGreatDoor
