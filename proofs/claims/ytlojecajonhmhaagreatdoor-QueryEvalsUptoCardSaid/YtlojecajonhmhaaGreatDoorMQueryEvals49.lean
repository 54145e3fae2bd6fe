/-
  Contract of query.meant at the kinds and, or: the parts' rows, taken together. Conditions: as meant's.
-/
import Derived.Test.YtlojecajonhmhaaGreatDoorMQueryEvals48
set_option linter.unusedVariables false
set_option linter.unusedSimpArgs false
namespace Go.Dam
open Go Go.RowKit Go.Dam.Q
theorem BelowBut.less {n e m : Nat} {A B : World} (h : BelowBut n e A B) (hm : m ≤ n) : BelowBut m e A B := ⟨h.os, h.tape, h.output, h.size, fun i hi he => h.block i (by omega) he⟩
theorem Q.ExAt.but {w w' : World} {n e b o : Nat} {v : Value} (h : ExAt w b o v) (hb : BelowBut n e w w') (hB : b < n) (hE : b ≠ e) : ExAt w' b o v := by
  obtain ⟨k, x0, y0, x1, y1, ww, A, n', c, rfl, h0, h1, h2, h3, h4, h5, h6⟩ := h
  have e : ∀ j, w'.cell? ⟨b, j, none⟩ = w.cell? ⟨b, j, none⟩ := fun j => hb.cell (p := ⟨b, j, none⟩) hB hE
  exact ⟨k, x0, y0, x1, y1, ww, A, n', c, rfl, (e _).trans h0, (e _).trans h1, (e _).trans h2, (e _).trans h3, (e _).trans h4, (e _).trans h5, (e _).trans h6⟩
end Go.Dam
namespace Go.Proofs.YtlojecajonhmhaaGreatDoor
open Go Go.RowKit Go.Dam Go.Dam.Q
set_option linter.unusedVariables false
set_option maxRecDepth 100000 in
set_option maxHeartbeats 16000000 in
theorem meant_k3 (f : Nat) (ps : List Ex) (x0 y0 x1 y1 ww : Int) (b o en ec : Nat) (v : Value) (n : Nat) (l : List Int) (w : World) (B : Nat) (hB : B ≤ w.heap.size) (h : IsFlat 3 w B v n l) (h0 : ptCode n l = 0) (he : 2 ≤ en) (heb : en ≤ 140737488355328) (hec : en ≤ ec) (hec2 : ec ≤ 9223372036854775807) (hp1 : Hid (en = ps.length)) (hbl : b < w.heap.size)
    (HPa : Hid (∀ j, j < en → ∃ pv, ExAt w b (o + j * 7) pv ∧ ∀ W, Below w.heap.size w W → Calls Tryz.prog 9 #[pv, v] W (GivesM l n f (ps.getD j noEx) W))) :
    Calls Tryz.prog 9 #[exV 3 x0 y0 x1 y1 ww (some ⟨b, o, none⟩) en ec, v] w (GivesM l n (f + 1) (.mk 3 x0 y0 x1 y1 ww ps) w) := by
  have hn1 := (ptCode_ok h0).1
  have hmk := fun w' => run_make1 el_boolM rfl (n : Int) n rfl (by omega) (by omega) w'
  have HBx : Hid (Below w.heap.size w ((w.alloc (.cells #[.int .i64 3, .int .i64 x0, .int .i64 y0, .int .i64 x1, .int .i64 y1, .int .i64 ww, .slice (some ⟨b, o, none⟩) en ec] 26)).alloc (.cells (Array.replicate n (Value.bool false)) 4))) := Lib.hid (((Below.refl _ _).alloc (Nat.le_refl _) _).alloc (by simp) _)
  have HK : Hid (Blk ((w.alloc (.cells #[.int .i64 3, .int .i64 x0, .int .i64 y0, .int .i64 x1, .int .i64 y1, .int .i64 ww, .slice (some ⟨b, o, none⟩) en ec] 26)).alloc (.cells (Array.replicate n (Value.bool false)) 4)) w.heap.size 26 #[.int .i64 3, .int .i64 x0, .int .i64 y0, .int .i64 x1, .int .i64 y1, .int .i64 ww, .slice (some ⟨b, o, none⟩) en ec]) := Lib.hid ((Blk.new w _ _).alloc _)
  obtain ⟨A, c, rfl, hc, hm, hn, hl, hr, hw⟩ := h
  clear hr hw hm hl
  have HFin : Hid (∀ bs, (bs.length = n ∧ ∀ j, j < n → bs.getD j false = partN 3 f ps l en j) → RowM l n (f + 1) (.mk 3 x0 y0 x1 y1 ww ps) bs) := Lib.hid fun bs hb => ⟨hb.1, fun j hj => by rw [hb.2 j hj, hp1.out, partN_n3]⟩
  have HPs := Lib.hid fun j i (hj : j < en) => (show partN 3 f ps l (j + 1) i = (partN 3 f ps l j i && meansAt l f (ps.getD j noEx) i) by rw [partN_s (by rw [← hp1.out]; exact hj), if_pos rfl])
  have HP1 := Lib.hid fun i => partN_1 (k := 3) (f := f) (ps := ps) (l := l) (i := i) (by rw [← hp1.out]; omega)
  obtain ⟨pv0, hat0, hI0⟩ := HPa.out 0 (by omega)
  rw [Nat.zero_mul, Nat.add_zero] at hat0
  have HI0 := Lib.hid hI0
  unfold exV
  go_enter Tryz.func9, Tryz.ntmps9
  go_upto_region 3 with fail
  have hzb := HBx.out.size
  have hkl := HK.out.lt
  obtain ⟨qk, qx0, qy0, qx1, qy1, qw, QA, qn, qc, rfl, d0, d1, d2, d3, d4, d5, d6⟩ := hat0.below HBx.out hbl
  unfold exV at HI0
  have k6 := (HK.out.cell 6).trans rfl
  have e1 : (0 : Int) < (en : Int) := by omega
  generalize ((w.alloc (.cells #[.int .i64 3, .int .i64 x0, .int .i64 y0, .int .i64 x1, .int .i64 y1, .int .i64 ww, .slice (some ⟨b, o, none⟩) en ec] 26)).alloc (.cells (Array.replicate n (Value.bool false)) 4)) = Wb at *
  clear hmk h0 hat0 hI0
  go_upto_region 4 with (go_at_call 9; refine (HI0.out _ HBx.out).mono ?_; rintro e w3 ⟨⟨g, bs0, hg2, rfl, hrm, hbb⟩, hb3⟩; have HM2 := Lib.hid hrm; have HB2 := Lib.hid hbb; have HB3 := Lib.hid hb3; clear hrm hbb hb3)
  have hz3 := HB3.out.size
  have HK3 := Lib.hid (HK.out.below HB3.out hkl)
  have r6 := (HK3.out.cell 6).trans rfl
  clear d0 d1 d2 d3 d4 d5 d6 k6 HI0
  have HBw3 : Hid (Below w.heap.size w w3) := Lib.hid (HBx.out.trans (HB3.out.mono hzb))
  obtain ⟨em, hem⟩ : ∃ m, en = m + 1 := ⟨en - 1, by omega⟩
  obtain ⟨cm, hcm⟩ : ∃ m, ec = m + 1 := ⟨ec - 1, by omega⟩
  have s1 : (1 : Int) ≤ (en : Int) := by omega
  have s2 : (1 : Int) ≤ (ec : Int) := by omega
  have s3 : (en : Int) ≤ (ec : Int) := by omega
  have s4 : ¬ ec = 1 := by omega
  have s5 : ¬ (ec : Int) = 1 := by omega
  go_wp2_with fail
  have Hem := Lib.hid hem
  have hg0 : w.heap.size < g := by omega
  have hgb : b < g := by omega
  clear hem hcm s1 s2 s3 s4 s5 r6 e1
  go_loopw [33] (fun jv wr => ∃ (j : Nat) (bs : List Bool), j ≤ em ∧ jv = .int .i64 j ∧ Hid (bs.length = n ∧ ∀ i, i < n → bs.getD i false = partN 3 f ps l (j + 1) i) ∧ Hid (BBlk 4 wr g bs) ∧ Hid (BelowBut w3.heap.size g w3 wr)) (fun jv _ => em - (intOf jv).toNat)
  case atStart => exact ⟨0, bs0, by omega, rfl, Lib.hid ⟨HM2.out.1, fun i hi => by rw [HM2.out.2 i hi, ← HP1.out i]⟩, HB2, Lib.hid (BelowBut.refl _ _ _)⟩
  case round =>
    obtain ⟨wo, rfl⟩ : ∃ wo : World, wo = wr := ⟨_, rfl⟩
    obtain ⟨j, bs, hj, rfl, HS, HBb, HU⟩ := hrel
    have hzo := HU.out.size
    have hgl := HB2.out.lt
    have HBwo : Hid (Below w.heap.size w wo) := Lib.hid (HBw3.out.trans (HU.out.below (by omega) (by omega)))
    by_cases hlt : j < em
    · have t1 : decide ((j : Int) < (em : Int)) = true := decide_eq_true (by omega)
      have hje : j + 1 < en := by have := Hem.out; omega
      obtain ⟨pv, hat, hI⟩ := HPa.out (j + 1) hje
      rw [show o + (j + 1) * 7 = o + 7 + j * 7 by omega] at hat
      obtain ⟨pk, px0, py0, px1, py1, pw, PA, pn, pc, rfl, c0, c1, c2, c3, c4, c5, c6⟩ := ((hat.below HBw3.out hbl).but HU.out (by omega) (by omega))
      have HI := Lib.hid hI
      unfold exV at HI
      have HPj := Lib.hid fun i => HPs.out (j + 1) i hje
      have i1 : (j : Int) < (em : Int) := by omega
      have w1 : IntKind.i64.wrap ((j : Int) + 1) = (j : Int) + 1 := by rw [IntKind.wrap_i64]; omega
      have HBa := Lib.hid fun ob => (Below.refl wo.heap.size wo).alloc (Nat.le_refl _) ob
      clear hat hI
      go_wp2_with (go_at_call 9; refine (HI.out _ (HBwo.out.trans ((HBa.out _).mono HBwo.out.size))).mono ?_; rintro e w4 ⟨⟨g3, bs3, hg3, rfl, hrm, hbb⟩, hb4⟩; have HM3 := Lib.hid hrm; have HB33 := Lib.hid hbb; have HB4 := Lib.hid ((HBa.out _).trans (hb4.mono (by simp))); simp only [World.size_alloc] at hg3; clear hrm hbb hb4)
      have hz4 := HB4.out.size
      have hkw : w.heap.size < w3.heap.size := by omega
      have HK4 : Hid (Blk w4 w.heap.size 26 #[.int .i64 3, .int .i64 x0, .int .i64 y0, .int .i64 x1, .int .i64 y1, .int .i64 ww, .slice (some ⟨b, o, none⟩) en ec]) := Lib.hid (Blk.below ((HU.out.block w.heap.size hkw (by omega)).trans HK3.out) HB4.out (by omega))
      have HBb4 := Lib.hid (HBb.out.below HB4.out HBb.out.lt)
      have HU4 : Hid (BelowBut w3.heap.size g w3 w4) := Lib.hid (HU.out.trans (.of_below (HB4.out.mono hzo)))
      have hg4 := HBb4.out.lt
      clear c0 c1 c2 c3 c4 c5 c6 HI HBa
      go_loopw [41] (fun iv wq => ∃ (i : Nat) (bs' : List Bool), i ≤ n ∧ iv = .int .i64 i ∧ Hid (RowB n i (fun q => partN 3 f ps l (j + 1 + 1) q) (fun q => partN 3 f ps l (j + 1) q) bs') ∧ Hid (BBlk 4 wq g bs') ∧ Hid (BelowBut w4.heap.size g w4 wq)) (fun iv _ => n - (intOf iv).toNat)
      case atStart => exact ⟨0, bs, by omega, rfl, Lib.hid (RowB.again HS.out _), HBb4, Lib.hid (BelowBut.refl _ _ _)⟩
      case round =>
        obtain ⟨wi, rfl⟩ : ∃ wi : World, wi = wr := ⟨_, rfl⟩
        obtain ⟨i, bs', hi, rfl, HSi, HBi, HUi⟩ := hrel
        by_cases hlt2 : i < n
        · have t2 : decide ((i : Int) < (n : Int)) = true := decide_eq_true (by omega)
          have hg3l := HB33.out.lt
          have c0 := (HUi.out.cell (p := ⟨g3, i, none⟩) hg3l (by show g3 ≠ g; omega)).trans (HB33.out.cell (i := i) (by rw [HM3.out.1]; exact hlt2))
          have hm3 := HM3.out.2 i hlt2
          have hcu := HSi.out.at_ (j := i) hlt2 (Nat.le_refl _)
          have hpj := HPj.out i
          have u0 := HBi.out.cell (i := i) (by rw [HSi.out.1]; exact hlt2)
          have u1 := HBi.out.frozen i
          have HSt := Lib.hid fun bv h => HSi.out.step hlt2 (b := bv) h
          have HKi : Hid (Blk wi w.heap.size 26 #[.int .i64 3, .int .i64 x0, .int .i64 y0, .int .i64 x1, .int .i64 y1, .int .i64 ww, .slice (some ⟨b, o, none⟩) en ec]) := Lib.hid ((HUi.out.block w.heap.size (by omega) (by omega)).trans HK4.out)
          have k0 := (HKi.out.cell 0).trans rfl
          rw [← hm3, ← hcu] at hpj
          have HPq := Lib.hid hpj
          clear hm3 hcu hpj
          obtain ⟨iz, hiz⟩ : ∃ b, b = bs3.getD i false := ⟨_, rfl⟩
          obtain ⟨cu, hcu⟩ : ∃ b, b = bs'.getD i false := ⟨_, rfl⟩
          rw [← hiz] at c0
          rw [← hcu] at u0
          rw [← hiz, ← hcu] at HPq
          have i2 : (i : Int) < (n : Int) := by omega
          have w2 : IntKind.i64.wrap ((i : Int) + 1) = (i : Int) + 1 := by rw [IntKind.wrap_i64]; omega
          clear hiz hcu
          cases cu with
          | true =>
            have HSn := Lib.hid (HSt.out iz (by rw [HPq.out]; rfl))
            clear HSt HPq
            go_wp2_with fail
            go_roundw
            case rel => exact ⟨i + 1, _, by omega, by go_num, HSn, Lib.hid (HBi.out.set i _), Lib.hid (HUi.out.setCell _ _)⟩
            case measure => simp [intOf]; omega
          | false =>
            have HSn := Lib.hid (HSt.out false (by rw [HPq.out]; rfl))
            clear HSt HPq
            go_wp2_with fail
            go_roundw
            case rel => exact ⟨i + 1, _, by omega, by go_num, HSn, Lib.hid (HBi.out.set i _), Lib.hid (HUi.out.setCell _ _)⟩
            case measure => simp [intOf]; omega
        · obtain rfl : i = n := by omega
          have t2 : decide ((i : Int) < (i : Int)) = false := decide_eq_false (by omega)
          go_wp2_with fail
          go_roundw
          case rel => exact ⟨j + 1, bs', by omega, by go_num, Lib.hid HSi.out.full, HBi, Lib.hid (HU4.out.trans (HUi.out.less (by omega)))⟩
          case measure => simp [intOf]; omega
    · obtain rfl : j = em := by omega
      have t1 : decide ((j : Int) < (j : Int)) = false := decide_eq_false (by omega)
      have HF := Lib.hid (HFin.out bs (by have := Hem.out; rw [this]; exact HS.out))
      go_wp2_with fail
      go_ret
      exact ⟨⟨g, bs, by omega, rfl, HF.out, HBb.out⟩, HBwo.out⟩
set_option maxRecDepth 100000 in
set_option maxHeartbeats 16000000 in
theorem meant_k4 (f : Nat) (ps : List Ex) (x0 y0 x1 y1 ww : Int) (b o en ec : Nat) (v : Value) (n : Nat) (l : List Int) (w : World) (B : Nat) (hB : B ≤ w.heap.size) (h : IsFlat 3 w B v n l) (h0 : ptCode n l = 0) (he : 2 ≤ en) (heb : en ≤ 140737488355328) (hec : en ≤ ec) (hec2 : ec ≤ 9223372036854775807) (hp1 : Hid (en = ps.length)) (hbl : b < w.heap.size)
    (HPa : Hid (∀ j, j < en → ∃ pv, ExAt w b (o + j * 7) pv ∧ ∀ W, Below w.heap.size w W → Calls Tryz.prog 9 #[pv, v] W (GivesM l n f (ps.getD j noEx) W))) :
    Calls Tryz.prog 9 #[exV 4 x0 y0 x1 y1 ww (some ⟨b, o, none⟩) en ec, v] w (GivesM l n (f + 1) (.mk 4 x0 y0 x1 y1 ww ps) w) := by
  have hn1 := (ptCode_ok h0).1
  have hmk := fun w' => run_make1 el_boolM rfl (n : Int) n rfl (by omega) (by omega) w'
  have HBx : Hid (Below w.heap.size w ((w.alloc (.cells #[.int .i64 4, .int .i64 x0, .int .i64 y0, .int .i64 x1, .int .i64 y1, .int .i64 ww, .slice (some ⟨b, o, none⟩) en ec] 26)).alloc (.cells (Array.replicate n (Value.bool false)) 4))) := Lib.hid (((Below.refl _ _).alloc (Nat.le_refl _) _).alloc (by simp) _)
  have HK : Hid (Blk ((w.alloc (.cells #[.int .i64 4, .int .i64 x0, .int .i64 y0, .int .i64 x1, .int .i64 y1, .int .i64 ww, .slice (some ⟨b, o, none⟩) en ec] 26)).alloc (.cells (Array.replicate n (Value.bool false)) 4)) w.heap.size 26 #[.int .i64 4, .int .i64 x0, .int .i64 y0, .int .i64 x1, .int .i64 y1, .int .i64 ww, .slice (some ⟨b, o, none⟩) en ec]) := Lib.hid ((Blk.new w _ _).alloc _)
  obtain ⟨A, c, rfl, hc, hm, hn, hl, hr, hw⟩ := h
  clear hr hw hm hl
  have HFin : Hid (∀ bs, (bs.length = n ∧ ∀ j, j < n → bs.getD j false = partN 4 f ps l en j) → RowM l n (f + 1) (.mk 4 x0 y0 x1 y1 ww ps) bs) := Lib.hid fun bs hb => ⟨hb.1, fun j hj => by rw [hb.2 j hj, hp1.out, partN_n4]⟩
  have HPs := Lib.hid fun j i (hj : j < en) => (show partN 4 f ps l (j + 1) i = (partN 4 f ps l j i || meansAt l f (ps.getD j noEx) i) by rw [partN_s (by rw [← hp1.out]; exact hj), if_neg (by decide)])
  have HP1 := Lib.hid fun i => partN_1 (k := 4) (f := f) (ps := ps) (l := l) (i := i) (by rw [← hp1.out]; omega)
  obtain ⟨pv0, hat0, hI0⟩ := HPa.out 0 (by omega)
  rw [Nat.zero_mul, Nat.add_zero] at hat0
  have HI0 := Lib.hid hI0
  unfold exV
  go_enter Tryz.func9, Tryz.ntmps9
  go_upto_region 3 with fail
  have hzb := HBx.out.size
  have hkl := HK.out.lt
  obtain ⟨qk, qx0, qy0, qx1, qy1, qw, QA, qn, qc, rfl, d0, d1, d2, d3, d4, d5, d6⟩ := hat0.below HBx.out hbl
  unfold exV at HI0
  have k6 := (HK.out.cell 6).trans rfl
  have e1 : (0 : Int) < (en : Int) := by omega
  generalize ((w.alloc (.cells #[.int .i64 4, .int .i64 x0, .int .i64 y0, .int .i64 x1, .int .i64 y1, .int .i64 ww, .slice (some ⟨b, o, none⟩) en ec] 26)).alloc (.cells (Array.replicate n (Value.bool false)) 4)) = Wb at *
  clear hmk h0 hat0 hI0
  go_upto_region 4 with (go_at_call 9; refine (HI0.out _ HBx.out).mono ?_; rintro e w3 ⟨⟨g, bs0, hg2, rfl, hrm, hbb⟩, hb3⟩; have HM2 := Lib.hid hrm; have HB2 := Lib.hid hbb; have HB3 := Lib.hid hb3; clear hrm hbb hb3)
  have hz3 := HB3.out.size
  have HK3 := Lib.hid (HK.out.below HB3.out hkl)
  have r6 := (HK3.out.cell 6).trans rfl
  clear d0 d1 d2 d3 d4 d5 d6 k6 HI0
  have HBw3 : Hid (Below w.heap.size w w3) := Lib.hid (HBx.out.trans (HB3.out.mono hzb))
  obtain ⟨em, hem⟩ : ∃ m, en = m + 1 := ⟨en - 1, by omega⟩
  obtain ⟨cm, hcm⟩ : ∃ m, ec = m + 1 := ⟨ec - 1, by omega⟩
  have s1 : (1 : Int) ≤ (en : Int) := by omega
  have s2 : (1 : Int) ≤ (ec : Int) := by omega
  have s3 : (en : Int) ≤ (ec : Int) := by omega
  have s4 : ¬ ec = 1 := by omega
  have s5 : ¬ (ec : Int) = 1 := by omega
  go_wp2_with fail
  have Hem := Lib.hid hem
  have hg0 : w.heap.size < g := by omega
  have hgb : b < g := by omega
  clear hem hcm s1 s2 s3 s4 s5 r6 e1
  go_loopw [33] (fun jv wr => ∃ (j : Nat) (bs : List Bool), j ≤ em ∧ jv = .int .i64 j ∧ Hid (bs.length = n ∧ ∀ i, i < n → bs.getD i false = partN 4 f ps l (j + 1) i) ∧ Hid (BBlk 4 wr g bs) ∧ Hid (BelowBut w3.heap.size g w3 wr)) (fun jv _ => em - (intOf jv).toNat)
  case atStart => exact ⟨0, bs0, by omega, rfl, Lib.hid ⟨HM2.out.1, fun i hi => by rw [HM2.out.2 i hi, ← HP1.out i]⟩, HB2, Lib.hid (BelowBut.refl _ _ _)⟩
  case round =>
    obtain ⟨wo, rfl⟩ : ∃ wo : World, wo = wr := ⟨_, rfl⟩
    obtain ⟨j, bs, hj, rfl, HS, HBb, HU⟩ := hrel
    have hzo := HU.out.size
    have hgl := HB2.out.lt
    have HBwo : Hid (Below w.heap.size w wo) := Lib.hid (HBw3.out.trans (HU.out.below (by omega) (by omega)))
    by_cases hlt : j < em
    · have t1 : decide ((j : Int) < (em : Int)) = true := decide_eq_true (by omega)
      have hje : j + 1 < en := by have := Hem.out; omega
      obtain ⟨pv, hat, hI⟩ := HPa.out (j + 1) hje
      rw [show o + (j + 1) * 7 = o + 7 + j * 7 by omega] at hat
      obtain ⟨pk, px0, py0, px1, py1, pw, PA, pn, pc, rfl, c0, c1, c2, c3, c4, c5, c6⟩ := ((hat.below HBw3.out hbl).but HU.out (by omega) (by omega))
      have HI := Lib.hid hI
      unfold exV at HI
      have HPj := Lib.hid fun i => HPs.out (j + 1) i hje
      have i1 : (j : Int) < (em : Int) := by omega
      have w1 : IntKind.i64.wrap ((j : Int) + 1) = (j : Int) + 1 := by rw [IntKind.wrap_i64]; omega
      have HBa := Lib.hid fun ob => (Below.refl wo.heap.size wo).alloc (Nat.le_refl _) ob
      clear hat hI
      go_wp2_with (go_at_call 9; refine (HI.out _ (HBwo.out.trans ((HBa.out _).mono HBwo.out.size))).mono ?_; rintro e w4 ⟨⟨g3, bs3, hg3, rfl, hrm, hbb⟩, hb4⟩; have HM3 := Lib.hid hrm; have HB33 := Lib.hid hbb; have HB4 := Lib.hid ((HBa.out _).trans (hb4.mono (by simp))); simp only [World.size_alloc] at hg3; clear hrm hbb hb4)
      have hz4 := HB4.out.size
      have hkw : w.heap.size < w3.heap.size := by omega
      have HK4 : Hid (Blk w4 w.heap.size 26 #[.int .i64 4, .int .i64 x0, .int .i64 y0, .int .i64 x1, .int .i64 y1, .int .i64 ww, .slice (some ⟨b, o, none⟩) en ec]) := Lib.hid (Blk.below ((HU.out.block w.heap.size hkw (by omega)).trans HK3.out) HB4.out (by omega))
      have HBb4 := Lib.hid (HBb.out.below HB4.out HBb.out.lt)
      have HU4 : Hid (BelowBut w3.heap.size g w3 w4) := Lib.hid (HU.out.trans (.of_below (HB4.out.mono hzo)))
      have hg4 := HBb4.out.lt
      clear c0 c1 c2 c3 c4 c5 c6 HI HBa
      go_loopw [41] (fun iv wq => ∃ (i : Nat) (bs' : List Bool), i ≤ n ∧ iv = .int .i64 i ∧ Hid (RowB n i (fun q => partN 4 f ps l (j + 1 + 1) q) (fun q => partN 4 f ps l (j + 1) q) bs') ∧ Hid (BBlk 4 wq g bs') ∧ Hid (BelowBut w4.heap.size g w4 wq)) (fun iv _ => n - (intOf iv).toNat)
      case atStart => exact ⟨0, bs, by omega, rfl, Lib.hid (RowB.again HS.out _), HBb4, Lib.hid (BelowBut.refl _ _ _)⟩
      case round =>
        obtain ⟨wi, rfl⟩ : ∃ wi : World, wi = wr := ⟨_, rfl⟩
        obtain ⟨i, bs', hi, rfl, HSi, HBi, HUi⟩ := hrel
        by_cases hlt2 : i < n
        · have t2 : decide ((i : Int) < (n : Int)) = true := decide_eq_true (by omega)
          have hg3l := HB33.out.lt
          have c0 := (HUi.out.cell (p := ⟨g3, i, none⟩) hg3l (by show g3 ≠ g; omega)).trans (HB33.out.cell (i := i) (by rw [HM3.out.1]; exact hlt2))
          have hm3 := HM3.out.2 i hlt2
          have hcu := HSi.out.at_ (j := i) hlt2 (Nat.le_refl _)
          have hpj := HPj.out i
          have u0 := HBi.out.cell (i := i) (by rw [HSi.out.1]; exact hlt2)
          have u1 := HBi.out.frozen i
          have HSt := Lib.hid fun bv h => HSi.out.step hlt2 (b := bv) h
          have HKi : Hid (Blk wi w.heap.size 26 #[.int .i64 4, .int .i64 x0, .int .i64 y0, .int .i64 x1, .int .i64 y1, .int .i64 ww, .slice (some ⟨b, o, none⟩) en ec]) := Lib.hid ((HUi.out.block w.heap.size (by omega) (by omega)).trans HK4.out)
          have k0 := (HKi.out.cell 0).trans rfl
          rw [← hm3, ← hcu] at hpj
          have HPq := Lib.hid hpj
          clear hm3 hcu hpj
          obtain ⟨iz, hiz⟩ : ∃ b, b = bs3.getD i false := ⟨_, rfl⟩
          obtain ⟨cu, hcu⟩ : ∃ b, b = bs'.getD i false := ⟨_, rfl⟩
          rw [← hiz] at c0
          rw [← hcu] at u0
          rw [← hiz, ← hcu] at HPq
          have i2 : (i : Int) < (n : Int) := by omega
          have w2 : IntKind.i64.wrap ((i : Int) + 1) = (i : Int) + 1 := by rw [IntKind.wrap_i64]; omega
          clear hiz hcu
          cases cu with
          | true =>
            have HSn := Lib.hid (HSt.out true (by rw [HPq.out]; rfl))
            clear HSt HPq
            go_wp2_with fail
            go_roundw
            case rel => exact ⟨i + 1, _, by omega, by go_num, HSn, Lib.hid (HBi.out.set i _), Lib.hid (HUi.out.setCell _ _)⟩
            case measure => simp [intOf]; omega
          | false =>
            have HSn := Lib.hid (HSt.out iz (by rw [HPq.out]; rfl))
            clear HSt HPq
            go_wp2_with fail
            go_roundw
            case rel => exact ⟨i + 1, _, by omega, by go_num, HSn, Lib.hid (HBi.out.set i _), Lib.hid (HUi.out.setCell _ _)⟩
            case measure => simp [intOf]; omega
        · obtain rfl : i = n := by omega
          have t2 : decide ((i : Int) < (i : Int)) = false := decide_eq_false (by omega)
          go_wp2_with fail
          go_roundw
          case rel => exact ⟨j + 1, bs', by omega, by go_num, Lib.hid HSi.out.full, HBi, Lib.hid (HU4.out.trans (HUi.out.less (by omega)))⟩
          case measure => simp [intOf]; omega
    · obtain rfl : j = em := by omega
      have t1 : decide ((j : Int) < (j : Int)) = false := decide_eq_false (by omega)
      have HF := Lib.hid (HFin.out bs (by have := Hem.out; rw [this]; exact HS.out))
      go_wp2_with fail
      go_ret
      exact ⟨⟨g, bs, by omega, rfl, HF.out, HBb.out⟩, HBwo.out⟩
end Go.Proofs.YtlojecajonhmhaaGreatDoor
