/-
  Contracts of wave.Rank and the reference's WaveRank, and the walk of the law WaveRanks. Conditions: the arguments can be read as data.
-/
import Derived.Test.YteblkbgcnoepnaaWaveRank
import Derived.Test.YteblkbgcnoepnaaRefWaveRead
import Derived.Test.YteblkbgcnoepnaaRefWaveMay
import Derived.Deep.CutRange
import Derived.Lib.QuietBelow
namespace Go.Proofs.Yteblkbgcnoepnaa
open Go Go.RowKit Go.Dam
set_option linter.unusedVariables false
set_option maxRecDepth 100000 in
set_option maxHeartbeats 2000000 in
theorem waveRank_any (v : Value) (rs : List (Int × List Nat)) (x i r cc : Int) (w : World) (B : Nat) (hB : B ≤ w.heap.size) (h : IsWave w B v rs) (hx64 : I64 x) (hi64 : I64 i) (hR : WRankR rs x i r cc) :
    Calls Try.prog 40 #[v, .int .i64 x, .int .i64 i] w fun e w' => e = .returned (.tuple #[.int .i64 r, .int .i64 cc]) ∧ Below w.heap.size w w' := by
  have HLen := Lib.hid fun W (hW : Below w.heap.size w W) => waveLen_any v rs W B (Nat.le_trans hB hW.size) (h.below (hW.mono hB))
  have HMay := Lib.hid fun r hr W (hW : Below w.heap.size w W) => waveMay_any v rs r W B (Nat.le_trans hB hW.size) (h.below (hW.mono hB)) hr
  have HFit := Lib.hid fun r hl hr W (hW : Below w.heap.size w W) => waveFits_any v rs x r W B (Nat.le_trans hB hW.size) (h.below (hW.mono hB)) hx64 hl hr
  obtain ⟨fr, hfr⟩ := fitsW.ex rs.length hx64
  unfold I64 at hi64 hx64
  obtain ⟨s, rfl, h⟩ := h
  have HI := Lib.hid h
  obtain ⟨A, c, vs, rfl, hc, hm, hn, _, _⟩ := h
  have HA := Lib.hid ((Below.refl w.heap.size w).alloc (Nat.le_refl _) (.cells #[.slice A rs.length c] 56))
  rcases hR with ⟨hmw, rfl, rfl⟩ | ⟨hmw, hi, rfl, rfl⟩ | ⟨hmw, j, rfl, hj, hr, rfl⟩
  · have HM := Lib.hid (HMay.out false (mayW_no hmw).symm _ HA.out)
    clear hmw HMay HLen HI HFit hfr
    go_enter Try.func40, Try.ntmps40
    go_wp2_with (go_at_call 36; refine (HM.out).mono ?_; rintro e w1 ⟨rfl, hb⟩)
    go_ret2
    exact ⟨rfl, below_box hb⟩
  · have HM := Lib.hid (HMay.out true (mayW_yes hmw).symm _ HA.out)
    clear hmw HMay HI HFit hfr
    rcases hi with hi | ⟨hi, hi2⟩
    · go_enter Try.func40, Try.ntmps40
      go_wp2_with (go_at_call 36; refine (HM.out).mono ?_; rintro e w1 ⟨rfl, hb⟩)
      go_ret2
      exact ⟨rfl, below_box hb⟩
    · have hi' : ¬ i < 0 := by omega
      go_enter Try.func40, Try.ntmps40
      go_wp2_with (first
        | (go_at_call 36; refine (HM.out).mono ?_; rintro e w1 ⟨rfl, hb⟩; have k0 := box1' hb; have HB1 := Lib.hid (below_box hb); clear hb)
        | (go_at_call 65; refine (HLen.out _ HB1.out).mono ?_; rintro e w2 ⟨rfl, hb2⟩))
      go_ret2
      exact ⟨rfl, HB1.out.trans (hb2.mono HB1.out.size)⟩
  · have HM := Lib.hid (HMay.out true (mayW_yes hmw).symm _ HA.out)
    obtain ⟨n, hln, hn300, hn0, hm21, hrow⟩ := mayWave_len hmw
    have HF := Lib.hid fun W hW => HFit.out fr hm21 hfr W hW
    have hj' : j ≤ n := by omega
    have hj2 : ¬ (j : Int) < 0 := by omega
    have hj3 : ¬ lenW rs < (j : Int) := by omega
    have hfr' : (fr = false ∧ r = 0) ∨ (fr = true ∧ ∃ y : Nat, x = y ∧ y < 9223372036854775808 ∧ y / 2 ^ rs.length = 0) := by
      rcases hfr with ⟨h1, h2⟩ | ⟨y, h1, h2, h3⟩
      · exact .inl ⟨h2, by rw [hr, rankW_none (.inl h1)]; rfl⟩
      · by_cases h4 : y / 2 ^ rs.length = 0
        · exact .inr ⟨by rw [h3]; exact decide_eq_true h4, y, h1, h2, h4⟩
        · exact .inl ⟨by rw [h3]; exact decide_eq_false h4, by rw [hr, rankW_none (.inr ⟨y, h1, Nat.pos_of_ne_zero h4⟩)]; rfl⟩
    clear hfr
    rcases hfr' with ⟨rfl, rfl⟩ | ⟨rfl, y, rfl, hy, hy2⟩
    · clear hmw HMay HFit HI hrow hr
      go_enter Try.func40, Try.ntmps40
      go_wp2_with (first
        | (go_at_call 36; refine (HM.out).mono ?_; rintro e w1 ⟨rfl, hb⟩; have k0 := box1' hb; have HB1 := Lib.hid (below_box hb); have hz1 := size_box hb; clear hb)
        | (go_at_call 65; refine (HLen.out _ HB1.out).mono ?_; rintro e w2 ⟨rfl, hb2⟩; have k1 := (hb2.cell (p := ⟨w.heap.size, 0, none⟩) hz1).trans k0; have HB2 := Lib.hid (HB1.out.trans (hb2.mono HB1.out.size)); clear hb2)
        | (go_at_call 69; refine (HF.out _ HB2.out).mono ?_; rintro e w3 ⟨rfl, hb3⟩))
      go_ret2
      exact ⟨rfl, HB2.out.trans (hb3.mono HB2.out.size)⟩
    · have HR := Lib.hid hr
      have HRow := Lib.hid hrow
      have HLn := Lib.hid hln
      have HY2 := Lib.hid hy2
      have HBit := Lib.hid fun i => bit_at y i hy
      clear hmw HMay HFit hrow hr hln hn0 hy2
      go_enter Try.func40, Try.ntmps40
      go_wp2_with (first
        | (go_at_call 36; refine (HM.out).mono ?_; rintro e w1 ⟨rfl, hb⟩; have k0 := box1' hb; have HB1 := Lib.hid (below_box hb); have hz1 := size_box hb; clear hb)
        | (go_at_call 65; refine (HLen.out _ HB1.out).mono ?_; rintro e w2 ⟨rfl, hb2⟩; have k1 := (hb2.cell (p := ⟨w.heap.size, 0, none⟩) hz1).trans k0; have hz2 := hb2.size; have HB2 := Lib.hid (HB1.out.trans (hb2.mono HB1.out.size)); clear hb2)
        | (go_at_call 69; refine (HF.out _ HB2.out).mono ?_; rintro e w3 ⟨rfl, hb3⟩; have k2 := (hb3.cell (p := ⟨w.heap.size, 0, none⟩) (by simp; omega)).trans k1; have HB3 := Lib.hid (HB2.out.trans (hb3.mono HB2.out.size)); have hz3 := hb3.size; clear hb3))
      clear HM HLen HF
      go_loopw [8, 9, 35] (fun av bv kv wr => ∃ k a b' : Nat, k ≤ rs.length ∧ kv = .int .i64 k ∧ av = .int .i64 a ∧ bv = .int .i64 b' ∧ Seg n (rowsW rs) (fun q => decide (0 ≤ q ∧ q < j)) k (y / 2 ^ (rs.length - k)) a b' ∧ Below w3.heap.size w3 wr) (fun _ _ kv _ => rs.length - (intOf kv).toNat)
      case atStart => exact ⟨0, 0, j, by omega, rfl, rfl, rfl, by rw [Nat.sub_zero, HY2.out]; exact Seg.start n _ (Nat.zero_le _) hj', Below.refl _ _⟩
      case round =>
        obtain ⟨k, a, b', hk, rfl, rfl, rfl, hseg, hbel⟩ := hrel
        have HBe : Hid (Below w.heap.size w wr) := Lib.hid (HB3.out.trans (hbel.mono HB3.out.size))
        have k3 := (hbel.cell (p := ⟨w.heap.size, 0, none⟩) (by simp; omega)).trans k2
        have hz := hbel.size
        have hzw : w.heap.size < wr.heap.size := by omega
        have HBx := Lib.hid hbel
        have hbn := hseg.1
        have hab := hseg.2.1
        clear hbel
        by_cases hlt : k < rs.length
        · obtain ⟨_, b, off, rfl, hb, hrows⟩ := rows_at HI.out (by omega)
          obtain ⟨sv, c0, c1, hln64, hws⟩ := hrows k hlt
          obtain ⟨e1, hmk⟩ := HRow.out k hlt
          rw [← rowsW_at] at hws
          rw [e1] at c0 hln64
          obtain ⟨q, hq⟩ : ∃ q, rs.length = k + 1 + q := ⟨rs.length - (k + 1), by omega⟩
          have HSeg := Lib.hid (hseg.down (y.testBit (rs.length - 1 - k)))
          rw [← bits_down y rs.length k hlt] at HSeg
          have hqi : (rs.length : Int) - 1 - (k : Int) = (q : Int) := by omega
          have hbt := HBit.out q
          rw [show rs.length - 1 - k = q from by omega] at HSeg
          generalize (rowsW rs).getD k [] = ws at *
          have hws2 := hws
          obtain ⟨As, cs, rfl, _⟩ := hws2
          have d0 := (HBe.out.cell (p := ⟨b, off + k * 2, none⟩) (by simp; omega)).trans c0
          have d1 := (HBe.out.cell (p := ⟨b, off + k * 2 + 1, none⟩) (by simp; omega)).trans c1
          have HDn := Lib.hid fun one p (hp : p ≤ n) W (hW : Below w.heap.size w W) => waveDown_any (.agg #[.int .i64 n, .slice As ws.length cs]) n p ws one W B (Nat.le_trans hB hW.size) ⟨_, rfl, hln64, hws.below (hW.mono hB)⟩ hmk hp
          clear hrows c0 c1 hws hmk HI hseg hq
          cases hbb : y.testBit q
          all_goals
            rw [hbb] at HSeg hbt
            simp only [Bool.false_eq_true, if_false, if_true] at hbt
            have HBWr := Lib.hid (HBe.out.alloc (by omega) (.cells #[.int .i64 n, .slice As ws.length cs] 24))
            have p0r : (wr.alloc (.cells #[.int .i64 n, .slice As ws.length cs] 24)).cell? ⟨wr.heap.size, 0, none⟩ = some (.int .i64 n) := by simp
            have p1r : (wr.alloc (.cells #[.int .i64 n, .slice As ws.length cs] 24)).cell? ⟨wr.heap.size, 1, none⟩ = some (.slice As ws.length cs) := by simp
            go_wp2_with fail
            have HQw5 := Lib.hid fun d os => (HBWr.out.trans ((below_regrown (wr.alloc (.cells #[.int .i64 n, .slice As ws.length cs] 24)) d os).mono HBWr.out.size))
            have HDw5 := Lib.hid fun one p (hp : p ≤ n) d os => Calls.regrown_of (HDn.out one p hp (Sort.grow (redrawn (wr.alloc (.cells #[.int .i64 n, .slice As ws.length cs] 24)) d) os) (HQw5.out d os))
            have q0 := fun d os => cell_regrown p0r d os
            have q1 := fun d os => cell_regrown p1r d os
            refine wp_region_quiet_below (by kernel_rfl) (by kernel_rfl) ?_
            repeat (quiet_step ((go_at_call 67; exact HDw5.out _ _ (by omega) _ _)))
            refine wpQuiet_nil ?_
            intro _ hw'
            obtain ⟨⟨dq, osq⟩, hw''⟩ := hw'
            subst hw''
            have HBWw5 := Lib.hid (HQw5.out dq osq)
            have HGrw5 := Lib.hid (below_regrown (wr.alloc (.cells #[.int .i64 n, .slice As ws.length cs] 24)) dq osq)
            have p0w5 := cell_regrown p0r dq osq
            have p1w5 := cell_regrown p1r dq osq
            generalize Sort.grow (redrawn (wr.alloc (.cells #[.int .i64 n, .slice As ws.length cs] 24)) dq) osq = ww5 at *
            clear q0 q1 HDw5 HQw5 p0r p1r
            go_wp2_with fail
            go_roundw
            case rel => exact ⟨k + 1, _, _, by omega, by go_num, rfl, rfl, HSeg.out, HBx.out.trans (((Below.refl _ _).alloc (by omega) _).trans (HGrw5.out.mono (by simp; omega)))⟩
            case measure => simp [intOf]; omega
        · obtain rfl : k = rs.length := by omega
          rw [Nat.sub_self, Nat.pow_zero, Nat.div_one] at hseg
          have HE : Hid (r = ((b' - a : Nat) : Int)) := Lib.hid (by rw [HR.out, rank_end HLn.out hj' hseg])
          have e : ((b' : Int) - (a : Int)) = r := by rw [HE.out]; omega
          clear hseg
          go_wp2_with fail
          go_ret2
          exact ⟨rfl, HBe.out⟩
set_option maxRecDepth 100000 in
set_option maxHeartbeats 2000000 in
theorem refWaveRank_any (v : Value) (rs : List (Int × List Nat)) (x i r cc : Int) (w : World) (B : Nat) (hB : B ≤ w.heap.size) (h : IsWave w B v rs) (hx64 : I64 x) (hi64 : I64 i) (hR : WRankR rs x i r cc) :
    Calls Try.prog 41 #[v, .int .i64 x, .int .i64 i] w fun e w' => e = .returned (.tuple #[.int .i64 r, .int .i64 cc]) ∧ Below w.heap.size w w' := by
  unfold I64 at hi64 hx64
  have HMay := Lib.hid fun r hr W (hW : Below w.heap.size w W) => refWaveMay_any v rs r W B (Nat.le_trans hB hW.size) (h.below (hW.mono hB)) hr
  have HRd := Lib.hid fun n hm hn W (hW : Below w.heap.size w W) => refWaveRead_any v rs n W B (Nat.le_trans hB hW.size) (h.below (hW.mono hB)) hm hn
  obtain ⟨s, rfl, h⟩ := h
  obtain ⟨A, c, vs, rfl, hc, hm, hn, _, _⟩ := h
  have HA := Lib.hid ((Below.refl w.heap.size w).alloc (Nat.le_refl _) (.cells #[.slice A rs.length c] 56))
  rcases hR with ⟨hmw, rfl, rfl⟩ | ⟨hmw, hi, rfl, rfl⟩ | ⟨hmw, j, rfl, hj, hr, rfl⟩
  · have HM := Lib.hid (HMay.out false (mayW_no hmw).symm _ HA.out)
    clear hmw HMay HRd
    go_enter Try.func41, Try.ntmps41
    go_wp2_with (go_at_call 37; refine (HM.out).mono ?_; rintro e w1 ⟨rfl, hb⟩)
    go_ret2
    exact ⟨rfl, below_box hb⟩
  · have HM := Lib.hid (HMay.out true (mayW_yes hmw).symm _ HA.out)
    obtain ⟨n, hln, hn300, hn0, hm21, hrow⟩ := mayWave_len hmw
    have HR := Lib.hid (HRd.out n hmw hln)
    have HL : Hid ((toInts (tab (valW n (rowsW rs) rs.length) n)).length = n) := Lib.hid (tabI_len _ _)
    rw [hln] at hi
    clear hmw HMay HRd hrow hln hn0
    have hi' : i < 0 ∨ (¬ i < 0 ∧ (n : Int) < i) := by omega
    clear hi
    rcases hi' with hi | ⟨hi, hi2⟩
    all_goals
      go_enter Try.func41, Try.ntmps41
      go_wp2_with (first
        | (go_at_call 37; refine (HM.out).mono ?_; rintro e w1 ⟨rfl, hb⟩; have k0 := box1' hb; have HB1 := Lib.hid (below_box hb); clear hb)
        | (go_at_call 68; refine (HR.out _ HB1.out).mono ?_; rintro e w2 ⟨u, rfl, hu, hb2⟩; obtain ⟨Au, cu, hveq, _⟩ := hu; rw [HL.out] at hveq; subst hveq))
      go_ret2
      exact ⟨rfl, HB1.out.trans (hb2.mono HB1.out.size)⟩
  · have HM := Lib.hid (HMay.out true (mayW_yes hmw).symm _ HA.out)
    obtain ⟨n, hln, hn300, hn0, hm21, hrow⟩ := mayWave_len hmw
    have HR := Lib.hid (HRd.out n hmw hln)
    have HL : Hid ((toInts (tab (valW n (rowsW rs) rs.length) n)).length = n) := Lib.hid (tabI_len _ _)
    rw [hln] at hj
    have hjn : j ≤ n := by omega
    have hj0 : ¬ (j : Int) < 0 := by omega
    have hj1 : ¬ (n : Int) < (j : Int) := by omega
    have HV : Hid (∀ t, t < n → (toInts (tab (valW n (rowsW rs) rs.length) n)).getD t 0 = ((numW rs t : Nat) : Int)) := Lib.hid fun t ht => by rw [tabI_at ht, numW_eq hln]
    have HRk := Lib.hid hr
    have HNb : Hid (∀ t, numW rs t < 2097152) := Lib.hid fun t => by rw [numW_eq hln]; exact valW_bound hm21
    clear hmw HMay HRd hrow hln hn0 hr
    go_enter Try.func41, Try.ntmps41
    go_upto_region 7 with (first
      | (go_at_call 37; refine (HM.out).mono ?_; rintro e w1 ⟨rfl, hb⟩; have k0 := box1' hb; have HB1 := Lib.hid (below_box hb); clear hb)
      | (go_at_call 68; refine (HR.out _ HB1.out).mono ?_; rintro e w2 ⟨u, rfl, hu, hb2⟩; have HU := Lib.hid hu; obtain ⟨Au, cu, hveq, _⟩ := hu; rw [HL.out] at hveq; subst hveq; have HB2 := Lib.hid (HB1.out.trans (hb2.mono HB1.out.size))))
    obtain ⟨Au', cu', hveq, hcu, _, _, hru, _⟩ := HU.out
    obtain ⟨rfl, rfl⟩ : Au = Au' ∧ cu = cu' := by injection hveq with a _ b; exact ⟨a, b⟩
    rw [HL.out] at hcu
    have HRu := Lib.hid hru
    have hjc : j ≤ cu := by omega
    clear hveq hru HU
    rcases Nat.eq_zero_or_pos n with h0 | h0
    · obtain rfl : j = 0 := by omega
      have e0 : r = 0 := by rw [HRk.out, rankW_0]; rfl
      cases Au
      all_goals
        go_wp2_with fail
        go_loop [9, 29] (fun nv kv => nv = .int .i64 r ∧ kv = .int .i64 0) (fun _ _ => 0)
        case atStart => exact ⟨by rw [e0], rfl⟩
        case round =>
          obtain ⟨rfl, rfl⟩ := hrel
          clear e0
          go_wp2_with fail
          go_ret2
          exact ⟨rfl, HB2.out⟩
    · obtain ⟨bu, offu, rfl, _, hcell⟩ := ints_cells HRu.out (by rw [HL.out]; exact h0)
      have HC : Hid (∀ t, t < n → w2.cell? ⟨bu, offu + t, none⟩ = some (.int .i64 ((numW rs t : Nat) : Int))) := Lib.hid fun t ht => by rw [hcell t (by rw [HL.out]; exact ht), HV.out t ht]
      clear hcell
      go_wp2_with fail
      go_loop [9, 29] (fun nv kv => ∃ t : Nat, t ≤ j ∧ kv = .int .i64 t ∧ nv = .int .i64 ((rankW rs x t : Nat) : Int)) (fun _ kv => j - (intOf kv).toNat)
      case atStart => exact ⟨0, by omega, rfl, by rw [rankW_0]; rfl⟩
      case round =>
        obtain ⟨t, ht, rfl, rfl⟩ := hrel
        by_cases htj : t < j
        · have kc := HC.out t (by omega)
          have hle := rankW_le rs x t
          have hnb := HNb.out t
          by_cases he : (numW rs t : Int) = x
          · have HS := Lib.hid (rankW_yes he)
            have hd : ((numW rs t : Int) == x) = true := by simpa using he
            clear he
            generalize rankW rs x t = q at *
            generalize numW rs t = y at *
            go_wp2_with fail
            go_round
            case rel => exact ⟨t + 1, by omega, by go_num, by rw [HS.out]; go_num⟩
            case measure => simp [intOf]; omega
          · have HS := Lib.hid (rankW_no he)
            have hd : ((numW rs t : Int) == x) = false := by simpa using he
            clear he
            generalize rankW rs x t = q at *
            generalize numW rs t = y at *
            go_wp2_with fail
            go_round
            case rel => exact ⟨t + 1, by omega, by go_num, by rw [HS.out]⟩
            case measure => simp [intOf]; omega
        · obtain rfl : t = j := by omega
          rw [← HRk.out]
          go_wp2_with fail
          go_ret2
          exact ⟨rfl, HB2.out⟩
theorem waveRanks_walk (v u u2 : Value) (w : World) (h : ∃ rs, IsWave w w.heap.size v rs) (h' : ∃ x : Int, u = .int .i64 x ∧ I64 x) (h'' : ∃ x : Int, u2 = .int .i64 x ∧ I64 x) :
    Calls Try.prog 14 #[v, u, u2] w fun e w' => e = .returned (.bool true) ∧ Below w.heap.size w w' := by
  obtain ⟨rs, h⟩ := h
  obtain ⟨x, rfl, hx⟩ := h'
  obtain ⟨i, rfl, hi⟩ := h''
  obtain ⟨r, cc, hR⟩ := WRankR.ex rs x i
  have C1 := Lib.hid fun W (hW : Below w.heap.size w W) => waveRank_any v rs x i r cc W _ hW.size (h.below hW) hx hi hR
  have C2 := Lib.hid fun W (hW : Below w.heap.size w W) => refWaveRank_any v rs x i r cc W _ hW.size (h.below hW) hx hi hR
  obtain ⟨s, rfl, h⟩ := h
  obtain ⟨A, c, vs, rfl, hc, hm, hn, _, _⟩ := h
  unfold I64 at hi hx
  clear hR
  go_enter Try.func14, Try.ntmps14
  go_wp2_with (first
    | (go_at_call 40; refine (C1.out _ ((Below.refl _ _).alloc (Nat.le_refl _) _)).mono ?_; rintro e w1 ⟨rfl, hb⟩; have k0 := box1' hb; have HB := Lib.hid (below_box hb); clear hb)
    | (go_at_call 41; refine (C2.out _ HB.out).mono ?_; rintro e w2 ⟨rfl, hb2⟩))
  all_goals (go_ret; exact ⟨ret_bool (by simp), HB.out.trans (hb2.mono HB.out.size)⟩)
end Go.Proofs.Yteblkbgcnoepnaa
