/-
  Texts of one claim behind each other. Conditions: none of its own.
-/
import Derived.Test.YtdmfhpigchbcbaaMTopCover09
import Derived.Test.YtdmfhpigchbcbaaMTopCover50
import Derived.Test.YtdmfhpigchbcbaaMTopCover52
import Derived.Test.YtdmfhpigchbcbaaMTopCover53
/-
  Plain words of the law TopCover, no program in sight: codes of points below 256, counts by one more point, spans one by one. Conditions: none.
-/
namespace Go.Dam
open Go Go.RowKit Go.Proofs.Ytdmfhpigchbcbaa
set_option linter.unusedVariables false
theorem zip_code {x y : Nat} (hx : x < 256) (hy : y < 256) : zipB x y 21 = cdK 8 x y := by
  rw [show 21 = 8 + 13 from rfl, zip_more x y 8 (by omega) (by omega) 13, cdK_zip]
theorem inC_code {x y : Nat} (hx : x < 256) (hy : y < 256) (x0 y0 x1 y1 : Int) : inC x0 y0 x1 y1 (cdK 8 x y) = inR (x : Int) (y : Int) x0 y0 x1 y1 := by
  unfold inC inR
  rw [dxK_cd 8 x y (by omega), dyK_cd 8 x y (by omega)]
theorem cntIn_succ (l : List Int) (n : Nat) (x0 y0 x1 y1 : Int) : cntIn l (n + 1) x0 y0 x1 y1 = cntIn l n x0 y0 x1 y1 + if inP l x0 y0 x1 y1 n = true then 1 else 0 := by
  unfold cntIn
  rw [List.range_succ, List.filter_append, List.length_append, filter_one]
  cases inP l x0 y0 x1 y1 n <;> rfl
theorem flatR_at : ∀ (L : List (Nat × Nat)) (k : Nat), k < L.length → (flatR L).getD (k * 2) 0 = ((L.getD k (0, 0)).1 : Int) ∧ (flatR L).getD (k * 2 + 1) 0 = ((L.getD k (0, 0)).2 : Int)
  | [], k, h => absurd h (by simp)
  | p :: L, 0, h => by unfold flatR; exact ⟨rfl, rfl⟩
  | p :: L, k + 1, h => by
    have ih := flatR_at L k (by simpa using h)
    have e : flatR (p :: L) = [(p.1 : Int), (p.2 : Int)] ++ flatR L := by unfold flatR; rfl
    rw [e, getD_appr (k * 2) (by simp; omega), getD_appr (k * 2 + 1) (by simp; omega)]
    exact ih
theorem inSpans_take {L : List (Nat × Nat)} {k : Nat} (h : k < L.length) (c : Nat) : inSpans (L.take (k + 1)) c = inSpans (L.take k) c + if (L.getD k (0, 0)).1 ≤ c ∧ c ≤ (L.getD k (0, 0)).2 then 1 else 0 := by
  rw [List.take_succ_eq_append_getElem h, List.getD_eq_getElem?_getD, List.getElem?_eq_getElem h]
  exact inSpans_snoc _ _ _ c
/-- A point's code is in one span if the point is in the rectangle, else in none. -/
theorem cover_cnt {x y : Nat} (hx : x < 256) (hy : y < 256) (x0 y0 x1 y1 : Int) : inSpans (runsK (inC x0 y0 x1 y1) 65536) (cdK 8 x y) = if inR (x : Int) (y : Int) x0 y0 x1 y1 = true then 1 else 0 := by
  rw [inSpans_runs, inC_code hx hy]
  have := cdK_lt 8 x y
  by_cases h : inR (x : Int) (y : Int) x0 y0 x1 y1 = true
  · rw [if_pos h, if_pos ⟨by omega, h⟩]
  · rw [if_neg h, if_neg fun e => h e.2]
theorem cover_some {x0 y0 x1 y1 : Int} (h : 0 ≤ x0 ∧ x0 ≤ x1 ∧ x1 < 256 ∧ 0 ≤ y0 ∧ y0 ≤ y1 ∧ y1 < 256) : 0 < (runsK (inC x0 y0 x1 y1) 65536).length := by
  obtain ⟨h1, h2, h3, h4, h5, h6⟩ := h
  obtain ⟨x, rfl⟩ := Int.eq_ofNat_of_zero_le h1
  obtain ⟨y, rfl⟩ := Int.eq_ofNat_of_zero_le h4
  have := cdK_lt 8 x y
  refine runs_some (c := cdK 8 x y) (by omega) ?_
  rw [inC_code (by omega) (by omega)]
  unfold inR
  simp; omega
end Go.Dam

/-
  The walk of the law TopCover. Conditions: the arguments can be read as data.
-/
namespace Go.Dam
open Go Go.RowKit Go.Proofs.Ytdmfhpigchbcbaa
set_option linter.unusedVariables false
theorem pick_code {l : List Int} {n : Nat} (hn : n ≤ 60) : ptCode n (pickP l 256 n) = 0 := by
  have hl := pickP_len l 256 n
  refine ptCode_0 (by omega) (anyN_no fun i hi => ?_)
  have hg : ∀ j, j < n * 3 → coordOk ((pickP l 256 n).getD j 0) = true := fun j hj => by
    have hm : (pickP l 256 n).getD j 0 ∈ pickP l 256 n := by rw [List.getD_eq_getElem?_getD, List.getElem?_eq_getElem (by omega)]; exact List.getElem_mem _
    have := pickP_wf (l := l) (b := 256) (by omega) n _ hm
    generalize (pickP l 256 n).getD j 0 = y at this
    simp [coordOk]; omega
  rw [← badPt_eq, hg _ (by omega), hg _ (by omega), hg _ (by omega)]; rfl
end Go.Dam
namespace Go.Proofs.Ytdmfhpigchbcbaa
open Go Go.RowKit Go.Dam
set_option linter.unusedVariables false
set_option maxRecDepth 100000 in
set_option maxHeartbeats 8000000 in
theorem topCover_walk (v u1 u2 u3 u4 : Value) (w : World) (h : ∃ n l, IsFlat 3 w w.heap.size v n l) (h1 : ∃ x : Int, u1 = .int .i64 x ∧ I64 x) (h2 : ∃ x : Int, u2 = .int .i64 x ∧ I64 x) (h3 : ∃ x : Int, u3 = .int .i64 x ∧ I64 x) (h4 : ∃ x : Int, u4 = .int .i64 x ∧ I64 x) :
    Calls Try.prog 4 #[v, u1, u2, u3, u4] w fun e w' => e = .returned (.bool true) ∧ Below w.heap.size w w' := by
  obtain ⟨len, l, h⟩ := h
  obtain ⟨a, rfl, ha⟩ := h1
  obtain ⟨b, rfl, hb⟩ := h2
  obtain ⟨c, rfl, hc⟩ := h3
  obtain ⟨d, rfl, hd⟩ := h4
  have HNum := Lib.hid (keepPoints_any v l len 60 256 w _ (Nat.le_refl _) h (by omega) (by omega))
  have HRec := Lib.hid fun W => rectOf_any a b c d 256 W ha hb hc hd (by omega)
  obtain ⟨n, hn⟩ : ∃ n, min len 60 = n := ⟨_, rfl⟩
  rw [hn] at HNum
  have hn1 : n ≤ 60 := by omega
  have HPl := Lib.hid (pickP_len l 256 n)
  have HPw := Lib.hid (pickP_wf (l := l) (b := 256) (by omega) n)
  have HPc := Lib.hid (pick_code (l := l) hn1)
  have HPa := Lib.hid (fun i (hi : i < n) => pickP_at (l := l) (b := 256) (by omega) n i hi)
  have HWf : Hid (∀ z ∈ pickP l 256 n, (Lit.int .i64 z).wf = true) := Lib.hid fun z hz => by have := HPw.out z hz; exact WalkArith.wf_i64 (by omega)
  obtain ⟨ps, hps⟩ : ∃ ps, pickP l (256 : Int) n = ps := ⟨_, rfl⟩
  have hps' : pickP l (((256 : Nat) : Int)) n = ps := hps
  have HPS := Lib.hid hps'
  rw [hps] at HPl HPw HPc HPa HWf
  obtain ⟨A, cc, rfl, x1, x2, x3, x4, x5, x6⟩ := h
  clear x4 x5 x6 ha hb hc hd hn hps hps'
  go_enter Try.func4, Try.ntmps4
  go_wp2_with (first
    | (go_at_call 13; refine (HNum.out).mono ?_; rintro e w1 ⟨⟨yy, k1, rfl, rfl, hown1⟩, hb1⟩; rw [HPS.out] at hown1; have HO1 := Lib.hid hown1; obtain ⟨A1, c1, rfl⟩ := own_shape hown1; have hz1 := hb1.size; have HB1 := Lib.hid hb1; clear hown1 hb1)
    | (go_at_call 14; refine (HRec.out _).mono ?_; rintro e w2 ⟨⟨x0, y0, x1, y1, rfl, g1, g2, g3, g4, g5, g6⟩, hb2⟩; have HO2 := Lib.hid (own_size HO1.out hb2); have HB2 := Lib.hid (HB1.out.trans (hb2.mono hz1)); clear hb2; have hz2 := HB2.out.size; have HCov := Lib.hid fun W => mortonCover_any x0 y0 x1 y1 _ 0 W (.inr ⟨by unfold BadCover; omega, rfl, rfl⟩))
    | (go_at_call 15; refine (HCov.out _).mono ?_; rintro e w3 ⟨v3, k3, rfl, hk3, hf3, hb3⟩; obtain ⟨A3, c3, rfl, f1, f2, f3, f4, f5, f6⟩ := hf3; have HF4 := Lib.hid f4; have HF5 := Lib.hid f5; clear f4 f5 f6; have hz3 := hb3.size; have hsz3 := size_box hb3; have hbx := Box4.keep (Box4.new (w := w2) (t := 51) rfl) (fun p hp => hb3.cell (p := p) (by rw [hp]; simp)); have HBX := Lib.hid hbx; have HO3 := Lib.hid (own_size HO2.out (below_box hb3)); have HB3 := Lib.hid (HB2.out.trans ((below_box hb3).mono hz2)); clear hb3 hbx))
  have HPt := Lib.hid fun W h => topPoints_any (.slice A1 k1 c1) k1 ps W w.heap.size h (by omega) HWf.out
  have HCn := Lib.hid fun u W (hf : IsFlat 3 W W.heap.size u k1 ps) => gridCount_any x0 y0 x1 y1 u k1 ps W _ (Nat.le_refl _) hf
  rw [HPc.out] at HCn
  obtain ⟨b0, b1, b2, b3⟩ := HBX.out
  go_region_held3 (fun w' => w'.cell? ⟨w2.heap.size, 0, none⟩ = some (.int .i64 x0) ∧ w'.cell? ⟨w2.heap.size, 1, none⟩ = some (.int .i64 y0) ∧ w'.cell? ⟨w2.heap.size, 2, none⟩ = some (.int .i64 x1) ∧ w'.cell? ⟨w2.heap.size, 3, none⟩ = some (.int .i64 y1))
    (first
    | exact ⟨by assumption, by assumption, by assumption, by assumption⟩)
    (first
    | (go_at_call 17; refine (HPt.out _ (by first | exact HO3.out | exact HO3.out.drew)).mono ?_; rintro e w4 ⟨x4, rfl, hi4, hb4⟩; have HI4 := Lib.hid hi4; have hz4 : w3.heap.size ≤ w4.heap.size := hb4.size; obtain ⟨d0, d1, d2, d3⟩ := HBX.out.keep (fun p hp => hb4.cell (p := p) (by show p.block < w3.heap.size; rw [hp]; omega)); have HO4 := Lib.hid (own_size HO3.out.drew hb4); have HB34 : Hid (Below w3.heap.size w3 w4) := Lib.hid ((Below.refl w3.heap.size w3).drew.trans hb4); have HB4 := Lib.hid (HB3.out.drew.trans (hb4.mono (show w.heap.size ≤ w3.heap.size by omega))); clear hi4 hb4)
    | (go_at_call 16; refine (HCn.out _ _ (by first | exact HI4.out | exact HI4.out.below ((Below.refl _ _).drew))).mono ?_; rintro e w5 ⟨⟨ct, rfl, hct⟩, hb5⟩; obtain ⟨e0, e1, e2, e3⟩ : Box4 w5 w2.heap.size (.int .i64 x0) (.int .i64 y0) (.int .i64 x1) (.int .i64 y1) := Box4.keep ⟨d0, d1, d2, d3⟩ (fun p hp => hb5.cell (p := p) (by show p.block < w4.heap.size; rw [hp]; omega)); have HO5 : Hid (w5.ownsRow w.heap.size 60 3 (.slice A1 k1 c1) k1 (ps.map (Value.int .i64))) := Lib.hid (by first | exact own_size HO4.out hb5 | exact own_size HO4.out.drew hb5); have HB35 : Hid (Below w3.heap.size w3 w5) := Lib.hid (by first | exact HB34.out.trans (hb5.mono HB34.out.size) | exact HB34.out.drew.trans (hb5.mono HB34.out.size)); have HB5 : Hid (Below w.heap.size w w5) := Lib.hid (by first | exact HB4.out.trans (hb5.mono HB4.out.size) | exact HB4.out.drew.trans (hb5.mono HB4.out.size)); have HCt := Lib.hid (hct.1 HPc.out); clear hct hb5))
  obtain ⟨L, hL⟩ : ∃ L, runsK (inC x0 y0 x1 y1) 65536 = L := ⟨_, rfl⟩
  have hk0 := cover_some (x0 := x0) (y0 := y0) (x1 := x1) (y1 := y1) ⟨g1, g2, by omega, g4, g5, by omega⟩
  rw [hL] at HF4 HF5 hk0
  have HLc := Lib.hid fun x y hx hy => cover_cnt (x := x) (y := y) hx hy x0 y0 x1 y1
  rw [hL] at HLc
  have hll := flatR_len L
  have hl3 : L.length = k3 := by have := HF4.out; omega
  obtain ⟨rb, ro, rfl, hrb, hrc⟩ := flat_cells HF5.out HF4.out (by omega) (by omega)
  have HRc := Lib.hid hrc
  have HL3 := Lib.hid hl3
  obtain rfl := HCt.out
  have hk3 : 0 < k3 := by omega
  clear hrc hL hll hl3
  have t0 : decide ((k3 : Int) = 0) = false := decide_eq_false (by omega)
  have t0' : ((k3 : Int) == 0) = false := beq_eq_false_iff_ne.2 (by omega)
  go_wp2_with fail
  go_loopw [17, 18, 19, 20, 21] (fun nv iv _ _ _ wr => ∃ i : Nat, i ≤ k1 ∧ nv = .int .i64 (cntIn ps i x0 y0 x1 y1 : Nat) ∧ iv = .int .i64 i ∧ Drawn w5 wr) (fun _ iv _ _ _ _ => k1 - (intOf iv).toNat)
  case atStart => exact ⟨0, by omega, by rw [cntIn_0]; rfl, rfl, Drawn.refl _⟩
  case round =>
    obtain ⟨i, hi, rfl, rfl, hd⟩ := hrel
    by_cases hlt : i < k1
    · have t1 : decide ((i : Int) < (k1 : Int)) = true := decide_eq_true (by omega)
      obtain ⟨A', c', hv, _, _, _, hl3, hr3, _⟩ := own_flat HO5.out (by omega) HWf.out
      injection hv with hv1 _ hv2
      subst hv1 hv2
      obtain ⟨pb, po, rfl, hpb, hpc⟩ := flat_cells hr3 hl3 (by omega) (by omega)
      have p0 := (hd.cell ⟨pb, po + i * 3, none⟩).trans (hpc (i * 3) (by omega))
      have p1 := (hd.cell ⟨pb, po + (i * 3 + 1), none⟩).trans (hpc (i * 3 + 1) (by omega))
      rw [← Nat.add_assoc] at p1
      have hin := cntIn_succ ps i x0 y0 x1 y1
      unfold inP at hin
      obtain ⟨⟨q1, q2⟩, q3, q4⟩ := HPa.out i hlt
      obtain ⟨X, hX⟩ := Int.eq_ofNat_of_zero_le q1
      obtain ⟨Y, hY⟩ := Int.eq_ofNat_of_zero_le q3
      rw [hX] at p0 hin q2
      rw [hY] at p1 hin q4
      rw [← HLc.out X Y (by omega) (by omega)] at hin
      have HCode := Lib.hid fun W => code_any (X : Int) (Y : Int) (cdK 8 X Y : Nat) 0 W (.inl ⟨by omega, by omega, by omega, by omega, by rw [Int.toNat_natCast, Int.toNat_natCast, zip_code (by omega) (by omega)], rfl⟩)
      generalize cdK 8 X Y = C at *
      have HIn := Lib.hid hin
      have hci := cntIn_le ps i x0 y0 x1 y1
      generalize cntIn ps i x0 y0 x1 y1 = N at *
      have HD := Lib.hid hd
      clear hin hpc hr3 hl3 hd
      go_wp2_with fail
      go_quiet ((go_at_call 18; exact quiet_of_same (HCode.out _)))
      go_wp2_with fail
      go_loopw [17, 21] (fun nv kv wi => ∃ k : Nat, k ≤ k3 ∧ nv = .int .i64 (N + inSpans (L.take k) C : Nat) ∧ kv = .int .i64 k ∧ Drawn w5 wi) (fun _ kv _ => k3 - (intOf kv).toNat)
      case atStart => exact ⟨0, by omega, by rw [List.take_zero, inSpans_nil, Nat.add_zero], rfl, by first | exact HD.out | exact HD.out.drewN _⟩
      case round =>
        obtain ⟨k, hk, rfl, rfl, hd⟩ := hrel
        have hsp : inSpans (L.take k) C ≤ k := by unfold inSpans; exact Nat.le_trans List.countP_le_length (by rw [List.length_take]; omega)
        by_cases hlt2 : k < k3
        · have s1 : decide ((k : Int) < (k3 : Int)) = true := decide_eq_true (by omega)
          have hfa := flatR_at L k (by rw [HL3.out]; exact hlt2)
          have HTk := Lib.hid (inSpans_take (L := L) (k := k) (by rw [HL3.out]; exact hlt2) C)
          have c0 := (hd.cell ⟨rb, ro + k * 2, none⟩).trans ((HB35.out.cell (p := ⟨rb, ro + k * 2, none⟩) (by show rb < _; omega)).trans (HRc.out (k * 2) (by omega)))
          have c1' := (hd.cell ⟨rb, ro + (k * 2 + 1), none⟩).trans ((HB35.out.cell (p := ⟨rb, ro + (k * 2 + 1), none⟩) (by show rb < _; omega)).trans (HRc.out (k * 2 + 1) (by omega)))
          rw [← Nat.add_assoc] at c1'
          rw [hfa.1] at c0
          rw [hfa.2] at c1'
          clear hfa
          generalize (L.getD k (0, 0)).1 = lo at *
          generalize (L.getD k (0, 0)).2 = hi2 at *
          generalize inSpans (L.take k) C = S at *
          have HDi := Lib.hid hd
          clear hd
          by_cases y1 : lo ≤ C
          · have v1 : decide ((lo : Int) ≤ (C : Int)) = true := decide_eq_true (by omega)
            by_cases y2 : C ≤ hi2
            · have v2 : decide ((C : Int) ≤ (hi2 : Int)) = true := decide_eq_true (by omega)
              have HT2 : Hid (N + (S + 1) = N + inSpans (L.take (k + 1)) C) := Lib.hid (by rw [HTk.out, if_pos ⟨y1, y2⟩])
              go_wp2_with fail
              go_roundw
              case rel => exact ⟨k + 1, by omega, by rw [← HT2.out]; go_num, by go_num, HDi.out⟩
              case measure => simp [intOf]; omega
            · have v2 : decide ((C : Int) ≤ (hi2 : Int)) = false := decide_eq_false (by omega)
              have HT2 : Hid (N + S = N + inSpans (L.take (k + 1)) C) := Lib.hid (by rw [HTk.out, if_neg (fun h => y2 h.2)]; rfl)
              go_wp2_with fail
              go_roundw
              case rel => exact ⟨k + 1, by omega, by rw [← HT2.out], by go_num, HDi.out⟩
              case measure => simp [intOf]; omega
          · have v1 : decide ((lo : Int) ≤ (C : Int)) = false := decide_eq_false (by omega)
            have HT2 : Hid (N + S = N + inSpans (L.take (k + 1)) C) := Lib.hid (by rw [HTk.out, if_neg (fun h => y1 h.1)]; rfl)
            go_wp2_with fail
            go_roundw
            case rel => exact ⟨k + 1, by omega, by rw [← HT2.out], by go_num, HDi.out⟩
            case measure => simp [intOf]; omega
        · obtain rfl : k = k3 := by omega
          have s1 : decide ((k : Int) < (k : Int)) = false := decide_eq_false (by omega)
          have HT3 : Hid (N + inSpans (L.take k) C = cntIn ps (i + 1) x0 y0 x1 y1) := Lib.hid (by rw [HIn.out, ← HL3.out, List.take_length])
          have HDi := Lib.hid hd
          clear hd
          generalize inSpans (L.take k) C = S at *
          go_wp2_with fail
          go_roundw
          case rel => exact ⟨i + 1, by omega, by rw [← HT3.out], by go_num, HDi.out⟩
          case measure => simp [intOf]; omega
    · obtain rfl : i = k1 := by omega
      have t1 : decide ((i : Int) < (i : Int)) = false := decide_eq_false (by omega)
      have HD := Lib.hid hd
      clear hd
      go_wp2_with fail
      go_ret
      exact ⟨ret_bool (by simp), HB5.out.trans (HD.out.below _)⟩
end Go.Proofs.Ytdmfhpigchbcbaa
