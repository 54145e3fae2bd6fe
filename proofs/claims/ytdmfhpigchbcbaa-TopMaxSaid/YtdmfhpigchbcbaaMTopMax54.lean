/-
  The walk of the law TopMax. Conditions: the arguments can be read as data.
-/
import Derived.Test.YtdmfhpigchbcbaaMTopMax11
import Derived.Test.YtdmfhpigchbcbaaMTopMax17
import Derived.Test.YtdmfhpigchbcbaaMTopMax40
import Derived.Test.YtdmfhpigchbcbaaMTopMax46
import Derived.Test.YtdmfhpigchbcbaaMTopMax53
namespace Go.Proofs.Ytdmfhpigchbcbaa
open Go Go.RowKit Go.Dam
set_option linter.unusedVariables false
set_option maxRecDepth 100000 in
set_option maxHeartbeats 60000000 in
theorem topMax_walk (v u1 u2 : Value) (w : World) (h : ∃ l, IsInts .i64 w w.heap.size v l) (h1 : ∃ x : Int, u1 = .int .i64 x ∧ I64 x) (h2 : ∃ x : Int, u2 = .int .i64 x ∧ I64 x) :
    Calls Try.prog 3 #[v, u1, u2] w fun e w' => e = .returned (.bool true) ∧ Below w.heap.size w w' := by
  obtain ⟨l, h⟩ := h
  obtain ⟨a, rfl, ha⟩ := h1
  obtain ⟨b, rfl, hb⟩ := h2
  have h' := h
  have HNum := Lib.hid (numbers_any v l 80 200 w _ (Nat.le_refl _) h (by omega) (by omega))
  obtain ⟨n0, hn0⟩ : ∃ n0, min l.length 80 = n0 := ⟨_, rfl⟩
  rw [hn0] at HNum
  have hlen := topNs_len l
  have HBd := fun j => topNs_bd l (j := j)
  have HNE : Hid (pickL l n0 200 ++ [4] = topNs l) := Lib.hid (by unfold topNs; rw [hn0])
  generalize topNs l = ns at *
  obtain ⟨n, hn⟩ : ∃ n, ns.length = n := ⟨_, rfl⟩
  rw [hn0] at hlen
  have hn1 : n0 + 1 = n := by omega
  have hn2 : n ≤ 81 := by omega
  have HNB : Hid (∀ j, j < n → 0 ≤ ns.getD j 0 ∧ ns.getD j 0 ≤ 199) := Lib.hid fun j hj => HBd j (by omega)
  have HWf : Hid (∀ z ∈ ns, (Lit.int .i64 z).wf = true) := Lib.hid fun z hz => by
    obtain ⟨j, hj, rfl⟩ := List.mem_iff_getElem.1 hz
    have := HBd j hj
    rw [List.getD_eq_getElem?_getD, List.getElem?_eq_getElem hj] at this
    simp only [Option.getD_some] at this
    exact WalkArith.wf_i64 (by omega)
  have HLen := Lib.hid hn
  clear HBd hlen
  obtain ⟨i, hi⟩ : ∃ i : Nat, a % (n : Int) = i := ⟨(a % (n : Int)).toNat, by have := Int.emod_nonneg a (show (n : Int) ≠ 0 by omega); omega⟩
  have hi2 : i < n := by have := Int.emod_lt_of_pos a (show 0 < (n : Int) by omega); omega
  obtain ⟨d, hd⟩ : ∃ d : Nat, b % ((n : Int) - i) = d := ⟨(b % ((n : Int) - i)).toNat, by have := Int.emod_nonneg b (show (n : Int) - i ≠ 0 by omega); omega⟩
  have hd2 : i + d < n := by have := Int.emod_lt_of_pos b (show 0 < (n : Int) - i by omega); omega
  have HP1 := Lib.hid fun W => (picked_any a (n : Int) W ha (by omega))
  have HP2 := Lib.hid fun W => (picked_any b ((n : Int) - i) W hb (by omega))
  rw [hi] at HP1
  rw [hd] at HP2
  obtain ⟨P, hP⟩ : ∃ P, topF (fun k => ns.getD k 0) i d = P := ⟨_, rfl⟩
  have hPb := topF_bd (fun k => ns.getD k 0) i d
  rw [hP] at hPb
  obtain ⟨M, hM⟩ : ∃ M, ns.getD P 0 = M := ⟨_, rfl⟩
  have hMb := HNB.out P (by omega)
  rw [hM] at hMb
  have HTop : Hid (RmqTopR ns (rmqRows ns (p2s ns.length)) (i : Int) ((i : Int) + (d : Int)) P 0) := Lib.hid (.inr (.inr (.inr ⟨by omega, eqR_of rfl, i, i + d, rfl, by push_cast; rfl, by omega, by omega, by rw [show i + d - i = d from by omega, hP], rfl⟩)))
  have HOk : Hid (∀ j, j < ns.length → okZ 8 (ns.getD j 0)) := Lib.hid fun j hj => by
    have := HNB.out j (by omega)
    unfold okZ; omega
  have HWM : Hid (WaveMk 8 ns (levsK 8 ns 8) 0) := Lib.hid (.inr (.inr (.inr ⟨by omega, by decide, by decide, HOk.out, rfl, rfl⟩)))
  have HRa : Hid (RangeR (madeRows 8 ns) (i : Int) ((i : Int) + (d : Int) + 1) 0 ns.length i (i + d + 1)) := Lib.hid (.inr ⟨madeRows_may (by decide) (by decide) (by omega), rfl, madeRows_lenW ns (by decide), rfl, by push_cast; rfl, by omega, by omega⟩)
  have HKt : Hid (WKthR (madeRows 8 ns) ((i : Int) + (d : Int) - (i : Int)) 0 ns.length i (i + d + 1) M 0) := Lib.hid (.inr (.inr (.inr ⟨rfl, d, by omega, by omega, by
    rw [made_sorted HOk.out (by omega) (by omega), show i + d + 1 - i = d + 1 from by omega, sorted_last (by omega), hP, hM], rfl⟩)))
  have HSg : Hid (repT (negL ns n) [3, (i : Int), ((i : Int) + (d : Int)), 0] n 1 = [0, -M]) := Lib.hid (by
    have := seg_least ns (negL ns n) i (i + d) (by omega) (by omega) fun j hj => by rw [← hn]; exact negL_at hj
    rw [show i + d - i = d from by omega, hP, hM, hn] at this
    push_cast at this
    exact this)
  have HNl : Hid ((negL ns n).length = n) := Lib.hid (by rw [← hn]; exact negL_len (Nat.le_refl _))
  have HPl : Hid (PlayR (negL ns n) [3, (i : Int), ((i : Int) + (d : Int)), 0] 1 [0, -M] (rowT (negL ns n) [3, (i : Int), ((i : Int) + (d : Int)), 0] n 1) 0) := Lib.hid (.inr (.inr ⟨by rw [HNl.out]; omega, by
    rw [HNl.out]
    refine anyN_no fun j hj => ?_
    have h1 := negL_at (l := ns) (j := j) (by omega)
    have h2 := HNB.out j hj
    rw [hn] at h1
    rw [h1]
    generalize ns.getD j 0 = y at h2
    simp [coordOk]; omega, by rw [HNl.out, HSg.out], by rw [HNl.out], rfl⟩))
  have HMc := Lib.hid hM
  clear h hi hd hP hM HOk HSg hn
  obtain ⟨A, c, rfl, hc, hm, hn9, hr, hw⟩ := h'
  clear hr hw
  go_enter Try.func3, Try.ntmps3
  go_wp2_with (first
    | (go_at_call 5; refine (HNum.out).mono ?_; rintro e w1 ⟨⟨x1, k1, rfl, rfl, hown1⟩, hb1⟩; have HO1 := Lib.hid hown1; obtain ⟨A1, c1, rfl⟩ := own_shape hown1; have hz1 := hb1.size; have HB1 := Lib.hid hb1; clear hown1 hb1)
    | (at_builtin; refine wpList_pushD el_int rfl _ _ rfl w.heap.size _ _ _ (HO1.out.alloc _) rfl w1.heap.size 1 _ rfl (by simp; rfl) rfl (by omega) (by omega) (by simp; omega) ?_; intro v' w2 hown2 hg2 hl2; have HB2 := Lib.hid (below_push (HB1.out.alloc hz1 _) (HO1.out.alloc _) (Nat.le_refl _) (by simp; omega) hg2); rw [hn1] at hown2; have HI2 : Hid (IsInts .i64 w2 w2.heap.size v' ns) := Lib.hid (own_ints (by rw [← HNE.out, List.map_append]; exact hown2) (by have := HLen.out; omega) HWf.out); obtain ⟨A2, c2, rfl, hc2, hm2, hr2⟩ := HI2.out.open_ HLen.out; obtain ⟨bk, off, rfl, hbk, hcells⟩ := ints_cells hr2 (by have := HLen.out; omega); have HCell := Lib.hid hcells; clear hown2 hg2 hl2 hr2 hcells; have hz2 := HB2.out.size)
    | (go_at_call 6; with_reducible refine (HP1.out _).mono ?_; rintro e wp ⟨rfl, rfl⟩)
    | (go_at_call 6; with_reducible refine (HP2.out _).mono ?_; rintro e wp ⟨rfl, rfl⟩)
    | (go_at_call 8; refine (copied_any _ ns _ _ HB6.out.size (HI2.out.below HB6.out) (by have := HLen.out; omega)).mono ?_; rintro e w7 ⟨x7, rfl, hi7, hb7⟩; have HI7 := Lib.hid hi7; have HB7 := Lib.hid (HB6.out.trans (hb7.mono HB6.out.size)); clear hi7 hb7; have hz7 := HB7.out.size)
    | (go_at_call 8; refine (copied_any _ ns _ _ HB4.out.size (HI2.out.below HB4.out) (by have := HLen.out; omega)).mono ?_; rintro e w5 ⟨x5, rfl, hi5, hb5⟩; have HI5 := Lib.hid hi5; have HB5 := Lib.hid (HB4.out.trans (hb5.mono HB4.out.size)); have HI45 := Lib.hid ((HI4.out.below hb5).more hb5.size); clear hi5 hb5; have hz5 := HB5.out.size)
    | (go_at_call 8; refine (copied_any _ ns _ _ (Nat.le_refl _) HI2.out (by have := HLen.out; omega)).mono ?_; rintro e w3 ⟨x3, rfl, hi3, hb3⟩; have HI3 := Lib.hid hi3; have HB3 := Lib.hid hb3; clear hi3 hb3; have hz3 := HB3.out.size)
    | (go_at_call 7; refine (rmqMake_any _ ns _ 0 _ _ (Nat.le_refl _) HI3.out (.inr ⟨by have := HLen.out; omega, rfl, rfl⟩)).mono ?_; rintro e w4 ⟨x4, rfl, hi4, hb4⟩; have HI4 := Lib.hid hi4; have HB4 := Lib.hid (HB3.out.trans (hb4.mono HB3.out.size)); clear hi4 hb4; have hz4 := HB4.out.size)
    | (go_at_call 9; refine (rmqTop_any _ _ ns _ _ _ (P : Int) 0 _ _ (Nat.le_refl _) HI5.out HI45.out HTop.out (by unfold I64; omega) (by unfold I64; omega)).mono ?_; rintro e w6 ⟨rfl, hb6⟩; have HB6 := Lib.hid (HB5.out.trans (hb6.mono HB5.out.size)); clear hb6; have hz6 := HB6.out.size)
    | (go_at_call 10; refine (waveMake_any 8 _ ns _ 0 _ _ (Nat.le_refl _) HI7.out (by unfold I64; omega) HWM.out).mono ?_; rintro e w8 ⟨x8, rfl, hi8, hb8⟩; have hi8' := hi8; obtain ⟨A8, c8, vs8, hx8, _⟩ := hi8'; obtain ⟨L8, hL8⟩ : ∃ k, ((levsK 8 ns 8).map fun ws => ((ns.length : Int), ws)).length = k := ⟨_, rfl⟩; rw [hL8] at hx8; subst hx8; have HW8 : Hid (IsWave w8 w8.heap.size (.agg #[.slice A8 L8 c8]) (madeRows 8 ns)) := Lib.hid ⟨_, rfl, hi8⟩; have HB8 := Lib.hid (HB7.out.trans (hb8.mono HB7.out.size)); clear hb8 hi8 hL8; have hz8 := HB8.out.size)
    | (go_at_call 11; with_reducible refine (waveKthP _ (madeRows 8 ns) _ _ _ 0 M 0 ns.length i (i + d + 1) _ _ (box_le (Nat.le_refl _)) (HW8.out.below ((Below.refl _ _).alloc (Nat.le_refl _) _)) (by unfold I64; omega) (by unfold I64; omega) (by unfold I64; omega) HRa.out HKt.out).mono ?_; rintro e w9 ⟨rfl, hb9⟩; have HB9 := Lib.hid (HB8.out.trans ((below_box hb9).mono HB8.out.size)); clear hb9; have hz9 := HB9.out.size))
  go_loopw [18, 19] (fun lv iv wr => ∃ j : Nat, j ≤ n ∧ iv = .int .i64 j ∧ Hid (wr.ownsRow w9.heap.size 3 1 lv j ((negL ns j).map (Value.int .i64))) ∧ Hid (Below w9.heap.size w9 wr)) (fun _ iv _ => n - (intOf iv).toNat)
  case atStart => exact ⟨0, by omega, rfl, Lib.hid (World.ownsRow_nil _ _ _ _), Lib.hid (Below.refl _ _)⟩
  case round =>
    obtain ⟨wo, rfl⟩ : ∃ wo : World, wo = wr := ⟨_, rfl⟩
    obtain ⟨j, hj, rfl, HO, HB⟩ := hrel
    obtain ⟨A3, c3, rfl⟩ := own_shape HO.out
    have hz := HB.out.size
    have HBA := Lib.hid (HB9.out.trans (HB.out.mono HB9.out.size))
    by_cases hlt : j < n
    · have t1 : decide ((j : Int) < (n : Int)) = true := decide_eq_true (by omega)
      have k0 := (HBA.out.cell (p := ⟨bk, off + j, none⟩) (by show bk < _; omega)).trans (HCell.out j (by have := HLen.out; omega))
      have HS := Lib.hid (negL_succ (l := ns) (i := j) (by have := HLen.out; omega))
      have hx := HNB.out j hlt
      generalize ns.getD j 0 = x at *
      go_wp2_with (at_builtin; refine wpList_pushD el_int rfl _ _ rfl w9.heap.size _ j _ (HO.out.alloc _) rfl wo.heap.size 1 _ rfl (by simp; rfl) rfl (by omega) (by omega) (by simp; omega) ?_; intro v' wn hownn hgn hln)
      go_roundw
      case rel => exact ⟨j + 1, by omega, by go_num, Lib.hid (by rw [HS.out, List.map_append]; exact hownn), Lib.hid (below_push (HB.out.alloc hz _) (HO.out.alloc _) (Nat.le_refl _) (by simp; omega) hgn)⟩
      case measure => simp [intOf]; omega
    · obtain rfl : j = n := by omega
      have t1 : decide ((j : Int) < (j : Int)) = false := decide_eq_false (by omega)
      have HLow : Hid (IsInts .i64 wo wo.heap.size (.slice A3 j c3) (negL ns j)) := Lib.hid (own_ints HO.out (by rw [HNl.out]; omega) fun z hz => by
        unfold negL at hz
        obtain ⟨y, hy, rfl⟩ := List.mem_map.1 hz
        obtain ⟨q, hq, rfl⟩ := List.mem_iff_getElem.1 (List.mem_of_mem_take hy)
        have := HNB.out q (by have := HLen.out; omega)
        rw [List.getD_eq_getElem?_getD, List.getElem?_eq_getElem hq] at this
        simp only [Option.getD_some] at this
        exact WalkArith.wf_i64 (by omega))
      go_wp2_with (go_at_call 12; refine (segPlay_any _ _ (negL ns j) [3, (i : Int), ((i : Int) + (d : Int)), 0] [0, -M] _ 1 0 _ _ (by simp) ((HLow.out.below ((Below.refl _ _).alloc (Nat.le_refl _) _)).more (Nat.le_succ _)) (flat4_new _ _ (by unfold I64; omega) (by unfold I64; omega) (by unfold I64; omega) (by unfold I64; omega)) HPl.out).mono ?_; rintro e we ⟨xr, yr, kr, rfl, hkr, hfr, hir, hbr⟩; obtain ⟨A5, c5, rfl, f1, f2, f3, f4, f5, f6⟩ := hfr; obtain rfl : kr = 1 := (by simp at f4; omega); obtain ⟨rb, ro, rfl, hrb, hrc⟩ := flat_cells f5 f4 (by omega) (by omega); have HBE := Lib.hid (HBA.out.trans ((below_box hbr).mono HBA.out.size)); have kr := hrc 1 (by omega); have kP := (HBE.out.cell (p := ⟨bk, off + P, none⟩) (by show bk < _; omega)).trans (HCell.out P (by have := HLen.out; omega)); rw [HMc.out] at kP; clear f4 f5 f6 hir hbr hrc)
      go_ret
      exact ⟨ret_bool (by simp), HB2.out.trans (HBE.out.mono hz2)⟩
end Go.Proofs.Ytdmfhpigchbcbaa
