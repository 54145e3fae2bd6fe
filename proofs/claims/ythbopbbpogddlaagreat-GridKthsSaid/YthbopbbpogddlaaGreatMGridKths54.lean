/-
  Texts of one claim behind each other. Conditions: none of its own.
-/
import Derived.Test.YthbopbbpogddlaaGreatMGridKths51
import Derived.Test.YthbopbbpogddlaaGreatMGridKths53
import Derived.Test.YthbopbbpogddlaaGreatMGridKths05
/-
  Contracts of grid.Kth and of the reference's GridKth. Conditions: the arguments can be read as data.
-/
namespace Go.Dam
open Go Go.RowKit Go.Dam.Stable
set_option linter.unusedVariables false
/-- What the refusals of Kth are. -/
def KthNo (l : List Int) (n : Nat) (x0 y0 x1 y1 k r cc : Int) : Prop :=
  (ptCode n l ≠ 0 ∧ r = 0 ∧ cc = ptCode n l) ∨ (ptCode n l = 0 ∧ k < 0 ∧ r = 0 ∧ cc = 2) ∨ (ptCode n l = 0 ∧ ¬ k < 0 ∧ (cntIn l n x0 y0 x1 y1 : Int) ≤ k ∧ r = 0 ∧ cc = 7)
/-- What Kth answers: what any stable sort has at the place. -/
def KthA (l : List Int) (n : Nat) (x0 y0 x1 y1 k r cc : Int) : Prop :=
  KthNo l n x0 y0 x1 y1 k r cc ∨ (ptCode n l = 0 ∧ (∃ j : Nat, k = j ∧ j < cntIn l n x0 y0 x1 y1 ∧ ∀ m, StabR (ltPYx l) (natL ((List.range n).filter (inQ l x0 y0 x1 y1))) m → r = m.getD j 0) ∧ cc = 0)
/-- What the reference answers: what a stable sort has at the place. -/
def KthB (l : List Int) (n : Nat) (x0 y0 x1 y1 k r cc : Int) : Prop :=
  KthNo l n x0 y0 x1 y1 k r cc ∨ (ptCode n l = 0 ∧ (∃ j : Nat, k = j ∧ j < cntIn l n x0 y0 x1 y1 ∧ ∃ m, StabR (ltPYx l) (natL ((List.range n).filter (inQ l x0 y0 x1 y1))) m ∧ r = m.getD j 0) ∧ cc = 0)
theorem KthA.same {l : List Int} {n : Nat} {x0 y0 x1 y1 k r cc r' cc' : Int} (h : KthA l n x0 y0 x1 y1 k r cc) (g : KthB l n x0 y0 x1 y1 k r' cc') : r = r' ∧ cc = cc' := by
  rcases h with h | ⟨h0, ⟨j, rfl, hj, hm⟩, rfl⟩
  · rcases g with g | ⟨g0, ⟨j, rfl, hj, m, hm, rfl⟩, rfl⟩
    · unfold KthNo at h g; omega
    · unfold KthNo at h; omega
  · rcases g with g | ⟨g0, ⟨i, e, hi, m, hm', rfl⟩, rfl⟩
    · unfold KthNo at g; omega
    · obtain rfl : j = i := by omega
      exact ⟨hm m hm', rfl⟩
end Go.Dam
namespace Go.Proofs.YthbopbbpogddlaaGreat
open Go Go.RowKit Go.Dam Go.Dam.Stable
set_option linter.unusedVariables false
set_option maxHeartbeats 4000000 in
theorem refKth_any (x0 y0 x1 y1 k : Int) (v : Value) (n : Nat) (l : List Int) (w : World) (B : Nat) (hB : B ≤ w.heap.size) (h : IsFlat 3 w B v n l) (hk : I64 k) :
    Calls Tryz.prog 9 #[v, .agg #[.int .i64 x0, .int .i64 y0, .int .i64 x1, .int .i64 y1], .int .i64 k] w fun e w' => (∃ r cc, e = .returned (.tuple #[.int .i64 r, .int .i64 cc]) ∧ KthB l n x0 y0 x1 y1 k r cc) ∧ Below w.heap.size w w' := by
  have HB0 := Lib.hid ((Below.refl w.heap.size w).alloc (Nat.le_refl _) (.cells #[.int .i64 x0, .int .i64 y0, .int .i64 x1, .int .i64 y1] 24))
  have HK := Lib.hid (Blk.new w 24 #[.int .i64 x0, .int .i64 y0, .int .i64 x1, .int .i64 y1])
  have HP := Lib.hid (pointsFault_any v n l (w.alloc (.cells #[.int .i64 x0, .int .i64 y0, .int .i64 x1, .int .i64 y1] 24)) B (by simp; omega) (h.below (HB0.out.mono hB)))
  have HWi := Lib.hid fun (h0 : ptCode n l = 0) w1 (hb : Below w.heap.size w w1) => repYxWithin_any x0 y0 x1 y1 v n l w1 B (Nat.le_trans hB hb.size) (h.below (hb.mono hB)) (pt_coords h0).1
  have hk64 := Lib.hid hk
  unfold I64 at hk
  by_cases h0 : ptCode n l = 0
  · have HW0 := Lib.hid (HWi.out h0)
    have HPt := Lib.hid h0
    rw [h0] at HP
    clear HWi h h0
    go_enter Tryz.func9, Tryz.ntmps9
    go_upto_region 4 with (go_at_call 17; refine (HP.out).mono ?_; rintro e w1 ⟨rfl, hb1⟩)
    have HB1 := Lib.hid (HB0.out.trans (hb1.mono HB0.out.size))
    have HK1 := Lib.hid (HK.out.below hb1 (by simp))
    have k0 := (HK1.out.cell 0).trans rfl
    have k1 := (HK1.out.cell 1).trans rfl
    have k2 := (HK1.out.cell 2).trans rfl
    have k3 := (HK1.out.cell 3).trans rfl
    clear hb1
    go_upto_region 5 with (go_at_call 18; refine (HW0.out _ HB1.out).mono ?_; rintro e w2 ⟨⟨u, m, rfl, hst, hi⟩, hb2⟩)
    have HST := Lib.hid hst
    have hmc := stab_cnt hst
    have hml : m.length ≤ n := by rw [hmc]; exact cntIn_le _ _ _ _ _ _
    have HB2 := Lib.hid (HB1.out.trans (hb2.mono HB1.out.size))
    have HI2 := Lib.hid hi
    have HMc := Lib.hid hmc
    clear hst hmc hb2 k0 k1 k2 k3
    by_cases h1 : k < 0
    · obtain ⟨A1, c1, rfl, _⟩ := hi
      go_wp2_with fail
      go_ret2
      exact ⟨⟨_, _, rfl, .inl (.inr (.inl ⟨HPt.out, h1, rfl, rfl⟩))⟩, HB2.out⟩
    have t1 : decide (k < 0) = false := decide_eq_false h1
    by_cases h2 : (m.length : Int) ≤ k
    · obtain ⟨A1, c1, rfl, _⟩ := hi
      go_wp2_with fail
      go_ret2
      exact ⟨⟨_, _, rfl, .inl (.inr (.inr ⟨HPt.out, by omega, by rw [HMc.out] at h2; exact h2, rfl, rfl⟩))⟩, HB2.out⟩
    · have t2 : decide ((m.length : Int) ≤ k) = false := decide_eq_false h2
      obtain ⟨j, rfl⟩ : ∃ j : Nat, k = j := ⟨k.toNat, by omega⟩
      have hj : j < m.length := by omega
      obtain ⟨A1, c1, rfl, _, _, _, hr1, _⟩ := hi
      obtain ⟨ob, oo, rfl, _, hcells⟩ := ints_cells hr1 (by omega)
      have o0 := hcells j hj
      have j1 : (j : Int) < (m.length : Int) := by omega
      clear hr1 hcells
      go_wp2_with fail
      go_ret2
      exact ⟨⟨_, _, rfl, .inr ⟨HPt.out, ⟨j, rfl, by rw [HMc.out] at hj; exact hj, m, HST.out, (ge_at m hj).symm⟩, rfl⟩⟩, HB2.out⟩
  · have HPt := Lib.hid h0
    clear HWi h
    have HE : Hid (KthB l n x0 y0 x1 y1 k 0 (ptCode n l)) := Lib.hid (.inl (.inl ⟨h0, rfl, rfl⟩))
    generalize ptCode n l = cc at *
    have t0 : (cc != 0) = true := bne_iff_ne.2 h0
    go_enter Tryz.func9, Tryz.ntmps9
    go_wp2_with (go_at_call 17; refine (HP.out).mono ?_; rintro e w1 ⟨rfl, hb1⟩)
    go_ret2
    exact ⟨⟨_, _, rfl, HE.out⟩, HB0.out.trans (hb1.mono HB0.out.size)⟩
theorem belowN_seg_le {l : List Int} {r : List Nat} {n a b : Nat} (hr : r.length = n) (hab : a ≤ b) (hb : b ≤ n) (y : Int) (s : Bool) : belowN l r n a b y s ≤ b - a := by
  rw [belowN_seg hr hab hb]
  exact Nat.le_trans List.countP_le_length (by rw [List.length_take]; omega)
set_option maxHeartbeats 8000000 in
theorem gridKth_any (x0 y0 x1 y1 k : Int) (v : Value) (n : Nat) (l : List Int) (w : World) (B : Nat) (hB : B ≤ w.heap.size) (h : IsFlat 3 w B v n l) (hk : I64 k) :
    Calls Tryz.prog 8 #[v, .agg #[.int .i64 x0, .int .i64 y0, .int .i64 x1, .int .i64 y1], .int .i64 k] w fun e w' => (∃ r cc, e = .returned (.tuple #[.int .i64 r, .int .i64 cc]) ∧ KthA l n x0 y0 x1 y1 k r cc) ∧ Below w.heap.size w w' := by
  have HB0 := Lib.hid ((Below.refl w.heap.size w).alloc (Nat.le_refl _) (.cells #[.int .i64 x0, .int .i64 y0, .int .i64 x1, .int .i64 y1] 24))
  have HK := Lib.hid (Blk.new w 24 #[.int .i64 x0, .int .i64 y0, .int .i64 x1, .int .i64 y1])
  have d0 := (HK.out.cell 0).trans rfl
  have d1 := (HK.out.cell 1).trans rfl
  have d2 := (HK.out.cell 2).trans rfl
  have d3 := (HK.out.cell 3).trans rfl
  have HP := Lib.hid (gridCount_any x0 y0 x1 y1 v n l (w.alloc (.cells #[.int .i64 x0, .int .i64 y0, .int .i64 x1, .int .i64 y1] 24)) B (by simp; omega) (h.below (HB0.out.mono hB)))
  have HBu := Lib.hid fun (h0 : ptCode n l = 0) w1 (hb : Below w.heap.size w w1) => gridBuild_any v n l w1 B (Nat.le_trans hB hb.size) (h.below (hb.mono hB)) (pt_coords h0).1
  have HFl := Lib.hid h
  have hB0 := HB0.out.size
  unfold I64 at hk
  by_cases h0 : ptCode n l = 0
  · have HW0 := Lib.hid (HBu.out h0)
    have h150 := (pt_coords h0).1
    have HPt := Lib.hid h0
    rw [h0] at HP
    have hcn := cntIn_le l n x0 y0 x1 y1
    obtain ⟨C, hC⟩ : ∃ C, cntIn l n x0 y0 x1 y1 = C := ⟨_, rfl⟩
    have HCn := Lib.hid hC
    rw [hC] at hcn
    have HCe : Hid (∀ c, CountR l n x0 y0 x1 y1 c → c = (C : Int)) := Lib.hid fun c hc => by rw [hc.1 HPt.out, HCn.out]
    clear HBu h0 hC
    by_cases h1 : k < 0
    · clear HW0
      go_enter Tryz.func8, Tryz.ntmps8
      go_wp2_with (go_at_call 6; refine (HP.out).mono ?_; rintro e w1 ⟨⟨c1, rfl, hc1⟩, hb1⟩; obtain rfl := HCe.out _ hc1; clear hc1)
      go_ret2
      exact ⟨⟨_, _, rfl, .inl (.inr (.inl ⟨HPt.out, h1, rfl, rfl⟩))⟩, HB0.out.trans (hb1.mono HB0.out.size)⟩
    have t1 : decide (k < 0) = false := decide_eq_false h1
    by_cases h2 : (C : Int) ≤ k
    · clear HW0
      go_enter Tryz.func8, Tryz.ntmps8
      go_wp2_with (go_at_call 6; refine (HP.out).mono ?_; rintro e w1 ⟨⟨c1, rfl, hc1⟩, hb1⟩; obtain rfl := HCe.out _ hc1; clear hc1)
      go_ret2
      exact ⟨⟨_, _, rfl, .inl (.inr (.inr ⟨HPt.out, by omega, by rw [HCn.out]; exact h2, rfl, rfl⟩))⟩, HB0.out.trans (hb1.mono HB0.out.size)⟩
    have t2 : decide ((C : Int) ≤ k) = false := decide_eq_false h2
    obtain ⟨j, rfl⟩ : ∃ j : Nat, k = j := ⟨k.toNat, by omega⟩
    have hj : j < C := by omega
    have hpos : 0 < n := by omega
    clear h1 h2
    go_enter Tryz.func8, Tryz.ntmps8
    go_upto_region 8 with (go_at_call 6; refine (HP.out).mono ?_; rintro e w1 ⟨⟨c1, rfl, hc1⟩, hb1⟩; obtain rfl := HCe.out _ hc1; clear hc1)
    have HB1 := Lib.hid (HB0.out.trans (hb1.mono HB0.out.size))
    have HK1 := Lib.hid (HK.out.below hb1 (by simp))
    clear hb1 d0 d1 d2 d3 t1 t2
    go_upto_region 9 with (go_at_call 14; refine (HW0.out _ HB1.out).mono ?_; rintro e w2 ⟨⟨g, rn, vals, rs, wss, cc, rfl, hR, hI, hfar⟩, hb2⟩)
    have hzb2 := hb2.size
    have HRR := Lib.hid hR
    have HII := Lib.hid hI
    have HFar := Lib.hid hfar
    have HB2 := Lib.hid (HB1.out.trans (hb2.mono HB1.out.size))
    have HK2 := Lib.hid (HK1.out.below hb2 HK1.out.lt)
    have hg1 := hfar.1
    have hk1lt := HK1.out.lt
    have k0 := (HK2.out.cell 0).trans rfl
    have k1 := (HK2.out.cell 1).trans rfl
    have k2 := (HK2.out.cell 2).trans rfl
    have k3 := (HK2.out.cell 3).trans rfl
    clear hb2 hR hI hfar
    go_upto_region 10 with (go_at_call 15; refine (columns_any x0 y0 x1 y1 _ g n l rn _ (Nat.le_refl _) HII.out.two (HRR.out.1.ordX h150)).mono ?_; rintro e w3 ⟨⟨a, b, rfl, hab⟩, hb3⟩)
    have HAB := Lib.hid hab
    have hle := cols_le hab
    have HB23 := Lib.hid hb3
    have HB3 := Lib.hid (HB2.out.trans (hb3.mono HB2.out.size))
    have HK3 := Lib.hid (HK2.out.below hb3 HK2.out.lt)
    have HI3 := Lib.hid ((HII.out.below hb3).more hb3.size)
    have HE := Lib.hid (count_eq (y0 := y0) (y1 := y1) HRR.out.1 hab)
    have hn0 := belowN_seg_le (l := l) HRR.out.1.len hle.1 hle.2 y0 false
    have hn1 := belowN_seg_le (l := l) HRR.out.1.len hle.1 hle.2 y1 true
    clear hab hb3 k0 k1 k2 k3
    have k1 := (HK3.out.cell 1).trans rfl
    have HBl := Lib.hid fun y at_ (W : World) (hW : Below w3.heap.size w3 W) => gridBelow_any y at_ a b _ g n l rn vals rs wss cc W hW.size (HI3.out.below hW) HRR.out hpos h150 hle.1 hle.2
    obtain ⟨N0, hN0⟩ : ∃ N, belowN l rn n a b y0 false = N := ⟨_, rfl⟩
    rw [hN0] at hn0
    have HB0' := Lib.hid (fun (W : World) (hW : Below w3.heap.size w3 W) => by have := HBl.out y0 false W hW; rw [hN0] at this; exact this)
    have hNj : N0 + j < b - a := by have := HE.out; rw [hN0, HCn.out] at this; omega
    have HN0 := Lib.hid hN0
    obtain ⟨rk, hrk, hrkl, hlo, hhi⟩ := kth_num HRR.out h150 hle.1 hle.2 hNj
    obtain ⟨y, hy⟩ : ∃ y, vals.getD rk 0 = y := ⟨_, rfl⟩
    rw [hy] at hlo hhi
    obtain ⟨N2, hN2⟩ : ∃ N, belowN l rn n a b y false = N := ⟨_, rfl⟩
    have HLo := Lib.hid hlo
    have HHi := Lib.hid hhi
    have hn2 := belowN_seg_le (l := l) HRR.out.1.len hle.1 hle.2 y false
    rw [hN2] at hlo hn2
    have HBy := Lib.hid (fun (W : World) (hW : Below w3.heap.size w3 W) => by have := HBl.out y false W hW; rw [hN2] at this; exact this)
    have HN2 := Lib.hid hN2
    have HRk := Lib.hid hrk
    have HY := Lib.hid hy
    -- the place that is left
    have HJ : Hid (∃ jj : Nat, (jj : Int) = j - ((N2 : Int) - (N0 : Int)) ∧ jj < (rn.filter (inP l x0 y x1 y)).length ∧ ∀ m, StabR (ltPYx l) (natL ((List.range n).filter (inQ l x0 y0 x1 y1))) m → (((rn.filter (inP l x0 y x1 y)).getD jj 0 : Nat) : Int) = m.getD j 0) := Lib.hid (by
      have key := fun m hm hp => kth_eq (y := y) (m := m) HRR.out.1 HAB.out (by rw [HCn.out]; exact hj) (by rw [HN0.out]; exact HLo.out) (by rw [HN0.out]; exact HHi.out) hm hp
      rw [HN0.out, HN2.out] at key
      have hL : (rn.filter (inP l x0 y x1 y)).length = belowN l rn n a b y true - N2 := by
        have := count_eq (y0 := y) (y1 := y) HRR.out.1 HAB.out
        have e : (rn.filter (inP l x0 y x1 y)).length = cntIn l n x0 y x1 y := by unfold cntIn; exact (HRR.out.1.1.filter _).length_eq
        rw [HN2.out] at this
        have hlt := HHi.out
        omega
      have hge : belowN l rn n a b y0 false ≤ belowN l rn n a b y false := by
        refine belowN_mono HRR.out.1.len hle.1 hle.2 fun v hv => ?_
        rcases Int.lt_or_le y y0 with g | g
        · have := belowN_mono (l := l) HRR.out.1.len hle.1 hle.2 (y := y) (z := y0) (s := true) (t := false) fun v hv => by unfold isAb at hv ⊢; simp at hv ⊢; omega
          have h1 := HHi.out
          have h2 := HN0.out
          omega
        · unfold isAb at hv ⊢; simp at hv ⊢; omega
      rw [HN0.out, HN2.out] at hge
      have hHi := HHi.out
      refine ⟨j - (N2 - N0), by omega, by rw [hL]; omega, fun m hm => ?_⟩
      obtain ⟨M, rfl, hMp, hMs⟩ := stabK_list hm
      obtain ⟨jj, e, _, e2⟩ := key M hMp hMs
      obtain rfl : jj = j - (N2 - N0) := by omega
      rw [e2, natL_at])
    obtain ⟨jj, hjj, hjl, hjm⟩ := HJ.out
    have HJM := Lib.hid hjm
    have HJJ := Lib.hid hjj
    have hX : (j : Int) - ((N2 : Int) - (N0 : Int)) = (jj : Int) := hjj.symm
    have hfl : (rn.filter (inP l x0 y x1 y)).length ≤ 150 := Nat.le_trans (List.length_filter_le _ _) (by rw [HRR.out.1.len]; exact h150)
    have hrnl : rn.length = n := HRR.out.1.len
    have hvl := idx_vals HRR.out
    clear HBl HE hN0 hN2 hrk hy hlo hhi HJ hjm hjj
    -- the walk goes on: the low end
    go_upto_region 11 with (go_at_call 16; refine (HB0'.out _ (Below.refl _ _)).mono ?_; rintro e w4 ⟨rfl, hb4⟩)
    have HB34 := Lib.hid hb4
    have hz4 := hb4.size
    have HI4 := Lib.hid (HI3.out.below hb4)
    obtain ⟨hI0, pv, ov, vv, wv, c0, c1, c2, c3, e1, e2, e3, e4⟩ := HI4.out
    have e4' := e4
    have HC2 := Lib.hid c2
    obtain ⟨A2, co, rfl, _, _, _, hr2, _⟩ := e3
    obtain ⟨A4, c4, vs4, rfl, hc4, _⟩ := e4
    rw [List.length_map] at e4' c3
    have HE4 := Lib.hid e4'
    have HR2 := Lib.hid hr2
    have HMk := Lib.hid (idx_made HRR.out h150)
    have HRs := Lib.hid (idx_rs HRR.out)
    have HWv : Hid (Calls Tryz.prog 20 #[.agg #[.slice A4 wss.length c4], .int .i64 a, .int .i64 b, .int .i64 ((N0 : Int) + (j : Int))] w4 fun e w' => e = .returned (.tuple #[.int .i64 (rk : Int), .int .i64 0]) ∧ Below w4.heap.size w4 w') := Lib.hid (waveKthP _ (wss.map fun ws => ((n : Int), ws)) a b ((N0 : Int) + (j : Int)) 0 (rk : Int) 0 n a b w4 _ hz4 ⟨_, rfl, HE4.out⟩ (by unfold I64; omega) (by unfold I64; omega) (by unfold I64; omega)
      (.inr ⟨by rw [HMk.out]; exact madeRows_may (by omega) (by omega) (by rw [HRs.out]; omega), rfl, by rw [HMk.out, madeRows_lenW _ (by omega), HRs.out], rfl, rfl, hle.1, hle.2⟩) (.inr (.inr (.inr ⟨rfl, N0 + j, by omega, hNj, HRk.out.symm, rfl⟩))))
    clear k1 hb4 c0 c1 c2 e1 e2 hr2 hc4 e4'
    go_upto_region 12 with (go_at_call 20; refine (HWv.out).mono ?_; rintro e w5 ⟨rfl, hb5⟩)
    have HB45 := Lib.hid hb5
    have hz5 := hb5.size
    obtain ⟨vb, vo, rfl, hvb, hc2⟩ := ints_cells HR2.out (by omega)
    have q2 := (hb5.cell (p := ⟨g, 2, none⟩) (by show g < _; omega)).trans HC2.out
    have q3 := (hb5.cell (p := ⟨vb, vo + rk, none⟩) (by show vb < _; omega)).trans (hc2 rk hrkl)
    rw [HY.out] at q3
    have j1 : (rk : Int) < (vals.length : Int) := by omega
    clear c3 hb5 hc2
    go_upto_region 13 with fail
    clear q2 q3
    have HB35 : Hid (Below w3.heap.size w3 w5) := Lib.hid (HB34.out.trans (HB45.out.mono hz4))
    go_upto_region 14 with (go_at_call 16; refine (HBy.out _ HB35.out).mono ?_; rintro e w6 ⟨rfl, hb6⟩)
    have HB36 : Hid (Below w3.heap.size w3 w6) := Lib.hid (HB35.out.trans (hb6.mono HB35.out.size))
    have hz36 := HB36.out.size
    have HK6 := Lib.hid (HK3.out.below HB36.out HK3.out.lt)
    have f1 := HK6.out.frozen 1
    have f3 := HK6.out.frozen 3
    have k1 := (HK6.out.cell 1).trans rfl
    have k3 := (HK6.out.cell 3).trans rfl
    clear hb6
    go_upto_region 15 with fail
    have HK7 : Hid (Blk ((w6.setCell ⟨w.heap.size, 1, none⟩ (.int .i64 y)).setCell ⟨w.heap.size, 3, none⟩ (.int .i64 y)) w.heap.size 24 #[.int .i64 x0, .int .i64 y, .int .i64 x1, .int .i64 y]) := Lib.hid ((HK6.out.set_ 1 (.int .i64 y)).set_ 3 (.int .i64 y))
    have HBw7 : Hid (Below w.heap.size w ((w6.setCell ⟨w.heap.size, 1, none⟩ (.int .i64 y)).setCell ⟨w.heap.size, 3, none⟩ (.int .i64 y))) := Lib.hid (((HB3.out.trans (HB36.out.mono HB3.out.size)).setCell (p := ⟨w.heap.size, 1, none⟩) (Nat.le_refl _) _).setCell (p := ⟨w.heap.size, 3, none⟩) (Nat.le_refl _) _)
    have HI7 : Hid (IsIdx2 ((w6.setCell ⟨w.heap.size, 1, none⟩ (.int .i64 y)).setCell ⟨w.heap.size, 3, none⟩ (.int .i64 y)) ((w6.setCell ⟨w.heap.size, 1, none⟩ (.int .i64 y)).setCell ⟨w.heap.size, 3, none⟩ (.int .i64 y)).heap.size g n l rn) := Lib.hid (by
      obtain ⟨_, c0, ov', base, E, hbase, c1, hown⟩ := HFar.out
      have hB26 : Below w2.heap.size w2 w6 := HB23.out.trans (HB36.out.mono HB23.out.size)
      have hne : ∀ i : Nat, ((w6.setCell ⟨w.heap.size, 1, none⟩ (.int .i64 y)).setCell ⟨w.heap.size, 3, none⟩ (.int .i64 y)).cell? ⟨g, i, none⟩ = w6.cell? ⟨g, i, none⟩ := fun i => by
        rw [set_far (p := ⟨w.heap.size, 3, none⟩) (by show g ≠ w.heap.size; omega), set_far (p := ⟨w.heap.size, 1, none⟩) (by show g ≠ w.heap.size; omega)]
      have hg2 : g < w2.heap.size := HII.out.1
      have ho6 := own_size hown hB26
      have ho7 := ownsRow_setCell_below (a := ⟨w.heap.size, 3, none⟩) (ownsRow_setCell_below (a := ⟨w.heap.size, 1, none⟩) ho6 (by show w.heap.size < _; omega) (.int .i64 y)) (by show w.heap.size < _; omega) (.int .i64 y)
      have hz7 : ((w6.setCell ⟨w.heap.size, 1, none⟩ (.int .i64 y)).setCell ⟨w.heap.size, 3, none⟩ (.int .i64 y)).heap.size = w6.heap.size := by simp
      have hB26s := hB26.size
      refine ⟨by omega, _, _, (hne 0).trans ((hB26.cell hg2).trans c0), (hne 1).trans ((hB26.cell hg2).trans c1), (HFl.out.below (HBw7.out.mono hB)).more (Nat.le_trans hB HBw7.out.size), ?_⟩
      exact own_ints (l := natL rn) ho7 (by rw [natL_len]; omega) (fun z hz => by
        have := natL_wf (p := fun _ => true) (fun u hu => HRR.out.1.lt u hu) hrnl (by omega) (z := z)
        rw [List.filter_eq_self.2 (fun _ _ => rfl)] at this
        exact this hz))
    clear k1 k3 f1 f3
    generalize ((w6.setCell ⟨w.heap.size, 1, none⟩ (.int .i64 y)).setCell ⟨w.heap.size, 3, none⟩ (.int .i64 y)) = W7 at *
    have k0 := (HK7.out.cell 0).trans rfl
    have k1 := (HK7.out.cell 1).trans rfl
    have k2 := (HK7.out.cell 2).trans rfl
    have k3 := (HK7.out.cell 3).trans rfl
    have jj1 : (jj : Int) < ((rn.filter (inP l x0 y x1 y)).length : Int) := by omega
    go_wp2_with (go_at_call 21; refine (report_any x0 y x1 y _ g n l rn _ (Nat.le_refl _) HI7.out (HRR.out.1.ordX h150)).mono ?_; rintro e w8 ⟨⟨u, rfl, hu⟩, hb8⟩; have HB8 := Lib.hid hb8; clear hb8 k0 k1 k2 k3; obtain ⟨A8, c8, rfl, _, _, _, hr8, _⟩ := hu; obtain ⟨ob, oo, rfl, _, hcells8⟩ := ints_cells hr8 (by rw [natL_len]; omega); have o8 := hcells8 jj (by rw [natL_len]; omega); rw [natL_at] at o8; rw [natL_len]; clear hr8 hcells8)
    go_ret2
    exact ⟨⟨_, _, rfl, .inr ⟨HPt.out, ⟨j, rfl, by rw [HCn.out]; exact hj, fun M hM => by rw [← HJM.out M hM, ge_at _ hjl]⟩, rfl⟩⟩, HBw7.out.trans (HB8.out.mono HBw7.out.size)⟩
  · have HE : Hid (KthA l n x0 y0 x1 y1 k 0 (ptCode n l)) := Lib.hid (.inl (.inl ⟨h0, rfl, rfl⟩))
    have HCe : Hid (∀ c, CountR l n x0 y0 x1 y1 c → c = 0) := Lib.hid fun c hc => hc.2 h0
    clear HBu
    generalize ptCode n l = cc at *
    have t0 : (cc != 0) = true := bne_iff_ne.2 h0
    go_enter Tryz.func8, Tryz.ntmps8
    go_wp2_with (go_at_call 6; refine (HP.out).mono ?_; rintro e w1 ⟨⟨c1, rfl, hc1⟩, hb1⟩)
    go_ret2
    exact ⟨⟨_, _, rfl, HE.out⟩, HB0.out.trans (hb1.mono HB0.out.size)⟩
end Go.Proofs.YthbopbbpogddlaaGreat

/-
  An argument that is a struct of four ints. Conditions: it can be read as data.
-/
namespace Go.Dam
open Go Go.RowKit Go.ChangeShapes Go.WideShapes Go.Joins Go.Deep
set_option linter.unusedVariables false
section
variable {H : Type} {P : Program} {w : World} {r : Reach} {b0 : Nat} {t : TypeId} {v : Value} {d : DataW H} {ps : List MemPlace} {enc : TypeId × Value → H} {base : Nat} {spare : Nat → Bool} {held : Bool}
theorem arg_rect {f0 f1 f2 f3 : Field} (hs : P.underlying t = some (.struct #[f0, f1, f2, f3])) (h0 : P.underlying f0.type = some (.int .i64)) (h1 : P.underlying f1.type = some (.int .i64)) (h2 : P.underlying f2.type = some (.int .i64)) (h3 : P.underlying f3.type = some (.int .i64))
    (hone : oneCellFields P #[f0, f1, f2, f3] = true) (hC : P.cellsOf t = 4) (hv : Value.okWide P w r b0 t v) (h : DataW.Trod enc P w base spare held t v d ps) (hz : Sized P t d) :
    ∃ x0 y0 x1 y1 : Int, v = .agg #[.int .i64 x0, .int .i64 y0, .int .i64 x1, .int .i64 y1] := by
  obtain ⟨cs, rfl, hsz⟩ := okWide_struct hs hv
  obtain ⟨c0, c1, c2, c3, rfl⟩ : ∃ c0 c1 c2 c3, cs = #[c0, c1, c2, c3] := by
    have h1 : cs.size = 4 := hsz.trans hC
    obtain ⟨l⟩ := cs
    match l, h1 with
    | [c0, c1, c2, c3], _ => exact ⟨c0, c1, c2, c3, rfl⟩
  obtain ⟨fuel, hf⟩ := h
  obtain ⟨xs, n, _, hx, hl, hlen, hf2⟩ := DataW.trod_struct hs hf
  obtain ⟨o0, k0⟩ := hone_of hone 0 f0 rfl
  obtain ⟨o1, k1⟩ := hone_of hone 1 f1 rfl
  obtain ⟨o2, k2⟩ := hone_of hone 2 f2 rfl
  obtain ⟨o3, k3⟩ := hone_of hone 3 f3 rfl
  match xs, hlen with
  | [y0, y1, y2, y3], _ =>
    have t0 : DataW.trod enc P w base spare held n f0.type [c0] = some y0 := by simpa [Value.cells, o0, k0] using hf2 0 f0 rfl
    have t1 : DataW.trod enc P w base spare held n f1.type [c1] = some y1 := by simpa [Value.cells, o1, k1] using hf2 1 f1 rfl
    have t2 : DataW.trod enc P w base spare held n f2.type [c2] = some y2 := by simpa [Value.cells, o2, k2] using hf2 2 f2 rfl
    have t3 : DataW.trod enc P w base spare held n f3.type [c3] = some y3 := by simpa [Value.cells, o3, k3] using hf2 3 f3 rfl
    obtain ⟨a0, e0, _, _⟩ := DataW.trod_int h0 t0
    obtain ⟨a1, e1, _, _⟩ := DataW.trod_int h1 t1
    obtain ⟨a2, e2, _, _⟩ := DataW.trod_int h2 t2
    obtain ⟨a3, e3, _, _⟩ := DataW.trod_int h3 t3
    simp only [List.cons.injEq, and_true] at e0 e1 e2 e3
    subst e0 e1 e2 e3
    exact ⟨a0, a1, a2, a3, rfl⟩
end
end Go.Dam

/-
  The walk of the law GridKths: grid.Kth and the reference answer alike. Conditions: the arguments can be read as data.
-/
namespace Go.Proofs.YthbopbbpogddlaaGreat
open Go Go.RowKit Go.Dam
set_option linter.unusedVariables false
set_option maxHeartbeats 1000000 in
theorem gridKths_walk (v : Value) (rv u1 : Value) (w : World) (h : ∃ n l, IsFlat 3 w w.heap.size v n l) (hr : ∃ x0 y0 x1 y1 : Int, rv = .agg #[.int .i64 x0, .int .i64 y0, .int .i64 x1, .int .i64 y1]) (h1 : ∃ x : Int, u1 = .int .i64 x ∧ I64 x) :
    Calls Tryz.prog 4 #[v, rv, u1] w fun e w' => e = .returned (.bool true) ∧ Below w.heap.size w w' := by
  obtain ⟨n, l, h⟩ := h
  obtain ⟨x0, y0, x1, y1, rfl⟩ := hr
  obtain ⟨k, rfl, hk⟩ := h1
  have HB0 := Lib.hid ((Below.refl w.heap.size w).alloc (Nat.le_refl _) (.cells #[.int .i64 x0, .int .i64 y0, .int .i64 x1, .int .i64 y1] 24))
  have HK := Lib.hid (Blk.new w 24 #[.int .i64 x0, .int .i64 y0, .int .i64 x1, .int .i64 y1])
  have H1 := Lib.hid (gridKth_any x0 y0 x1 y1 k v n l (w.alloc (.cells #[.int .i64 x0, .int .i64 y0, .int .i64 x1, .int .i64 y1] 24)) w.heap.size (by simp) (h.below HB0.out) hk)
  have H2 := Lib.hid fun w1 (hb : Below w.heap.size w w1) => refKth_any x0 y0 x1 y1 k v n l w1 w.heap.size hb.size (h.below hb) hk
  obtain ⟨A, c, rfl, hc, hm, hn, hl, hr, hw⟩ := h
  clear hr hl hw hk
  go_enter Tryz.func4, Tryz.ntmps4
  go_wp2_with (first
    | (go_at_call 8; refine (H1.out).mono ?_; rintro e w1 ⟨⟨r, cc, rfl, hk⟩, hb1⟩; have HB1 := Lib.hid (HB0.out.trans (hb1.mono HB0.out.size)); have HK1 := Lib.hid (HK.out.below hb1 (by simp)); have k0 := (HK1.out.cell 0).trans rfl; have k1 := (HK1.out.cell 1).trans rfl; have k2 := (HK1.out.cell 2).trans rfl; have k3 := (HK1.out.cell 3).trans rfl; have HC := Lib.hid hk; clear hb1 hk)
    | (go_at_call 9; refine (H2.out _ HB1.out).mono ?_; rintro e w2 ⟨⟨r', cc', rfl, hk'⟩, hb2⟩; obtain ⟨rfl, rfl⟩ := HC.out.same hk'; clear hk'))
  all_goals (go_ret; exact ⟨ret_bool (by simp), HB1.out.trans (hb2.mono HB1.out.size)⟩)
end Go.Proofs.YthbopbbpogddlaaGreat
