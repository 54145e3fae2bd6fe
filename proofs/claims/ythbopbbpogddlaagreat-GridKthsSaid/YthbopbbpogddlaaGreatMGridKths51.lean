/-
  Texts of one claim behind each other. Conditions: none of its own.
-/
import Derived.Test.YthbopbbpogddlaaGreatMGridKths38
import Derived.Test.YthbopbbpogddlaaGreatMGridKths45
import Derived.Test.YthbopbbpogddlaaGreatMGridKths50
/-
  Contracts of grid.Count and of the reference's GridCount. Conditions: the points can be read as data.
-/
namespace Go.Dam
open Go Go.RowKit Go.Dam.Stable
/-- What Count answers. -/
def CountR (l : List Int) (n : Nat) (x0 y0 x1 y1 : Int) (c : Int) : Prop := (ptCode n l = 0 → c = (cntIn l n x0 y0 x1 y1 : Int)) ∧ (ptCode n l ≠ 0 → c = 0)
theorem CountR.uniq {l : List Int} {n : Nat} {x0 y0 x1 y1 c d : Int} (h : CountR l n x0 y0 x1 y1 c) (g : CountR l n x0 y0 x1 y1 d) : c = d := by
  by_cases h0 : ptCode n l = 0
  · rw [h.1 h0, g.1 h0]
  · rw [h.2 h0, g.2 h0]
theorem cntIn_le (l : List Int) (n : Nat) (x0 y0 x1 y1 : Int) : cntIn l n x0 y0 x1 y1 ≤ n := by
  unfold cntIn; exact Nat.le_trans (List.length_filter_le _ _) (by rw [List.length_range]; exact Nat.le_refl _)
theorem cntIn_0 (l : List Int) (x0 y0 x1 y1 : Int) : cntIn l 0 x0 y0 x1 y1 = 0 := by have := cntIn_le l 0 x0 y0 x1 y1; omega
theorem stab_cnt {l : List Int} {n : Nat} {x0 y0 x1 y1 : Int} {lt : Int → Int → Bool} {r : List Int} (h : StabR lt (natL ((List.range n).filter (inQ l x0 y0 x1 y1))) r) : r.length = cntIn l n x0 y0 x1 y1 := by
  rw [h.len, natL_len]; unfold cntIn; rfl
end Go.Dam
namespace Go.Proofs.YthbopbbpogddlaaGreat
open Go Go.RowKit Go.Dam Go.Dam.Stable
set_option linter.unusedVariables false
set_option maxHeartbeats 4000000 in
theorem refCount_any (x0 y0 x1 y1 : Int) (v : Value) (n : Nat) (l : List Int) (w : World) (B : Nat) (hB : B ≤ w.heap.size) (h : IsFlat 3 w B v n l) :
    Calls Tryz.prog 7 #[v, .agg #[.int .i64 x0, .int .i64 y0, .int .i64 x1, .int .i64 y1]] w fun e w' => (∃ c, e = .returned (.tuple #[.int .i64 c, .int .i64 (ptCode n l)]) ∧ CountR l n x0 y0 x1 y1 c) ∧ Below w.heap.size w w' := by
  have HB0 := Lib.hid ((Below.refl w.heap.size w).alloc (Nat.le_refl _) (.cells #[.int .i64 x0, .int .i64 y0, .int .i64 x1, .int .i64 y1] 24))
  have HK := Lib.hid (Blk.new w 24 #[.int .i64 x0, .int .i64 y0, .int .i64 x1, .int .i64 y1])
  have HP := Lib.hid (pointsFault_any v n l (w.alloc (.cells #[.int .i64 x0, .int .i64 y0, .int .i64 x1, .int .i64 y1] 24)) B (by simp; omega) (h.below (HB0.out.mono hB)))
  have HWi := Lib.hid fun (h0 : ptCode n l = 0) w1 (hb : Below w.heap.size w w1) => repCWithin_any x0 y0 x1 y1 v n l w1 B (Nat.le_trans hB hb.size) (h.below (hb.mono hB)) (pt_coords h0).1
  by_cases h0 : ptCode n l = 0
  · have HW0 := Lib.hid (HWi.out h0)
    rw [h0] at HP
    clear HWi h
    go_enter Tryz.func7, Tryz.ntmps7
    go_wp2_with (first
      | (go_at_call 17; refine (HP.out).mono ?_; rintro e w1 ⟨rfl, hb1⟩; have HB1 := Lib.hid (HB0.out.trans (hb1.mono HB0.out.size)); have HK1 := Lib.hid (HK.out.below hb1 (by simp)); have k0 := (HK1.out.cell 0).trans rfl; have k1 := (HK1.out.cell 1).trans rfl; have k2 := (HK1.out.cell 2).trans rfl; have k3 := (HK1.out.cell 3).trans rfl; clear hb1)
      | (go_at_call 18; refine (HW0.out _ HB1.out).mono ?_; rintro e w2 ⟨⟨u, r, rfl, hst, hi⟩, hb2⟩; have HU := Lib.hid hi; have HST := Lib.hid hst; obtain ⟨A1, c1, rfl, _⟩ := hi; clear hst))
    go_ret2
    exact ⟨⟨r.length, by rw [h0]; rfl, fun _ => by rw [stab_cnt HST.out], fun hc => absurd h0 hc⟩, HB1.out.trans (hb2.mono HB1.out.size)⟩
  · have HE : Hid (CountR l n x0 y0 x1 y1 0) := Lib.hid ⟨fun hc => absurd hc h0, fun _ => rfl⟩
    clear HWi h
    generalize ptCode n l = cc at *
    have t0 : (cc != 0) = true := bne_iff_ne.2 h0
    go_enter Tryz.func7, Tryz.ntmps7
    go_wp2_with (go_at_call 17; refine (HP.out).mono ?_; rintro e w1 ⟨rfl, hb1⟩)
    go_ret2
    exact ⟨⟨0, rfl, HE.out⟩, HB0.out.trans (hb1.mono HB0.out.size)⟩
set_option maxRecDepth 100000 in
set_option maxHeartbeats 4000000 in
theorem gridCount_any (x0 y0 x1 y1 : Int) (v : Value) (n : Nat) (l : List Int) (w : World) (B : Nat) (hB : B ≤ w.heap.size) (h : IsFlat 3 w B v n l) :
    Calls Tryz.prog 6 #[v, .agg #[.int .i64 x0, .int .i64 y0, .int .i64 x1, .int .i64 y1]] w fun e w' => (∃ c, e = .returned (.tuple #[.int .i64 c, .int .i64 (ptCode n l)]) ∧ CountR l n x0 y0 x1 y1 c) ∧ Below w.heap.size w w' := by
  have HB0 := Lib.hid ((Below.refl w.heap.size w).alloc (Nat.le_refl _) (.cells #[.int .i64 x0, .int .i64 y0, .int .i64 x1, .int .i64 y1] 24))
  have HK := Lib.hid (Blk.new w 24 #[.int .i64 x0, .int .i64 y0, .int .i64 x1, .int .i64 y1])
  have HP := Lib.hid (gridCheck_any v n l (w.alloc (.cells #[.int .i64 x0, .int .i64 y0, .int .i64 x1, .int .i64 y1] 24)) B (by simp; omega) (h.below (HB0.out.mono hB)))
  have HBu := Lib.hid fun (h0 : ptCode n l = 0) w1 (hb : Below w.heap.size w w1) => gridBuild_any v n l w1 B (Nat.le_trans hB hb.size) (h.below (hb.mono hB)) (pt_coords h0).1
  have hB0 := HB0.out.size
  by_cases h0 : ptCode n l = 0
  · have HW0 := Lib.hid (HBu.out h0)
    have h150 := (pt_coords h0).1
    rw [h0] at HP
    by_cases hn0 : n = 0
    · subst hn0
      obtain ⟨A, c, rfl, _⟩ := h
      clear HBu HW0
      go_enter Tryz.func6, Tryz.ntmps6
      go_wp2_with (go_at_call 13; refine (HP.out).mono ?_; rintro e w1 ⟨rfl, hb1⟩)
      go_ret2
      exact ⟨⟨0, by rw [h0]; rfl, fun _ => by rw [cntIn_0]; rfl, fun _ => rfl⟩, HB0.out.trans (hb1.mono HB0.out.size)⟩
    obtain ⟨A, c, rfl, _⟩ := h
    have t1 : ((n : Int) == 0) = false := beq_eq_false_iff_ne.2 (by omega)
    have t2 : decide (n = 0) = false := decide_eq_false hn0
    have hpos : 0 < n := by omega
    clear HBu hn0
    go_enter Tryz.func6, Tryz.ntmps6
    go_upto_region 6 with (go_at_call 13; refine (HP.out).mono ?_; rintro e w1 ⟨rfl, hb1⟩)
    have HB1 := Lib.hid (HB0.out.trans (hb1.mono HB0.out.size))
    have HK1 := Lib.hid (HK.out.below hb1 (by simp))
    clear hb1
    go_upto_region 7 with (go_at_call 14; refine (HW0.out _ HB1.out).mono ?_; rintro e w2 ⟨⟨g, rn, vals, rs, wss, cc, rfl, hR, hI, hfar⟩, hb2⟩)
    have hzb2 := hb2.size
    have HRR := Lib.hid hR
    have HII := Lib.hid hI
    have HB2 := Lib.hid (HB1.out.trans (hb2.mono HB1.out.size))
    have HK2 := Lib.hid (HK1.out.below hb2 HK1.out.lt)
    have k0 := (HK2.out.cell 0).trans rfl
    have k1 := (HK2.out.cell 1).trans rfl
    have k2 := (HK2.out.cell 2).trans rfl
    have k3 := (HK2.out.cell 3).trans rfl
    clear hb2 hR hI hfar
    go_upto_region 8 with (go_at_call 15; refine (columns_any x0 y0 x1 y1 _ g n l rn _ (Nat.le_refl _) HII.out.two (HRR.out.1.ordX h150)).mono ?_; rintro e w3 ⟨⟨a, b, rfl, hab⟩, hb3⟩)
    have HAB := Lib.hid hab
    have hle := cols_le hab
    have HB3 := Lib.hid (HB2.out.trans (hb3.mono HB2.out.size))
    have HK3 := Lib.hid (HK2.out.below hb3 HK2.out.lt)
    have HI3 := Lib.hid ((HII.out.below hb3).more hb3.size)
    have HE := Lib.hid (count_eq (y0 := y0) (y1 := y1) HRR.out.1 hab)
    have hn1 := belowN_le l rn n a b y1 true
    have hn2 := belowN_le l rn n a b y0 false
    clear hab hb3 k0 k1 k2 k3
    have k1 := (HK3.out.cell 1).trans rfl
    have k3 := (HK3.out.cell 3).trans rfl
    have HBl := Lib.hid fun y at_ (W : World) (hW : Below w3.heap.size w3 W) => gridBelow_any y at_ a b _ g n l rn vals rs wss cc W hW.size (HI3.out.below hW) HRR.out hpos h150 hle.1 hle.2
    have hwr : IntKind.i64.wrap ((belowN l rn n a b y1 true : Int) - (belowN l rn n a b y0 false : Int)) = (belowN l rn n a b y1 true : Int) - (belowN l rn n a b y0 false : Int) := IntWalk.i64_in _ (by omega)
    go_region_held3 (fun w' => w'.cell? ⟨w.heap.size, 1, none⟩ = some (.int .i64 y0) ∧ w'.cell? ⟨w.heap.size, 3, none⟩ = some (.int .i64 y1))
      (first
        | exact ⟨k1, k3⟩
        | exact ⟨kept_call hb4 (cell_lt k1) k1, kept_call hb4 (cell_lt k3) k3⟩
        | exact ⟨kept_call hb5 (cell_lt (kept_call hb4 (cell_lt k1) k1)) (kept_call hb4 (cell_lt k1) k1), kept_call hb5 (cell_lt (kept_call hb4 (cell_lt k3) k3)) (kept_call hb4 (cell_lt k3) k3)⟩)
      (first
        | (go_at_call 16; refine (HBl.out _ _ _ (Below.refl _ _).drew).mono ?_; rintro e w4 ⟨rfl, hb4⟩)
        | (go_at_call 16; refine (HBl.out _ _ _ ((Below.refl _ _).drew.trans hb4)).mono ?_; rintro e w5 ⟨rfl, hb5⟩))
    all_goals go_wp2_with fail
    all_goals go_ret2
    all_goals have HX := HE.out
    all_goals exact ⟨⟨_, by rw [h0]; rfl, fun _ => by omega, fun hc => absurd h0 hc⟩, (HB3.out.drew.trans (hb4.mono HB3.out.size)).trans (hb5.mono (Nat.le_trans HB3.out.size hb4.size))⟩
  · have HE : Hid (CountR l n x0 y0 x1 y1 0) := Lib.hid ⟨fun hc => absurd hc h0, fun _ => rfl⟩
    clear HBu h
    generalize ptCode n l = cc at *
    have t0 : (cc != 0) = true := bne_iff_ne.2 h0
    go_enter Tryz.func6, Tryz.ntmps6
    go_wp2_with (go_at_call 13; refine (HP.out).mono ?_; rintro e w1 ⟨rfl, hb1⟩)
    go_ret2
    exact ⟨⟨0, rfl, HE.out⟩, HB0.out.trans (hb1.mono HB0.out.size)⟩
end Go.Proofs.YthbopbbpogddlaaGreat

/-
  Contracts of the reference's within with the order by Y and X (with its closures). Conditions: the points can be read as data; they are at most 150.
-/
namespace Go.Dam
open Go Go.RowKit
/-- Points, compared. -/
def ltYx (x0 y0 z0 x1 y1 z1 : Int) : Bool := decide (y0 < y1) || (decide (y0 = y1) && decide (x0 < x1))
/-- Places, by their points. -/
def ltPYx (l : List Int) (x y : Int) : Bool := ltYx (l.getD (x.toNat * 3) 0) (l.getD (x.toNat * 3 + 1) 0) (l.getD (x.toNat * 3 + 2) 0) (l.getD (y.toNat * 3) 0) (l.getD (y.toNat * 3 + 1) 0) (l.getD (y.toNat * 3 + 2) 0)
end Go.Dam
namespace Go.Proofs.YthbopbbpogddlaaGreat
open Go Go.RowKit Go.Dam
set_option linter.unusedVariables false
section
variable (x0 y0 z0 x1 y1 z1 : Int) (w : World)
set_option maxHeartbeats 1000000 in
theorem repYxLess_any : Calls Tryz.prog 22 #[.agg #[.int .i64 x0, .int .i64 y0, .int .i64 z0], .agg #[.int .i64 x1, .int .i64 y1, .int .i64 z1]] w fun e w' => e = .returned (.bool (ltYx x0 y0 z0 x1 y1 z1)) ∧ (∃ q os, w' = Sort.grow (w.drewN q) os) ∧ Below w.heap.size w w' := by
  have HB0 := Lib.hid (((Below.refl w.heap.size w).alloc (Nat.le_refl _) (.cells #[.int .i64 x0, .int .i64 y0, .int .i64 z0] 43)).alloc (by simp) (.cells #[.int .i64 x1, .int .i64 y1, .int .i64 z1] 43))
  have HG : Hid (∃ q os, (w.alloc (.cells #[.int .i64 x0, .int .i64 y0, .int .i64 z0] 43)).alloc (.cells #[.int .i64 x1, .int .i64 y1, .int .i64 z1] 43) = Sort.grow (w.drewN q) os) := Lib.hid ⟨0, _, by rw [Sort.alloc_eq_grow, Sort.alloc_eq_grow, Sort.grow_grow]; rfl⟩
  obtain ⟨q, hq⟩ : ∃ q, ltYx x0 y0 z0 x1 y1 z1 = q := ⟨_, rfl⟩
  by_cases h1 : y0 < y1
  · obtain rfl : true = q := by rw [← hq]; unfold ltYx; simp [h1]
    have t1 : decide (y0 < y1) = true := decide_eq_true h1
    rw [hq]; clear hq
    go_enter Tryz.func22, Tryz.ntmps22
    go_wp2_with fail
    go_ret
    exact ⟨rfl, HG.out, HB0.out⟩
  have t1 : decide (y0 < y1) = false := decide_eq_false h1
  by_cases h2 : y0 = y1
  rotate_left
  · obtain rfl : false = q := by rw [← hq]; unfold ltYx; simp [h1, h2]
    have t2 : (y0 == y1) = false := beq_eq_false_iff_ne.2 h2
    rw [hq]; clear hq
    go_enter Tryz.func22, Tryz.ntmps22
    go_wp2_with fail
    go_ret
    exact ⟨rfl, HG.out, HB0.out⟩
  · have hq2 : decide (x0 < x1) = q := by rw [← hq]; unfold ltYx; simp [h2]
    have t2 : (y0 == y1) = true := beq_iff_eq.2 h2
    have HE := Lib.hid h2
    rw [hq]; clear hq h2
    cases q with
    | true =>
      have h4 : x0 < x1 := of_decide_eq_true hq2
      go_enter Tryz.func22, Tryz.ntmps22
      go_wp2_with fail
      go_ret
      exact ⟨ret_bool (by simp [h4]), HG.out, HB0.out⟩
    | false =>
      have h4 : ¬ x0 < x1 := of_decide_eq_false hq2
      go_enter Tryz.func22, Tryz.ntmps22
      go_wp2_with fail
      go_ret
      exact ⟨ret_bool (by simp [h4]), HG.out, HB0.out⟩
end
set_option maxHeartbeats 4000000 in
theorem repYxWithinLess_any (i j pi pj m co n c bk off ob k0 k1 k2 : Nat) (x0 y0 z0 x1 y1 z1 : Int) (w : World) (hi : i < m) (hj : j < m) (hm : m ≤ 150) (hpi : pi < n) (hpj : pj < n) (hn : n ≤ 150)
    (b0 : w.cell? ⟨k0, 0, none⟩ = some (.func (.func 22) #[] #[])) (b1 : w.cell? ⟨k1, 0, none⟩ = some (.slice (some ⟨bk, off, none⟩) n c)) (b2 : w.cell? ⟨k2, 0, none⟩ = some (.slice (some ⟨ob, 0, none⟩) m co))
    (o0 : w.cell? ⟨ob, i, none⟩ = some (.int .i64 pi)) (o1 : w.cell? ⟨ob, j, none⟩ = some (.int .i64 pj))
    (c0 : w.cell? ⟨bk, off + pi * 3, none⟩ = some (.int .i64 x0)) (c1 : w.cell? ⟨bk, off + pi * 3 + 1, none⟩ = some (.int .i64 y0)) (c2 : w.cell? ⟨bk, off + pi * 3 + 2, none⟩ = some (.int .i64 z0))
    (d0 : w.cell? ⟨bk, off + pj * 3, none⟩ = some (.int .i64 x1)) (d1 : w.cell? ⟨bk, off + pj * 3 + 1, none⟩ = some (.int .i64 y1)) (d2 : w.cell? ⟨bk, off + pj * 3 + 2, none⟩ = some (.int .i64 z1)) :
    Calls Tryz.prog 45 #[.int .i64 i, .int .i64 j, .pointer (some ⟨k0, 0, none⟩), .pointer (some ⟨k1, 0, none⟩), .pointer (some ⟨k2, 0, none⟩)] w fun e w' => e = .returned (.bool (ltYx x0 y0 z0 x1 y1 z1)) ∧ ∃ q os, w' = Sort.grow (w.drewN q) os := by
  have i1 : (i : Int) < (m : Int) := by omega
  have j1 : (j : Int) < (m : Int) := by omega
  have i2 : (pi : Int) < (n : Int) := by omega
  have j2 : (pj : Int) < (n : Int) := by omega
  have HL := Lib.hid repYxLess_any
  go_enter Tryz.func45, Tryz.ntmps45
  go_wp2_with fail
  go_region_held3 (fun w' => w'.cell? ⟨k0, 0, none⟩ = some (.func (.func 22) #[] #[]) ∧ w'.cell? ⟨k1, 0, none⟩ = some (.slice (some ⟨bk, off, none⟩) n c) ∧ w'.cell? ⟨k2, 0, none⟩ = some (.slice (some ⟨ob, 0, none⟩) m co) ∧ w'.cell? ⟨ob, i, none⟩ = some (.int .i64 pi) ∧ w'.cell? ⟨ob, j, none⟩ = some (.int .i64 pj) ∧ w'.cell? ⟨bk, off + pi * 3, none⟩ = some (.int .i64 x0) ∧ w'.cell? ⟨bk, off + pi * 3 + 1, none⟩ = some (.int .i64 y0) ∧ w'.cell? ⟨bk, off + pi * 3 + 2, none⟩ = some (.int .i64 z0) ∧ w'.cell? ⟨bk, off + pj * 3, none⟩ = some (.int .i64 x1) ∧ w'.cell? ⟨bk, off + pj * 3 + 1, none⟩ = some (.int .i64 y1) ∧ w'.cell? ⟨bk, off + pj * 3 + 2, none⟩ = some (.int .i64 z1))
    (first
      | exact ⟨b0, b1, b2, o0, o1, c0, c1, c2, d0, d1, d2⟩
      | exact ⟨kept_grow b0, kept_grow b1, kept_grow b2, kept_grow o0, kept_grow o1, kept_grow c0, kept_grow c1, kept_grow c2, kept_grow d0, kept_grow d1, kept_grow d2⟩)
    (first
      | (go_at_call 22; refine (HL.out _ _ _ _ _ _ _).mono ?_; rintro e w' ⟨rfl, ⟨q, os, rfl⟩, hbi⟩))
  all_goals go_wp2_with fail
  all_goals go_ret
  all_goals exact ⟨rfl, _, _, rfl⟩
end Go.Proofs.YthbopbbpogddlaaGreat
