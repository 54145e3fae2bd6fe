/-
  Texts of one claim behind each other. Conditions: none of its own.
-/
import Derived.Test.YthbopbbpogddlaaMSkyUnders40
import Derived.Test.YthbopbbpogddlaaMSkyUnders48
import Derived.Test.YthbopbbpogddlaaMSkyUnders52
import Derived.Test.YthbopbbpogddlaaMSkyUnders02
import Derived.Test.YthbopbbpogddlaaMSkyUnders03
/-
  Contracts of grid.Count and of the reference's GridCount. Conditions: the points can be read as data.
-/
namespace Go.Dam
open Go Go.RowKit Go.Dam.Stable
/-- What Count answers. -/
def CountR (l : List Int) (n : Nat) (x0 y0 x1 y1 : Int) (c : Int) : Prop := (ptCode n l = 0 → c = (cntIn l n x0 y0 x1 y1 : Int)) ∧ (ptCode n l ≠ 0 → c = 0)
theorem CountR.uniq {l : List Int} {n : Nat} {x0 y0 x1 y1 c d : Int} (h : CountR l n x0 y0 x1 y1 c) (g : CountR l n x0 y0 x1 y1 d) : c = d := by
  by_cases h0 : ptCode n l = 0
  · rw [h.1 h0, g.1 h0]
  · rw [h.2 h0, g.2 h0]
theorem cntIn_le (l : List Int) (n : Nat) (x0 y0 x1 y1 : Int) : cntIn l n x0 y0 x1 y1 ≤ n := by
  unfold cntIn; exact Nat.le_trans (List.length_filter_le _ _) (by rw [List.length_range]; exact Nat.le_refl _)
theorem cntIn_0 (l : List Int) (x0 y0 x1 y1 : Int) : cntIn l 0 x0 y0 x1 y1 = 0 := by have := cntIn_le l 0 x0 y0 x1 y1; omega
theorem stab_cnt {l : List Int} {n : Nat} {x0 y0 x1 y1 : Int} {lt : Int → Int → Bool} {r : List Int} (h : StabR lt (natL ((List.range n).filter (inQ l x0 y0 x1 y1))) r) : r.length = cntIn l n x0 y0 x1 y1 := by
  rw [h.len, natL_len]; unfold cntIn; rfl
end Go.Dam
namespace Go.Proofs.Ythbopbbpogddlaa
open Go Go.RowKit Go.Dam Go.Dam.Stable
set_option linter.unusedVariables false
set_option maxRecDepth 100000 in
set_option maxHeartbeats 4000000 in
theorem gridCount_any (x0 y0 x1 y1 : Int) (v : Value) (n : Nat) (l : List Int) (w : World) (B : Nat) (hB : B ≤ w.heap.size) (h : IsFlat 3 w B v n l) :
    Calls Try.prog 19 #[v, .agg #[.int .i64 x0, .int .i64 y0, .int .i64 x1, .int .i64 y1]] w fun e w' => (∃ c, e = .returned (.tuple #[.int .i64 c, .int .i64 (ptCode n l)]) ∧ CountR l n x0 y0 x1 y1 c) ∧ Below w.heap.size w w' := by
  have HB0 := Lib.hid ((Below.refl w.heap.size w).alloc (Nat.le_refl _) (.cells #[.int .i64 x0, .int .i64 y0, .int .i64 x1, .int .i64 y1] 24))
  have HK := Lib.hid (Blk.new w 24 #[.int .i64 x0, .int .i64 y0, .int .i64 x1, .int .i64 y1])
  have HP := Lib.hid (gridCheck_any v n l (w.alloc (.cells #[.int .i64 x0, .int .i64 y0, .int .i64 x1, .int .i64 y1] 24)) B (by simp; omega) (h.below (HB0.out.mono hB)))
  have HBu := Lib.hid fun (h0 : ptCode n l = 0) w1 (hb : Below w.heap.size w w1) => gridBuild_any v n l w1 B (Nat.le_trans hB hb.size) (h.below (hb.mono hB)) (pt_coords h0).1
  have hB0 := HB0.out.size
  by_cases h0 : ptCode n l = 0
  · have HW0 := Lib.hid (HBu.out h0)
    have h150 := (pt_coords h0).1
    rw [h0] at HP
    by_cases hn0 : n = 0
    · subst hn0
      obtain ⟨A, c, rfl, _⟩ := h
      clear HBu HW0
      go_enter Try.func19, Try.ntmps19
      go_wp2_with (go_at_call 13; refine (HP.out).mono ?_; rintro e w1 ⟨rfl, hb1⟩)
      go_ret2
      exact ⟨⟨0, by rw [h0]; rfl, fun _ => by rw [cntIn_0]; rfl, fun _ => rfl⟩, HB0.out.trans (hb1.mono HB0.out.size)⟩
    obtain ⟨A, c, rfl, _⟩ := h
    have t1 : ((n : Int) == 0) = false := beq_eq_false_iff_ne.2 (by omega)
    have t2 : decide (n = 0) = false := decide_eq_false hn0
    have hpos : 0 < n := by omega
    clear HBu hn0
    go_enter Try.func19, Try.ntmps19
    go_upto_region 6 with (go_at_call 13; refine (HP.out).mono ?_; rintro e w1 ⟨rfl, hb1⟩)
    have HB1 := Lib.hid (HB0.out.trans (hb1.mono HB0.out.size))
    have HK1 := Lib.hid (HK.out.below hb1 (by simp))
    clear hb1
    go_upto_region 7 with (go_at_call 14; refine (HW0.out _ HB1.out).mono ?_; rintro e w2 ⟨⟨g, rn, vals, rs, wss, cc, rfl, hR, hI, hfar⟩, hb2⟩)
    have hzb2 := hb2.size
    have HRR := Lib.hid hR
    have HII := Lib.hid hI
    have HB2 := Lib.hid (HB1.out.trans (hb2.mono HB1.out.size))
    have HK2 := Lib.hid (HK1.out.below hb2 HK1.out.lt)
    have k0 := (HK2.out.cell 0).trans rfl
    have k1 := (HK2.out.cell 1).trans rfl
    have k2 := (HK2.out.cell 2).trans rfl
    have k3 := (HK2.out.cell 3).trans rfl
    clear hb2 hR hI hfar
    go_upto_region 8 with (go_at_call 39; refine (columns_any x0 y0 x1 y1 _ g n l rn _ (Nat.le_refl _) HII.out.two (HRR.out.1.ordX h150)).mono ?_; rintro e w3 ⟨⟨a, b, rfl, hab⟩, hb3⟩)
    have HAB := Lib.hid hab
    have hle := cols_le hab
    have HB3 := Lib.hid (HB2.out.trans (hb3.mono HB2.out.size))
    have HK3 := Lib.hid (HK2.out.below hb3 HK2.out.lt)
    have HI3 := Lib.hid ((HII.out.below hb3).more hb3.size)
    have HE := Lib.hid (count_eq (y0 := y0) (y1 := y1) HRR.out.1 hab)
    have hn1 := belowN_le l rn n a b y1 true
    have hn2 := belowN_le l rn n a b y0 false
    clear hab hb3 k0 k1 k2 k3
    have k1 := (HK3.out.cell 1).trans rfl
    have k3 := (HK3.out.cell 3).trans rfl
    have HBl := Lib.hid fun y at_ (W : World) (hW : Below w3.heap.size w3 W) => gridBelow_any y at_ a b _ g n l rn vals rs wss cc W hW.size (HI3.out.below hW) HRR.out hpos h150 hle.1 hle.2
    have hwr : IntKind.i64.wrap ((belowN l rn n a b y1 true : Int) - (belowN l rn n a b y0 false : Int)) = (belowN l rn n a b y1 true : Int) - (belowN l rn n a b y0 false : Int) := IntWalk.i64_in _ (by omega)
    go_region_held3 (fun w' => w'.cell? ⟨w.heap.size, 1, none⟩ = some (.int .i64 y0) ∧ w'.cell? ⟨w.heap.size, 3, none⟩ = some (.int .i64 y1))
      (first
        | exact ⟨k1, k3⟩
        | exact ⟨kept_call hb4 (cell_lt k1) k1, kept_call hb4 (cell_lt k3) k3⟩
        | exact ⟨kept_call hb5 (cell_lt (kept_call hb4 (cell_lt k1) k1)) (kept_call hb4 (cell_lt k1) k1), kept_call hb5 (cell_lt (kept_call hb4 (cell_lt k3) k3)) (kept_call hb4 (cell_lt k3) k3)⟩)
      (first
        | (go_at_call 43; refine (HBl.out _ _ _ (Below.refl _ _).drew).mono ?_; rintro e w4 ⟨rfl, hb4⟩)
        | (go_at_call 43; refine (HBl.out _ _ _ ((Below.refl _ _).drew.trans hb4)).mono ?_; rintro e w5 ⟨rfl, hb5⟩))
    all_goals go_wp2_with fail
    all_goals go_ret2
    all_goals have HX := HE.out
    all_goals exact ⟨⟨_, by rw [h0]; rfl, fun _ => by omega, fun hc => absurd h0 hc⟩, (HB3.out.drew.trans (hb4.mono HB3.out.size)).trans (hb5.mono (Nat.le_trans HB3.out.size hb4.size))⟩
  · have HE : Hid (CountR l n x0 y0 x1 y1 0) := Lib.hid ⟨fun hc => absurd hc h0, fun _ => rfl⟩
    clear HBu h
    generalize ptCode n l = cc at *
    have t0 : (cc != 0) = true := bne_iff_ne.2 h0
    go_enter Try.func19, Try.ntmps19
    go_wp2_with (go_at_call 13; refine (HP.out).mono ?_; rintro e w1 ⟨rfl, hb1⟩)
    go_ret2
    exact ⟨⟨0, rfl, HE.out⟩, HB0.out.trans (hb1.mono HB0.out.size)⟩
end Go.Proofs.Ythbopbbpogddlaa

/-
  Contract of the reference's isAbove: is a point above another one? Conditions: none.
-/
namespace Go.Dam
open Go Go.RowKit
/-- Is a point above another one? -/
def aboveB (ax ay bx by_ : Int) : Bool := (decide (bx < ax) && decide (by_ ≤ ay)) || (decide (bx ≤ ax) && decide (by_ < ay))
end Go.Dam
namespace Go.Proofs.Ythbopbbpogddlaa
open Go Go.RowKit Go.Dam
set_option linter.unusedVariables false
section
variable (x0 y0 z0 x1 y1 z1 : Int) (w : World)
set_option maxHeartbeats 4000000 in
theorem refAbove_any : Calls Try.prog 20 #[.agg #[.int .i64 x0, .int .i64 y0, .int .i64 z0], .agg #[.int .i64 x1, .int .i64 y1, .int .i64 z1]] w fun e w' => e = .returned (.bool (aboveB x0 y0 x1 y1)) ∧ Below w.heap.size w w' := by
  have HB0 := Lib.hid (((Below.refl w.heap.size w).alloc (Nat.le_refl _) (.cells #[.int .i64 x0, .int .i64 y0, .int .i64 z0] 42)).alloc (by simp) (.cells #[.int .i64 x1, .int .i64 y1, .int .i64 z1] 42))
  by_cases h1 : x1 < x0
  · have t1 := decide_eq_true h1
    by_cases h2 : y1 ≤ y0
    · have he : aboveB x0 y0 x1 y1 = true := by unfold aboveB; simp [h1, h2]
      rw [he]; clear he
      have t2 := decide_eq_true h2
      go_enter Try.func20, Try.ntmps20
      go_wp2_with fail
      go_ret
      exact ⟨ret_bool (by simp), HB0.out⟩
    · have h4 : ¬ y1 < y0 := by omega
      have he : aboveB x0 y0 x1 y1 = false := by unfold aboveB; simp [h2, h4]
      rw [he]; clear he
      have t2 := decide_eq_false h2
      have h3 : x1 ≤ x0 := by omega
      have t3 := decide_eq_true h3
      have t4 := decide_eq_false h4
      go_enter Try.func20, Try.ntmps20
      go_wp2_with fail
      go_ret
      exact ⟨ret_bool (by simp), HB0.out⟩
  · have t1 := decide_eq_false h1
    by_cases h3 : x1 ≤ x0
    · have t3 := decide_eq_true h3
      by_cases h4 : y1 < y0
      · have he : aboveB x0 y0 x1 y1 = true := by unfold aboveB; simp [h1, h3, h4]
        rw [he]; clear he
        have t4 := decide_eq_true h4
        go_enter Try.func20, Try.ntmps20
        go_wp2_with fail
        go_ret
        exact ⟨ret_bool (by simp), HB0.out⟩
      · have he : aboveB x0 y0 x1 y1 = false := by unfold aboveB; simp [h1, h4]
        rw [he]; clear he
        have t4 := decide_eq_false h4
        go_enter Try.func20, Try.ntmps20
        go_wp2_with fail
        go_ret
        exact ⟨ret_bool (by simp), HB0.out⟩
    · have t3 := decide_eq_false h3
      have he : aboveB x0 y0 x1 y1 = false := by unfold aboveB; simp [h1, h3]
      rw [he]; clear he
      go_enter Try.func20, Try.ntmps20
      go_wp2_with fail
      go_ret
      exact ⟨ret_bool (by simp), HB0.out⟩
end
end Go.Proofs.Ythbopbbpogddlaa
