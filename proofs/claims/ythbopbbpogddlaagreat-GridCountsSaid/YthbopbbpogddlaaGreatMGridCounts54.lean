/-
  Texts of one claim behind each other. Conditions: none of its own.
-/
import Derived.Test.YthbopbbpogddlaaGreatMGridCounts41
import Derived.Test.YthbopbbpogddlaaGreatMGridCounts48
import Derived.Test.YthbopbbpogddlaaGreatMGridCounts53
import Derived.Test.YthbopbbpogddlaaGreatMGridCounts04
/-
  Contracts of grid.Count and of the reference's GridCount. Conditions: the points can be read as data.
-/
namespace Go.Dam
open Go Go.RowKit Go.Dam.Stable
/-- What Count answers. -/
def CountR (l : List Int) (n : Nat) (x0 y0 x1 y1 : Int) (c : Int) : Prop := (ptCode n l = 0 → c = (cntIn l n x0 y0 x1 y1 : Int)) ∧ (ptCode n l ≠ 0 → c = 0)
theorem CountR.uniq {l : List Int} {n : Nat} {x0 y0 x1 y1 c d : Int} (h : CountR l n x0 y0 x1 y1 c) (g : CountR l n x0 y0 x1 y1 d) : c = d := by
  by_cases h0 : ptCode n l = 0
  · rw [h.1 h0, g.1 h0]
  · rw [h.2 h0, g.2 h0]
theorem cntIn_le (l : List Int) (n : Nat) (x0 y0 x1 y1 : Int) : cntIn l n x0 y0 x1 y1 ≤ n := by
  unfold cntIn; exact Nat.le_trans (List.length_filter_le _ _) (by rw [List.length_range]; exact Nat.le_refl _)
theorem cntIn_0 (l : List Int) (x0 y0 x1 y1 : Int) : cntIn l 0 x0 y0 x1 y1 = 0 := by have := cntIn_le l 0 x0 y0 x1 y1; omega
theorem stab_cnt {l : List Int} {n : Nat} {x0 y0 x1 y1 : Int} {lt : Int → Int → Bool} {r : List Int} (h : StabR lt (natL ((List.range n).filter (inQ l x0 y0 x1 y1))) r) : r.length = cntIn l n x0 y0 x1 y1 := by
  rw [h.len, natL_len]; unfold cntIn; rfl
end Go.Dam
namespace Go.Proofs.YthbopbbpogddlaaGreat
open Go Go.RowKit Go.Dam Go.Dam.Stable
set_option linter.unusedVariables false
set_option maxHeartbeats 4000000 in
theorem refCount_any (x0 y0 x1 y1 : Int) (v : Value) (n : Nat) (l : List Int) (w : World) (B : Nat) (hB : B ≤ w.heap.size) (h : IsFlat 3 w B v n l) :
    Calls Tryz.prog 7 #[v, .agg #[.int .i64 x0, .int .i64 y0, .int .i64 x1, .int .i64 y1]] w fun e w' => (∃ c, e = .returned (.tuple #[.int .i64 c, .int .i64 (ptCode n l)]) ∧ CountR l n x0 y0 x1 y1 c) ∧ Below w.heap.size w w' := by
  have HB0 := Lib.hid ((Below.refl w.heap.size w).alloc (Nat.le_refl _) (.cells #[.int .i64 x0, .int .i64 y0, .int .i64 x1, .int .i64 y1] 24))
  have HK := Lib.hid (Blk.new w 24 #[.int .i64 x0, .int .i64 y0, .int .i64 x1, .int .i64 y1])
  have HP := Lib.hid (pointsFault_any v n l (w.alloc (.cells #[.int .i64 x0, .int .i64 y0, .int .i64 x1, .int .i64 y1] 24)) B (by simp; omega) (h.below (HB0.out.mono hB)))
  have HWi := Lib.hid fun (h0 : ptCode n l = 0) w1 (hb : Below w.heap.size w w1) => repCWithin_any x0 y0 x1 y1 v n l w1 B (Nat.le_trans hB hb.size) (h.below (hb.mono hB)) (pt_coords h0).1
  by_cases h0 : ptCode n l = 0
  · have HW0 := Lib.hid (HWi.out h0)
    rw [h0] at HP
    clear HWi h
    go_enter Tryz.func7, Tryz.ntmps7
    go_wp2_with (first
      | (go_at_call 17; refine (HP.out).mono ?_; rintro e w1 ⟨rfl, hb1⟩; have HB1 := Lib.hid (HB0.out.trans (hb1.mono HB0.out.size)); have HK1 := Lib.hid (HK.out.below hb1 (by simp)); have k0 := (HK1.out.cell 0).trans rfl; have k1 := (HK1.out.cell 1).trans rfl; have k2 := (HK1.out.cell 2).trans rfl; have k3 := (HK1.out.cell 3).trans rfl; clear hb1)
      | (go_at_call 18; refine (HW0.out _ HB1.out).mono ?_; rintro e w2 ⟨⟨u, r, rfl, hst, hi⟩, hb2⟩; have HU := Lib.hid hi; have HST := Lib.hid hst; obtain ⟨A1, c1, rfl, _⟩ := hi; clear hst))
    go_ret2
    exact ⟨⟨r.length, by rw [h0]; rfl, fun _ => by rw [stab_cnt HST.out], fun hc => absurd h0 hc⟩, HB1.out.trans (hb2.mono HB1.out.size)⟩
  · have HE : Hid (CountR l n x0 y0 x1 y1 0) := Lib.hid ⟨fun hc => absurd hc h0, fun _ => rfl⟩
    clear HWi h
    generalize ptCode n l = cc at *
    have t0 : (cc != 0) = true := bne_iff_ne.2 h0
    go_enter Tryz.func7, Tryz.ntmps7
    go_wp2_with (go_at_call 17; refine (HP.out).mono ?_; rintro e w1 ⟨rfl, hb1⟩)
    go_ret2
    exact ⟨⟨0, rfl, HE.out⟩, HB0.out.trans (hb1.mono HB0.out.size)⟩
set_option maxRecDepth 100000 in
set_option maxHeartbeats 4000000 in
theorem gridCount_any (x0 y0 x1 y1 : Int) (v : Value) (n : Nat) (l : List Int) (w : World) (B : Nat) (hB : B ≤ w.heap.size) (h : IsFlat 3 w B v n l) :
    Calls Tryz.prog 6 #[v, .agg #[.int .i64 x0, .int .i64 y0, .int .i64 x1, .int .i64 y1]] w fun e w' => (∃ c, e = .returned (.tuple #[.int .i64 c, .int .i64 (ptCode n l)]) ∧ CountR l n x0 y0 x1 y1 c) ∧ Below w.heap.size w w' := by
  have HB0 := Lib.hid ((Below.refl w.heap.size w).alloc (Nat.le_refl _) (.cells #[.int .i64 x0, .int .i64 y0, .int .i64 x1, .int .i64 y1] 24))
  have HK := Lib.hid (Blk.new w 24 #[.int .i64 x0, .int .i64 y0, .int .i64 x1, .int .i64 y1])
  have HP := Lib.hid (gridCheck_any v n l (w.alloc (.cells #[.int .i64 x0, .int .i64 y0, .int .i64 x1, .int .i64 y1] 24)) B (by simp; omega) (h.below (HB0.out.mono hB)))
  have HBu := Lib.hid fun (h0 : ptCode n l = 0) w1 (hb : Below w.heap.size w w1) => gridBuild_any v n l w1 B (Nat.le_trans hB hb.size) (h.below (hb.mono hB)) (pt_coords h0).1
  have hB0 := HB0.out.size
  by_cases h0 : ptCode n l = 0
  · have HW0 := Lib.hid (HBu.out h0)
    have h150 := (pt_coords h0).1
    rw [h0] at HP
    by_cases hn0 : n = 0
    · subst hn0
      obtain ⟨A, c, rfl, _⟩ := h
      clear HBu HW0
      go_enter Tryz.func6, Tryz.ntmps6
      go_wp2_with (go_at_call 13; refine (HP.out).mono ?_; rintro e w1 ⟨rfl, hb1⟩)
      go_ret2
      exact ⟨⟨0, by rw [h0]; rfl, fun _ => by rw [cntIn_0]; rfl, fun _ => rfl⟩, HB0.out.trans (hb1.mono HB0.out.size)⟩
    obtain ⟨A, c, rfl, _⟩ := h
    have t1 : ((n : Int) == 0) = false := beq_eq_false_iff_ne.2 (by omega)
    have t2 : decide (n = 0) = false := decide_eq_false hn0
    have hpos : 0 < n := by omega
    clear HBu hn0
    go_enter Tryz.func6, Tryz.ntmps6
    go_upto_region 6 with (go_at_call 13; refine (HP.out).mono ?_; rintro e w1 ⟨rfl, hb1⟩)
    have HB1 := Lib.hid (HB0.out.trans (hb1.mono HB0.out.size))
    have HK1 := Lib.hid (HK.out.below hb1 (by simp))
    clear hb1
    go_upto_region 7 with (go_at_call 14; refine (HW0.out _ HB1.out).mono ?_; rintro e w2 ⟨⟨g, rn, vals, rs, wss, cc, rfl, hR, hI, hfar⟩, hb2⟩)
    have hzb2 := hb2.size
    have HRR := Lib.hid hR
    have HII := Lib.hid hI
    have HB2 := Lib.hid (HB1.out.trans (hb2.mono HB1.out.size))
    have HK2 := Lib.hid (HK1.out.below hb2 HK1.out.lt)
    have k0 := (HK2.out.cell 0).trans rfl
    have k1 := (HK2.out.cell 1).trans rfl
    have k2 := (HK2.out.cell 2).trans rfl
    have k3 := (HK2.out.cell 3).trans rfl
    clear hb2 hR hI hfar
    go_upto_region 8 with (go_at_call 15; refine (columns_any x0 y0 x1 y1 _ g n l rn _ (Nat.le_refl _) HII.out.two (HRR.out.1.ordX h150)).mono ?_; rintro e w3 ⟨⟨a, b, rfl, hab⟩, hb3⟩)
    have HAB := Lib.hid hab
    have hle := cols_le hab
    have HB3 := Lib.hid (HB2.out.trans (hb3.mono HB2.out.size))
    have HK3 := Lib.hid (HK2.out.below hb3 HK2.out.lt)
    have HI3 := Lib.hid ((HII.out.below hb3).more hb3.size)
    have HE := Lib.hid (count_eq (y0 := y0) (y1 := y1) HRR.out.1 hab)
    have hn1 := belowN_le l rn n a b y1 true
    have hn2 := belowN_le l rn n a b y0 false
    clear hab hb3 k0 k1 k2 k3
    have k1 := (HK3.out.cell 1).trans rfl
    have k3 := (HK3.out.cell 3).trans rfl
    have HBl := Lib.hid fun y at_ (W : World) (hW : Below w3.heap.size w3 W) => gridBelow_any y at_ a b _ g n l rn vals rs wss cc W hW.size (HI3.out.below hW) HRR.out hpos h150 hle.1 hle.2
    have hwr : IntKind.i64.wrap ((belowN l rn n a b y1 true : Int) - (belowN l rn n a b y0 false : Int)) = (belowN l rn n a b y1 true : Int) - (belowN l rn n a b y0 false : Int) := IntWalk.i64_in _ (by omega)
    go_region_held3 (fun w' => w'.cell? ⟨w.heap.size, 1, none⟩ = some (.int .i64 y0) ∧ w'.cell? ⟨w.heap.size, 3, none⟩ = some (.int .i64 y1))
      (first
        | exact ⟨k1, k3⟩
        | exact ⟨kept_call hb4 (cell_lt k1) k1, kept_call hb4 (cell_lt k3) k3⟩
        | exact ⟨kept_call hb5 (cell_lt (kept_call hb4 (cell_lt k1) k1)) (kept_call hb4 (cell_lt k1) k1), kept_call hb5 (cell_lt (kept_call hb4 (cell_lt k3) k3)) (kept_call hb4 (cell_lt k3) k3)⟩)
      (first
        | (go_at_call 16; refine (HBl.out _ _ _ (Below.refl _ _).drew).mono ?_; rintro e w4 ⟨rfl, hb4⟩)
        | (go_at_call 16; refine (HBl.out _ _ _ ((Below.refl _ _).drew.trans hb4)).mono ?_; rintro e w5 ⟨rfl, hb5⟩))
    all_goals go_wp2_with fail
    all_goals go_ret2
    all_goals have HX := HE.out
    all_goals exact ⟨⟨_, by rw [h0]; rfl, fun _ => by omega, fun hc => absurd h0 hc⟩, (HB3.out.drew.trans (hb4.mono HB3.out.size)).trans (hb5.mono (Nat.le_trans HB3.out.size hb4.size))⟩
  · have HE : Hid (CountR l n x0 y0 x1 y1 0) := Lib.hid ⟨fun hc => absurd hc h0, fun _ => rfl⟩
    clear HBu h
    generalize ptCode n l = cc at *
    have t0 : (cc != 0) = true := bne_iff_ne.2 h0
    go_enter Tryz.func6, Tryz.ntmps6
    go_wp2_with (go_at_call 13; refine (HP.out).mono ?_; rintro e w1 ⟨rfl, hb1⟩)
    go_ret2
    exact ⟨⟨0, rfl, HE.out⟩, HB0.out.trans (hb1.mono HB0.out.size)⟩
end Go.Proofs.YthbopbbpogddlaaGreat

/-
  An argument that is a struct of four ints. Conditions: it can be read as data.
-/
namespace Go.Dam
open Go Go.RowKit Go.ChangeShapes Go.WideShapes Go.Joins Go.Deep
set_option linter.unusedVariables false
section
variable {H : Type} {P : Program} {w : World} {r : Reach} {b0 : Nat} {t : TypeId} {v : Value} {d : DataW H} {ps : List MemPlace} {enc : TypeId × Value → H} {base : Nat} {spare : Nat → Bool} {held : Bool}
theorem arg_rect {f0 f1 f2 f3 : Field} (hs : P.underlying t = some (.struct #[f0, f1, f2, f3])) (h0 : P.underlying f0.type = some (.int .i64)) (h1 : P.underlying f1.type = some (.int .i64)) (h2 : P.underlying f2.type = some (.int .i64)) (h3 : P.underlying f3.type = some (.int .i64))
    (hone : oneCellFields P #[f0, f1, f2, f3] = true) (hC : P.cellsOf t = 4) (hv : Value.okWide P w r b0 t v) (h : DataW.Trod enc P w base spare held t v d ps) (hz : Sized P t d) :
    ∃ x0 y0 x1 y1 : Int, v = .agg #[.int .i64 x0, .int .i64 y0, .int .i64 x1, .int .i64 y1] := by
  obtain ⟨cs, rfl, hsz⟩ := okWide_struct hs hv
  obtain ⟨c0, c1, c2, c3, rfl⟩ : ∃ c0 c1 c2 c3, cs = #[c0, c1, c2, c3] := by
    have h1 : cs.size = 4 := hsz.trans hC
    obtain ⟨l⟩ := cs
    match l, h1 with
    | [c0, c1, c2, c3], _ => exact ⟨c0, c1, c2, c3, rfl⟩
  obtain ⟨fuel, hf⟩ := h
  obtain ⟨xs, n, _, hx, hl, hlen, hf2⟩ := DataW.trod_struct hs hf
  obtain ⟨o0, k0⟩ := hone_of hone 0 f0 rfl
  obtain ⟨o1, k1⟩ := hone_of hone 1 f1 rfl
  obtain ⟨o2, k2⟩ := hone_of hone 2 f2 rfl
  obtain ⟨o3, k3⟩ := hone_of hone 3 f3 rfl
  match xs, hlen with
  | [y0, y1, y2, y3], _ =>
    have t0 : DataW.trod enc P w base spare held n f0.type [c0] = some y0 := by simpa [Value.cells, o0, k0] using hf2 0 f0 rfl
    have t1 : DataW.trod enc P w base spare held n f1.type [c1] = some y1 := by simpa [Value.cells, o1, k1] using hf2 1 f1 rfl
    have t2 : DataW.trod enc P w base spare held n f2.type [c2] = some y2 := by simpa [Value.cells, o2, k2] using hf2 2 f2 rfl
    have t3 : DataW.trod enc P w base spare held n f3.type [c3] = some y3 := by simpa [Value.cells, o3, k3] using hf2 3 f3 rfl
    obtain ⟨a0, e0, _, _⟩ := DataW.trod_int h0 t0
    obtain ⟨a1, e1, _, _⟩ := DataW.trod_int h1 t1
    obtain ⟨a2, e2, _, _⟩ := DataW.trod_int h2 t2
    obtain ⟨a3, e3, _, _⟩ := DataW.trod_int h3 t3
    simp only [List.cons.injEq, and_true] at e0 e1 e2 e3
    subst e0 e1 e2 e3
    exact ⟨a0, a1, a2, a3, rfl⟩
end
end Go.Dam

/-
  The walk of the law GridCounts: grid.Count and the reference answer alike. Conditions: the points can be read as data.
-/
namespace Go.Proofs.YthbopbbpogddlaaGreat
open Go Go.RowKit Go.Dam
set_option linter.unusedVariables false
set_option maxHeartbeats 1000000 in
theorem gridCounts_walk (v : Value) (rv : Value) (w : World) (h : ∃ n l, IsFlat 3 w w.heap.size v n l) (hr : ∃ x0 y0 x1 y1 : Int, rv = .agg #[.int .i64 x0, .int .i64 y0, .int .i64 x1, .int .i64 y1]) :
    Calls Tryz.prog 3 #[v, rv] w fun e w' => e = .returned (.bool true) ∧ Below w.heap.size w w' := by
  obtain ⟨n, l, h⟩ := h
  obtain ⟨x0, y0, x1, y1, rfl⟩ := hr
  have HB0 := Lib.hid ((Below.refl w.heap.size w).alloc (Nat.le_refl _) (.cells #[.int .i64 x0, .int .i64 y0, .int .i64 x1, .int .i64 y1] 24))
  have HK := Lib.hid (Blk.new w 24 #[.int .i64 x0, .int .i64 y0, .int .i64 x1, .int .i64 y1])
  have H1 := Lib.hid (gridCount_any x0 y0 x1 y1 v n l (w.alloc (.cells #[.int .i64 x0, .int .i64 y0, .int .i64 x1, .int .i64 y1] 24)) w.heap.size (by simp) (h.below HB0.out))
  have H2 := Lib.hid fun w1 (hb : Below w.heap.size w w1) => refCount_any x0 y0 x1 y1 v n l w1 w.heap.size hb.size (h.below hb)
  obtain ⟨A, c, rfl, hc, hm, hn, hl, hr, hw⟩ := h
  clear hr hl hw
  go_enter Tryz.func3, Tryz.ntmps3
  go_wp2_with (first
    | (go_at_call 6; refine (H1.out).mono ?_; rintro e w1 ⟨⟨k, rfl, hk⟩, hb1⟩; have HB1 := Lib.hid (HB0.out.trans (hb1.mono HB0.out.size)); have HK1 := Lib.hid (HK.out.below hb1 (by simp)); have k0 := (HK1.out.cell 0).trans rfl; have k1 := (HK1.out.cell 1).trans rfl; have k2 := (HK1.out.cell 2).trans rfl; have k3 := (HK1.out.cell 3).trans rfl; have HC := Lib.hid hk; clear hb1 hk)
    | (go_at_call 7; refine (H2.out _ HB1.out).mono ?_; rintro e w2 ⟨⟨k', rfl, hk'⟩, hb2⟩; obtain rfl := HC.out.uniq hk'; clear hk'))
  all_goals (go_ret; exact ⟨ret_bool (by simp), HB1.out.trans (hb2.mono HB1.out.size)⟩)
end Go.Proofs.YthbopbbpogddlaaGreat
