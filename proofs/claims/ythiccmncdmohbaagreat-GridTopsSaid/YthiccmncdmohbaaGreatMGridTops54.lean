/-
  Texts of one claim behind each other. Conditions: none of its own.
-/
import Derived.Test.YthiccmncdmohbaaGreatMGridTops53
import Derived.Test.YthiccmncdmohbaaGreatMGridTops16
set_option linter.unusedVariables false
set_option linter.unusedSimpArgs false
/-
  Contract of the reference's GridTop. Conditions: the points can be read as data.
-/
namespace Go.Proofs.YthiccmncdmohbaaGreat
open Go Go.RowKit Go.Dam Go.Dam.Stable
set_option linter.unusedVariables false
set_option maxHeartbeats 4000000 in
theorem refTop_any (x0 y0 x1 y1 k : Int) (v : Value) (n : Nat) (l : List Int) (w : World) (B : Nat) (hB : B ≤ w.heap.size) (h : IsFlat 3 w B v n l) (hkb : I64 k) :
    Calls Tryz.prog 5 #[v, .agg #[.int .i64 x0, .int .i64 y0, .int .i64 x1, .int .i64 y1], .int .i64 k] w fun e w' => (∃ u r c, e = .returned (.tuple #[u, .int .i64 c]) ∧ TopR n l x0 y0 x1 y1 k r c ∧ IsInts .i64 w' w'.heap.size u r) ∧ Below w.heap.size w w' := by
  have HB0 := Lib.hid ((Below.refl w.heap.size w).alloc (Nat.le_refl _) (.cells #[.int .i64 x0, .int .i64 y0, .int .i64 x1, .int .i64 y1] 24))
  have HK := Lib.hid (Blk.new w 24 #[.int .i64 x0, .int .i64 y0, .int .i64 x1, .int .i64 y1])
  have HP := Lib.hid (pointsFault_any v n l (w.alloc (.cells #[.int .i64 x0, .int .i64 y0, .int .i64 x1, .int .i64 y1] 24)) B (by simp; omega) (h.below (HB0.out.mono hB)))
  have HWi := Lib.hid fun (h0 : ptCode n l = 0) w1 (hb : Below w.heap.size w w1) => repTWithin_any x0 y0 x1 y1 v n l w1 B (Nat.le_trans hB hb.size) (h.below (hb.mono hB)) (pt_coords h0).1
  by_cases h0 : ptCode n l = 0
  · have HW0 := Lib.hid (HWi.out h0)
    rw [h0] at HP
    have h150 := (pt_coords h0).1
    clear HWi h
    by_cases hk : k < 0
    · have t1 : decide (k < 0) = true := decide_eq_true hk
      go_enter Tryz.func5, Tryz.ntmps5
      go_wp2_with (go_at_call 11; refine (HP.out).mono ?_; rintro e w1 ⟨rfl, hb1⟩)
      go_ret2
      exact ⟨⟨_, [], 2, rfl, ⟨fun hc => absurd h0 hc, fun _ _ => ⟨rfl, rfl⟩, fun _ hc => absurd hk (by omega)⟩, own_ints (l := []) (n := 0) (base := w1.heap.size) (E := 3) (World.ownsRow_nil _ _ _ _) (by simp) (by simp)⟩, HB0.out.trans (hb1.mono HB0.out.size)⟩
    · have t1 : decide (k < 0) = false := decide_eq_false hk
      go_enter Tryz.func5, Tryz.ntmps5
      go_upto_region 7 with (first
        | (go_at_call 11; refine (HP.out).mono ?_; rintro e w1 ⟨rfl, hb1⟩; have HB1 := Lib.hid (HB0.out.trans (hb1.mono HB0.out.size)); have HK1 := Lib.hid (HK.out.below hb1 (by simp)); have k0 := (HK1.out.cell 0).trans rfl; have k1 := (HK1.out.cell 1).trans rfl; have k2 := (HK1.out.cell 2).trans rfl; have k3 := (HK1.out.cell 3).trans rfl; clear hb1)
        | (go_at_call 12; refine (HW0.out _ HB1.out).mono ?_; rintro e w2 ⟨⟨u, r, rfl, hst, hi⟩, hb2⟩))
      have hrl : r.length ≤ 150 := by
        rw [hst.perm.length_eq, natL_len]
        have := List.length_filter_le (inQ l x0 y0 x1 y1) (List.range n)
        rw [List.length_range] at this; omega
      have HI := Lib.hid hi
      obtain ⟨A1, c1, rfl, hcc, hcm, hn1, hrr, hwf⟩ := hi
      obtain ⟨q, hq⟩ : ∃ q, q = min k.toNat r.length := ⟨_, rfl⟩
      have HB2 := Lib.hid (HB1.out.trans (hb2.mono HB1.out.size))
      have HRr := Lib.hid hrr
      have HWf := Lib.hid hwf
      have HEnd : Hid (TopR n l x0 y0 x1 y1 k (r.take q) 0) := Lib.hid ⟨fun hc => absurd h0 hc, fun _ hc => by omega, fun _ _ => ⟨rfl, r, hst, by rw [hq]; exact (List.take_eq_take_min ..).symm⟩⟩
      have HOut : Hid (IsInts .i64 w2 w2.heap.size (.slice A1 q c1) (r.take q)) := Lib.hid (by
        have hl : (r.take q).length = q := by rw [List.length_take]; omega
        refine ⟨A1, c1, by rw [hl], by omega, hcm, by omega, ?_, fun z hz => HWf.out z (List.mem_of_mem_take hz)⟩
        have := HRr.out.take (k := q) (by omega)
        rw [hl, List.map_take, ← Nat.mul_one q]
        rw [Nat.mul_one] at this ⊢
        exact this)
      have hkq : (k ≤ (r.length : Int) ∧ k = (q : Int)) ∨ (¬ k ≤ (r.length : Int) ∧ r.length = q) := by omega
      have HQ := Lib.hid hq
      clear hst hb2 hrr hwf HK1 k0 k1 k2 k3 HW0 HP hq
      obtain ⟨m, hm⟩ : ∃ m, m = r.length := ⟨_, rfl⟩
      rw [← hm] at hkq hrl hcc hn1 ⊢
      clear hm
      have hmin : (min k (m : Int)).toNat = q := by omega
      have i1 : min k (m : Int) ≤ (c1 : Int) := by omega
      have i2 : 0 ≤ min k (m : Int) := by omega
      have HMin := Lib.hid hmin
      clear hkq hmin
      go_wp2_with fail
      all_goals go_ret2
      all_goals exact ⟨⟨_, _, 0, rfl, HEnd.out, by first | exact HOut.out | (rw [HMin.out]; exact HOut.out)⟩, HB2.out⟩
  · generalize hcc : ptCode n l = cc at *
    have t0 : (cc != 0) = true := bne_iff_ne.2 h0
    clear HWi h
    go_enter Tryz.func5, Tryz.ntmps5
    go_wp2_with (go_at_call 11; refine (HP.out).mono ?_; rintro e w1 ⟨rfl, hb1⟩)
    go_ret2
    exact ⟨⟨_, [], cc, rfl, by unfold TopR; rw [hcc]; exact ⟨fun _ => ⟨rfl, rfl⟩, fun hc => absurd hc h0, fun hc => absurd hc h0⟩, own_ints (l := []) (n := 0) (base := w1.heap.size) (E := 3) (World.ownsRow_nil _ _ _ _) (by simp) (by simp)⟩, HB0.out.trans (hb1.mono HB0.out.size)⟩
end Go.Proofs.YthiccmncdmohbaaGreat

/-
  An argument that is a struct of four ints. Conditions: it can be read as data.
-/
namespace Go.Dam
open Go Go.RowKit Go.ChangeShapes Go.WideShapes Go.Joins Go.Deep
set_option linter.unusedVariables false
section
variable {H : Type} {P : Program} {w : World} {r : Reach} {b0 : Nat} {t : TypeId} {v : Value} {d : DataW H} {ps : List MemPlace} {enc : TypeId × Value → H} {base : Nat} {spare : Nat → Bool} {held : Bool}
theorem arg_rect {f0 f1 f2 f3 : Field} (hs : P.underlying t = some (.struct #[f0, f1, f2, f3])) (h0 : P.underlying f0.type = some (.int .i64)) (h1 : P.underlying f1.type = some (.int .i64)) (h2 : P.underlying f2.type = some (.int .i64)) (h3 : P.underlying f3.type = some (.int .i64))
    (hone : oneCellFields P #[f0, f1, f2, f3] = true) (hC : P.cellsOf t = 4) (hv : Value.okWide P w r b0 t v) (h : DataW.Trod enc P w base spare held t v d ps) (hz : Sized P t d) :
    ∃ x0 y0 x1 y1 : Int, v = .agg #[.int .i64 x0, .int .i64 y0, .int .i64 x1, .int .i64 y1] := by
  obtain ⟨cs, rfl, hsz⟩ := okWide_struct hs hv
  obtain ⟨c0, c1, c2, c3, rfl⟩ : ∃ c0 c1 c2 c3, cs = #[c0, c1, c2, c3] := by
    have h1 : cs.size = 4 := hsz.trans hC
    obtain ⟨l⟩ := cs
    match l, h1 with
    | [c0, c1, c2, c3], _ => exact ⟨c0, c1, c2, c3, rfl⟩
  obtain ⟨fuel, hf⟩ := h
  obtain ⟨xs, n, _, hx, hl, hlen, hf2⟩ := DataW.trod_struct hs hf
  obtain ⟨o0, k0⟩ := hone_of hone 0 f0 rfl
  obtain ⟨o1, k1⟩ := hone_of hone 1 f1 rfl
  obtain ⟨o2, k2⟩ := hone_of hone 2 f2 rfl
  obtain ⟨o3, k3⟩ := hone_of hone 3 f3 rfl
  match xs, hlen with
  | [y0, y1, y2, y3], _ =>
    have t0 : DataW.trod enc P w base spare held n f0.type [c0] = some y0 := by simpa [Value.cells, o0, k0] using hf2 0 f0 rfl
    have t1 : DataW.trod enc P w base spare held n f1.type [c1] = some y1 := by simpa [Value.cells, o1, k1] using hf2 1 f1 rfl
    have t2 : DataW.trod enc P w base spare held n f2.type [c2] = some y2 := by simpa [Value.cells, o2, k2] using hf2 2 f2 rfl
    have t3 : DataW.trod enc P w base spare held n f3.type [c3] = some y3 := by simpa [Value.cells, o3, k3] using hf2 3 f3 rfl
    obtain ⟨a0, e0, _, _⟩ := DataW.trod_int h0 t0
    obtain ⟨a1, e1, _, _⟩ := DataW.trod_int h1 t1
    obtain ⟨a2, e2, _, _⟩ := DataW.trod_int h2 t2
    obtain ⟨a3, e3, _, _⟩ := DataW.trod_int h3 t3
    simp only [List.cons.injEq, and_true] at e0 e1 e2 e3
    subst e0 e1 e2 e3
    exact ⟨a0, a1, a2, a3, rfl⟩
end
end Go.Dam

/-
  The walk of the law GridTops: grid.Top and the reference answer alike. Conditions: the arguments can be read as data.
-/
namespace Go.Proofs.YthiccmncdmohbaaGreat
open Go Go.RowKit Go.Dam
set_option linter.unusedVariables false
set_option maxHeartbeats 1000000 in
theorem gridTops_walk (v : Value) (rv u1 : Value) (w : World) (h : ∃ n l, IsFlat 3 w w.heap.size v n l) (hr : ∃ x0 y0 x1 y1 : Int, rv = .agg #[.int .i64 x0, .int .i64 y0, .int .i64 x1, .int .i64 y1]) (h1 : ∃ x : Int, u1 = .int .i64 x ∧ I64 x) :
    Calls Tryz.prog 3 #[v, rv, u1] w fun e w' => e = .returned (.bool true) ∧ Below w.heap.size w w' := by
  obtain ⟨n, l, h⟩ := h
  obtain ⟨x0, y0, x1, y1, rfl⟩ := hr
  obtain ⟨k, rfl, hk⟩ := h1
  have HB0 := Lib.hid ((Below.refl w.heap.size w).alloc (Nat.le_refl _) (.cells #[.int .i64 x0, .int .i64 y0, .int .i64 x1, .int .i64 y1] 24))
  have HK := Lib.hid (Blk.new w 24 #[.int .i64 x0, .int .i64 y0, .int .i64 x1, .int .i64 y1])
  have H1 := Lib.hid (gridTop_any x0 y0 x1 y1 k v n l (w.alloc (.cells #[.int .i64 x0, .int .i64 y0, .int .i64 x1, .int .i64 y1] 24)) w.heap.size (by simp) (h.below HB0.out))
  have H2 := Lib.hid fun w1 (hb : Below w.heap.size w w1) => refTop_any x0 y0 x1 y1 k v n l w1 w.heap.size hb.size (h.below hb) hk
  obtain ⟨A, c, rfl, hc, hm, hn, hl, hr, hw⟩ := h
  clear hr hl hw hk
  go_enter Tryz.func3, Tryz.ntmps3
  go_wp2_with (first
    | (go_at_call 4; refine (H1.out).mono ?_; rintro e w1 ⟨⟨u1, r, cc, rfl, hR1, hu1⟩, hb1⟩; have HB1 := Lib.hid (HB0.out.trans (hb1.mono HB0.out.size)); have HK1 := Lib.hid (HK.out.below hb1 (by simp)); have k0 := (HK1.out.cell 0).trans rfl; have k1 := (HK1.out.cell 1).trans rfl; have k2 := (HK1.out.cell 2).trans rfl; have k3 := (HK1.out.cell 3).trans rfl; have HU1 := Lib.hid hu1; have HR1 := Lib.hid hR1; obtain ⟨A1, c1, rfl, _⟩ := hu1; clear hb1 hR1)
    | (go_at_call 5; refine (H2.out _ HB1.out).mono ?_; rintro e w2 ⟨⟨u2, r', cc', rfl, hR2, hu2⟩, hb2⟩; obtain ⟨rfl, rfl⟩ := HR1.out.uniq hR2; have HB2 := Lib.hid hb2; have HU2 := Lib.hid hu2; obtain ⟨A2, c2, rfl, _⟩ := hu2; clear hb2 hR2)
    | (go_at_call 6; refine (sameInts_any _ _ _ _ _ ((HU1.out.below HB2.out).more HB2.out.size) HU2.out).mono ?_; rintro e w3 ⟨rfl, hd3⟩; have HD3 := Lib.hid hd3; clear hd3))
  all_goals go_ret
  all_goals exact ⟨ret_bool (by simp), (HB1.out.trans (HB2.out.mono HB1.out.size)).trans (HD3.out.below _)⟩
end Go.Proofs.YthiccmncdmohbaaGreat
