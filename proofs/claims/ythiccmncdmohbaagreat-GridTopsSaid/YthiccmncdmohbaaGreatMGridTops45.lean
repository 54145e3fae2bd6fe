/-
  Contract of the index's report: the places of the order whose points lie in a rectangle. Conditions: the index lies in memory, its order is by X.
-/
import Derived.Test.YthiccmncdmohbaaGreatMGridTops18
import Derived.Test.YthiccmncdmohbaaGreatMGridTops30
import Derived.Test.YthiccmncdmohbaaGreatMGridTops00
import Derived.Test.YthiccmncdmohbaaGreatMGridTops06
import Derived.Test.YthiccmncdmohbaaGreatMGridTops05
import Derived.Deep.RegionHeld3
import Derived.Deep.CutRange
set_option linter.unusedVariables false
set_option linter.unusedSimpArgs false
namespace Go.Dam
open Go Go.RowKit
/-- Does the point at a place lie in a rectangle? -/
def inP (l : List Int) (x0 y0 x1 y1 : Int) (i : Nat) : Bool := inR (l.getD (i * 3) 0) (l.getD (i * 3 + 1) 0) x0 y0 x1 y1
theorem inP_x {l : List Int} {x0 y0 x1 y1 : Int} {i : Nat} (h : inP l x0 y0 x1 y1 i = true) : x0 ≤ l.getD (i * 3) 0 ∧ l.getD (i * 3) 0 ≤ x1 := by
  unfold inP inR at h; simp at h; exact ⟨h.1.1.1, h.1.1.2⟩
theorem filter_one {α : Type} (p : α → Bool) (x : α) : [x].filter p = if p x then [x] else [] := by cases h : p x <;> simp [h]
/-- What stands outside the columns is in no rectangle. -/
theorem cols_filter {l : List Int} {n a b : Nat} {r : List Nat} {x0 y0 x1 y1 : Int} (hr : r.length = n) (h : ColsAt l r n x0 x1 a b) : ((r.drop a).take (b - a)).filter (inP l x0 y0 x1 y1) = r.filter (inP l x0 y0 x1 y1) := by
  obtain ⟨b', rfl, ⟨ha, ha1, ha2⟩, hb, hb1, hb2⟩ := h
  have e : r = r.take a ++ ((r.drop a).take (max a b' - a) ++ (r.drop a).drop (max a b' - a)) := by rw [List.take_append_drop, List.take_append_drop]
  conv => rhs; rw [e]
  rw [List.filter_append, List.filter_append]
  have f1 : (r.take a).filter (inP l x0 y0 x1 y1) = [] := by
    rw [List.filter_eq_nil_iff]
    intro i hi hp
    obtain ⟨u, hu, rfl⟩ := List.mem_iff_getElem.1 hi
    have hu2 : u < a := by simp at hu; omega
    have this : isAb (xOf l r u) x0 false = false := ha1 u hu2
    unfold isAb xOf at this
    rw [ge_at r (by omega)] at this
    rw [List.getElem_take] at hp
    have := inP_x hp
    simp at *
    omega
  have f2 : ((r.drop a).drop (max a b' - a)).filter (inP l x0 y0 x1 y1) = [] := by
    rw [List.filter_eq_nil_iff, List.drop_drop]
    intro i hi hp
    obtain ⟨u, hu, rfl⟩ := List.mem_iff_getElem.1 hi
    simp at hu
    rw [List.getElem_drop] at hp
    have this : isAb (xOf l r (a + (max a b' - a) + u)) x1 true = true := hb2 (a + (max a b' - a) + u) (by omega) (by omega)
    unfold isAb xOf at this
    rw [ge_at r (by omega)] at this
    have := inP_x hp
    simp at *
    omega
  rw [f1, f2, List.nil_append, List.append_nil]
end Go.Dam
namespace Go.Proofs.YthiccmncdmohbaaGreat
open Go Go.RowKit Go.Dam
set_option linter.unusedVariables false
set_option maxHeartbeats 4000000 in
theorem report_any (x0 y0 x1 y1 : Int) (B g n : Nat) (l : List Int) (r : List Nat) (w : World) (hB : B ≤ w.heap.size) (hI : IsIdx2 w B g n l r) (hO : OrdX l n r) :
    Calls Tryz.prog 16 #[.pointer (some ⟨g, 0, none⟩), .agg #[.int .i64 x0, .int .i64 y0, .int .i64 x1, .int .i64 y1]] w fun e w' => (∃ v, e = .returned v ∧ IsInts .i64 w' w'.heap.size v (natL (r.filter (inP l x0 y0 x1 y1)))) ∧ Below w.heap.size w w' := by
  have HB0 := Lib.hid ((Below.refl w.heap.size w).alloc (Nat.le_refl _) (.cells #[.int .i64 x0, .int .i64 y0, .int .i64 x1, .int .i64 y1] 24))
  have HC := Lib.hid (columns_any x0 y0 x1 y1 B g n l r (w.alloc (.cells #[.int .i64 x0, .int .i64 y0, .int .i64 x1, .int .i64 y1] 24)) (by simp; omega) (hI.below (HB0.out.mono hB)) hO)
  have HK := Lib.hid (Blk.new w 24 #[.int .i64 x0, .int .i64 y0, .int .i64 x1, .int .i64 y1])
  have HIn := Lib.hid gridIn_any
  have HF := Lib.hid fun a b (h : ColsAt l r n x0 x1 a b) => cols_filter (y0 := y0) (y1 := y1) hO.1 h
  have d0 := (HK.out.cell 0).trans rfl
  have d1 := (HK.out.cell 1).trans rfl
  have d2 := (HK.out.cell 2).trans rfl
  have d3 := (HK.out.cell 3).trans rfl
  have e0 := HK.out.frozen 0
  have e1 := HK.out.frozen 1
  have e2 := HK.out.frozen 2
  have e3 := HK.out.frozen 3
  obtain ⟨r1, r2, r3, r4⟩ := hO
  have HI := Lib.hid hI
  obtain ⟨hg0, pv, ov, c0, c1, h1, h2⟩ := hI
  obtain ⟨A, c, rfl, hnc, hcm, _, hl, hr, _⟩ := h1
  obtain ⟨A2, co, rfl, hno, hcom, _, hr2, _⟩ := h2
  rw [natL_len, r1] at c1 hno
  have HR := Lib.hid hr
  have HR2 := Lib.hid hr2
  have HR3 := Lib.hid r3
  clear hr hr2 r3 r4
  go_enter Tryz.func16, Tryz.ntmps16
  go_upto_region 3 with (go_at_call 31; refine (HC.out).mono ?_; rintro e w1 ⟨⟨a, b, rfl, hab⟩, hb1⟩)
  have hzz := hb1.size
  have hab1 : a ≤ b ∧ b ≤ n := by obtain ⟨b', rfl, ⟨h1, _⟩, h2, _⟩ := hab; omega
  have HFf := Lib.hid (HF.out a b hab)
  have HB1 := Lib.hid (HB0.out.trans (hb1.mono HB0.out.size))
  have HK1 := Lib.hid (HK.out.below hb1 (by simp))
  have k0 := (HB1.out.cell (p := ⟨g, 0, none⟩) (by show g < w.heap.size; omega)).trans c0
  have k1 := (HB1.out.cell (p := ⟨g, 1, none⟩) (by show g < w.heap.size; omega)).trans c1
  have i1 : (a : Int) ≤ (b : Int) := by omega
  have i2 : (b : Int) ≤ (co : Int) := by omega
  have i3 : ¬ (a : Int) < 0 := by omega
  clear hb1 hab HF HC HK HB0 c0 c1 d0 d1 d2 d3 e0 e1 e2 e3
  have d0 := (HK1.out.cell 0).trans rfl
  have d1 := (HK1.out.cell 1).trans rfl
  have d2 := (HK1.out.cell 2).trans rfl
  have d3 := (HK1.out.cell 3).trans rfl
  have e0 := HK1.out.frozen 0
  have e1 := HK1.out.frozen 1
  have e2 := HK1.out.frozen 2
  have e3 := HK1.out.frozen 3
  by_cases hlt : a < b
  · have hne : co ≠ a := by omega
    obtain ⟨ob, oo, rfl, hob, hcells⟩ := ints_cells HR2.out (by rw [natL_len]; omega)
    obtain ⟨bk, off, rfl, hbk, hcs⟩ := flat_cells HR.out hl (by omega) (by omega)
    have HCs := Lib.hid hcs
    have HCells := Lib.hid hcells
    clear hcs hcells
    go_wp2_with fail
    go_loopw [5, 9, 24] (fun ov _ iv wr => ∃ t : Nat, t ≤ b - a ∧ iv = .int .i64 t ∧ Hid (wr.ownsRow w1.heap.size 3 1 ov (((r.drop a).take t).filter (inP l x0 y0 x1 y1)).length ((natL (((r.drop a).take t).filter (inP l x0 y0 x1 y1))).map (Value.int .i64))) ∧ Hid (Below w1.heap.size w1 wr)) (fun _ _ iv _ => (b - a) - (intOf iv).toNat)
    case atStart => exact ⟨0, by omega, rfl, Lib.hid (World.ownsRow_nil _ _ _ _), Lib.hid (Below.refl _ _)⟩
    case round =>
      obtain ⟨wi, rfl⟩ : ∃ wi : World, wi = wr := ⟨_, rfl⟩
      obtain ⟨t, ht, rfl, HOw, HBw⟩ := hrel
      obtain ⟨fl, hfl⟩ : ∃ f, ((r.drop a).take t).filter (inP l x0 y0 x1 y1) = f := ⟨_, rfl⟩
      rw [hfl] at HOw
      obtain ⟨A3, c3, rfl⟩ := own_shape HOw.out
      have hzw := HBw.out.size
      have hfn : fl.length ≤ 150 := by rw [← hfl]; exact Nat.le_trans (List.length_filter_le _ _) (by rw [List.length_take]; omega)
      by_cases hti : t < b - a
      · have t1 : decide ((t : Int) < ((b - a : Nat) : Int)) = true := decide_eq_true (by omega)
        have hi1 : (t : Int) < ((b - a : Nat) : Int) := by omega
        have cell : ∀ p : Addr, p.block < w.heap.size → wi.cell? p = w.cell? p := fun p hp => (HBw.out.cell (by have := HB1.out.size; omega)).trans (HB1.out.cell hp)
        have o0 := (cell ⟨ob, oo + (a + t), none⟩ (by show ob < _; omega)).trans (HCells.out (a + t) (by rw [natL_len]; omega))
        rw [natL_at, ← Nat.add_assoc] at o0
        have hpl := HR3.out (a + t) (by omega)
        have HN : Hid (((r.drop a).take (t + 1)).filter (inP l x0 y0 x1 y1) = fl ++ (if inP l x0 y0 x1 y1 (r.getD (a + t) 0) then [r.getD (a + t) 0] else [])) := Lib.hid (by
          rw [List.take_add_one, List.filter_append, hfl, List.getElem?_drop, List.getElem?_eq_getElem (by omega), ge_at r (by omega)]
          exact congrArg (fl ++ ·) (filter_one _ _))
        obtain ⟨pl, hpe⟩ : ∃ p, r.getD (a + t) 0 = p := ⟨_, rfl⟩
        rw [hpe] at o0 hpl HN
        clear hfl hpe
        have j1 : (pl : Int) < (n : Int) := by omega
        have y0' := (cell ⟨bk, off + pl * 3, none⟩ (by show bk < _; omega)).trans (HCs.out (pl * 3) (by omega))
        have y1' := (cell ⟨bk, off + (pl * 3 + 1), none⟩ (by show bk < _; omega)).trans (HCs.out (pl * 3 + 1) (by omega))
        have y2' := (cell ⟨bk, off + (pl * 3 + 2), none⟩ (by show bk < _; omega)).trans (HCs.out (pl * 3 + 2) (by omega))
        rw [← Nat.add_assoc] at y1' y2'
        have g0 := (cell ⟨g, 0, none⟩ (by show g < _; omega)).trans ((HB1.out.cell (p := ⟨g, 0, none⟩) (by show g < _; omega)).symm.trans k0)
        have q0 := (HBw.out.cell (p := ⟨w.heap.size, 0, none⟩) (by show w.heap.size < _; have := HK1.out.lt; omega)).trans d0
        have q1 := (HBw.out.cell (p := ⟨w.heap.size, 1, none⟩) (by show w.heap.size < _; have := HK1.out.lt; omega)).trans d1
        have q2 := (HBw.out.cell (p := ⟨w.heap.size, 2, none⟩) (by show w.heap.size < _; have := HK1.out.lt; omega)).trans d2
        have q3 := (HBw.out.cell (p := ⟨w.heap.size, 3, none⟩) (by show w.heap.size < _; have := HK1.out.lt; omega)).trans d3
        obtain ⟨p0, hp0⟩ : ∃ p, l.getD (pl * 3) 0 = p := ⟨_, rfl⟩
        obtain ⟨p1, hp1⟩ : ∃ p, l.getD (pl * 3 + 1) 0 = p := ⟨_, rfl⟩
        obtain ⟨p2, hp2⟩ : ∃ p, l.getD (pl * 3 + 2) 0 = p := ⟨_, rfl⟩
        rw [hp0] at y0'
        rw [hp1] at y1'
        rw [hp2] at y2'
        have hinE : inP l x0 y0 x1 y1 pl = inR p0 p1 x0 y0 x1 y1 := by unfold inP; rw [hp0, hp1]
        clear hp0 hp1 hp2
        cases hin : inP l x0 y0 x1 y1 pl with
        | true =>
          rw [hin, if_pos rfl] at HN
          have hin' : inR p0 p1 x0 y0 x1 y1 = true := by rw [← hinE, hin]
          clear hinE hin
          go_wp2_with fail
          go_region_held3 (fun w' => w'.cell? ⟨g, 0, none⟩ = some (.slice (some ⟨bk, off, none⟩) n c) ∧ w'.cell? ⟨bk, off + pl * 3, none⟩ = some (.int .i64 p0) ∧ w'.cell? ⟨bk, off + pl * 3 + 1, none⟩ = some (.int .i64 p1) ∧ w'.cell? ⟨bk, off + pl * 3 + 2, none⟩ = some (.int .i64 p2) ∧ w'.cell? ⟨w.heap.size, 0, none⟩ = some (.int .i64 x0) ∧ w'.cell? ⟨w.heap.size, 1, none⟩ = some (.int .i64 y0) ∧ w'.cell? ⟨w.heap.size, 2, none⟩ = some (.int .i64 x1) ∧ w'.cell? ⟨w.heap.size, 3, none⟩ = some (.int .i64 y1))
            (first
              | exact ⟨g0, y0', y1', y2', q0, q1, q2, q3⟩
              | exact ⟨kept_call hbi (cell_lt g0) g0, kept_call hbi (cell_lt y0') y0', kept_call hbi (cell_lt y1') y1', kept_call hbi (cell_lt y2') y2', kept_call hbi (cell_lt q0) q0, kept_call hbi (cell_lt q1) q1, kept_call hbi (cell_lt q2) q2, kept_call hbi (cell_lt q3) q3⟩)
            (first
              | (go_at_call 32; refine (HIn.out _ _ _ _ _ _ _ _).mono ?_; rintro e w3 ⟨rfl, hbi⟩))
          have hzi := hbi.size
          have hzd : wi.drew.heap.size = wi.heap.size := rfl
          have HB3 : Hid (Below w1.heap.size w1 w3) := Lib.hid (HBw.out.drew.trans (hbi.mono (by omega)))
          have HO3 : Hid (w3.ownsRow w1.heap.size 3 1 (.slice A3 fl.length c3) fl.length ((natL fl).map (Value.int .i64))) := Lib.hid (own_below (w := wi) HOw.out ((Below.refl _ _).drew.trans hbi) (fun g hg => (HOw.out.lt g hg).2))
          clear hbi g0 y0' y1' y2' q0 q1 q2 q3
          go_wp2_with (at_builtin; refine wpList_pushD el_int rfl (.tmp 37) (.tmp 39) rfl w1.heap.size _ fl.length _ (HO3.out.alloc _) rfl w3.heap.size 1 _ rfl (new_cell rfl) rfl (by omega) (by omega) (by have := HB3.out.size; simp; omega) ?_; intro v2 w2 hown2 hg2 hl2)
          go_roundw
          case rel => exact ⟨t + 1, by omega, by go_num, Lib.hid (by rw [HN.out, List.length_append, natL_app]; exact hown2), Lib.hid (below_push (HB3.out.alloc HB3.out.size _) (HO3.out.alloc _) (Nat.le_refl _) (by simp; omega) hg2)⟩
          case measure => simp [intOf]; omega
        | false =>
          rw [hin, if_neg (by simp), List.append_nil] at HN
          have hin' : inR p0 p1 x0 y0 x1 y1 = false := by rw [← hinE, hin]
          clear hinE hin
          go_wp2_with fail
          go_region_held3 (fun w' => w'.cell? ⟨g, 0, none⟩ = some (.slice (some ⟨bk, off, none⟩) n c) ∧ w'.cell? ⟨bk, off + pl * 3, none⟩ = some (.int .i64 p0) ∧ w'.cell? ⟨bk, off + pl * 3 + 1, none⟩ = some (.int .i64 p1) ∧ w'.cell? ⟨bk, off + pl * 3 + 2, none⟩ = some (.int .i64 p2) ∧ w'.cell? ⟨w.heap.size, 0, none⟩ = some (.int .i64 x0) ∧ w'.cell? ⟨w.heap.size, 1, none⟩ = some (.int .i64 y0) ∧ w'.cell? ⟨w.heap.size, 2, none⟩ = some (.int .i64 x1) ∧ w'.cell? ⟨w.heap.size, 3, none⟩ = some (.int .i64 y1))
            (first
              | exact ⟨g0, y0', y1', y2', q0, q1, q2, q3⟩
              | exact ⟨kept_call hbi (cell_lt g0) g0, kept_call hbi (cell_lt y0') y0', kept_call hbi (cell_lt y1') y1', kept_call hbi (cell_lt y2') y2', kept_call hbi (cell_lt q0) q0, kept_call hbi (cell_lt q1) q1, kept_call hbi (cell_lt q2) q2, kept_call hbi (cell_lt q3) q3⟩)
            (first
              | (go_at_call 32; refine (HIn.out _ _ _ _ _ _ _ _).mono ?_; rintro e w3 ⟨rfl, hbi⟩))
          have hzi := hbi.size
          have hzd : wi.drew.heap.size = wi.heap.size := rfl
          have HB3 : Hid (Below w1.heap.size w1 w3) := Lib.hid (HBw.out.drew.trans (hbi.mono (by omega)))
          have HO3 : Hid (w3.ownsRow w1.heap.size 3 1 (.slice A3 fl.length c3) fl.length ((natL fl).map (Value.int .i64))) := Lib.hid (own_below (w := wi) HOw.out ((Below.refl _ _).drew.trans hbi) (fun g hg => (HOw.out.lt g hg).2))
          clear hbi g0 y0' y1' y2' q0 q1 q2 q3
          go_wp2_with fail
          go_roundw
          case rel => exact ⟨t + 1, by omega, by go_num, Lib.hid (by rw [HN.out]; exact HO3.out), HB3⟩
          case measure => simp [intOf]; omega
      · obtain rfl : b - a = t := by omega
        have t1 : decide (((b - a : Nat) : Int) < ((b - a : Nat) : Int)) = false := decide_eq_false (by omega)
        have t2 : ¬ ((b - a : Nat) : Int) < ((b - a : Nat) : Int) := by omega
        rw [HFf.out] at hfl
        subst hfl
        go_wp2_with fail
        go_ret
        exact ⟨⟨_, rfl, own_ints HOw.out (by rw [natL_len]; omega) (fun z hz => natL_wf HR3.out r1 (by omega) hz)⟩, HB1.out.trans (HBw.out.mono HB1.out.size)⟩
  · obtain rfl : a = b := by omega
    have hnil : r.filter (inP l x0 y0 x1 y1) = [] := by rw [← HFf.out]; simp
    have HNil := Lib.hid hnil
    clear hnil
    by_cases hco : co = a
    · subst hco
      go_wp2_with fail
      go_loopw [5, 9, 24] (fun ov _ iv wr => ov = .slice none 0 0 ∧ iv = .int .i64 0 ∧ wr = w1) (fun _ _ _ _ => 0)
      case atStart => exact ⟨rfl, rfl, rfl⟩
      case round =>
        obtain ⟨rfl, rfl, rfl⟩ := hrel
        go_wp2_with fail
        go_ret
        exact ⟨⟨_, rfl, by rw [HNil.out]; exact own_ints (l := natL []) (n := 0) (base := wr.heap.size) (E := 3) (World.ownsRow_nil _ _ _ _) (by simp [natL]) (by simp [natL])⟩, HB1.out⟩
    · go_wp2_with fail
      go_loopw [5, 9, 24] (fun ov _ iv wr => ov = .slice none 0 0 ∧ iv = .int .i64 0 ∧ wr = w1) (fun _ _ _ _ => 0)
      case atStart => exact ⟨rfl, rfl, rfl⟩
      case round =>
        obtain ⟨rfl, rfl, rfl⟩ := hrel
        go_wp2_with fail
        go_ret
        exact ⟨⟨_, rfl, by rw [HNil.out]; exact own_ints (l := natL []) (n := 0) (base := wr.heap.size) (E := 3) (World.ownsRow_nil _ _ _ _) (by simp [natL]) (by simp [natL])⟩, HB1.out⟩
end Go.Proofs.YthiccmncdmohbaaGreat
