/-
  Contracts of klee.Area and klee.Depth, by the sweep. Conditions: the rectangles can be read as data.
-/
import Derived.Test.YtnkflafkalmnmaaMTopUnits29
namespace Go.Dam.Klee
open Go Go.RowKit Go.Dam
set_option linter.unusedVariables false
/-- The rows of the sweep. -/
def ysC (l : List Int) (n : Nat) : List Int := Lib.compact (sortI (ysOf l n))
theorem ysC_vals (l : List Int) (n : Nat) : ValsR (ysOf l n) (ysC l n) := valsR_compact _
theorem ysC_near {l : List Int} {n : Nat} (h : ∀ i, i < n → badRc l i = false) : NearAll (ysC l n) := fun z hz => by
  obtain ⟨q, hq, e⟩ := ys_mem (((ysC_vals l n).2 z).1 hz)
  have := badRc_fine (h q hq)
  omega
theorem ysC_len (l : List Int) (n : Nat) : (ysC l n).length ≤ 2 * n := by have := (ysC_vals l n).len; rwa [ys_len] at this
theorem bx_near {l : List Int} {n : Nat} {bs : List Bd} (h : ∀ i, i < n → badRc l i = false) (hp : bs.Perm (bdsOf l n)) {i : Nat} (hi : i < bs.length) : -1048577 ≤ bx bs i ∧ bx bs i ≤ 1048577 := by
  have hm : bs.getD i (0, 0, 0, 0) ∈ bdsOf l n := hp.mem_iff.1 (by rw [List.getD_eq_getElem?_getD, List.getElem?_eq_getElem hi]; exact List.getElem_mem hi)
  obtain ⟨q, hq, e1, e2, e3⟩ := bds_ok hm
  have := badRc_fine (h q hq)
  unfold bx; omega
/-- A closure's one cell, beside what the callers keep. -/
def BoxIs (w0 : World) (gB : Nat) (t : TypeId) (v : Int) (W : World) : Prop := Below w0.heap.size w0 W ∧ Blk W gB t #[.int .i64 v]
theorem BoxIs.one {w0 W : World} {gB : Nat} {t : TypeId} {v : Int} (h : BoxIs w0 gB t v W) : ∀ o, 1 ≤ o → W.cell? ⟨gB, o, none⟩ = none := fun o ho => by
  have hb : W.heap[gB]? = some (.cells #[.int .i64 v] t (0, 0)) := h.2
  simp only [World.cell?, hb]
  simp; omega
theorem BoxIs.grow {w0 W W' : World} {gB B : Nat} {t : TypeId} {v : Int} (h : BoxIs w0 gB t v W) (hB : w0.heap.size ≤ B) (hg : gB < B) (hb : Below B W W') : BoxIs w0 gB t v W' :=
  ⟨h.1.trans (hb.mono hB), (hb.block gB hg).trans h.2⟩
/-- A row of two numbers or more lies apart from a block of one cell. -/
theorem ints_apart {w : World} {B gB : Nat} {v : Value} {l : List Int} {t : TypeId} {x : Value} (h : IsInts .i64 w B v l) (h2 : 2 ≤ l.length) (hB : Blk w gB t #[x]) :
    ∃ b off c, v = .slice (some ⟨b, off, none⟩) l.length c ∧ l.length ≤ c ∧ b ≠ gB ∧ b < B ∧ ∀ j, j < l.length → w.cell? ⟨b, off + j, none⟩ = some (.int .i64 (l.getD j 0)) := by
  obtain ⟨A, c, rfl, hc, hm, hn, hr, hw⟩ := h
  obtain ⟨b, off, rfl, hlt, hcells⟩ := ints_cells hr (by omega)
  refine ⟨b, off, c, rfl, hc, fun e => ?_, hlt, hcells⟩
  subst e
  have a := hcells 1 (by omega)
  have hb : w.heap[b]? = some (.cells #[x] t (0, 0)) := hB
  simp only [World.cell?, hb] at a
  simp at a
theorem rowS_yes {f : Int → Int} {d : List Int} {k : Nat} (h : 0 < f (d.getD k 0)) : rowS f d (k + 1) = rowS f d k + (d.getD (k + 1) 0 - d.getD k 0) := by rw [rowS_s, ind_pos h, Int.mul_one]
theorem rowS_no {f : Int → Int} {d : List Int} {k : Nat} (h : ¬ 0 < f (d.getD k 0)) : rowS f d (k + 1) = rowS f d k := by rw [rowS_s, ind_neg h, Int.mul_zero, Int.add_zero]
theorem areaS_skip {bs : List Bd} {d : List Int} {i : Nat} (hs : SortX bs) (hi : i < bs.length) (h : ¬ (0 < i ∧ bx bs (i - 1) < bx bs i)) : areaS bs d (i + 1) = areaS bs d i := by
  match i, hi, h with
  | 0, _, _ => rfl
  | i + 1, hi, h =>
    have h1 := hs i (i + 1) (by omega) hi
    have h2 : ¬ bx bs i < bx bs (i + 1) := fun h3 => h ⟨by omega, h3⟩
    rw [areaS_s, show bx bs (i + 1) - bx bs i = 0 by omega, Int.zero_mul, Int.add_zero]
theorem maxOf_is (zs : List Int) : ∀ k, 0 < k → k ≤ zs.length → (∀ i, i < k → zs.getD i 0 ≤ Lib.maxOf (zs.take k)) ∧ ∃ i, i < k ∧ zs.getD i 0 = Lib.maxOf (zs.take k)
  | 0, h, _ => absurd h (by omega)
  | 1, _, _ => by
    rw [Lib.maxOf_one]
    exact ⟨fun i hi => by rw [show i = 0 by omega]; omega, 0, by omega, rfl⟩
  | k + 2, _, hk => by
    obtain ⟨h1, j, hj, h2⟩ := maxOf_is zs (k + 1) (by omega) (by omega)
    rw [Lib.maxOf_step zs (k + 1) (by omega) (by omega)]
    refine ⟨fun i hi => ?_, ?_⟩
    · rcases Nat.lt_or_ge i (k + 1) with h | h
      · have := h1 i h; omega
      · rw [show i = k + 1 by omega]; omega
    · rcases Int.le_total (Lib.maxOf (zs.take (k + 1))) (zs.getD (k + 1) 0) with h | h
      · exact ⟨k + 1, by omega, by omega⟩
      · exact ⟨j, by omega, by omega⟩
theorem maxOf_row (bs : List Bd) {ys : List Int} (i : Nat) (h : 0 < ys.length) : Lib.maxOf ((rowD bs ys i).take ys.length) = maxL (so bs i) ys := by
  obtain ⟨h1, j, hj, h2⟩ := maxOf_is (rowD bs ys i) ys.length h (by rw [rowD_len]; exact Nat.le_refl _)
  refine MaxIs.uniq (f := so bs i) (d := ys) ⟨fun y hy => ?_, ys.getD j 0, getD_mem hj, by rw [← h2, rowD_at bs i hj]⟩ (MaxIs.ex (List.length_pos_iff.1 h))
  obtain ⟨q, hq, rfl⟩ := mem_getD hy
  rw [← rowD_at bs i hq]
  exact h1 q hq
theorem ys_two {l ys : List Int} {n : Nat} (h : ValsR (ysOf l n) ys) (hn : 0 < n) (hf : badRc l 0 = false) : 2 ≤ ys.length := by
  have hb := badRc_fine hf
  obtain ⟨a, ha, ea⟩ := mem_getD ((h.2 _).2 (mem_ys (l := l) (i := 0) hn).1)
  obtain ⟨b, hb2, eb⟩ := mem_getD ((h.2 _).2 (mem_ys (l := l) (i := 0) hn).2)
  rcases Nat.lt_or_ge ys.length 2 with h1 | h1
  · obtain rfl : a = b := by omega
    omega
  · exact h1
/-- What Area and Depth answer. -/
def areaV (l : List Int) (n : Nat) : Int := gridS (deepN l n) (sortI (xsOf l n)) (sortI (ysOf l n)) ((sortI (xsOf l n)).length - 1)
def depthV (l : List Int) (n : Nat) : Int := depI (deepN l n) (sortI (xsOf l n)) (sortI (ysOf l n)) ((sortI (xsOf l n)).length - 1)
theorem areaV_eq {l : List Int} {n : Nat} {bs : List Bd} (hf : ∀ i, i < n → badRc l i = false) (hp : bs.Perm (bdsOf l n)) (hs : SortX bs) : areaS bs (ysC l n) bs.length = areaV l n :=
  area_same (fun i hi => (badRc_fine (hf i hi)).2.2.2.2.1) hp hs (cutRow_vals (ysC_vals l n)) (cutRow_sort _) (cutRow_sort _)
theorem depthV_eq {l : List Int} {n : Nat} {bs : List Bd} (hf : ∀ i, i < n → badRc l i = false) (hp : bs.Perm (bdsOf l n)) (hs : SortX bs) : depS bs (ysC l n) bs.length = depthV l n :=
  depth_same (fun i hi => (badRc_fine (hf i hi)).2.2.2.2.1) hp hs (cutRow_vals (ysC_vals l n)) (cutRow_sort _) (cutRow_sort _)
attribute [irreducible] areaV depthV
def AreaR (n : Nat) (l : List Int) (a cc : Int) : Prop := cc = rcCode n l ∧ a = if cc = 0 then areaV l n else 0
def DepthR (n : Nat) (l : List Int) (a cc : Int) : Prop := cc = rcCode n l ∧ a = if cc = 0 then depthV l n else 0
end Go.Dam.Klee
namespace Go.Proofs.Ytnkflafkalmnmaa
open Go Go.RowKit Go.Dam Go.Dam.Klee
set_option linter.unusedVariables false
set_option maxRecDepth 100000 in
set_option maxHeartbeats 8000000 in
theorem kleeArea1_any (x s : Int) (yv dv : Value) (mem ys ds : List Int) (f : Int → Int) (m gB : Nat) (w : World) (hx : 0 ≤ x ∧ x ≤ 2097154) (hs : 0 ≤ s ∧ s ≤ 1125899906842624) (hm : ys.length = m) (hm2 : ds.length = m) (h2 : 2 ≤ m) (h80 : m ≤ 80) (hc : CutRow mem ys) (hnr : NearAll ys)
    (hds : ∀ k, k < m → ds.getD k 0 = f (ys.getD k 0)) (hy : IsInts .i64 w w.heap.size yv ys) (hd : IsInts .i64 w w.heap.size dv ds) (hB : Blk w gB 3 #[.int .i64 s]) :
    Calls Try.prog 14 #[.int .i64 x, yv, dv, .pointer (some ⟨gB, 0, none⟩)] w fun e w' => e = .returned (.tuple #[]) ∧ Blk w' gB 3 #[.int .i64 (s + x * rowS f ys (m - 1))] ∧ BelowBut w.heap.size gB w w' := by
  obtain ⟨by_, oy, cy, rfl, hcy, hne1, hlt1, hcy1⟩ := ints_apart hy (by omega) hB
  obtain ⟨bd, od, cd, rfl, hcd, hne2, hlt2, hcd1⟩ := ints_apart hd (by omega) hB
  rw [hm] at hcy hcy1 ⊢
  rw [hm2] at hcd hcd1 ⊢
  have HC1 := Lib.hid hcy1
  have HC2 := Lib.hid fun k hk => (hcd1 k hk).trans (by rw [hds k hk])
  have HCr := Lib.hid hc
  have HNr := Lib.hid hnr
  have HM := Lib.hid hm
  have hbl := hB.lt
  have HBk := Lib.hid hB
  clear hcy1 hcd1 hds hy hd hB hc hnr hm hm2
  go_enter Try.func14, Try.ntmps14
  go_wp2_with fail
  go_loopw [7] (fun iv wr => ∃ k : Nat, k + 1 ≤ m ∧ iv = .int .i64 ((k : Int) + 1) ∧ Hid (Blk wr gB 3 #[.int .i64 (s + x * rowS f ys k)]) ∧ Hid (BelowBut w.heap.size gB w wr)) (fun iv _ => m - (intOf iv).toNat)
  case atStart => exact ⟨0, by omega, rfl, Lib.hid (by rw [rowS_0, Int.mul_zero, Int.add_zero]; exact HBk.out), Lib.hid (BelowBut.refl _ _ _)⟩
  case round =>
    obtain ⟨wo, rfl⟩ : ∃ wo : World, wo = wr := ⟨_, rfl⟩
    obtain ⟨k, hk, rfl, HK, HB⟩ := hrel
    have hzo := HB.out.size
    by_cases hlt : k + 1 < m
    · have c0 := (HB.out.cell (p := ⟨by_, oy + k, none⟩) hlt1 hne1).trans (HC1.out k (by omega))
      have c1 : wo.cell? ⟨by_, oy + (k + 1), none⟩ = some (.int .i64 (ys.getD (k + 1) 0)) := (HB.out.cell (p := ⟨by_, oy + (k + 1), none⟩) hlt1 hne1).trans (HC1.out (k + 1) hlt)
      have d0 := (HB.out.cell (p := ⟨bd, od + k, none⟩) hlt2 hne2).trans (HC2.out k (by omega))
      have g0 : wo.cell? ⟨gB, 0, none⟩ = some (.int .i64 (s + x * rowS f ys k)) := (HK.out.cell 0).trans rfl
      have g1 := HK.out.frozen 0
      have HYs := Lib.hid fun h => rowS_yes (f := f) (d := ys) (k := k) h
      have HNo := Lib.hid fun h => rowS_no (f := f) (d := ys) (k := k) h
      have hpb := part_bd HCr.out HNr.out f (k := k) (by have := HM.out; omega) hx
      have hcb := cell_bd HCr.out HNr.out (k := k) (by have := HM.out; omega) hx
      have hn0 := HNr.out.at_ (k := k) (by have := HM.out; omega)
      have hn1 := HNr.out.at_ (k := k + 1) (by have := HM.out; omega)
      obtain ⟨y0, hy0⟩ : ∃ z, z = ys.getD k 0 := ⟨_, rfl⟩
      obtain ⟨y1, hy1⟩ : ∃ z, z = ys.getD (k + 1) 0 := ⟨_, rfl⟩
      obtain ⟨r, hr⟩ : ∃ z, z = s + x * rowS f ys k := ⟨_, rfl⟩
      obtain ⟨p, hp⟩ : ∃ z, z = x * (y1 - y0) := ⟨_, rfl⟩
      rw [← hy0] at c0 d0 HYs HNo hn0 hcb
      rw [← hy1] at c1 HYs hn1 hcb
      obtain ⟨fy, hfy⟩ : ∃ z, z = f y0 := ⟨_, rfl⟩
      rw [← hfy] at d0 HYs HNo
      rw [← hp] at hcb
      rw [← hr] at g0 HK
      have w1 : IntKind.i64.wrap ((k : Int) + 1 - 1) = (k : Int) := by rw [IntKind.wrap_i64]; omega
      have w2 : IntKind.i64.wrap (k : Int) = (k : Int) := by rw [IntKind.wrap_i64]; omega
      have w3 : IntKind.i64.wrap (y1 - y0) = y1 - y0 := by rw [IntKind.wrap_i64]; omega
      have w4 : IntKind.i64.wrap (x * (y1 - y0)) = p := by rw [← hp, IntKind.wrap_i64]; omega
      have w5 : IntKind.i64.wrap (r + p) = r + p := by rw [IntKind.wrap_i64]; omega
      have w6 : IntKind.i64.wrap ((k : Int) + 1 + 1) = (k : Int) + 1 + 1 := by rw [IntKind.wrap_i64]; omega
      have hi1 : (k : Int) + 1 < (m : Int) := by omega
      have hi0 : (k : Int) < (m : Int) := by omega
      have hi2 : (0 : Int) ≤ (k : Int) := by omega
      have hkm : k < m := by omega
      have t1 : decide ((k : Int) + 1 < (m : Int)) = true := decide_eq_true hi1
      have HR := Lib.hid hr
      have HP := Lib.hid hp
      clear hr hp hy0 hy1 hfy hpb hcb hn0 hn1
      by_cases hpos : 0 < fy
      · have t2 : decide (0 < fy) = true := decide_eq_true hpos
        have HS := Lib.hid (HYs.out hpos)
        clear HYs HNo hpos
        go_wp2_with fail
        go_region
        go_wp2
        go_roundw
        case rel =>
          refine ⟨k + 1, by omega, by go_num, Lib.hid ?_, Lib.hid ((HB.out.setCell _ _).trans ⟨rfl, rfl, rfl, Nat.le_refl _, fun _ _ _ => rfl⟩)⟩
          have e : s + x * rowS f ys (k + 1) = r + p := by rw [HS.out, Int.mul_add, ← HP.out, HR.out]; omega
          rw [e]
          exact HK.out.set_ 0 (.int .i64 (r + p))
        case measure => simp [intOf]; omega
      · have t2 : decide (0 < fy) = false := decide_eq_false hpos
        have HS := Lib.hid (HNo.out hpos)
        clear HYs HNo hpos
        go_wp2_with fail
        go_roundw
        case rel => exact ⟨k + 1, by omega, by go_num, Lib.hid (by rw [HS.out, ← HR.out]; exact HK.out), HB⟩
        case measure => simp [intOf]; omega
    · have t1 : decide ((k : Int) + 1 < (m : Int)) = false := decide_eq_false (by omega)
      go_wp2_with fail
      go_end0
      exact ⟨rfl, by rw [show m - 1 = k from by omega]; exact HK.out, HB.out⟩
set_option maxHeartbeats 4000000 in
theorem kleeArea_any (v : Value) (n : Nat) (l : List Int) (a cc : Int) (w : World) (B : Nat) (hB : B ≤ w.heap.size) (h : IsFlat 4 w B v n l) (hR : AreaR n l a cc) :
    Calls Try.prog 6 #[v] w fun e w' => e = .returned (.tuple #[.int .i64 a, .int .i64 cc]) ∧ Below w.heap.size w w' := by
  have HC := Lib.hid (kleeCheck_any v n l w B hB h)
  obtain ⟨h1, h2⟩ := hR
  rw [← h1] at HC
  by_cases c0 : cc = 0
  rotate_left
  · obtain ⟨A, c, rfl, hc, hm, hn, hl, hr, hw⟩ := h
    rw [if_neg c0] at h2
    subst h2
    have t0 : (cc != 0) = true := bne_iff_ne.2 c0
    clear hr hl hw h1 c0
    go_enter Try.func6, Try.ntmps6
    go_wp2_with (go_at_call 12; refine (HC.out).mono ?_; rintro e w1 ⟨rfl, hb1⟩)
    go_ret2
    exact ⟨rfl, hb1⟩
  · subst c0
    rw [if_pos rfl] at h2
    subst h2
    obtain ⟨hn1, hf⟩ := rcCode_ok h1.symm
    have HV := Lib.hid fun bs hp hs => areaV_eq (bs := bs) hf hp hs
    have HSw := Lib.hid fun W (hb : Below w.heap.size w W) => kleeSweep_any v n l 14 #[.pointer (some ⟨W.heap.size, 0, none⟩)] W.heap.size (fun bs i W' => BoxIs W W.heap.size 3 (areaS bs (ysC l n) i) W') (W.alloc (.cells #[.int .i64 0] 3))
      ((h.below ((hb.mono hB).alloc (Nat.le_trans hB hb.size) _)).more (Nat.le_trans hB (by have := hb.size; simp; omega))) h1.symm
      { eg := enters_of Try.func14 (by kernel_rfl) rfl
        low := by simp
        one := fun bs i W' h => h.one
        grow := fun bs i W' W'' h hb => h.grow (by simp) (by simp) hb
        skip := fun bs i W' hs hi hng h => by
          show BoxIs _ _ _ (areaS bs (ysC l n) (i + 1)) _
          rw [areaS_skip hs hi hng]; exact h
        zero := fun bs => ⟨(Below.refl _ _).alloc (Nat.le_refl _) _, by rw [areaS_0]; exact Blk.new _ _ _⟩
        call := fun bs u W' yv dv hp hs hu hgap hJ hy hd => by
          have n0 : 0 < n := by have := hp.length_eq; rw [bds_len] at this; omega
          have hm2 := ys_two (ysC_vals l n) n0 (hf 0 n0)
          have b1 := bx_near hf hp (i := u) (by omega)
          have b2 := bx_near hf hp hu
          have hln := ysC_len l n
          have hbl : bs.length = 2 * n := by rw [hp.length_eq, bds_len]
          have hb := areaS_bd (cutRow_vals (ysC_vals l n)) (ysC_near hf) hs (fun i hi => bx_near hf hp hi) (u + 1) (by omega)
          refine (kleeArea1_any (bx bs (u + 1) - bx bs u) (areaS bs (ysC l n) (u + 1)) yv dv (ysOf l n) (ysC l n) (rowD bs (ysC l n) (u + 1)) (so bs (u + 1)) (ysC l n).length W.heap.size W' (by omega) (by omega) rfl (rowD_len _ _ _) hm2 (by omega) (cutRow_vals (ysC_vals l n)) (ysC_near hf) (fun k hk => rowD_at bs (u + 1) hk) hy hd hJ.2).mono ?_
          rintro e W2 ⟨rfl, hk, hb2⟩
          refine ⟨rfl, ⟨hJ.1.trans (hb2.below (by have := hJ.1.size; omega) (Nat.le_refl _)), ?_⟩, hb2⟩
          rw [areaS_s]
          exact hk }
    obtain ⟨A, c, rfl, hc, hm, hn, hl, hr, hw⟩ := h
    clear hr hl hw h1 hf
    go_enter Try.func6, Try.ntmps6
    go_wp2_with (first
      | (go_at_call 12; refine (HC.out).mono ?_; rintro e w1 ⟨rfl, hb1⟩; have HB1 := Lib.hid hb1; clear hb1)
      | (go_at_call 13; refine (HSw.out _ HB1.out).mono ?_; rintro e w2 ⟨rfl, bs, hp, hs, hJ⟩; have HJ := Lib.hid hJ; have k0 : w2.cell? ⟨w1.heap.size, 0, none⟩ = some (.int .i64 (areaV l n)) := ((hJ.2.cell 0).trans (by rw [HV.out bs hp hs]; rfl)); clear hJ))
    go_ret2
    exact ⟨rfl, HB1.out.trans (HJ.out.1.mono HB1.out.size)⟩
set_option maxHeartbeats 2000000 in
theorem kleeDepth1_any (x s q : Int) (yv dv : Value) (ds : List Int) (m gB : Nat) (w : World) (hm : ds.length = m) (h2 : 2 ≤ m) (hq : Lib.maxOf (ds.take m) = q) (hd : IsInts .i64 w w.heap.size dv ds) (hB : Blk w gB 3 #[.int .i64 s]) :
    Calls Try.prog 20 #[.int .i64 x, yv, dv, .pointer (some ⟨gB, 0, none⟩)] w fun e w' => e = .returned (.tuple #[]) ∧ Blk w' gB 3 #[.int .i64 (max s q)] ∧ BelowBut w.heap.size gB w w' := by
  obtain ⟨bd, od, cd, rfl, hcd, hne, hlt, hcells⟩ := ints_apart hd (by omega) hB
  have hmx : m ≤ 140737488351232 := by obtain ⟨_, _, _, _, _, h3, _⟩ := hd; omega
  have HM := Lib.hid fun W (hc : ∀ j, j < ds.length → W.cell? ⟨bd, od + j, none⟩ = some (.int .i64 (ds.getD j 0))) => Try.slices_Max_int bd od m cd ds W (by omega) (by omega) (by omega) hc
  rw [hq] at HM
  rw [hm] at HM hcd ⊢
  have HCl : Hid (∀ j, j < m → w.cell? ⟨bd, od + j, none⟩ = some (.int .i64 (ds.getD j 0))) := Lib.hid fun j hj => hcells j (by omega)
  have g0 : w.cell? ⟨gB, 0, none⟩ = some (.int .i64 s) := (hB.cell 0).trans rfl
  have g1 := hB.frozen 0
  have HBk := Lib.hid hB
  clear hcells hd hB
  go_enter Try.func20, Try.ntmps20
  go_wp2_with fail
  go_region_with (go_at_call 21; refine (HM.out _ (by exact HCl.out)).mono ?_; rintro e w' ⟨rfl, rfl⟩)
  all_goals
    go_end0
    exact ⟨rfl, HBk.out.set_ 0 (.int .i64 (max s q)), ((BelowBut.refl _ _ _).setCell _ _).trans ⟨rfl, rfl, rfl, Nat.le_refl _, fun _ _ _ => rfl⟩⟩
set_option maxHeartbeats 4000000 in
theorem kleeDepth_any (v : Value) (n : Nat) (l : List Int) (a cc : Int) (w : World) (B : Nat) (hB : B ≤ w.heap.size) (h : IsFlat 4 w B v n l) (hR : DepthR n l a cc) :
    Calls Try.prog 8 #[v] w fun e w' => e = .returned (.tuple #[.int .i64 a, .int .i64 cc]) ∧ Below w.heap.size w w' := by
  have HC := Lib.hid (kleeCheck_any v n l w B hB h)
  obtain ⟨h1, h2⟩ := hR
  rw [← h1] at HC
  by_cases c0 : cc = 0
  rotate_left
  · obtain ⟨A, c, rfl, hc, hm, hn, hl, hr, hw⟩ := h
    rw [if_neg c0] at h2
    subst h2
    have t0 : (cc != 0) = true := bne_iff_ne.2 c0
    clear hr hl hw h1 c0
    go_enter Try.func8, Try.ntmps8
    go_wp2_with (go_at_call 12; refine (HC.out).mono ?_; rintro e w1 ⟨rfl, hb1⟩)
    go_ret2
    exact ⟨rfl, hb1⟩
  · subst c0
    rw [if_pos rfl] at h2
    subst h2
    obtain ⟨hn1, hf⟩ := rcCode_ok h1.symm
    have HV := Lib.hid fun bs hp hs => depthV_eq (bs := bs) hf hp hs
    have HSw := Lib.hid fun W (hb : Below w.heap.size w W) => kleeSweep_any v n l 20 #[.pointer (some ⟨W.heap.size, 0, none⟩)] W.heap.size (fun bs i W' => BoxIs W W.heap.size 3 (depS bs (ysC l n) i) W') (W.alloc (.cells #[.int .i64 0] 3))
      ((h.below ((hb.mono hB).alloc (Nat.le_trans hB hb.size) _)).more (Nat.le_trans hB (by have := hb.size; simp; omega))) h1.symm
      { eg := enters_of Try.func20 (by kernel_rfl) rfl
        low := by simp
        one := fun bs i W' h => h.one
        grow := fun bs i W' W'' h hb => h.grow (by simp) (by simp) hb
        skip := fun bs i W' hs hi hng h => by
          show BoxIs _ _ _ (depS bs (ysC l n) (i + 1)) _
          rw [depS_no hng]; exact h
        zero := fun bs => ⟨(Below.refl _ _).alloc (Nat.le_refl _) _, by rw [depS_0]; exact Blk.new _ _ _⟩
        call := fun bs u W' yv dv hp hs hu hgap hJ hy hd => by
          have n0 : 0 < n := by have := hp.length_eq; rw [bds_len] at this; omega
          have hm2 := ys_two (ysC_vals l n) n0 (hf 0 n0)
          have b1 := bx_near hf hp (i := u) (by omega)
          have b2 := bx_near hf hp hu
          have hln := ysC_len l n
          have hbl : bs.length = 2 * n := by rw [hp.length_eq, bds_len]
          have hbd := so_bd (fun b hb => (bds_ok (hp.mem_iff.1 hb)).by_) 
          refine (kleeDepth1_any (bx bs (u + 1) - bx bs u) (depS bs (ysC l n) (u + 1)) (maxL (so bs (u + 1)) (ysC l n)) yv dv (rowD bs (ysC l n) (u + 1)) (ysC l n).length W.heap.size W' (rowD_len _ _ _) hm2 (maxOf_row bs (u + 1) (by omega)) hd hJ.2).mono ?_
          rintro e W2 ⟨rfl, hk, hb2⟩
          refine ⟨rfl, ⟨hJ.1.trans (hb2.below (by have := hJ.1.size; omega) (Nat.le_refl _)), ?_⟩, hb2⟩
          rw [depS_yes (i := u + 1) ⟨by omega, hgap⟩]
          exact hk }
    obtain ⟨A, c, rfl, hc, hm, hn, hl, hr, hw⟩ := h
    clear hr hl hw h1 hf
    go_enter Try.func8, Try.ntmps8
    go_wp2_with (first
      | (go_at_call 12; refine (HC.out).mono ?_; rintro e w1 ⟨rfl, hb1⟩; have HB1 := Lib.hid hb1; clear hb1)
      | (go_at_call 13; refine (HSw.out _ HB1.out).mono ?_; rintro e w2 ⟨rfl, bs, hp, hs, hJ⟩; have HJ := Lib.hid hJ; have k0 : w2.cell? ⟨w1.heap.size, 0, none⟩ = some (.int .i64 (depthV l n)) := ((hJ.2.cell 0).trans (by rw [HV.out bs hp hs]; rfl)); clear hJ))
    go_ret2
    exact ⟨rfl, HB1.out.trans (HJ.out.1.mono HB1.out.size)⟩
end Go.Proofs.Ytnkflafkalmnmaa
