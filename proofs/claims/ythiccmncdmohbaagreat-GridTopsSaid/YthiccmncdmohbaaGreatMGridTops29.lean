/-
  Contract of grid.build: the index of points, in memory. Conditions: the points can be read as data; they are at most 150.
-/
import Derived.Test.YthiccmncdmohbaaGreatMGridTops18
import Derived.Test.YthiccmncdmohbaaGreatMGridTops00
import Derived.Test.YthiccmncdmohbaaGreatMGridTops06
import Derived.Test.YthiccmncdmohbaaGreatMGridTops05
import Derived.Test.YthiccmncdmohbaaGreatMGridTops25
import Derived.Test.YthiccmncdmohbaaGreatMGridTops28
import Derived.Deep.CutRange
set_option linter.unusedVariables false
set_option linter.unusedSimpArgs false
namespace Go.Dam
open Go Go.RowKit Go.Sort
/-- All places below n. -/
def placesL (n : Nat) : List Nat := List.range n
theorem natL_range (n : Nat) : natL (List.range (n + 1)) = natL (List.range n) ++ [(n : Int)] := by unfold natL; rw [List.range_succ, List.map_append]; rfl
/-- A number that is a place below n. -/
def IsPlace (n : Nat) (z : Int) : Prop := ∃ i : Nat, z = i ∧ i < n
theorem mem_places {n : Nat} {z : Int} (h : z ∈ natL (List.range n)) : IsPlace n z := by
  obtain ⟨i, hi, rfl⟩ := List.mem_map.1 h
  exact ⟨i, rfl, List.mem_range.1 hi⟩
theorem natL_perm {n : Nat} {r : List Int} (h : r.Perm (natL (List.range n))) : ∃ rn : List Nat, rn.Perm (List.range n) ∧ r = natL rn := by
  refine ⟨r.map Int.toNat, ?_, ?_⟩
  · have h1 := h.map Int.toNat
    have h2 : (natL (List.range n)).map Int.toNat = List.range n := by
      unfold natL; rw [List.map_map]
      conv => rhs; rw [← List.map_id (List.range n)]
      exact List.map_congr_left fun i _ => rfl
    rwa [h2] at h1
  · unfold natL
    rw [List.map_map]
    conv => lhs; rw [← List.map_id r]
    refine List.map_congr_left fun z hz => ?_
    obtain ⟨i, rfl, _⟩ := mem_places (h.mem_iff.1 hz)
    rfl
/-- The order of the index: all places, by X, Y and place. -/
def OrdXY (l : List Int) (n : Nat) (r : List Nat) : Prop := r.Perm (List.range n) ∧ ∀ u v, u < v → v < n → ¬ (xOf l r v < xOf l r u ∨ (xOf l r v = xOf l r u ∧ (yOf l r v < yOf l r u ∨ (yOf l r v = yOf l r u ∧ r.getD v 0 < r.getD u 0))))
theorem OrdXY.len {l : List Int} {n : Nat} {r : List Nat} (h : OrdXY l n r) : r.length = n := by have := h.1.length_eq; simpa using this
theorem OrdXY.lt {l : List Int} {n : Nat} {r : List Nat} (h : OrdXY l n r) (u : Nat) (hu : u < n) : r.getD u 0 < n := by
  have hl := h.len
  rw [List.getD_eq_getElem?_getD, List.getElem?_eq_getElem (by omega)]
  exact List.mem_range.1 (h.1.mem_iff.1 (List.getElem_mem (by omega)))
theorem OrdXY.ordX {l : List Int} {n : Nat} {r : List Nat} (h : OrdXY l n r) (hn : n ≤ 150) : OrdX l n r :=
  ⟨h.len, hn, h.lt, fun u v huv hv => by
    rcases Nat.eq_or_lt_of_le huv with rfl | g
    · exact Int.le_refl _
    · have := h.2 u v g hv; omega⟩
/-- The Y of the points, as the order has them. -/
def ysOf (l : List Int) (r : List Nat) : List Int := r.map fun i => l.getD (i * 3 + 1) 0
/-- The index lies apart from what was there ahead of it, but for the points. -/
def IdxFar (w w' : World) (g n : Nat) (r : List Nat) (v : Value) : Prop := w.heap.size ≤ g ∧ w'.cell? ⟨g, 0, none⟩ = some v ∧ ∃ ov base E, w.heap.size ≤ base ∧ w'.cell? ⟨g, 1, none⟩ = some ov ∧ w'.ownsRow base E 1 ov n ((natL r).map (Value.int .i64))
/-- What the index holds. -/
def IdxR (l : List Int) (n : Nat) (r : List Nat) (vals rs : List Int) (wss : List (List Nat)) (cc : Int) : Prop := OrdXY l n r ∧ RankR (ysOf l r) vals rs ∧ WaveMk 8 rs wss cc
end Go.Dam
namespace Go.Proofs.YthiccmncdmohbaaGreat
open Go Go.RowKit Go.Dam Go.Shelf Go.Sort
set_option linter.unusedVariables false
set_option maxRecDepth 100000 in
set_option maxHeartbeats 4000000 in
theorem gridBuild_any (v : Value) (n : Nat) (l : List Int) (w : World) (B : Nat) (hB : B ≤ w.heap.size) (h : IsFlat 3 w B v n l) (hn : n ≤ 150) :
    Calls Tryz.prog 15 #[v] w fun e w' => (∃ g r vals rs wss cc, e = .returned (.pointer (some ⟨g, 0, none⟩)) ∧ IdxR l n r vals rs wss cc ∧ IsIdx w' w'.heap.size g n l r vals (wss.map fun ws => ((n : Int), ws)) ∧ IdxFar w w' g n r v) ∧ Below w.heap.size w w' := by
  have HF0 := Lib.hid h
  obtain ⟨A, c, rfl, hc, hm, hn0, hl, hr, hw⟩ := h
  have HR := Lib.hid hr
  have HW := Lib.hid hw
  have HB2 := Lib.hid ((Below.refl w.heap.size w).alloc (Nat.le_refl _) (.cells #[.slice A n c] 22))
  have HK0 := Lib.hid (Blk.new w 22 #[.slice A n c])
  have HK1 := Lib.hid (Blk.new_at (w.alloc (.cells #[.slice A n c] 22)) 61 #[.slice A n c, .slice none 0 0, .slice none 0 0, .slice none 0 0] (w.heap.size + 1) (by simp))
  have z0 := (HK0.out.cell 0).trans rfl
  clear hr hw
  go_enter Tryz.func15, Tryz.ntmps15
  go_wp2_with fail
  have HW2 : Hid (RowKit.Below w.heap.size w ((w.alloc (.cells #[.slice A n c] 22)).alloc (.cells #[.slice A n c, .slice none 0 0, .slice none 0 0, .slice none 0 0] 61))) := Lib.hid (HB2.out.alloc (by simp) _)
  have HJ0 : Hid (Blk ((w.alloc (.cells #[.slice A n c] 22)).alloc (.cells #[.slice A n c, .slice none 0 0, .slice none 0 0, .slice none 0 0] 61)) w.heap.size 22 #[.slice A n c]) := Lib.hid (HK0.out.alloc _)
  have hz2 : ((w.alloc (.cells #[.slice A n c] 22)).alloc (.cells #[.slice A n c, .slice none 0 0, .slice none 0 0, .slice none 0 0] 61)).heap.size = w.heap.size + 2 := by simp
  clear HB2 HK0 z0
  generalize (w.alloc (.cells #[.slice A n c] 22)).alloc (.cells #[.slice A n c, .slice none 0 0, .slice none 0 0, .slice none 0 0] 61) = W2 at *
  go_loopw [5, 16] (fun _ iv wr => ∃ (i : Nat) (ov : Value), i ≤ n ∧ iv = .int .i64 i ∧ Hid (Blk wr (w.heap.size + 1) 61 #[.slice A n c, ov, .slice none 0 0, .slice none 0 0]) ∧ Hid (wr.ownsRow W2.heap.size 3 1 ov i ((natL (List.range i)).map (Value.int .i64))) ∧ Hid (RowKit.Below (w.heap.size + 1) W2 wr)) (fun _ iv _ => n - (intOf iv).toNat)
  case atStart => exact ⟨0, _, by omega, rfl, HK1, Lib.hid (World.ownsRow_nil _ _ _ _), Lib.hid (RowKit.Below.refl _ _)⟩
  case round =>
    obtain ⟨wo, rfl⟩ : ∃ wo : World, wo = wr := ⟨_, rfl⟩
    obtain ⟨i, ov, hi, rfl, HP, HO, HB⟩ := hrel
    obtain ⟨A2, c2, rfl⟩ := own_shape HO.out
    have p1 := (HP.out.cell 1).trans rfl
    have hzo := HB.out.size
    have hlt0 := HP.out.lt
    by_cases hlt : i < n
    · have t1 : decide ((i : Int) < (n : Int)) = true := decide_eq_true (by omega)
      go_wp2_with (at_builtin; refine wpList_pushD el_int rfl (.tmp 23) (.tmp 25) rfl W2.heap.size _ i _ (HO.out.alloc _) rfl wo.heap.size 1 _ rfl (new_cell rfl) rfl (by omega) (by omega) (by simp; omega) ?_; intro v2 w3 hown2 hg2 hl2; obtain ⟨A3, c3, rfl⟩ := own_shape hown2; have hp3 := Blk.grown (HP.out.alloc _) hg2 (fun e => own_ne HO.out (show w.heap.size + 1 < W2.heap.size by omega) e.symm); have f3 := hp3.frozen 1; have q3 := hp3.cell 1; have HP3 := Lib.hid hp3; clear hp3)
      go_roundw
      case rel => exact ⟨i + 1, _, by omega, by go_num, Lib.hid (HP3.out.set_ 1 _), Lib.hid (by rw [natL_range, List.map_append]; exact ownsRow_setCell_below hown2 (by show w.heap.size + 1 < _; omega) _), Lib.hid ((below_push (HB.out.alloc (by omega) _) (HO.out.alloc _) (by omega) (by simp; omega) hg2).setCell (by show w.heap.size + 1 ≤ w.heap.size + 1; omega) _)⟩
      case measure => simp [intOf]; omega
    · obtain rfl : n = i := by omega
      have i6 : ¬ (n : Int) < (n : Int) := by omega
      have HSort := Lib.hid (sortFunc_own HO.out (by omega) (IsPlace n) (fun z hz => mem_places hz) (cmpXY l) (swo_xy (fun x : OkF (IsPlace n) => x.1) l) 26 #[.pointer (some ⟨w.heap.size, 0, none⟩)]
        (enters_of Tryz.func26 (by kernel_rfl) rfl) (fun W l' _ _ _ hg x y hx hy => by
          obtain ⟨a1, rfl, ha1⟩ := hx
          obtain ⟨b1, rfl, hb1⟩ := hy
          obtain ⟨bk, off, rfl, hbk, hcs⟩ := flat_cells HR.out hl (by omega) (by omega)
          have cell : ∀ p : Addr, p.block < w.heap.size + 1 → W.cell? p = W2.cell? p := fun p hp => (hg.cell_far p (by omega) (fun e => own_ne HO.out (show p.block < W2.heap.size by omega) e.symm)).trans (HB.out.cell hp)
          have old : ∀ j, j < n * 3 → W.cell? ⟨bk, off + j, none⟩ = some (.int .i64 (l.getD j 0)) := fun j hj => (cell _ (by show bk < _; omega)).trans ((HW2.out.cell (p := ⟨bk, off + j, none⟩) (by show bk < _; omega)).trans (hcs j hj))
          have e : cmpXY l (a1 : Int) (b1 : Int) = or3 (Lib.compareInt (l.getD (a1 * 3) 0) (l.getD (b1 * 3) 0)) (Lib.compareInt (l.getD (a1 * 3 + 1) 0) (l.getD (b1 * 3 + 1) 0)) (Lib.compareInt a1 b1) := by unfold cmpXY; rw [Int.toNat_natCast, Int.toNat_natCast]
          rw [e]
          exact gridCmp_any n c bk off w.heap.size a1 b1 _ _ _ _ W ha1 hb1 (by omega) ((cell ⟨w.heap.size, 0, none⟩ (by show w.heap.size < _; omega)).trans ((HJ0.out.cell 0).trans rfl)) (old (a1 * 3) (by omega)) (old (a1 * 3 + 1) (by omega)) (old (b1 * 3) (by omega)) (old (b1 * 3 + 1) (by omega))))
      go_wp2_with (go_at_call 25; refine (HSort.out).mono ?_; rintro e w5 ⟨rfl, r, hperm, hsorted, hown5, hg5⟩; have HP5 := Lib.hid (Blk.grown HP.out hg5 (fun e => own_ne HO.out (show w.heap.size + 1 < W2.heap.size by omega) e.symm)); have p51 := (HP5.out.cell 1).trans rfl)
      have HB5 : Hid (RowKit.Below (w.heap.size + 1) W2 w5) := Lib.hid (HB.out.grown hg5 (by omega) (fun k e => Nat.le_trans (by omega) (HO.out.lt k e).1))
      obtain ⟨rn, hrn, rfl⟩ := natL_perm hperm
      have hlen : rn.length = n := by have := hrn.length_eq; simpa using this
      have HX : Hid (OrdXY l n rn) := Lib.hid ⟨hrn, fun u v huv hv => by
        have h1 := hsorted u v huv (by rw [natL_len, hlen]; exact hv)
        rw [natL_at, natL_at] at h1
        unfold cmpXY at h1
        rw [or3_neg, Int.toNat_natCast, Int.toNat_natCast] at h1
        unfold xOf yOf
        omega⟩
      have HO5 := Lib.hid hown5
      have hz5 := hg5.size
      clear hperm hsorted hown5 hg5 hrn HSort HB HP HO p1
      have h57 := HB5.out.size
      go_loopw [4, 7, 41] (fun yv _ iv wr => ∃ t : Nat, t ≤ n ∧ iv = .int .i64 t ∧ Hid (wr.ownsRow w5.heap.size 3 1 yv t ((ysOf l (rn.take t)).map (Value.int .i64))) ∧ Hid (RowKit.Below w5.heap.size w5 wr)) (fun _ _ iv _ => n - (intOf iv).toNat)
      case atStart => exact ⟨0, by omega, rfl, Lib.hid (by rw [List.take_zero]; exact World.ownsRow_nil _ _ _ _), Lib.hid (RowKit.Below.refl _ _)⟩
      case round =>
        obtain ⟨wi, rfl⟩ : ∃ wi : World, wi = wr := ⟨_, rfl⟩
        obtain ⟨t, ht, rfl, HOy, HBy⟩ := hrel
        obtain ⟨A4, c4, rfl⟩ := own_shape HOy.out
        have hzi := HBy.out.size
        by_cases hlt : t < n
        · have t1 : decide ((t : Int) < (n : Int)) = true := decide_eq_true (by omega)
          have i1 : (t : Int) < (n : Int) := by omega
          obtain ⟨g2, cap2, hv2, hbase2, hg2lt⟩ := HO5.out.form (by omega)
          injection hv2 with hA2 _ hc2
          subst hA2 hc2
          obtain ⟨bk, off, rfl, hbk, hcs⟩ := flat_cells HR.out hl (by omega) (by omega)
          have o0 : wi.cell? ⟨g2, t, none⟩ = some (.int .i64 ((rn.getD t 0 : Nat) : Int)) := by
            rw [HBy.out.cell (p := ⟨g2, t, none⟩) hg2lt, HO5.out.cellAt t (by omega), List.getElem?_map]
            have := natL_at rn t
            rw [List.getD_eq_getElem?_getD, List.getElem?_eq_getElem (by rw [natL_len]; omega)] at this
            rw [List.getElem?_eq_getElem (by rw [natL_len]; omega)]
            simp only [Option.getD_some] at this
            rw [this]; rfl
          have hpl := HX.out.lt t hlt
          have HN : Hid (ysOf l (rn.take (t + 1)) = ysOf l (rn.take t) ++ [l.getD (rn.getD t 0 * 3 + 1) 0]) := Lib.hid (by
            unfold ysOf
            rw [List.take_add_one, List.map_append, List.getElem?_eq_getElem (by omega), ge_at rn (by omega)]; rfl)
          obtain ⟨pl, hpe⟩ : ∃ p, rn.getD t 0 = p := ⟨_, rfl⟩
          rw [hpe] at o0 hpl HN
          have j1 : (pl : Int) < (n : Int) := by omega
          have b0 := ((HBy.out.cell (p := ⟨w.heap.size, 0, none⟩) (by show w.heap.size < _; omega)).trans (HB5.out.cell (p := ⟨w.heap.size, 0, none⟩) (by show w.heap.size < _; omega))).trans ((HJ0.out.cell 0).trans rfl)
          have y1 := ((HBy.out.cell (p := ⟨bk, off + (pl * 3 + 1), none⟩) (by show bk < _; omega)).trans (HB5.out.cell (p := ⟨bk, off + (pl * 3 + 1), none⟩) (by show bk < _; omega))).trans ((HW2.out.cell (p := ⟨bk, off + (pl * 3 + 1), none⟩) (by show bk < _; omega)).trans (hcs (pl * 3 + 1) (by omega)))
          rw [← Nat.add_assoc] at y1
          obtain ⟨y, hy⟩ : ∃ y, l.getD (pl * 3 + 1) 0 = y := ⟨_, rfl⟩
          rw [hy] at y1 HN
          clear hpe hy hcs
          go_wp2_with (at_builtin; refine wpList_pushD el_int rfl (.tmp 45) (.tmp 51) rfl w5.heap.size _ t _ (HOy.out.alloc _) rfl wi.heap.size 1 _ rfl (new_cell rfl) rfl (by omega) (by omega) (by simp; omega) ?_; intro v2 w3 hown2 hg2 hl2)
          go_roundw
          case rel => exact ⟨t + 1, by omega, by go_num, Lib.hid (by rw [HN.out, List.map_append]; exact hown2), Lib.hid (below_push (HBy.out.alloc hzi _) (HOy.out.alloc _) (Nat.le_refl _) (by simp; omega) hg2)⟩
          case measure => simp [intOf]; omega
        · obtain rfl : n = t := by omega
          have i7 : ¬ (n : Int) < (n : Int) := by omega
          have hys : rn.take n = rn := by rw [← hlen, List.take_length]
          rw [hys] at HOy
          have hyl : (ysOf l rn).length = n := by unfold ysOf; rw [List.length_map, hlen]
          have HYi := Lib.hid (own_ints HOy.out (by omega) (fun z hz => by
            unfold ysOf at hz
            obtain ⟨i, hi, rfl⟩ := List.mem_map.1 hz
            have := List.mem_iff_getElem.1 hi
            obtain ⟨u, hu, rfl⟩ := this
            have h3 := HX.out.lt u (by omega)
            rw [List.getD_eq_getElem?_getD, List.getElem?_eq_getElem hu] at h3
            simp only [Option.getD_some] at h3
            exact HW.out _ (by rw [List.getD_eq_getElem?_getD, List.getElem?_eq_getElem (by omega)]; exact List.getElem_mem _)))
          obtain ⟨vals, rs, hRk⟩ := RankR.ex (ysOf l rn)
          have hrsl : rs.length = n := by rw [hRk.2.1, hyl]
          have HRk := Lib.hid hRk
          have HRa := Lib.hid (ranksMake_any _ (ysOf l rn) vals rs 0 wi _ (Nat.le_refl _) HYi.out (.inr ⟨by omega, hRk, rfl⟩))
          have HP6 := Lib.hid (HP5.out.below HBy.out (by omega))
          go_upto_region 15 with (go_at_call 29; refine (HRa.out).mono ?_; rintro e w7 ⟨u7, v7, rfl, hu7, hv7, hb7⟩)
          have HU := Lib.hid hu7
          have HV := Lib.hid hv7
          obtain ⟨A5, c5, rfl, _⟩ := hu7
          obtain ⟨A6, c6, rfl, _⟩ := hv7
          have hz7 := hb7.size
          have hw5 := HP5.out.lt
          have HP7 := Lib.hid (HP6.out.below hb7 (by omega))
          have HO7 := Lib.hid (own_size (own_size HO5.out HBy.out) hb7)
          have HB7 : Hid (RowKit.Below (w.heap.size + 1) W2 w7) := Lib.hid (HB5.out.trans ((HBy.out.mono (by omega)).trans (hb7.mono (by omega))))
          have f72 := HP7.out.frozen 2
          have p72 := (HP7.out.cell 2).trans rfl
          have hAS : AllSl #[Value.slice A n c, .slice A2 n c2, .slice none 0 0, .slice none 0 0] := by
            intro i u hu
            rcases (show i = 0 ∨ i = 1 ∨ i = 2 ∨ i = 3 by have := (Array.getElem?_eq_some_iff.1 hu).1; simp at this; omega) with rfl | rfl | rfl | rfl <;> (simp at hu; subst hu; exact ⟨_, _, _, rfl⟩)
          obtain ⟨wss, cc, hMk⟩ := WaveMk.ex 8 rs
          have HMk := Lib.hid hMk
          have HP8 : Hid (Blk (w7.setCell ⟨w.heap.size + 1, 2, none⟩ (.slice A5 vals.length c5)) (w.heap.size + 1) 61 #[.slice A n c, .slice A2 n c2, .slice A5 vals.length c5, .slice none 0 0]) := Lib.hid (HP7.out.set_ 2 _)
          have HU8 := Lib.hid (ints_sl (p := ⟨w.heap.size + 1, 2, none⟩) HU.out HP7.out hAS (.slice A5 vals.length c5))
          have HV8 := Lib.hid (ints_sl (p := ⟨w.heap.size + 1, 2, none⟩) HV.out HP7.out hAS (.slice A5 vals.length c5))
          have HO8 := Lib.hid (ownsRow_setCell_below (a := ⟨w.heap.size + 1, 2, none⟩) HO7.out (by show w.heap.size + 1 < _; omega) (.slice A5 vals.length c5))
          have HB8 := Lib.hid (HB7.out.setCell (p := ⟨w.heap.size + 1, 2, none⟩) (by show w.heap.size + 1 ≤ w.heap.size + 1; omega) (.slice A5 vals.length c5))
          have HWv := Lib.hid (waveMake_any 8 _ rs wss cc _ _ (by simp) HV8.out (by unfold I64; omega) hMk)
          have hz8 : (w7.setCell ⟨w.heap.size + 1, 2, none⟩ (.slice A5 vals.length c5)).heap.size = w7.heap.size := by simp
          clear hMk hRk HRa hb7 HYi HBy HB5 HO5 HP5 HP6 HB7
          rw [hrsl] at HWv
          go_upto_region 16 with fail
          generalize w7.setCell ⟨w.heap.size + 1, 2, none⟩ (.slice A5 vals.length c5) = W8 at *
          go_wp2_with (go_at_call 30; refine (HWv.out).mono ?_; rintro e w9 ⟨v9, rfl, hrow9, hb9⟩; have HRow9 := Lib.hid hrow9; obtain ⟨A9, c9, vs9, rfl, _⟩ := hrow9; have HP9 := Lib.hid (HP8.out.below hb9 HP8.out.lt); have f93 := HP9.out.frozen 3; have p93 := (HP9.out.cell 3).trans rfl; have HB9 := Lib.hid hb9; clear hb9)
          go_ret
          have hAS9 : AllSl #[.slice A n c, .slice A2 n c2, .slice A5 vals.length c5, .slice none 0 0] := by
            intro i u hu
            rcases (show i = 0 ∨ i = 1 ∨ i = 2 ∨ i = 3 by have := (Array.getElem?_eq_some_iff.1 hu).1; simp at this; omega) with rfl | rfl | rfl | rfl <;> (simp at hu; subst hu; exact ⟨_, _, _, rfl⟩)
          have hz9 := HB9.out.size
          have key : ∀ x : Value, Blk (w9.setCell ⟨w.heap.size + 1, 3, none⟩ x) (w.heap.size + 1) 61 #[.slice A n c, .slice A2 n c2, .slice A5 vals.length c5, x] := fun x => HP9.out.set_ 3 x
          have hbE : RowKit.Below w.heap.size w (w9.setCell ⟨w.heap.size + 1, 3, none⟩ (.slice A9 wss.length c9)) := (HW2.out.trans ((HB8.out.mono (by omega)).trans (HB9.out.mono (by omega)))).setCell (by show w.heap.size ≤ w.heap.size + 1; omega) _
          have hk := key (.slice A9 wss.length c9)
          refine ⟨⟨w.heap.size + 1, rn, vals, rs, wss, cc, rfl, ⟨HX.out, HRk.out, HMk.out⟩, ?_, ⟨by omega, (hk.cell 0).trans rfl, _, W2.heap.size, _, by omega, (hk.cell 1).trans rfl, ownsRow_setCell_below (own_size HO8.out HB9.out) (by show w.heap.size + 1 < _; omega) _⟩⟩, hbE⟩
          refine ⟨hk.lt, _, _, _, _, (hk.cell 0).trans rfl, (hk.cell 1).trans rfl, (hk.cell 2).trans rfl, (hk.cell 3).trans rfl, (HF0.out.below (hbE.mono hB)).more (Nat.le_trans hB hbE.size), ?_, ?_, ?_⟩
          · exact own_ints (ownsRow_setCell_below (own_size HO8.out HB9.out) (by show w.heap.size + 1 < _; omega) _) (by rw [natL_len]; omega) (fun z hz => by
              have := natL_wf (p := fun _ => true) (HX.out.lt) hlen (by omega) (z := z)
              rw [List.filter_eq_self.2 (fun _ _ => rfl)] at this
              exact this hz)
          · exact (ints_sl (p := ⟨w.heap.size + 1, 3, none⟩) ((HU8.out.below (HB9.out.mono (show w7.heap.size ≤ W8.heap.size by omega))).more (show w7.heap.size ≤ w9.heap.size by omega)) HP9.out hAS9 _).more (by simp)
          · have := (rows_sl (v := .slice A9 wss.length c9) (p := ⟨w.heap.size + 1, 3, none⟩) (by have := HRow9.out; rwa [List.length_map] at this) HP9.out hAS9 (.slice A9 wss.length c9)).more (B' := (w9.setCell ⟨w.heap.size + 1, 3, none⟩ (.slice A9 wss.length c9)).heap.size) (by simp)
            exact this
end Go.Proofs.YthiccmncdmohbaaGreat
