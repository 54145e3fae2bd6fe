/-
  Contract of the reference's within with the order by weight: the places in a rectangle, sorted stably. Conditions: the points can be read as data; they are at most 150.
-/
import Derived.Test.YthiccmncdmohbaaGreatMGridTops37
set_option linter.unusedVariables false
set_option linter.unusedSimpArgs false
namespace Go.Dam
open Go Go.RowKit Go.Dam.Stable
theorem ltPT_weak (l : List Int) : Weak (ltPT l) where
  asym x y h := by unfold ltPT ltT at *; simp at *; omega
  tr x y z h g := by unfold ltPT ltT at *; simp at *; omega
  neg x y z h g := by unfold ltPT ltT at *; simp at *; omega
end Go.Dam
namespace Go.Proofs.YthiccmncdmohbaaGreat
open Go Go.RowKit Go.Dam Go.Sort Go.Dam.Stable
set_option linter.unusedVariables false
set_option maxRecDepth 100000 in
set_option maxHeartbeats 4000000 in
theorem repTWithin_any (x0 y0 x1 y1 : Int) (v : Value) (n : Nat) (l : List Int) (w : World) (B : Nat) (hB : B ≤ w.heap.size) (h : IsFlat 3 w B v n l) (hn : n ≤ 150) :
    Calls Tryz.prog 12 #[v, .agg #[.int .i64 x0, .int .i64 y0, .int .i64 x1, .int .i64 y1], .func (.func 13) #[] #[]] w fun e w' => (∃ u r, e = .returned u ∧ StabR (ltPT l) (natL ((List.range n).filter (inQ l x0 y0 x1 y1))) r ∧ IsInts .i64 w' w'.heap.size u r) ∧ RowKit.Below w.heap.size w w' := by
  obtain ⟨A, c, rfl, hc, hm, hn0, hl, hr, hw⟩ := h
  have HR := Lib.hid hr
  have HIn := Lib.hid refPointIn_any
  clear hr hw
  go_enter Tryz.func12, Tryz.ntmps12
  go_wp2_with fail
  have HW4 : Hid (RowKit.Below w.heap.size w ((((w.alloc (.cells #[.slice A n c] 22)).alloc (.cells #[.int .i64 x0, .int .i64 y0, .int .i64 x1, .int .i64 y1] 24)).alloc (.cells #[.func (.func 13) #[] #[]] 42)).alloc (.cells #[.slice none 0 0] 25))) := Lib.hid (((((RowKit.Below.refl _ _).alloc (Nat.le_refl _) _).alloc (by simp) _).alloc (by simp; omega) _).alloc (by simp; omega) _)
  have HJ0 : Hid (Blk ((((w.alloc (.cells #[.slice A n c] 22)).alloc (.cells #[.int .i64 x0, .int .i64 y0, .int .i64 x1, .int .i64 y1] 24)).alloc (.cells #[.func (.func 13) #[] #[]] 42)).alloc (.cells #[.slice none 0 0] 25)) w.heap.size 22 #[.slice A n c]) := Lib.hid ((((Blk.new w 22 #[.slice A n c]).alloc _).alloc _).alloc _)
  have HJ1 : Hid (Blk ((((w.alloc (.cells #[.slice A n c] 22)).alloc (.cells #[.int .i64 x0, .int .i64 y0, .int .i64 x1, .int .i64 y1] 24)).alloc (.cells #[.func (.func 13) #[] #[]] 42)).alloc (.cells #[.slice none 0 0] 25)) (w.heap.size + 1) 24 #[.int .i64 x0, .int .i64 y0, .int .i64 x1, .int .i64 y1]) := Lib.hid (((Blk.new_at _ _ _ (w.heap.size + 1) (by simp)).alloc _).alloc _)
  have HJ2 : Hid (Blk ((((w.alloc (.cells #[.slice A n c] 22)).alloc (.cells #[.int .i64 x0, .int .i64 y0, .int .i64 x1, .int .i64 y1] 24)).alloc (.cells #[.func (.func 13) #[] #[]] 42)).alloc (.cells #[.slice none 0 0] 25)) (w.heap.size + 2) 42 #[.func (.func 13) #[] #[]]) := Lib.hid ((Blk.new_at _ _ _ (w.heap.size + 2) (by simp)).alloc _)
  have HJ3 : Hid (Blk ((((w.alloc (.cells #[.slice A n c] 22)).alloc (.cells #[.int .i64 x0, .int .i64 y0, .int .i64 x1, .int .i64 y1] 24)).alloc (.cells #[.func (.func 13) #[] #[]] 42)).alloc (.cells #[.slice none 0 0] 25)) (w.heap.size + 3) 25 #[.slice none 0 0]) := Lib.hid (Blk.new_at _ _ _ (w.heap.size + 3) (by simp))
  have hz4 : ((((w.alloc (.cells #[.slice A n c] 22)).alloc (.cells #[.int .i64 x0, .int .i64 y0, .int .i64 x1, .int .i64 y1] 24)).alloc (.cells #[.func (.func 13) #[] #[]] 42)).alloc (.cells #[.slice none 0 0] 25)).heap.size = w.heap.size + 4 := by simp
  generalize ((((w.alloc (.cells #[.slice A n c] 22)).alloc (.cells #[.int .i64 x0, .int .i64 y0, .int .i64 x1, .int .i64 y1] 24)).alloc (.cells #[.func (.func 13) #[] #[]] 42)).alloc (.cells #[.slice none 0 0] 25)) = W4 at *
  go_loopw [8, 9, 12] (fun _ _ iv wr => ∃ (t : Nat) (ov : Value), t ≤ n ∧ iv = .int .i64 t ∧ Hid (Blk wr (w.heap.size + 3) 25 #[ov]) ∧ Hid (wr.ownsRow W4.heap.size 3 1 ov ((List.range t).filter (inQ l x0 y0 x1 y1)).length ((natL ((List.range t).filter (inQ l x0 y0 x1 y1))).map (Value.int .i64))) ∧ Hid (RowKit.Below (w.heap.size + 3) W4 wr)) (fun _ _ iv _ => n - (intOf iv).toNat)
  case atStart => exact ⟨0, _, by omega, rfl, HJ3, Lib.hid (World.ownsRow_nil _ _ _ _), Lib.hid (RowKit.Below.refl _ _)⟩
  case round =>
    obtain ⟨wo, rfl⟩ : ∃ wo : World, wo = wr := ⟨_, rfl⟩
    obtain ⟨t, ov, ht, rfl, HP, HO, HB⟩ := hrel
    obtain ⟨fl, hfl⟩ : ∃ f, (List.range t).filter (inQ l x0 y0 x1 y1) = f := ⟨_, rfl⟩
    rw [hfl] at HO
    have hfn : fl.length ≤ 150 := by rw [← hfl]; exact Nat.le_trans (List.length_filter_le _ _) (by rw [List.length_range]; omega)
    obtain ⟨A2, c2, rfl⟩ := own_shape HO.out
    have p3 := (HP.out.cell 0).trans rfl
    have hzo := HB.out.size
    have hlt3 := HP.out.lt
    by_cases hlt : t < n
    · have t1 : decide ((t : Int) < (n : Int)) = true := decide_eq_true (by omega)
      have i1 : (t : Int) < (n : Int) := by omega
      obtain ⟨bk, off, rfl, hbk, hcs⟩ := flat_cells HR.out hl (by omega) (by omega)
      have cell : ∀ j, j < n * 3 → wo.cell? ⟨bk, off + j, none⟩ = some (.int .i64 (l.getD j 0)) := fun j hj => (HB.out.cell (p := ⟨bk, off + j, none⟩) (by show bk < _; omega)).trans ((HW4.out.cell (p := ⟨bk, off + j, none⟩) (by show bk < _; omega)).trans (hcs j hj))
      have y0' := cell (t * 3) (by omega)
      have y1' := cell (t * 3 + 1) (by omega)
      have y2' := cell (t * 3 + 2) (by omega)
      rw [← Nat.add_assoc] at y1' y2'
      have HN := Lib.hid (natL_take l x0 y0 x1 y1 t)
      obtain ⟨p0, hp0⟩ : ∃ p, l.getD (t * 3) 0 = p := ⟨_, rfl⟩
      obtain ⟨p1, hp1⟩ : ∃ p, l.getD (t * 3 + 1) 0 = p := ⟨_, rfl⟩
      obtain ⟨p2, hp2⟩ : ∃ p, l.getD (t * 3 + 2) 0 = p := ⟨_, rfl⟩
      rw [hp0] at y0'
      rw [hp1] at y1'
      rw [hp2] at y2'
      have hinE : inQ l x0 y0 x1 y1 t = inR p0 p1 x0 y0 x1 y1 := by unfold inQ; rw [hp0, hp1]
      rw [hfl] at HN
      clear hp0 hp1 hp2 hfl cell hcs
      have HRc := Lib.hid (HJ1.out.below HB.out (by omega))
      have HRd := Lib.hid (HRc.out.alloc (.cells #[.int .i64 p0, .int .i64 p1, .int .i64 p2] 41))
      have HPb := Lib.hid (Blk.new wo 41 #[.int .i64 p0, .int .i64 p1, .int .i64 p2])
      have r0 := (HRd.out.cell 0).trans rfl
      have r1 := (HRd.out.cell 1).trans rfl
      have r2 := (HRd.out.cell 2).trans rfl
      have r3 := (HRd.out.cell 3).trans rfl
      have s0 := (HPb.out.cell 0).trans rfl
      have s1 := (HPb.out.cell 1).trans rfl
      have s2 := (HPb.out.cell 2).trans rfl
      go_upto_if 19 with (go_at_call 19; refine (HIn.out _ _ _ _ _ _ _ _).mono ?_; rintro e w3 ⟨rfl, hbi⟩)
      have hzi := hbi.size
      have hzs : (wo.alloc (.cells #[.int .i64 p0, .int .i64 p1, .int .i64 p2] 41)).heap.size = wo.heap.size + 1 := by simp
      have HP3 := Lib.hid ((HP.out.alloc (.cells #[.int .i64 p0, .int .i64 p1, .int .i64 p2] 41)).below hbi (by omega))
      have HO3 := Lib.hid (own_size (HO.out.alloc (.cells #[.int .i64 p0, .int .i64 p1, .int .i64 p2] 41)) hbi)
      have HB3 := Lib.hid ((HB.out.alloc (by omega) (.cells #[.int .i64 p0, .int .i64 p1, .int .i64 p2] 41)).trans (hbi.mono (by omega)))
      have q3 := (HP3.out.cell 0).trans rfl
      clear hbi HP HO HB HRd HPb HRc r0 r1 r2 r3 s0 s1 s2 p3 y0' y1' y2'
      cases hin : inQ l x0 y0 x1 y1 t with
      | true =>
        rw [hin, if_pos rfl] at HN
        have hin' : inR p0 p1 x0 y0 x1 y1 = true := by rw [← hinE, hin]
        rw [hin']
        clear hinE hin
        go_wp2_with (at_builtin; refine wpList_pushD el_int rfl (.tmp 20) (.tmp 22) rfl W4.heap.size _ fl.length _ (HO3.out.alloc _) rfl w3.heap.size 1 _ rfl (new_cell rfl) rfl (by omega) (by omega) (by simp; omega) ?_; intro v2 w4 hown2 hg2 hl2; obtain ⟨A3, c3, rfl⟩ := own_shape hown2; have hp4 := Blk.grown (HP3.out.alloc _) hg2 (fun e => own_ne HO3.out (show w.heap.size + 3 < W4.heap.size by omega) e.symm); have f4 := hp4.frozen 0; have q4 := hp4.cell 0; have HP4 := Lib.hid hp4; clear hp4)
        go_roundw
        case rel => exact ⟨t + 1, _, by omega, by go_num, Lib.hid (HP4.out.set_ 0 _), Lib.hid (by rw [HN.out, List.length_append, natL_app]; exact ownsRow_setCell_below hown2 (by show w.heap.size + 3 < _; omega) _), Lib.hid ((below_push (HB3.out.alloc (by omega) _) (HO3.out.alloc _) (by omega) (by simp; omega) hg2).setCell (by show w.heap.size + 3 ≤ w.heap.size + 3; omega) _)⟩
        case measure => simp [intOf]; omega
      | false =>
        rw [hin, if_neg (by simp), List.append_nil] at HN
        have hin' : inR p0 p1 x0 y0 x1 y1 = false := by rw [← hinE, hin]
        rw [hin']
        clear hinE hin
        go_wp2_with fail
        go_roundw
        case rel => exact ⟨t + 1, _, by omega, by go_num, HP3, Lib.hid (by rw [HN.out]; exact HO3.out), HB3⟩
        case measure => simp [intOf]; omega
    · obtain rfl : n = t := by omega
      have i6 : ¬ (n : Int) < (n : Int) := by omega
      have hmem : ∀ i ∈ fl, i < n := fun i hi => by rw [← hfl] at hi; exact List.mem_range.1 (List.mem_filter.1 hi).1
      have hok : ∀ z ∈ natL fl, IsPl n z := fun z hz => by obtain ⟨i, hi, rfl⟩ := List.mem_map.1 hz; exact ⟨i, rfl, hmem i hi⟩
      have HSort := Lib.hid (sliceStable_own HO.out (by omega) (IsPl n) hok (ltPT l) (ltPT_weak l) 21 #[.pointer (some ⟨w.heap.size + 1 + 1, 0, none⟩), .pointer (some ⟨w.heap.size, 0, none⟩), .pointer (some ⟨w.heap.size + 1 + 1 + 1, 0, none⟩)]
        (enters_of Tryz.func21 (by kernel_rfl) rfl) (fun W l' hl' hok' hown hg i j hi hj => by
          obtain ⟨pi, epi, hpi⟩ := hok' (l'.getD i 0) (by rw [List.getD_eq_getElem?_getD, List.getElem?_eq_getElem (by omega)]; exact List.getElem_mem _)
          obtain ⟨pj, epj, hpj⟩ := hok' (l'.getD j 0) (by rw [List.getD_eq_getElem?_getD, List.getElem?_eq_getElem (by omega)]; exact List.getElem_mem _)
          obtain ⟨bk, off, rfl, hbk, hcs⟩ := flat_cells HR.out hl (by omega) (by omega)
          obtain ⟨g2, cap2, hv2, hbase2, hg2lt⟩ := hown.form (by omega)
          injection hv2 with hA2 _ hc2
          subst hA2 hc2
          have ne : ∀ k, k < W4.heap.size → some k ≠ (Value.slice (some ⟨g2, 0, none⟩) fl.length c2).ownBlock := fun k hk e => own_ne HO.out hk e.symm
          have cell : ∀ p : Addr, p.block < w.heap.size + 3 → W.cell? p = W4.cell? p := fun p hp => (hg.cell_far p (by omega) (ne _ (by omega))).trans (HB.out.cell hp)
          have old : ∀ k, k < n * 3 → W.cell? ⟨bk, off + k, none⟩ = some (.int .i64 (l.getD k 0)) := fun k hk => (cell _ (by show bk < _; omega)).trans ((HW4.out.cell (p := ⟨bk, off + k, none⟩) (by show bk < _; omega)).trans (hcs k hk))
          have ord : ∀ k, k < fl.length → W.cell? ⟨g2, k, none⟩ = some (.int .i64 (l'.getD k 0)) := fun k hk => by
            rw [hown.cellAt k (by omega), List.getElem?_map, List.getElem?_eq_getElem (by omega), List.getD_eq_getElem?_getD, List.getElem?_eq_getElem (by omega)]; rfl
          have e : ltPT l (l'.getD i 0) (l'.getD j 0) = ltT (l.getD (pi * 3) 0) (l.getD (pi * 3 + 1) 0) (l.getD (pi * 3 + 2) 0) (l.getD (pj * 3) 0) (l.getD (pj * 3 + 1) 0) (l.getD (pj * 3 + 2) 0) := by rw [epi, epj]; unfold ltPT; rw [Int.toNat_natCast, Int.toNat_natCast]
          rw [e]
          have o0 := ord i hi
          have o1 := ord j hj
          rw [epi] at o0
          rw [epj] at o1
          exact repTWithinLess_any i j pi pj fl.length c2 n c bk off g2 (w.heap.size + 1 + 1) w.heap.size (w.heap.size + 1 + 1 + 1) _ _ _ _ _ _ W hi hj hfn hpi hpj hn ((cell ⟨w.heap.size + 1 + 1, 0, none⟩ (by show w.heap.size + 1 + 1 < _; omega)).trans ((HJ2.out.cell 0).trans rfl)) ((cell ⟨w.heap.size, 0, none⟩ (by show w.heap.size < _; omega)).trans ((HJ0.out.cell 0).trans rfl))
            ((hg.cell_far ⟨w.heap.size + 1 + 1 + 1, 0, none⟩ hlt3 (ne (w.heap.size + 1 + 1 + 1) (by omega))).trans p3) o0 o1 (old (pi * 3) (by omega)) (old (pi * 3 + 1) (by omega)) (old (pi * 3 + 2) (by omega)) (old (pj * 3) (by omega)) (old (pj * 3 + 1) (by omega)) (old (pj * 3 + 2) (by omega))))
      go_wp2_with (go_at_call 20; refine (HSort.out).mono ?_; rintro e w8 ⟨rfl, r, hst, hown8, hg8⟩; have HP8 := Lib.hid (Blk.grown HP.out hg8 (fun e => own_ne HO.out (show w.heap.size + 3 < W4.heap.size by omega) e.symm)); have p8 := (HP8.out.cell 0).trans rfl)
      go_ret
      have hrl : ∀ z ∈ r, IsPl n z := fun z hz => hok z (StabR_mem hst hz)
      exact ⟨⟨_, r, rfl, by rw [hfl]; exact hst, own_ints hown8 (by have := hown8.1; simp at this; omega) (fun z hz => by obtain ⟨i, rfl, hi⟩ := hrl z hz; exact WalkArith.wf_i64 (by omega))⟩, (HW4.out.trans ((HB.out.mono (by omega)))).grown hg8 (by omega) (fun k e => Nat.le_trans (by omega) (HO.out.lt k e).1)⟩
end Go.Proofs.YthiccmncdmohbaaGreat
