/-
  Contracts of grid.Top and of the reference's GridTop: the heaviest places in a rectangle. Conditions: the points can be read as data.
-/
import Derived.Test.YthiccmncdmohbaaGreatMGridTops44
import Derived.Test.YthiccmncdmohbaaGreatMGridTops52
import Derived.Test.YthiccmncdmohbaaGreatMGridTops38
set_option linter.unusedVariables false
set_option linter.unusedSimpArgs false
namespace Go.Dam
open Go Go.RowKit Go.Dam.Stable
/-- What Top answers. -/
def TopR (n : Nat) (l : List Int) (x0 y0 x1 y1 k : Int) (r : List Int) (c : Int) : Prop :=
  (ptCode n l ≠ 0 → c = ptCode n l ∧ r = []) ∧ (ptCode n l = 0 → k < 0 → c = 2 ∧ r = []) ∧
  (ptCode n l = 0 → 0 ≤ k → c = 0 ∧ ∃ s, StabR (ltPT l) (natL ((List.range n).filter (inQ l x0 y0 x1 y1))) s ∧ r = s.take k.toNat)
theorem TopR.uniq {n : Nat} {l : List Int} {x0 y0 x1 y1 k c c' : Int} {r r' : List Int} (h : TopR n l x0 y0 x1 y1 k r c) (h' : TopR n l x0 y0 x1 y1 k r' c') : r = r' ∧ c = c' := by
  obtain ⟨a1, a2, a3⟩ := h
  obtain ⟨b1, b2, b3⟩ := h'
  by_cases h0 : ptCode n l = 0
  · by_cases hk : k < 0
    · have := a2 h0 hk; have := b2 h0 hk; constructor <;> simp [*]
    · obtain ⟨a4, s, a5, a6⟩ := a3 h0 (by omega)
      obtain ⟨b4, s', b5, b6⟩ := b3 h0 (by omega)
      rw [a6, b6, a5.uniq (ltPT_weak l) b5, a4, b4]; exact ⟨rfl, rfl⟩
  · have := a1 h0; have := b1 h0; constructor <;> simp [*]
end Go.Dam
namespace Go.Proofs.YthiccmncdmohbaaGreat
open Go Go.RowKit Go.Dam Go.Dam.Stable
set_option linter.unusedVariables false
theorem assert_int (z : Int) (w : World) : (Instr.typeAssert (.iface 3 (.int .i64 z)) 20 3 false).run Tryz.prog w = .ok (.int .i64 z) w := by kernel_rfl
set_option maxRecDepth 100000 in
set_option maxHeartbeats 8000000 in
theorem gridTop_any (x0 y0 x1 y1 k : Int) (v : Value) (n : Nat) (l : List Int) (w : World) (B : Nat) (hB : B ≤ w.heap.size) (h : IsFlat 3 w B v n l) :
    Calls Tryz.prog 4 #[v, .agg #[.int .i64 x0, .int .i64 y0, .int .i64 x1, .int .i64 y1], .int .i64 k] w fun e w' => (∃ u r c, e = .returned (.tuple #[u, .int .i64 c]) ∧ TopR n l x0 y0 x1 y1 k r c ∧ IsInts .i64 w' w'.heap.size u r) ∧ Below w.heap.size w w' := by
  have HB0 := Lib.hid ((Below.refl w.heap.size w).alloc (Nat.le_refl _) (.cells #[.int .i64 x0, .int .i64 y0, .int .i64 x1, .int .i64 y1] 24))
  have HK := Lib.hid (Blk.new w 24 #[.int .i64 x0, .int .i64 y0, .int .i64 x1, .int .i64 y1])
  have HG := Lib.hid (gridReportO_any x0 y0 x1 y1 v n l (w.alloc (.cells #[.int .i64 x0, .int .i64 y0, .int .i64 x1, .int .i64 y1] 24)) B (by simp; omega) (h.below (HB0.out.mono hB)))
  have hB0 := HB0.out.size
  by_cases h0 : ptCode n l = 0
  · rw [h0] at HG
    obtain ⟨A, cp, rfl, hc, hm, hn0, hl, hr, hw⟩ := h
    by_cases hk : k < 0
    · have t1 : decide (k < 0) = true := decide_eq_true hk
      clear hr hl hw
      go_enter Tryz.func4, Tryz.ntmps4
      go_wp2_with (go_at_call 7; refine (HG.out).mono ?_; rintro e w1 ⟨⟨u, r, rfl, ha, ha', hu⟩, hb1⟩)
      go_ret2
      exact ⟨⟨_, [], 2, rfl, ⟨fun hc => absurd h0 hc, fun _ _ => ⟨rfl, rfl⟩, fun _ hc => absurd hk (by omega)⟩, own_ints (l := []) (n := 0) (base := w1.heap.size) (E := 3) (World.ownsRow_nil _ _ _ _) (by simp) (by simp)⟩, HB0.out.trans (hb1.mono hB0)⟩
    · have t1 : decide (k < 0) = false := decide_eq_false hk
      have h150 := (pt_coords h0).1
      have HR := Lib.hid hr
      have HL := Lib.hid hl
      clear hr hl hw
      go_enter Tryz.func4, Tryz.ntmps4
      go_upto_region 6 with (go_at_call 7; refine (HG.out).mono ?_; rintro e w1 ⟨⟨u, r, rfl, ha, ha', hu⟩, hb1⟩)
      obtain ⟨rn, hO, hrn⟩ := ha (by simp)
      have hB1 := hb1.size
      have HBl1 := Lib.hid (HB0.out.trans (hb1.mono hB0))
      have hrl : r.length ≤ n := by
        rw [hrn, natL_len]
        have := List.length_filter_le (inP l x0 y0 x1 y1) rn
        have := hO.1.length_eq
        rw [List.length_range] at this; omega
      have HPm : Hid (r.Perm (natL ((List.range n).filter (inQ l x0 y0 x1 y1)))) := Lib.hid (by rw [hrn]; exact (hO.1.filter _).map _)
      have HPl : Hid (Pls n r.length r) := Lib.hid ⟨rfl, fun j hj => by
        have hm1 : r.getD j 0 ∈ r := by rw [List.getD_eq_getElem?_getD, List.getElem?_eq_getElem hj]; exact List.getElem_mem hj
        have := HPm.out.mem_iff.1 hm1
        unfold natL at this
        obtain ⟨i, hi, e⟩ := List.mem_map.1 this
        exact ⟨i, List.mem_range.1 (List.mem_filter.1 hi).1, e.symm⟩⟩
      have HU := Lib.hid hu
      obtain ⟨A1, c1, rfl⟩ := own_shape hu
      clear ha ha' hrn hO hb1 hu
      obtain ⟨m, hm1⟩ : ∃ m, m = r.length := ⟨_, rfl⟩
      rw [← hm1] at HU HPl hrl ⊢
      have HHp := Lib.hid (Heap.init_heap (ltH_ord l) (L := r) (n := m) (by omega))
      have HPm2 : Hid ((Heap.initF (ltH l) m (m / 2) r).Perm (natL ((List.range n).filter (inQ l x0 y0 x1 y1)))) := Lib.hid ((Heap.initF_perm _ _ (by omega)).trans HPm.out)
      have HLn : Hid ((Heap.initF (ltH l) m (m / 2) r).length = m) := Lib.hid (by rw [Heap.initF_len]; exact hm1.symm)
      obtain ⟨s, hs1, hs2⟩ := pops_stab HPm2.out (by rw [HLn.out]; exact HHp.out)
      have HPl2 := Lib.hid (HPl.out.perm (Heap.initF_perm (lt := ltH l) (n := m) (m / 2) r (by omega)))
      have HS1 := Lib.hid hs1
      have HS2 := Lib.hid (hs2 k.toNat)
      have HBx := Lib.hid (Blk.new w1 34 #[.slice A1 m c1, .slice A n cp])
      have HUx := Lib.hid (HU.out.alloc (.cells #[.slice A1 m c1, .slice A n cp] 34))
      have HBlx := Lib.hid (HBl1.out.alloc (by omega) (.cells #[.slice A1 m c1, .slice A n cp] 34))
      have hzx : (w1.alloc (.cells #[.slice A1 m c1, .slice A n cp] 34)).heap.size = w1.heap.size + 1 := by simp
      have hcap := own_cap HU.out
      have HM1 := Lib.hid hm1
      clear hs1 hs2 HHp HPm hm1
      by_cases hm0 : m = 0
      · subst hm0
        have HIn := Lib.hid (heapInit0_any w1.heap.size c1 A1 (.slice A n cp) _ HBx.out)
        have HLe := Lib.hid fun w hh => heapLen_any w1.heap.size 0 c1 A1 (.slice A n cp) w hh
        have hml := method_len
        go_wp2_with (go_at_call 8; (with_reducible refine (HIn.out).mono ?_); rintro e w2 ⟨rfl, hw⟩; obtain rfl := hw.symm)
        have h0l := HS2.out
        rw [Heap.popsF_nil _ HLn.out] at h0l
        go_loopw [11] (fun ov wr => ov = .slice none 0 0 ∧ wr = w1.alloc (.cells #[.slice A1 0 c1, .slice A n cp] 34)) (fun _ _ => 0)
        case atStart => exact ⟨rfl, rfl⟩
        case round =>
          obtain ⟨rfl, rfl⟩ := hrel
          have HR0 : Hid (TopR n l x0 y0 x1 y1 k [] 0) := Lib.hid ⟨fun hc => absurd h0 hc, fun _ hc => by omega, fun _ _ => ⟨rfl, s, HS1.out, h0l⟩⟩
          clear h0l
          by_cases hk0 : 0 < k
          · have t2 : decide ((0 : Int) < k) = true := decide_eq_true hk0
            go_wp2_with (go_at_call 9; (with_reducible refine (HLe.out _ HBx.out).mono ?_); rintro e w2 ⟨rfl, hw⟩; obtain rfl := hw.symm)
            go_ret2
            exact ⟨⟨_, [], 0, rfl, HR0.out, own_ints (l := []) (n := 0) (base := w1.heap.size) (E := 3) (World.ownsRow_nil _ _ _ _) (by simp) (by simp)⟩, HBlx.out⟩
          · have t2 : decide ((0 : Int) < k) = false := decide_eq_false hk0
            go_wp2_with fail
            go_ret2
            exact ⟨⟨_, [], 0, rfl, HR0.out, own_ints (l := []) (n := 0) (base := w1.heap.size) (E := 3) (World.ownsRow_nil _ _ _ _) (by simp) (by simp)⟩, HBlx.out⟩
      · obtain ⟨g, cg, hvg, hbg, hgl⟩ := HU.out.form (by omega)
        injection hvg with hA1 _ hcg
        subst hA1 hcg
        obtain ⟨bk, off, hAp, hbk, hcells⟩ := flat_cells HR.out HL.out (show 0 < n by omega) (by omega)
        subst hAp
        have HCs := Lib.hid hcells
        have hbkw : bk < w.heap.size := by omega
        have hgl1 := hgl
        have hsz : w.heap.size ≤ (w.alloc (.cells #[.int .i64 x0, .int .i64 y0, .int .i64 x1, .int .i64 y1] 24)).heap.size := hB0
        obtain ⟨b1, hb1⟩ : ∃ b1, b1 = (w.alloc (.cells #[.int .i64 x0, .int .i64 y0, .int .i64 x1, .int .i64 y1] 24)).heap.size := ⟨_, rfl⟩
        rw [← hb1] at HUx hbg hsz hB1
        have HIn := Lib.hid (heapInit_any b1 w1.heap.size g m c1 n cp bk off l r _ (some ⟨g, 0, none⟩) (fun _ => rfl) (by omega) (by omega) ⟨HBx.out, HUx.out⟩ HPl.out (by omega) (by simp; omega) (fun q hq => (HBlx.out.cell (p := ⟨bk, off + q, none⟩) hbkw).trans (HCs.out q hq)))
        have HLe := Lib.hid fun w m hh => heapLen_any w1.heap.size m c1 (some ⟨g, 0, none⟩) (.slice (some ⟨bk, off, none⟩) n cp) w hh
        have HPo := Lib.hid fun w m L (hm : m + 1 ≤ 1000) hA hP hbs hcs => heapPop_any b1 w1.heap.size g m c1 n cp bk off l L w hm (by omega) hA hP (by omega) hbs (by omega) hgl1 hcs
        have hml := method_len
        clear hb1 hcells
        go_wp2_with (go_at_call 8; (with_reducible refine (HIn.out).mono ?_); rintro e w2 ⟨rfl, hH2, hg2⟩)
        have HH2 := Lib.hid hH2
        have HBl2 := Lib.hid (HBlx.out.grown hg2 (by omega) (fun k e => by injection e with e; omega))
        have hz2 := hg2.size
        have hzw := HBl2.out.size
        generalize Heap.initF (ltH l) m (m / 2) r = R0 at *
        clear HIn HUx HBlx HBx hg2 hH2 HG HPm2 HU HK HPl
        go_loopw [11] (fun ov wr => ∃ (m' : Nat) (L' os : List Int), os.length + m' = m ∧ Hid (wr.ownsRow w2.heap.size 3 1 ov os.length (os.map (Value.int .i64))) ∧ Hid (HeapAt wr b1 34 3 w1.heap.size (some ⟨g, 0, none⟩) m' c1 (.slice (some ⟨bk, off, none⟩) n cp) L') ∧ Hid (Pls n m' L') ∧ Hid (os ++ Heap.popsF (ltH l) (k.toNat - os.length) L' = Heap.popsF (ltH l) k.toNat R0) ∧ Hid (∀ z ∈ os, (Lit.int .i64 z).wf = true) ∧ Hid (ChgB b1 (w1.heap.size + 1) w2 wr) ∧ Hid (Below w.heap.size w wr)) (fun ov _ => m - (match ov with | .slice _ t _ => t | _ => 0))
        case atStart => exact ⟨m, R0, [], by simp, Lib.hid (World.ownsRow_nil _ _ _ _), HH2, HPl2, Lib.hid (by simp), Lib.hid (by simp), Lib.hid (ChgB.refl _ _ _), HBl2⟩
        case round =>
          obtain ⟨m', L', os, hos, HO, HH, HP, HD, HWf, HCh, HBl⟩ := hrel
          obtain ⟨wo, rfl⟩ : ∃ wo : World, wo = wr := ⟨_, rfl⟩
          obtain ⟨A3, c3, rfl⟩ := own_shape HO.out
          have hzo := HCh.out.size
          obtain ⟨t, ht⟩ : ∃ t, t = os.length := ⟨_, rfl⟩
          have HT := Lib.hid ht
          have HDone : Hid ((m' = 0 ∨ k ≤ (t : Int)) → TopR n l x0 y0 x1 y1 k os 0) := Lib.hid fun hd => ⟨fun hc => absurd h0 hc, fun _ hc => by omega, fun _ _ => ⟨rfl, s, HS1.out, by
            rw [← HS2.out, ← HD.out]
            have : Heap.popsF (ltH l) (k.toNat - os.length) L' = [] := by
              rcases hd with rfl | hd
              · exact Heap.popsF_nil _ HP.out.1
              · rw [show k.toNat - os.length = 0 by omega]; rfl
            rw [this, List.append_nil]⟩⟩
          have HEnd : Hid (TopR n l x0 y0 x1 y1 k os 0 → (∃ u r c, Ending.returned (.tuple #[.slice A3 t c3, .int .i64 0]) = .returned (.tuple #[u, .int .i64 c]) ∧ TopR n l x0 y0 x1 y1 k r c ∧ IsInts .i64 wo wo.heap.size u r) ∧ Below w.heap.size w wo) := Lib.hid fun hT => by
            rw [ht]; exact ⟨⟨_, os, 0, rfl, hT, own_ints HO.out (by omega) HWf.out⟩, HBl.out⟩
          rw [← ht] at HO hos ⊢
          clear ht
          by_cases h1 : (t : Int) < k
          · have t2 : decide ((t : Int) < k) = true := decide_eq_true h1
            by_cases h2 : m' = 0
            · subst h2
              have HX := Lib.hid (HEnd.out (HDone.out (.inl rfl)))
              clear HEnd HDone
              go_wp2_with (go_at_call 9; (with_reducible refine (HLe.out _ _ HH.out.box).mono ?_); rintro e w2 ⟨rfl, hw⟩; obtain rfl := hw.symm)
              go_ret2
              exact HX.out
            · obtain ⟨m'', rfl⟩ : ∃ q, m' = q + 1 := ⟨m' - 1, by omega⟩
              have t3 : decide ((0 : Int) < ((m'' + 1 : Nat) : Int)) = true := decide_eq_true (by omega)
              have hlo := HP.out.2 0 (by omega)
              have HPp := Lib.hid (HPo.out wo m'' L' (by omega) HH.out HP.out (by omega) (fun q hq => (HBl.out.cell (p := ⟨bk, off + q, none⟩) hbkw).trans (HCs.out q hq)))
              have HD2 : Hid ((os ++ [Heap.at_ L' 0]) ++ Heap.popsF (ltH l) (k.toNat - (t + 1)) (Heap.restF (ltH l) L') = Heap.popsF (ltH l) k.toNat R0) := Lib.hid (by
                rw [← HD.out, ← HT.out, show k.toNat - t = (k.toNat - (t + 1)) + 1 by omega, Heap.popsF_cons (by rw [HP.out.1]; omega), List.append_assoc]; rfl)
              have HP2 : Hid (Pls n m'' (Heap.restF (ltH l) L')) := Lib.hid (by
                refine ⟨by rw [Heap.restF_len, HP.out.1]; rfl, fun j hj => ?_⟩
                have hp := (HP.out.perm (Heap.restF_perm (lt := ltH l) (L := L') (by rw [HP.out.1]; omega))).2 (j + 1) (by omega)
                exact hp)
              obtain ⟨z, hz⟩ : ∃ z, z = Heap.at_ L' 0 := ⟨_, rfl⟩
              have hz2 : ∃ p : Nat, p < n ∧ z = (p : Int) := by rw [hz]; exact hlo
              rw [← hz] at HPp HD2
              obtain ⟨p, hpn, rfl⟩ := hz2
              have has := assert_int
              clear hz hlo HEnd HDone
              go_wp2_with (first
                | (go_at_call 9; (with_reducible refine (HLe.out _ _ HH.out.box).mono ?_); rintro e w3 ⟨rfl, hw⟩; obtain rfl := hw.symm)
                | (go_at_call 10; (with_reducible refine (HPp.out).mono ?_); rintro e w3 ⟨rfl, hH3, hc3⟩; have HH3 := Lib.hid hH3; have HC3 := Lib.hid (HCh.out.trans hc3); have HO3 := Lib.hid (own_chgB HO.out hc3 (by omega)); have HB3 := Lib.hid (HBl.out.trans (hc3.below (by omega) (by omega))); clear hH3 hc3)
                | (at_builtin; refine wpList_pushD el_int rfl (.tmp 41) (.tmp 46) rfl w2.heap.size _ t _ (HO3.out.alloc _) rfl w3.heap.size 1 _ rfl (new_cell rfl) rfl (by omega) (by omega) (by have := HC3.out.size; simp; omega) ?_; intro v4 w4 hown4 hg4 hl4))
              obtain ⟨A4, c4, rfl⟩ := own_shape hown4
              go_roundw
              case rel => exact ⟨m'', _, os ++ [(p : Int)], by rw [List.length_append, ← HT.out]; simp; omega, Lib.hid (by rw [List.length_append, ← HT.out, List.map_append]; exact hown4), Lib.hid ⟨(HH3.out.box.alloc (.cells #[.int .i64 (p : Int)] 3)).grown hg4 (own_ne_blk (HO3.out.alloc (.cells #[.int .i64 (p : Int)] 3)) (HH3.out.box.alloc (.cells #[.int .i64 (p : Int)] 3)) (by decide)), own_grownG (HH3.out.own.alloc (.cells #[.int .i64 (p : Int)] 3)) hg4 (fun e => by have := (HO3.out.lt g e).1; omega)⟩, HP2, Lib.hid (by rw [List.length_append, ← HT.out]; exact HD2.out), Lib.hid (fun z hz => by
                rcases List.mem_append.1 hz with hz | hz
                · exact HWf.out z hz
                · rw [List.mem_singleton.1 hz]; exact WalkArith.wf_i64 (by omega)), Lib.hid ((HC3.out.alloc _).grown hg4 (fun k e => (HO3.out.lt k e).1)), Lib.hid ((HB3.out.alloc (by have := HB3.out.size; omega) _).grown hg4 (by have := HB3.out.size; simp; omega) (fun k e => Nat.le_trans (by omega) (HO3.out.lt k e).1))⟩
              case measure => simp; omega
          · have t2 : decide ((t : Int) < k) = false := decide_eq_false h1
            have HX := Lib.hid (HEnd.out (HDone.out (.inr (by omega))))
            clear HEnd HDone
            go_wp2_with fail
            go_ret2
            exact HX.out
  · generalize hcc : ptCode n l = cc at *
    have t0 : (cc != 0) = true := bne_iff_ne.2 h0
    obtain ⟨A, c, rfl, hc, hm, hn0, hl, hr, hw⟩ := h
    clear hr hl hw
    go_enter Tryz.func4, Tryz.ntmps4
    go_wp2_with (go_at_call 7; refine (HG.out).mono ?_; rintro e w1 ⟨⟨u, r, rfl, ha, ha', hu⟩, hb1⟩)
    go_ret2
    exact ⟨⟨_, [], cc, rfl, by unfold TopR; rw [hcc]; exact ⟨fun _ => ⟨rfl, rfl⟩, fun hc => absurd hc h0, fun hc => absurd hc h0⟩, own_ints (l := []) (n := 0) (base := w1.heap.size) (E := 3) (World.ownsRow_nil _ _ _ _) (by simp) (by simp)⟩, HB0.out.trans (hb1.mono hB0)⟩
end Go.Proofs.YthiccmncdmohbaaGreat
