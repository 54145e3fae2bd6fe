/-
  Contract of lis.piles: the piles of patience, and the length of the longest rise that ends at each place. Conditions: the list can be read as data and is not longer than 300.
-/
import Derived.Test.YtgfddolchachkaaMLisRises03
import Derived.Test.YtgfddolchachkaaMLisRises08
import Derived.Test.YtgfddolchachkaaMLisRises09
import Derived.Test.YtgfddolchachkaaMLisRises00
import Derived.Deep.CutRange
namespace Go.Proofs.Ytgfddolchachkaa
open Go Go.RowKit Go.Dam
set_option linter.unusedVariables false
set_option maxHeartbeats 400000 in
theorem pilesClos_any (h m n co cr lc ll b off go gr t a1 a2 a3 : Nat) (x y : Int) (w : World) (hh : h < m) (hm : m ≤ 1000) (hn : n ≤ 1000) (hll : ll ≤ 1000) (ht : t < ll)
    (h1 : w.cell? ⟨a1, 0, none⟩ = some (.slice (some ⟨b, off, none⟩) ll lc)) (h2 : w.cell? ⟨a2, 0, none⟩ = some (.slice (some ⟨go, 0, none⟩) m co)) (h3 : w.cell? ⟨a3, 0, none⟩ = some (.int .i64 x))
    (h4 : w.cell? ⟨go, h, none⟩ = some (.slice (some ⟨gr, 0, none⟩) (n + 1) cr)) (h5 : w.cell? ⟨gr, n, none⟩ = some (.int .i64 t)) (h6 : w.cell? ⟨b, off + t, none⟩ = some (.int .i64 y)) :
    Calls Try.prog 133 #[.int .i64 h, .pointer (some ⟨a1, 0, none⟩), .pointer (some ⟨a2, 0, none⟩), .pointer (some ⟨a3, 0, none⟩)] w fun e w' => e = .returned (.bool (decide (x ≤ y))) ∧ Drawn w w' := by
  go_enter Try.func133, Try.ntmps133
  go_wp2_with fail
  go_quiet (fail)
  go_wp2
  go_ret
  exact ⟨rfl, ⟨_, rfl⟩⟩
/-- What piles returns. -/
def GivesPiles (l : List Int) (w : World) (e : Ending) (w' : World) : Prop :=
  ∃ v u ps vs, e = .returned (.tuple #[v, u]) ∧ Piles (fun k => l.getD k 0) l.length ps ∧ ps.length ≤ l.length ∧ w'.ownsRow w.heap.size 22 1 v ps.length vs ∧ OwnPiles 3 w' w.heap.size vs (toRows ps) ∧
    IsInts .i64 w' w'.heap.size u (toInts (lensTo (fun k => l.getD k 0) l.length)) ∧ Below w.heap.size w w'
set_option maxHeartbeats 4000000 in
theorem piles_any (v : Value) (l : List Int) (w : World) (B : Nat) (hB : B ≤ w.heap.size) (h : IsInts .i64 w B v l) (h1 : l.length ≤ 300) :
    Calls Try.prog 88 #[v] w (GivesPiles l w) := by
  obtain ⟨A, c, rfl, hc, hm, hn, hr, hw⟩ := h
  have hmk := fun w' => run_make1 el_int rfl l.length l.length rfl (by omega) (by omega) w'
  rw [zerosV_eq] at hmk
  obtain ⟨F, hF⟩ : ∃ F : Nat → Int, F = fun k => l.getD k 0 := ⟨_, rfl⟩
  have HF : Hid (∀ k, l.getD k 0 = F k) := Lib.hid fun k => by rw [hF]
  have HFF := Lib.hid hF
  have hmk2 := fun w' : World => World.heap
  clear hw hF hmk2
  have i0 : IBlk .i64 3 (((w.alloc (.cells #[.slice A l.length c] 22)).alloc (.cells #[.slice none 0 0] 25)).alloc (.cells (zerosV l.length) 3)) (w.heap.size + 1 + 1) (List.replicate l.length 0) := IBlk.zerosV_at _ _ _ _ (by simp)
  have i1 : Blk (((w.alloc (.cells #[.slice A l.length c] 22)).alloc (.cells #[.slice none 0 0] 25)).alloc (.cells (zerosV l.length) 3)) (w.heap.size + 1) 25 #[.slice none 0 0] := (Blk.new_at (w.alloc (.cells #[.slice A l.length c] 22)) _ _ (w.heap.size + 1) (by simp)).alloc _
  have i2 : Blk (((w.alloc (.cells #[.slice A l.length c] 22)).alloc (.cells #[.slice none 0 0] 25)).alloc (.cells (zerosV l.length) 3)) w.heap.size 22 #[.slice A l.length c] := ((Blk.new_at w _ _ w.heap.size rfl).alloc _).alloc _
  have i3 : Below w.heap.size w (((w.alloc (.cells #[.slice A l.length c] 22)).alloc (.cells #[.slice none 0 0] 25)).alloc (.cells (zerosV l.length) 3)) := by
    have s1 : w.heap.size ≤ (w.alloc (.cells #[.slice A l.length c] 22)).heap.size := by simp
    have s2 : w.heap.size ≤ ((w.alloc (.cells #[.slice A l.length c] 22)).alloc (.cells #[.slice none 0 0] 25)).heap.size := by simp; omega
    exact (((Below.refl _ _).alloc (Nat.le_refl _) _).alloc s1 _).alloc s2 _
  have I0 := Lib.hid i0
  have I1 := Lib.hid i1
  have I2 := Lib.hid i2
  have I3 := Lib.hid i3
  clear i0 i1 i2 i3
  go_enter Try.func88, Try.ntmps88
  go_wp2_with fail
  clear hmk
  go_loopw [14] (fun iv wr => ∃ i : Nat, ∃ ps : List (List Nat), ∃ vs : List Value, ∃ ov : Value, i ≤ l.length ∧ iv = .int .i64 i ∧ Piles F i ps ∧ ps.length ≤ i ∧ Blk wr w.heap.size 22 #[.slice A l.length c] ∧ Blk wr (w.heap.size + 1) 25 #[ov] ∧
      wr.ownsRow (w.heap.size + 1 + 1 + 1) 22 1 ov ps.length vs ∧ OwnPiles 3 wr (w.heap.size + 1 + 1 + 1) vs (toRows ps) ∧ IBlk .i64 3 wr (w.heap.size + 1 + 1) (lensHalf F i l.length) ∧ Below w.heap.size w wr) (fun iv _ => l.length - (intOf iv).toNat)
  case atStart => exact ⟨0, [], [], _, by omega, rfl, Piles.nil F, by simp, I2.out, I1.out, World.ownsRow_nil _ _ _ _, by rw [toRows_nil]; exact OwnPiles.nil _ _ _, by rw [lensHalf_0]; exact I0.out, I3.out⟩
  case round =>
    clear I0 I1 I2 I3
    obtain ⟨wo, rfl⟩ : ∃ wo : World, wo = wr := ⟨_, rfl⟩
    obtain ⟨i, ps, vs, ov, hi, rfl, hp, hpi, hbl, hbo, hout, hrows, hblk, hbel⟩ := hrel
    have hz := hbel.size
    have hzl := hblk.lt
    by_cases hlt : i < l.length
    · obtain ⟨b, off, rfl, hb, hcells⟩ := ints_cells hr (by omega)
      obtain ⟨A1, c1, rfl⟩ := own_shape hout
      have HCells := Lib.hid fun k hk => (hbel.cell (p := ⟨b, off + k, none⟩) (by simp; omega)).trans (hcells k hk)
      have k0 := HCells.out i hlt
      rw [HF.out i] at k0
      have hpl : ps.length ≤ 300 := by omega
      obtain ⟨W0, hW0⟩ : ∃ W0, W0 = wo.alloc (.cells #[.int .i64 (F i)] 3) := ⟨_, rfl⟩
      have a1 : W0.cell? ⟨w.heap.size, 0, none⟩ = some (.slice (some ⟨b, off, none⟩) l.length c) := by rw [hW0]; exact ((hbl.alloc _).cell 0).trans rfl
      have a2 : W0.cell? ⟨w.heap.size + 1, 0, none⟩ = some (.slice A1 ps.length c1) := by rw [hW0]; exact ((hbo.alloc _).cell 0).trans rfl
      have a3 : W0.cell? ⟨wo.heap.size, 0, none⟩ = some (.int .i64 (F i)) := by rw [hW0]; exact new_cell rfl
      have f2 : W0.frozen? ⟨w.heap.size + 1, 0, none⟩ = false := by rw [hW0]; exact (hbo.alloc _).frozen 0
      have HBl := Lib.hid (show Blk W0 _ _ _ by rw [hW0]; exact hbl.alloc (.cells #[.int .i64 (F i)] 3))
      have HBo := Lib.hid (show Blk W0 _ _ _ by rw [hW0]; exact hbo.alloc (.cells #[.int .i64 (F i)] 3))
      have HOut := Lib.hid (show W0.ownsRow _ _ _ _ _ _ by rw [hW0]; exact hout.alloc (.cells #[.int .i64 (F i)] 3))
      have HRows := Lib.hid (show OwnPiles _ W0 _ _ _ by rw [hW0]; exact hrows.alloc (.cells #[.int .i64 (F i)] 3))
      have HBlk := Lib.hid (show IBlk _ _ W0 _ _ by rw [hW0]; exact hblk.alloc (.cells #[.int .i64 (F i)] 3))
      have HB := Lib.hid (show Below w.heap.size w W0 by rw [hW0]; exact hbel.alloc hz _)
      have hz0 : w.heap.size + 1 + 1 < W0.heap.size := by rw [hW0]; simp; omega
      have HP := Lib.hid hp
      have hS := pilesSearch_any ps.length w.heap.size (w.heap.size + 1) wo.heap.size (fun h => decide (F i ≤ F (topP (ps.getD h [])))) W0 (by omega)
        (fun x y hxy hy hx => by
          simp only [decide_eq_true_eq] at hx ⊢
          rcases Nat.lt_or_ge x y with h1 | h1
          · have := hp.tops x y h1 hy; omega
          · rw [show y = x from by omega]; exact hx)
        (fun h bb hh hb2 W hd => by
          obtain ⟨gr, n, cr, e1, e2, e3, e4, e5⟩ := piles_top HRows.out hp hh
          obtain ⟨go, cap, e6, e7, e8⟩ := HOut.out.form (by omega)
          obtain ⟨rfl, rfl⟩ : A1 = some ⟨go, 0, none⟩ ∧ c1 = cap := by injection e6 with a b c; exact ⟨a, c⟩
          have e9 := HOut.out.cellAt h (by omega)
          have hvl := HRows.out.1.1
          rw [toRows_length] at hvl
          have e10 : W0.cell? ⟨go, h, none⟩ = some (.slice (some ⟨gr, 0, none⟩) (n + 1) cr) := by
            rw [e9, ← e1]; simp [hvl, hh]
          have hlen := hp.len_le hh
          have htm := (hp.mem h hh _).1 (topP_mem (hp.ne h hh))
          have e11 : W0.cell? ⟨b, off + topP (ps.getD h []), none⟩ = some (.int .i64 (F (topP (ps.getD h [])))) := by
            rw [hW0]
            exact (World.cell?_alloc_lt wo _ _ (by show b < _; omega)).trans ((HCells.out _ (by omega)).trans (by rw [HF.out]))
          rw [← hb2]
          exact pilesClos_any h ps.length n _ cr c l.length b off go gr (topP (ps.getD h [])) w.heap.size (w.heap.size + 1) wo.heap.size (F i) _ W hh (by omega) (by omega) (by omega) (by omega)
            ((hd.cell _).trans a1) ((hd.cell _).trans a2) ((hd.cell _).trans a3) ((hd.cell _).trans e10) ((hd.cell _).trans e3) ((hd.cell _).trans e11))
      have HS := Lib.hid hS
      have HW0 := Lib.hid hW0
      have hbo1 : (wo.alloc (.cells #[.int .i64 (F i)] 3)).cell? ⟨w.heap.size + 1, 0, none⟩ = some (.slice A1 ps.length c1) := ((hbo.alloc _).cell 0).trans rfl
      clear hS hp hbl hbo hout hrows hblk hbel hcells hW0 a3 hr
      go_upto_if 26 with (go_at_call 90; rw [← HW0.out]; refine (HS.out).mono ?_; rintro e w1 ⟨K, rfl, hK, hd1⟩; have g2 := (hd1.cell ⟨w.heap.size + 1, 0, none⟩).trans a2)
      have hKl := hK.1
      have hz1 : w.heap.size + 1 + 1 < w1.heap.size := by rw [hd1.size]; exact hz0
      have HK := Lib.hid hK
      have HBl1 : Hid (Blk w1 w.heap.size 22 #[.slice (some ⟨b, off, none⟩) l.length c]) := (by obtain ⟨m, hm⟩ := hd1; rw [← hm]; exact HBl)
      have HBo1 : Hid (Blk w1 (w.heap.size + 1) 25 #[.slice A1 ps.length c1]) := (by obtain ⟨m, hm⟩ := hd1; rw [← hm]; exact HBo)
      have HOut1 : Hid (w1.ownsRow (w.heap.size + 1 + 1 + 1) 22 1 (.slice A1 ps.length c1) ps.length vs) := (by obtain ⟨m, hm⟩ := hd1; rw [← hm]; exact HOut)
      have HRows1 : Hid (OwnPiles 3 w1 (w.heap.size + 1 + 1 + 1) vs (toRows ps)) := (by obtain ⟨m, hm⟩ := hd1; rw [← hm]; exact HRows)
      have HBlk1 : Hid (IBlk .i64 3 w1 (w.heap.size + 1 + 1) (lensHalf F i l.length)) := (by obtain ⟨m, hm⟩ := hd1; rw [← hm]; exact HBlk)
      have HB1 := Lib.hid (HB.out.trans (hd1.below _))
      clear hK hd1 a1 a2 f2 HBl HBo HOut HRows HBlk HB HS HW0 hbo1
      go_cut [] from 23 to 29 (fun wx => ∃ ps2 : List (List Nat), ∃ vs2 : List Value, ∃ A2 : Option Addr, ∃ c2 : Nat, K < ps2.length ∧ ps2.length ≤ i + 1 ∧ (ps2 = ps ∨ (ps2 = ps ++ [[]] ∧ K = ps.length)) ∧ Blk wx w.heap.size 22 #[.slice (some ⟨b, off, none⟩) l.length c] ∧ Blk wx (w.heap.size + 1) 25 #[.slice A2 ps2.length c2] ∧
        wx.ownsRow (w.heap.size + 1 + 1 + 1) 22 1 (.slice A2 ps2.length c2) ps2.length vs2 ∧ OwnPiles 3 wx (w.heap.size + 1 + 1 + 1) vs2 (toRows ps2) ∧ IBlk .i64 3 wx (w.heap.size + 1 + 1) (lensHalf F i l.length) ∧ Below w.heap.size w wx)
      case first =>
        by_cases hKe : K = ps.length
        · subst hKe
          have hne : ∀ g, g < w.heap.size + 1 + 1 + 1 → some g ≠ (Value.slice A1 ps.length c1).ownBlock := fun g hg e => own_ne HOut1.out hg e.symm
          have HNe := Lib.hid hne
          clear hne
          have g3 : (w1.alloc (.cells #[.slice none 0 0] 22)).cell? ⟨w.heap.size + 1, 0, none⟩ = some (.slice A1 ps.length c1) := ((HBo1.out.alloc _).cell 0).trans rfl
          go_wp2_with (at_builtin; refine wpList_pushD el_rows rfl (.tmp 27) (.tmp 28) rfl (w.heap.size + 1 + 1 + 1) _ ps.length _ (HOut1.out.alloc _) rfl w1.heap.size 1 _ rfl (by simp; rfl) rfl (by omega) (by omega) (by simp; omega) ?_; intro v' w2 hown2 hg2 hl2; obtain ⟨A3, c3, rfl⟩ := own_shape hown2; have HBo2 := Lib.hid ((HBo1.out.alloc (.cells #[.slice none 0 0] 22)).grown hg2 (HNe.out _ (by omega))); have q1 : w2.cell? ⟨w.heap.size + 1, 0, none⟩ = some (.slice A1 ps.length c1) := (HBo2.out.cell 0).trans rfl; have q2 := HBo2.out.frozen 0)
          go_meet
          case rel =>
            have r1 : Blk (w2.setCell ⟨w.heap.size + 1, 0, none⟩ (.slice A3 (ps.length + 1) c3)) (w.heap.size + 1) 25 #[.slice A3 (ps.length + 1) c3] := HBo2.out.set_ 0 (.slice A3 (ps.length + 1) c3)
            have r2 := ((HBl1.out.alloc (.cells #[.slice none 0 0] 22)).grown hg2 (HNe.out _ (by omega))).far (p := ⟨w.heap.size + 1, 0, none⟩) (by show w.heap.size ≠ w.heap.size + 1; omega) (.slice A3 (ps.length + 1) c3)
            have r3 := ((HBlk1.out.alloc (.cells #[.slice none 0 0] 22)).grown hg2 (HNe.out _ (by omega))).far (p := ⟨w.heap.size + 1, 0, none⟩) (by show w.heap.size + 1 + 1 ≠ w.heap.size + 1; omega) (.slice A3 (ps.length + 1) c3)
            have r4 := ownsRow_setCell_below hown2 (a := ⟨w.heap.size + 1, 0, none⟩) (by show w.heap.size + 1 < w.heap.size + 1 + 1 + 1; omega) (.slice A3 (ps.length + 1) c3)
            have r5 := ((HRows1.out.pushNil.alloc (.cells #[.slice none 0 0] 22)).grownOther (HOut1.out.alloc _) (by decide) hg2).far (p := ⟨w.heap.size + 1, 0, none⟩) (by show w.heap.size + 1 < w.heap.size + 1 + 1 + 1; omega) (.slice A3 (ps.length + 1) c3)
            have r6 := (below_push (HB1.out.alloc (by omega) (.cells #[.slice none 0 0] 22)) (HOut1.out.alloc _) (by omega) (by simp; omega) hg2).setCell (p := ⟨w.heap.size + 1, 0, none⟩) (by show w.heap.size ≤ w.heap.size + 1; omega) (.slice A3 (ps.length + 1) c3)
            refine ⟨ps ++ [[]], vs ++ [.slice none 0 0], A3, c3, by simp, by simp; omega, .inr ⟨rfl, by first | rfl | trivial⟩, r2, ?_, ?_, by rw [toRows_snoc]; exact r5, r3, r6⟩
            · rw [List.length_append]; exact r1
            · rw [List.length_append]; exact r4
        · have t1 : ((K : Int) == (ps.length : Int)) = false := by rw [beq_eq_false_iff_ne]; omega
          go_wp2_with fail
          go_meet
          case rel => exact ⟨ps, vs, A1, c1, by omega, by omega, .inl rfl, HBl1.out, HBo1.out, HOut1.out, HRows1.out, HBlk1.out, HB1.out⟩
      case rest =>
        clear HBl1 HBo1 HOut1 HRows1 HBlk1 HB1 g2 hz1
        obtain ⟨ps2, vs2, A2, c2, hK2, hl2, hps2, hbl, hbo, hout, hrows, hblk, hbel⟩ := hcut
        have hvl := hrows.1.1
        rw [toRows_length] at hvl
        have hrow := hrows.1.2 K (by rw [toRows_length]; exact hK2)
        rw [toRows_at, toInts_length] at hrow
        have hpl3 : (ps2.getD K []).length ≤ i := by
          rcases hps2 with rfl | ⟨rfl, rfl⟩
          · exact HP.out.len_le hK2
          · rw [getD_snoc_new]; exact Nat.zero_le _
        obtain ⟨go, cap, e6, e7, e8⟩ := hout.form (by omega)
        obtain ⟨rfl, rfl⟩ : A2 = some ⟨go, 0, none⟩ ∧ c2 = cap := by injection e6 with a b c; exact ⟨a, c⟩
        have q0 := hout.cellAt K (by omega)
        have q0' : wc.cell? ⟨go, K, none⟩ = some (vs2.getD K undef) := by rw [q0]; simp [hvl, hK2]
        obtain ⟨Ar, cr, hrv⟩ := own_shape hrow
        rw [hrv] at hrow q0'
        have q1 : wc.cell? ⟨w.heap.size + 1, 0, none⟩ = some (.slice (some ⟨go, 0, none⟩) ps2.length c2) := (hbo.cell 0).trans rfl
        have hput : ∃ qs, qs = ps2.set K (ps2.getD K [] ++ [i]) ∧ Piles F (i + 1) qs := by
          refine ⟨_, rfl, ?_⟩
          have hPA : PlaceAt F i ps K := ⟨HK.out.1, fun k hk => by have := HK.out.2.1 k hk; simpa using this, fun hk => by have := HK.out.2.2 K (Nat.le_refl _) hk; simpa using this⟩
          rcases hps2 with rfl | ⟨rfl, rfl⟩
          · exact HP.out.put hPA (by simp; omega) (getD_put_same hK2 _ _) fun k hk => getD_put_ne (Ne.symm hk) _ _
          · refine HP.out.put hPA (by simp) ?_ fun k hk => ?_
            · rw [getD_put_same hK2, getD_snoc_new, List.getD_eq_getElem?_getD, List.getElem?_eq_none (Nat.le_refl _)]; rfl
            · rw [getD_put_ne (Ne.symm hk)]
              rcases Nat.lt_or_ge k ps.length with h | h
              · exact getD_snoc_old h _ _
              · rw [List.getD_eq_getElem?_getD, List.getElem?_eq_none (by simp; omega), List.getD_eq_getElem?_getD, List.getElem?_eq_none h]
        obtain ⟨qs, hqs, hput⟩ := hput
        have hKat : (lensTo F (i + 1)).getD i 0 = K + 1 := HP.out.at_ ⟨HK.out.1, fun k hk => by have := HK.out.2.1 k hk; simpa using this, fun hk => by have := HK.out.2.2 K (Nat.le_refl _) hk; simpa using this⟩
        have hlset := lensHalf_set (f := F) (i := i) (n := l.length) hlt (x := (K : Int) + 1) (by rw [hKat]; rfl)
        have hlens := lensHalf_length (f := F) (i := i) (n := l.length) (by omega)
        have HRow := Lib.hid hrow
        have HPut := Lib.hid hput
        have HOut := Lib.hid hout
        have HRows := Lib.hid hrows
        have HBlk := Lib.hid hblk
        have HBl := Lib.hid hbl
        have HBo := Lib.hid hbo
        have HB := Lib.hid hbel
        have HLS := Lib.hid hlset
        have hzc := hblk.lt
        have HRV := Lib.hid hrv
        have HQ := Lib.hid hqs
        have HVL := Lib.hid hvl
        generalize hnr : (ps2.getD K []).length = nr at *
        have HNR := Lib.hid hnr
        clear hnr
        clear hput hrow hout hrows hblk hbl hbo hbel q0 HP HK hps2 hrv hlset hKat hqs hvl e6
        have hap := own_apart HOut.out HRow.out (by decide)
        have hneo : some go ≠ (Value.slice Ar nr cr).ownBlock := fun e => hap go rfl e.symm
        have HNeo := Lib.hid hneo
        have hoc : Hid ((wc.drew.alloc (.cells #[.int .i64 (i : Int)] 3)).cell? ⟨go, K, none⟩ = some (.slice Ar nr cr)) := Lib.hid ((World.cell?_alloc_lt wc.drew _ _ (by show go < wc.heap.size; exact e8)).trans q0')
        have hof : Hid ((wc.drew.alloc (.cells #[.int .i64 (i : Int)] 3)).frozen? ⟨go, K, none⟩ = false) := Lib.hid ((show wc.drew.ownsRow _ _ _ _ _ _ from HOut.out).alloc (.cells #[.int .i64 (i : Int)] 3) |>.frozenAt K)
        have z1 : (wc.alloc (.cells #[.int .i64 (i : Int)] 3)).cell? ⟨w.heap.size + 1, 0, none⟩ = some (.slice (some ⟨go, 0, none⟩) ps2.length c2) := (World.cell?_alloc_lt wc _ _ (by show w.heap.size + 1 < wc.heap.size; omega)).trans q1
        have z2 : (wc.alloc (.cells #[.int .i64 (i : Int)] 3)).cell? ⟨go, K, none⟩ = some (.slice Ar nr cr) := (World.cell?_alloc_lt wc _ _ (by show go < wc.heap.size; exact e8)).trans q0'
        have Z1 := Lib.hid z1
        have hneb : some (w.heap.size + 1) ≠ (Value.slice Ar nr cr).ownBlock := fun e => own_ne HRow.out (by omega : w.heap.size + 1 < w.heap.size + 1 + 1 + 1) e.symm
        have HNeb := Lib.hid hneb
        clear hap hneo hneb
        go_upto_region 9 with fail
        go_cut [] from 30 to 45 (fun wx => ∃ vs3 : List Value, Blk wx w.heap.size 22 #[.slice (some ⟨b, off, none⟩) l.length c] ∧ Blk wx (w.heap.size + 1) 25 #[.slice (some ⟨go, 0, none⟩) ps2.length c2] ∧
          wx.ownsRow (w.heap.size + 1 + 1 + 1) 22 1 (.slice (some ⟨go, 0, none⟩) ps2.length c2) ps2.length vs3 ∧ OwnPiles 3 wx (w.heap.size + 1 + 1 + 1) vs3 (toRows qs) ∧ IBlk .i64 3 wx (w.heap.size + 1 + 1) (lensHalf F i l.length) ∧ Below w.heap.size w wx)
        case first =>
          go_region_law (refine step_pushD el_int rfl (.tmp 35) (.tmp 37) rfl (w.heap.size + 1 + 1 + 1) (.slice Ar nr cr) nr _ ((show wc.drew.ownsRow _ _ _ _ _ _ from HRow.out).alloc _) (by simp [Act.eval, Act.put]) wc.heap.size 1 (.int .i64 (i : Int)) (by simp [Act.eval, Act.put]) (new_cell rfl) rfl (by omega) (by omega) (by simp; omega) ?_; intro v' w2 hown2 hg2 hl2; obtain ⟨A3, c3, rfl⟩ := own_shape hown2; have p1 : w2.cell? ⟨go, K, none⟩ = some (.slice Ar nr cr) := (hg2.cell_far ⟨go, K, none⟩ (by simp; omega) HNeo.out).trans hoc.out; have p2 : w2.frozen? ⟨go, K, none⟩ = false := (hg2.frozen_far ⟨go, K, none⟩ (by simp; omega) HNeo.out).trans hof.out; have p3 : w2.cell? ⟨w.heap.size + 1, 0, none⟩ = some (.slice (some ⟨go, 0, none⟩) ps2.length c2) := (hg2.cell_far ⟨w.heap.size + 1, 0, none⟩ (by simp; omega) HNeb.out).trans Z1.out)
          all_goals go_wp2_with fail
          all_goals go_meet
          all_goals
            case rel =>
              have y1 := (((show IBlk _ _ wc.drew _ _ from HBlk.out).alloc (.cells #[.int .i64 (i : Int)] 3)).grown hg2 (fun e => own_ne HRow.out (by omega : w.heap.size + 1 + 1 < w.heap.size + 1 + 1 + 1) e.symm)).far (p := ⟨go, K, none⟩) (by show w.heap.size + 1 + 1 ≠ go; omega) (.slice A3 (nr + 1) c3)
              have y2 := (((show Blk wc.drew _ _ _ from HBl.out).alloc (.cells #[.int .i64 (i : Int)] 3)).grown hg2 (fun e => own_ne HRow.out (by omega : w.heap.size < w.heap.size + 1 + 1 + 1) e.symm)).far (p := ⟨go, K, none⟩) (by show w.heap.size ≠ go; omega) (.slice A3 (nr + 1) c3)
              have y3 := (((show Blk wc.drew _ _ _ from HBo.out).alloc (.cells #[.int .i64 (i : Int)] 3)).grown hg2 (fun e => own_ne HRow.out (by omega : w.heap.size + 1 < w.heap.size + 1 + 1 + 1) e.symm)).far (p := ⟨go, K, none⟩) (by show w.heap.size + 1 ≠ go; omega) (.slice A3 (nr + 1) c3)
              have y4 := (own_apart HRow.out HOut.out (by decide)).kept hg2 ((show wc.drew.ownsRow _ _ _ _ _ _ from HOut.out).alloc (.cells #[.int .i64 (i : Int)] 3))
              have y5 := (y4.stored K (.slice A3 (nr + 1) c3)).1
              have hm : (toInts (ps2.getD K [] ++ [i])).length = nr + 1 := by rw [toInts_length, List.length_append, HNR.out]; rfl
              have y6 := ((show OwnPiles _ wc.drew _ _ _ from HRows.out).alloc (.cells #[.int .i64 (i : Int)] 3)).grow (k := K) (v := .slice A3 (nr + 1) c3) (m := toInts (ps2.getD K [] ++ [i])) (by rw [toRows_length]; exact hK2) (by rw [HRV.out]; exact hg2) (by rw [HRV.out]; exact hl2) (by rw [hm, toInts_snoc, List.map_append]; exact hown2)
              rw [toRows_set, ← HQ.out] at y6
              have y7 := y6.outer y4 (by decide) K (.slice A3 (nr + 1) c3)
              have y8 := (below_push (HB.out.drew.alloc (by show w.heap.size ≤ wc.heap.size; omega) (.cells #[.int .i64 (i : Int)] 3)) ((show wc.drew.ownsRow _ _ _ _ _ _ from HRow.out).alloc _) (by omega) (by simp; omega) hg2).setCell (p := ⟨go, K, none⟩) (by show w.heap.size ≤ go; omega) (.slice A3 (nr + 1) c3)
              exact ⟨_, y2, y3, y5, y7, y1, y8⟩
        case rest =>
          clear HRow HOut HRows HBlk HBl HBo HB
          obtain ⟨vs3, hbl, hbo, hout, hrows, hblk, hbel⟩ := hcut
          have c0 := hblk.cell (i := i) (by omega)
          have f0 := hblk.frozen i
          have HS := hblk.set i ((K : Int) + 1)
          rw [HLS.out] at HS
          have HS := Lib.hid HS
          have HBl := Lib.hid hbl
          have HBo := Lib.hid hbo
          have HOut := Lib.hid hout
          have HRows := Lib.hid hrows
          have HB := Lib.hid hbel
          have hql : qs.length = ps2.length := by rw [HQ.out, List.length_set]
          have HQL := Lib.hid hql
          clear hbl hbo hout hrows hblk hbel hql
          go_wp2_with fail
          refine ⟨⟨i + 1, qs, vs3, .slice (some ⟨go, 0, none⟩) ps2.length c2, by omega, by go_num, HPut.out, by rw [HQL.out]; omega, HBl.out.far (p := ⟨w.heap.size + 1 + 1, i, none⟩) (by show w.heap.size ≠ w.heap.size + 1 + 1; omega) _, HBo.out.far (p := ⟨w.heap.size + 1 + 1, i, none⟩) (by show w.heap.size + 1 ≠ w.heap.size + 1 + 1; omega) _,
            by rw [HQL.out]; exact ownsRow_setCell_below HOut.out (a := ⟨w.heap.size + 1 + 1, i, none⟩) (by show w.heap.size + 1 + 1 < w.heap.size + 1 + 1 + 1; omega) _, HRows.out.far (p := ⟨w.heap.size + 1 + 1, i, none⟩) (by show w.heap.size + 1 + 1 < w.heap.size + 1 + 1 + 1; omega) _, HS.out, HB.out.setCell (p := ⟨w.heap.size + 1 + 1, i, none⟩) (by show w.heap.size ≤ w.heap.size + 1 + 1; omega) _⟩, by simp [intOf]; omega⟩
    · obtain rfl : i = l.length := by omega
      have q1 : wo.cell? ⟨w.heap.size + 1, 0, none⟩ = some ov := (hbo.cell 0).trans rfl
      obtain ⟨A1, c1, rfl⟩ := own_shape hout
      have hl2 := hblk.isInts (by rw [lensHalf_length (Nat.le_refl _)]; omega)
      rw [lensHalf_end, toInts_length, lensTo_length] at hl2
      have hl3 := hl2 (lens_wf (by omega))
      have HP := Lib.hid hp
      have HI := Lib.hid hl3
      have HOut := Lib.hid hout
      have HRows := Lib.hid hrows
      have HB := Lib.hid hbel
      clear hp hl2 hl3 hbl hbo hout hrows hblk hbel
      go_wp2_with fail
      go_ret2
      refine ⟨_, _, ps, vs, rfl, ?_, hpi, own_base HOut.out (by omega), ⟨⟨HRows.out.1.1, fun i hi => own_base (HRows.out.1.2 i hi) (by omega)⟩, HRows.out.2⟩, ?_, HB.out⟩
      · have := HP.out; rwa [HFF.out] at this
      · have := HI.out; rwa [HFF.out] at this
end Go.Proofs.Ytgfddolchachkaa
