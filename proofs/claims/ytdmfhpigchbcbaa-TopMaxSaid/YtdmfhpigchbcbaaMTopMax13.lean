/-
  Contracts of rmq.Make and the reference's RmqMake. Conditions: the argument is a list of ints.
-/
import Derived.Test.YtdmfhpigchbcbaaMTopMax12
import Derived.Test.YtdmfhpigchbcbaaMTopMax06
import Derived.Deep.RegionWith
namespace Go.Dam
/-- What Make answers. -/
def RmqMakeR (l : List Int) (ls : List (List Int)) (c : Int) : Prop := (300 < l.length ∧ ls = [] ∧ c = 1) ∨ (l.length ≤ 300 ∧ ls = rmqRows l (p2s l.length) ∧ c = 0)
theorem RmqMakeR.ex (l : List Int) : ∃ ls c, RmqMakeR l ls c := by
  by_cases h : 300 < l.length
  · exact ⟨_, _, .inl ⟨h, rfl, rfl⟩⟩
  · exact ⟨_, _, .inr ⟨by omega, rfl, rfl⟩⟩
end Go.Dam
namespace Go.Proofs.Ytdmfhpigchbcbaa
open Go Go.RowKit Go.Dam
set_option linter.unusedVariables false
theorem drawn_frozen {a b : World} (h : Drawn a b) (p : Addr) : b.frozen? p = a.frozen? p := by
  obtain ⟨m, rfl⟩ := h; rfl
theorem drawn_iblk {a b : World} (h : Drawn a b) {k : IntKind} {t : TypeId} {g : Nat} {l : List Int} (hb : IBlk k t a g l) : IBlk k t b g l := by
  obtain ⟨m, rfl⟩ := h; exact hb
set_option maxHeartbeats 4000000 in
theorem rmqMake_any (v : Value) (l : List Int) (ls : List (List Int)) (cc : Int) (w : World) (B : Nat) (hB : B ≤ w.heap.size) (h : IsInts .i64 w B v l) (hR : RmqMakeR l ls cc) :
    Calls Try.prog 7 #[v] w (GivesRows ls cc w) := by
  have HT := Lib.hid fun a b r W (hb : Below w.heap.size w W) => rmqtop_any v l a b r W B (h.below (hb.mono hB))
  obtain ⟨A, c, rfl, hc, hm, hn, hr, hw⟩ := h
  rcases hR with ⟨h1, rfl, rfl⟩ | ⟨h1, rfl, rfl⟩
  · clear hr hw
    go_enter Try.func7, Try.ntmps7
    go_wp2_with fail
    go_ret2
    exact ⟨_, rfl, isRows_nil _ _, Below.refl _ _⟩
  · clear hr hw
    go_enter Try.func7, Try.ntmps7
    go_wp2_with fail
    go_loopw [4, 5] (fun ov nv wr => ∃ j : Nat, ∃ vs : List Value, nv = .int .i64 (p2 j : Nat) ∧ j ≤ p2s l.length ∧ vs.length = j ∧ wr.ownsRow w.heap.size 22 1 ov j vs ∧ OwnRows 3 wr w.heap.size vs (rmqRows l j) ∧ Below w.heap.size w wr) (fun _ nv _ => 1000 - (intOf nv).toNat)
    case atStart => exact ⟨0, [], by rw [p2_0]; rfl, by omega, rfl, World.ownsRow_nil _ _ _ _, by rw [rmqRows_0]; exact OwnRows.nil _ _ _, Below.refl _ _⟩
    case round =>
      obtain ⟨wo, rfl⟩ : ∃ wo : World, wo = wr := ⟨_, rfl⟩
      obtain ⟨j, vs, rfl, hj, hvs, hout, hrows, hbel⟩ := hrel
      obtain ⟨A1, c1, rfl⟩ := own_shape hout
      have HO := Lib.hid hout
      have HR := Lib.hid hrows
      have HB := Lib.hid hbel
      have hz := hbel.size
      have hiff := p2s_iff (n := l.length) (j := j) (by omega)
      have hpos := p2_pos j
      by_cases hlt : p2 j ≤ l.length
      · have hjl : j < p2s l.length := hiff.2 hlt
        have hjp := p2_gt j
        have HLen := Lib.hid (rmqHalf_end l j)
        have HRL := Lib.hid (rmqRow_length l j)
        have HRS := Lib.hid (rmqRows_succ l j)
        cases j with
        | zero =>
          have hvn : vs = [] := List.eq_nil_of_length_eq_zero hvs
          subst hvn
          have HX : Hid (∀ i, ((i : Nat) : Int) = ((topF (fun k => l.getD k 0) i (p2 0 - 1) : Nat) : Int)) := Lib.hid fun i => by rw [p2_0, Nat.sub_self, topF_0]
          have HN := Lib.hid (p2_succ 0)
          have hmk := fun w' => run_make1 el_int rfl (l.length : Int) l.length rfl (by omega) (by omega) w'
          rw [zerosV_eq] at hmk
          rw [p2_0] at hlt hpos HN hjp HLen HRL
          rw [p2_0, show ((1 : Nat) : Int) = 1 from rfl]
          clear hout hrows hbel hiff
          go_wp2_with fail
          clear hmk
          go_loopw [26] (fun iv wr => ∃ i : Nat, i ≤ l.length ∧ iv = .int .i64 i ∧ IBlk .i64 3 wr wo.heap.size (rmqHalf l 0 i l.length) ∧ Below wo.heap.size wo wr) (fun iv _ => l.length - (intOf iv).toNat)
          case atStart =>
            refine ⟨0, by omega, rfl, ?_, (Below.refl _ _).alloc (Nat.le_refl _) _⟩
            rw [rmqHalf_0]
            exact IBlk.zerosV_at 3 _ l.length _ rfl
          case round =>
            obtain ⟨wi, rfl⟩ : ∃ wi : World, wi = wr := ⟨_, rfl⟩
            obtain ⟨i, hi, rfl, hblk, hbi⟩ := hrel
            have HB2 := Lib.hid hbi
            by_cases hlt2 : i < l.length
            · have k0 := hblk.cell (i := i) (by rw [rmqHalf_length hi]; exact hlt2)
              have f0 := hblk.frozen i
              have HS := hblk.set i (i : Int)
              rw [rmqHalf_set hlt2 (HX.out i)] at HS
              have HS := Lib.hid HS
              clear hblk hbi
              go_wp2_with fail
              go_roundw
              case rel => exact ⟨i + 1, by omega, by go_num, HS.out, HB2.out.setCell (p := ⟨wo.heap.size, i, none⟩) (Nat.le_refl _) _⟩
              case measure => simp [intOf]; omega
            · obtain rfl : i = l.length := by omega
              have hrow : wi.ownsRow w.heap.size 3 1 (.slice (some ⟨wo.heap.size, 0, none⟩) l.length l.length) (rmqRow l 0).length ((rmqRow l 0).map (Value.int .i64)) := by
                have h1 := HLen.out
                have h2 := HRL.out
                rw [Nat.add_sub_cancel] at h1 h2
                rw [h1] at hblk
                rw [h2]
                exact own_of_iblk hblk hz h2 (by omega)
              have HRow := Lib.hid hrow
              have hz2 := hbi.size
              clear hblk hbi hrow
              go_wp2_with (at_builtin; refine wpList_push el_rows rfl (.tmp 58) (.tmp 60) rfl w.heap.size _ 0 _ ((own_size HO.out HB2.out).alloc _) rfl wi.heap.size 1 _ rfl (by simp; rfl) rfl (by omega) (by omega) (by simp; omega) ?_; intro v' w2 hown2 hg2)
              have h1 := ((OwnRows.push (HR.out.size HB2.out) HRow.out).alloc (.cells #[.slice (some ⟨wo.heap.size, 0, none⟩) l.length l.length] 22)).grown ((own_size HO.out HB2.out).alloc _) (by decide) hg2
              refine ⟨⟨1, [.slice (some ⟨wo.heap.size, 0, none⟩) l.length l.length], by rw [HN.out]; go_num, by omega, rfl, hown2, by rw [HRS.out]; exact h1, below_push ((HB.out.trans (HB2.out.mono hz)).alloc (by omega) _) ((own_size HO.out HB2.out).alloc _) (Nat.le_refl _) (by simp; omega) hg2⟩, by simp [intOf]⟩
        | succ q =>
          obtain ⟨L, x, rfl⟩ : ∃ L x, vs = L ++ [x] := by
            rcases List.eq_nil_or_concat vs with rfl | ⟨L, x, rfl⟩
            · simp at hvs
            · exact ⟨L, x, List.concat_eq_append⟩
          have hLq : L.length = q := by simpa using hvs
          have hx := hrows.2 q (by rw [rmqRows_length]; omega)
          rw [rmqRows_at (by omega), show (L ++ [x]).getD q undef = x from by subst hLq; simp] at hx
          obtain ⟨g1, rfl, hg1, htop⟩ := own_top hout
          have hQ := p2_succ q
          have hQ2 := p2_succ (q + 1)
          have hQp := p2_pos q
          have hRq := rmqRow_length l q
          have hAt := fun i (hi : i < l.length + 1 - p2 q) => rmqRow_at (l := l) (j := q) hi
          have hHalf := fun i => topF_half (f := fun k => l.getD k 0) (a := i) hQp
          rw [hQ] at hQ2 hlt hpos hjp HLen HRL
          have hmk := fun w' => run_make1 el_int rfl ((l.length : Int) - 2 * ((p2 q : Nat) : Int) + 1) (l.length + 1 - 2 * p2 q) (by omega) (by omega) (by omega) w'
          rw [zerosV_eq] at hmk
          have hset := fun i (hi : i < l.length + 1 - 2 * p2 q) (y : Int) (hy : y = ((topF (fun k => l.getD k 0) i (2 * p2 q - 1) : Nat) : Int)) => rmqHalf_set (l := l) (j := q + 1) (n := l.length + 1 - 2 * p2 q) hi (x := y) (by rw [hQ]; exact hy)
          rw [hQ]
          generalize p2 q = Q at *
          have HN := Lib.hid hQ2
          have HAt := Lib.hid hAt
          have HHalf := Lib.hid hHalf
          have HSet := Lib.hid hset
          have HX := Lib.hid hx
          obtain ⟨Ax, cx, rfl⟩ := own_shape hx
          obtain ⟨gx, capx, hfx, hgxB, hgxl⟩ := hx.form (by omega)
          obtain ⟨rfl, rfl⟩ : Ax = some ⟨gx, 0, none⟩ ∧ cx = capx := by injection hfx with a b c; exact ⟨a, c⟩
          have hcell : ∀ i, i < l.length + 1 - Q → wo.cell? ⟨gx, i, none⟩ = some (.int .i64 ((topF (fun k => l.getD k 0) i (Q - 1) : Nat) : Int)) := fun i hi => by
            rw [hx.cellAt i (by omega), ← hAt i hi]
            have h2 : i < (rmqRow l q).length := by omega
            simp [h2]
          have HCell := Lib.hid hcell
          have hM1 : (rmqRow l q).length + Q ≤ l.length + 1 := by omega
          have hM2 : l.length + 1 ≤ (rmqRow l q).length + Q := by omega
          clear hout hrows hbel hiff hQ hQ2 hAt HAt hHalf hset hfx hx hcell HX hRq
          have hlt2Q : (2 * (Q : Int)) ≤ l.length := by omega
          generalize (rmqRow l q).length = M at *
          have hN1 : l.length + 1 - 2 * Q ≤ l.length := by omega
          have hN2 : l.length + 1 - 2 * Q + 2 * Q ≤ l.length + 1 := by omega
          have hN3 : l.length + 1 ≤ l.length + 1 - 2 * Q + 2 * Q := by omega
          generalize l.length + 1 - 2 * Q = N at *
          go_wp2_with fail
          clear hmk
          go_loopw [26] (fun iv wr => ∃ i : Nat, i ≤ N ∧ iv = .int .i64 i ∧ IBlk .i64 3 wr wo.heap.size (rmqHalf l (q + 1) i N) ∧ Below wo.heap.size wo wr) (fun iv _ => N - (intOf iv).toNat)
          case atStart =>
            refine ⟨0, by omega, rfl, ?_, (Below.refl _ _).alloc (Nat.le_refl _) _⟩
            rw [rmqHalf_0]
            exact IBlk.zerosV_at 3 _ N _ rfl
          case round =>
            obtain ⟨wi, rfl⟩ : ∃ wi : World, wi = wr := ⟨_, rfl⟩
            obtain ⟨i, hi, rfl, hblk, hbi⟩ := hrel
            have HB2 := Lib.hid hbi
            have hz2 := hbi.size
            by_cases hlt2 : i < N
            · have k0 := hblk.cell (i := i) (by rw [rmqHalf_length hi]; exact hlt2)
              have f0 := hblk.frozen i
              have ta := topF_bd (fun k => l.getD k 0) i (Q - 1)
              have tb := topF_bd (fun k => l.getD k 0) (i + Q) (Q - 1)
              have c0 := (hbi.cell (p := ⟨gx, i, none⟩) (by simp; omega)).trans (HCell.out i (by omega))
              have c1 := (hbi.cell (p := ⟨gx, i + Q, none⟩) (by simp; omega)).trans (HCell.out (i + Q) (by omega))
              have c2 := (hbi.cell (p := ⟨g1, q, none⟩) (by simp; exact cell_lt htop)).trans htop
              have hset := HSet.out i hlt2
              obtain ⟨y, hy1, hy2⟩ : ∃ y : Nat, (l.getD (topF (fun k => l.getD k 0) i (Q - 1)) 0 < l.getD (topF (fun k => l.getD k 0) (i + Q) (Q - 1)) 0 ∧ y = topF (fun k => l.getD k 0) (i + Q) (Q - 1) ∨ l.getD (topF (fun k => l.getD k 0) (i + Q) (Q - 1)) 0 ≤ l.getD (topF (fun k => l.getD k 0) i (Q - 1)) 0 ∧ y = topF (fun k => l.getD k 0) i (Q - 1)) ∧ y = topF (fun k => l.getD k 0) i (2 * Q - 1) := by
                obtain ⟨g1, g2⟩ := HHalf.out i
                by_cases hh : l.getD (topF (fun k => l.getD k 0) i (Q - 1)) 0 < l.getD (topF (fun k => l.getD k 0) (i + Q) (Q - 1)) 0
                · exact ⟨_, .inl ⟨hh, rfl⟩, (g1 hh).symm⟩
                · exact ⟨_, .inr ⟨by omega, rfl⟩, (g2 (by omega)).symm⟩
              have hS1 := hset (y : Int) (by rw [hy2])
              have HC := Lib.hid fun W (hb : Below w.heap.size w W) => HT.out (topF (fun k => l.getD k 0) i (Q - 1)) (topF (fun k => l.getD k 0) (i + Q) (Q - 1)) y W hb (by omega) (by omega) hy1
              have HI := Lib.hid (hblk.set i (i : Int))
              have HS1 : Hid (((rmqHalf l (q + 1) i N).set i (i : Int)).set i (y : Int) = rmqHalf l (q + 1) (i + 1) N) := Lib.hid (by rw [List.set_set, hS1])
              have HB3 := Lib.hid ((HB.out.trans (HB2.out.mono hz)).setCell (p := ⟨wo.heap.size, i, none⟩) hz (.int .i64 (i : Int)))
              have HB4 := Lib.hid (HB2.out.setCell (p := ⟨wo.heap.size, i, none⟩) (Nat.le_refl _) (.int .i64 (i : Int)))
              have c0 := (World.cell?_setCell_other wi ⟨wo.heap.size, i, none⟩ ⟨gx, i, none⟩ (.int .i64 (i : Int)) (ne_blk (by omega))).trans c0
              have c1 := (World.cell?_setCell_other wi ⟨wo.heap.size, i, none⟩ ⟨gx, i + Q, none⟩ (.int .i64 (i : Int)) (ne_blk (by omega))).trans c1
              have c2 := (World.cell?_setCell_other wi ⟨wo.heap.size, i, none⟩ ⟨g1, q, none⟩ (.int .i64 (i : Int)) (ne_blk (by have := cell_lt htop; simp at this; omega))).trans c2
              generalize topF (fun k => l.getD k 0) i (Q - 1) = ta at *
              generalize topF (fun k => l.getD k 0) (i + Q) (Q - 1) = tb at *
              have f1 := (hblk.set i (i : Int)).frozen i
              have k1 := (hblk.set i (i : Int)).cell (i := i) (by rw [List.length_set, rmqHalf_length hi]; exact hlt2)
              have d1 : Int.tdiv (2 * (Q : Int)) 2 = (Q : Int) := by rw [Int.tdiv_eq_ediv_of_nonneg (by omega)]; omega
              have d2 : (2 * (Q : Int)) / 2 = (Q : Int) := by omega
              have b0 : (i : Int) < (M : Int) := by omega
              have b1 : (i : Int) + (Q : Int) < (M : Int) := by omega
              have b2 : i + Q < M := by omega
              have b3 : IntKind.i64.wrap (Q : Int) = (Q : Int) := by rw [IntKind.wrap_i64]; omega
              have b4 : IntKind.i64.wrap ((i : Int) + (Q : Int)) = (i : Int) + (Q : Int) := by rw [IntKind.wrap_i64]; omega
              have b5 : 0 ≤ (i : Int) + (Q : Int) := by omega
              have b6 : ((i : Int) + (Q : Int)).toNat = i + Q := by omega
              clear hblk hbi hy1 hy2 hset hS1
              go_wp2_with fail
              go_region_with (go_at_call 19; refine (HC.out _ HB3.out.drew).mono ?_; rintro e w1 ⟨rfl, hd1⟩; have q1 : w1.cell? ⟨wo.heap.size, i, none⟩ = some (.int .i64 (((rmqHalf l (q + 1) i N).set i (i : Int)).getD i 0)) := (hd1.cell ⟨wo.heap.size, i, none⟩).trans k1; have q2 : w1.frozen? ⟨wo.heap.size, i, none⟩ = false := (drawn_frozen hd1 ⟨wo.heap.size, i, none⟩).trans f1)
              all_goals go_wp2_with fail
              all_goals go_roundw
              all_goals first
                | (simp [intOf]; omega)
                | exact ⟨i + 1, by omega, by go_num, by rw [← HS1.out]; exact IBlk.set (drawn_iblk hd1 HI.out.drew) i (y : Int), (HB4.out.drew.trans (hd1.below _)).setCell (p := ⟨wo.heap.size, i, none⟩) (Nat.le_refl _) _⟩
            · obtain rfl : i = N := by omega
              have hrow : wi.ownsRow w.heap.size 3 1 (.slice (some ⟨wo.heap.size, 0, none⟩) i i) (rmqRow l (q + 1)).length ((rmqRow l (q + 1)).map (Value.int .i64)) := by
                have h1 := HLen.out
                have h2 := HRL.out
                rw [h1] at hblk
                rw [h2]
                exact own_of_iblk hblk hz h2 (by omega)
              have HRow := Lib.hid hrow
              clear hblk hbi hrow
              go_wp2_with (at_builtin; refine wpList_push el_rows rfl (.tmp 58) (.tmp 60) rfl w.heap.size _ (q + 1) _ ((own_size HO.out HB2.out).alloc _) rfl wi.heap.size 1 _ rfl (by simp; rfl) rfl (by omega) (by omega) (by simp; omega) ?_; intro v' w2 hown2 hg2)
              have h1 := ((OwnRows.push (HR.out.size HB2.out) HRow.out).alloc (.cells #[.slice (some ⟨wo.heap.size, 0, none⟩) i i] 22)).grown ((own_size HO.out HB2.out).alloc _) (by decide) hg2
              refine ⟨⟨q + 1 + 1, _, by rw [HN.out]; go_num, by omega, by simp [hLq], hown2, by rw [HRS.out]; exact h1, below_push ((HB.out.trans (HB2.out.mono hz)).alloc (by omega) _) ((own_size HO.out HB2.out).alloc _) (Nat.le_refl _) (by simp; omega) hg2⟩, by simp [intOf]; omega⟩
      · have hje : j = p2s l.length := by
          have : ¬ j < p2s l.length := fun h => hlt (hiff.1 h)
          omega
        subst hje
        have hple := p2s_le (n := l.length) (by omega)
        have t0 : decide (p2 (p2s l.length) ≤ l.length) = false := by rw [decide_eq_false_iff_not]; exact hlt
        have hf := rows_of_own hrows (by rw [rmqRows_length]; exact hout) (by rw [rmqRows_length]; omega) (rmqRows_wf (by omega))
        have HF := Lib.hid hf
        clear hout hrows hbel hiff hf
        go_wp2_with fail
        go_ret2
        exact ⟨_, rfl, HF.out, HB.out⟩
end Go.Proofs.Ytdmfhpigchbcbaa
