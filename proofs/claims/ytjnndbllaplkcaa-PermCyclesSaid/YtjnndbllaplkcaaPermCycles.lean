/-
  Contract of perm.Cycles. Conditions: the argument is a list of ints.
-/
import Derived.Test.YtjnndbllaplkcaaPermInverse
import Derived.Test.YtjnndbllaplkcaaPermCyclesPlain
import Derived.Test.YtjnndbllaplkcaaElRows
namespace Go.Dam
open Go Go.RowKit
set_option linter.unusedVariables false
/-- What Cycles answers. -/
def CycR (l : List Int) (ls : List (List Int)) (c : Int) : Prop := (PermF l c ∧ c ≠ 0 ∧ ls = []) ∨ (PermF l 0 ∧ c = 0 ∧ ∃ p, IsOrder l p ∧ l.length ≤ 300 ∧ ls = toRows (cycTo p p.length))
theorem CycR.ex (l : List Int) : ∃ ls c, CycR l ls c := by
  obtain ⟨c, hc⟩ := PermF.ex l
  rcases hc.cases with h | ⟨rfl, h, p, hp, hl⟩
  · exact ⟨_, _, .inl ⟨hc, h, rfl⟩⟩
  · exact ⟨_, _, .inr ⟨h, rfl, p, hp, hl, rfl⟩⟩
theorem OwnRows.belowB {t : TypeId} {w w' : World} {base B : Nat} {vs : List Value} {ls : List (List Int)} (h : OwnRows t w base vs ls) (hb : Below B w w') (hB : ∀ i, i < ls.length → ∀ g, (vs.getD i undef).ownBlock = some g → g < B) : OwnRows t w' base vs ls := ⟨h.1, fun i hi => own_below (h.2 i hi) hb (hB i hi)⟩
theorem OwnRows.low {t : TypeId} {w : World} {base : Nat} {vs : List Value} {ls : List (List Int)} {p : Addr} (h : OwnRows t w base vs ls) (hp : p.block < base) (x : Value) : OwnRows t (w.setCell p x) base vs ls :=
  h.setCell (fun i hi e => by have := ((h.2 i hi).lt p.block e).1; omega) x
theorem orbP_length (p : List Nat) (i : Nat) : (orbP p i).length = perP p i := by unfold orbP; exact tab_length _ _
theorem orbP_eq (p : List Nat) (i : Nat) : orbP p i = tab (itP p i) (perP p i) := by unfold orbP; rfl
theorem cyc_wf {l : List Int} {p : List Nat} (h : IsOrder l p) (hl : l.length ≤ 300) {i : Nat} (hi : i ≤ p.length) : ∀ r ∈ toRows (cycTo p i), r.length ≤ 140737488351232 ∧ ∀ z ∈ r, (Lit.int .i64 z).wf = true := by
  intro r hr
  unfold toRows at hr
  obtain ⟨q, hq, rfl⟩ := List.mem_map.1 hr
  obtain ⟨j, hj, rfl⟩ := cycTo_mem hq
  have hpl := order_len h
  have hp := (perP_is h (i := j) (by omega)).1
  refine ⟨by rw [toInts_length, orbP_length]; omega, ?_⟩
  rw [orbP_eq]
  exact tab_wf (b := 1000) (fun t ht => by have := itP_lt h (i := j) (by omega) t; omega) (by omega)
end Go.Dam
namespace Go.Proofs.Ytjnndbllaplkcaa
open Go Go.RowKit Go.Dam
set_option linter.unusedVariables false
set_option maxHeartbeats 2000000 in
theorem permCycles_any (v : Value) (l : List Int) (ls : List (List Int)) (cc : Int) (w : World) (B : Nat) (hB : B ≤ w.heap.size) (h : IsInts .i64 w B v l) (hR : CycR l ls cc) :
    Calls Try.prog 31 #[v] w fun e w' => ∃ u, e = .returned (.tuple #[u, .int .i64 cc]) ∧ IsRows w' w'.heap.size u ls ∧ Below w.heap.size w w' := by
  have HP := fun c hc => permCheck_any v l c w B hB h hc
  obtain ⟨A, c, rfl, hc, hm, hn, hr, hw⟩ := h
  rcases hR with ⟨hf, hc0, rfl⟩ | ⟨hf, rfl, p, hp, hl, rfl⟩
  · have HP := Lib.hid (HP _ hf)
    have t0 : (cc != 0) = true := by simpa using hc0
    clear hr hw hf hc0
    go_enter Try.func31, Try.ntmps31
    go_wp2_with (go_at_call 24; refine (HP.out).mono ?_; rintro e w1 ⟨rfl, hb1⟩)
    go_ret2
    exact ⟨_, rfl, isRows_nil _ _, hb1⟩
  · have HP := Lib.hid (HP _ hf)
    have hmk := fun w' => run_makeA el_seen l.length l.length rfl (by omega) (by omega) w'
    have HPi := Lib.hid hp
    have HPL := Lib.hid (order_len hp)
    clear hw hf hp
    go_enter Try.func31, Try.ntmps31
    go_wp2_with (go_at_call 24; refine (HP.out).mono ?_; rintro e w1 ⟨rfl, hb1⟩)
    clear hmk
    have hz1 := hb1.size
    go_loopw [6, 7, 8, 9, 20] (fun ov zv cv kv iv wr => ∃ i : Nat, ∃ vs : List Value, i ≤ l.length ∧ iv = .int .i64 i ∧ wr.ownsRow (w1.heap.size + 1) 22 1 ov (cycTo p i).length vs ∧ OwnRows 3 wr (w1.heap.size + 1) vs (toRows (cycTo p i)) ∧ TBlk 69 wr w1.heap.size (marks (seenF p i 0) l.length) ∧ Below w.heap.size w wr) (fun _ _ _ _ iv _ => l.length - (intOf iv).toNat)
    case atStart =>
      refine ⟨0, [], by omega, rfl, by rw [cycTo_0]; exact World.ownsRow_nil _ _ _ _, by rw [cycTo_0, toRows_nil]; exact OwnRows.nil _ _ _, TBlk.new _ _ _ _ (fun j hj => seenF_start p j), hb1.alloc hz1 _⟩
    case round =>
      obtain ⟨wo, rfl⟩ : ∃ wo : World, wo = wr := ⟨_, rfl⟩
      obtain ⟨i, vs, hi, rfl, hout, hrows, hblk, hbel⟩ := hrel
      by_cases hlt : i < l.length
      · have hpi : i < p.length := by rw [HPL.out]; exact hlt
        obtain ⟨A0, c0, rfl⟩ := own_shape hout
        have HO := Lib.hid hout
        have HR := Lib.hid hrows
        have HBk := Lib.hid hblk
        have HB := Lib.hid hbel
        have hzo := hblk.lt
        have hzw := hbel.size
        cases hlst : isLeast p i with
        | false =>
          have q := hblk.cell hlt
          rw [seenF_first HPi.out hpi hlst] at q
          have HC := Lib.hid (cycTo_no hlst)
          have HM := Lib.hid (marks_congr (g := seenF p i 0) (g' := seenF p (i + 1) 0) (n := l.length) fun j _ => (seenF_old HPi.out hpi hlst j).symm)
          clear hout hrows hblk hbel hlst
          go_wp2_with fail
          go_loop [8, 9] (fun cv kv => cv = .slice none 0 0 ∧ kv = .int .i64 i) (fun _ _ => 0)
          case atStart => exact ⟨rfl, rfl⟩
          case round =>
            obtain ⟨rfl, rfl⟩ := hrel
            go_wp2_with fail
            exact ⟨⟨i + 1, vs, by omega, by go_num, by rw [HC.out]; exact HO.out, by rw [HC.out]; exact HR.out, by rw [← HM.out]; exact HBk.out, HB.out⟩, by simp [intOf]; omega⟩
        | true =>
          obtain ⟨hpe1, hpe2, hpe3⟩ := (perP_is HPi.out hpi).1
          clear hpe3
          rw [HPL.out] at hpe2
          have HC := Lib.hid (cycTo_yes hlst)
          have HNot := Lib.hid fun t ht => seenF_not HPi.out hpi hlst (t := t) ht
          have HBack := Lib.hid (seenF_back HPi.out hpi)
          have HIt := Lib.hid fun t => itP_lt HPi.out hpi t
          have HOB := Lib.hid fun g hg => (hout.lt g hg).2
          have HRB : Hid (∀ j, j < (toRows (cycTo p i)).length → ∀ g, (vs.getD j undef).ownBlock = some g → g < wo.heap.size) := Lib.hid fun j hj g hg => ((hrows.2 j hj).lt g hg).2
          have hnb : (cycTo p i).length ≤ i := cycTo_le p i
          generalize hmv : (cycTo p i).length = mm at *
          have HMV := Lib.hid hmv
          generalize hpe : perP p i = pe at *
          have HPE := Lib.hid hpe
          clear hout hrows hblk hbel hlst hmv hpe
          go_wp2_with fail
          go_loopw [8, 9] (fun cv kv wr => ∃ t : Nat, t ≤ pe ∧ kv = .int .i64 ((itP p i t : Nat) : Int) ∧ wr.ownsRow wo.heap.size 3 1 cv t ((toInts (tab (itP p i) t)).map (Value.int .i64)) ∧ wr.ownsRow (w1.heap.size + 1) 22 1 (.slice A0 mm c0) mm vs ∧ OwnRows 3 wr (w1.heap.size + 1) vs (toRows (cycTo p i)) ∧ TBlk 69 wr w1.heap.size (marks (seenF p i t) l.length) ∧ Below w.heap.size w wr ∧ wo.heap.size ≤ wr.heap.size) (fun cv _ _ => pe - (match cv with | .slice _ n _ => n | _ => 0))
          case atStart => exact ⟨0, by omega, by rw [itP_0], by rw [tab_nil, toInts_nil]; exact World.ownsRow_nil _ _ _ _, HO.out, HR.out, HBk.out, HB.out, Nat.le_refl _⟩
          case round =>
            clear HO HR HBk HB
            obtain ⟨t, ht, rfl, hown, hout, hrows, hblk, hbel, hsz⟩ := hrel
            obtain ⟨A2, c2, rfl⟩ := own_shape hown
            have HO := Lib.hid hout
            have HOwn := Lib.hid hown
            have HR := Lib.hid hrows
            have HBk := Lib.hid hblk
            have HB := Lib.hid hbel
            have hkl := HIt.out t
            rw [HPL.out] at hkl
            have q := hblk.cell hkl
            have qf := Blk.frozen hblk (itP p i t)
            by_cases hlt2 : t < pe
            · obtain ⟨b, off, rfl, hb, hcells⟩ := ints_cells hr (by omega)
              rw [HNot.out t hlt2] at q
              have hkc : l.getD (itP p i t) 0 = ((itP p i (t + 1) : Nat) : Int) := by rw [itP_succ, (order_at HPi.out (by rw [HPL.out]; exact hkl)).1]
              have k0 := hcells _ hkl
              rw [hkc] at k0
              have K0 := Lib.hid k0
              have HSet : Hid (TBlk 69 (wr.setCell ⟨w1.heap.size, itP p i t, none⟩ (.bool true)) w1.heap.size (marks (seenF p i (t + 1)) l.length)) := Lib.hid (by
                have := hblk.set (itP p i t) true
                rwa [marks_set (g' := seenF p i (t + 1)) (seenF_here p i t) fun j hj hne => seenF_step hne] at this)
              have HTab := Lib.hid (tab_snoc (itP p i) t)
              generalize hkk : itP p i t = kk at *
              generalize hkk2 : itP p i (t + 1) = kk2 at *
              have HKK := Lib.hid hkk
              have HKK2 := Lib.hid hkk2
              have HO1 : Hid (((wr.setCell ⟨w1.heap.size, kk, none⟩ (.bool true)).alloc (.cells #[.int .i64 (kk : Int)] 3)).ownsRow wo.heap.size 3 1 (.slice A2 t c2) t ((toInts (tab (itP p i) t)).map (Value.int .i64))) := Lib.hid ((ownsRow_setCell_below hown (a := ⟨w1.heap.size, kk, none⟩) (by show w1.heap.size < wo.heap.size; omega) _).alloc _)
              have HB1 : Hid (Below w.heap.size w ((wr.setCell ⟨w1.heap.size, kk, none⟩ (.bool true)).alloc (.cells #[.int .i64 (kk : Int)] 3))) := Lib.hid ((hbel.setCell (p := ⟨w1.heap.size, kk, none⟩) hz1 _).alloc (by simp; omega) _)
              have hcc := own_cap hown
              clear hown hout hrows hblk hbel hcells hkk hkk2 hkc k0
              go_wp2_with (at_builtin; refine wpList_push el_int rfl _ _ rfl wo.heap.size _ t _ HO1.out rfl wr.heap.size 1 _ rfl (new_cell (by simp)) rfl (by omega) (by omega) (by simp; omega) ?_; intro v' w2 hown2 hg2; have hbn := below_push HB1.out HO1.out hzw (by simp; omega) hg2; have p1 := (hbn.cell (p := ⟨b, off + kk, none⟩) (by simp; omega)).trans K0.out; obtain ⟨A3, c3, rfl⟩ := own_shape hown2)
              go_roundw
              case rel =>
                have hbo := below_push (Below.refl wo.heap.size _) HO1.out (Nat.le_refl _) (by simp; omega) hg2
                refine ⟨t + 1, by omega, by rw [HKK2.out], by rw [HTab.out, toInts_snoc, List.map_append]; exact hown2, ?_, ?_, ?_, hbn, by have := hg2.size; simp at this; omega⟩
                · exact own_below ((ownsRow_setCell_below HO.out (a := ⟨w1.heap.size, kk, none⟩) (by show w1.heap.size < w1.heap.size + 1; omega) _).alloc _) hbo HOB.out
                · exact ((HR.out.low (p := ⟨w1.heap.size, kk, none⟩) (by show w1.heap.size < w1.heap.size + 1; omega) _).alloc _).belowB hbo HRB.out
                · exact Blk.below (Blk.alloc HSet.out _) hbo hzo
              case measure => simp; omega
            · obtain rfl : t = pe := by omega
              have q2 := HBack.out
              rw [q2] at q
              have HOrb := Lib.hid (orbP_eq p i)
              have HM := Lib.hid (marks_congr (g := seenF p i (perP p i)) (g' := seenF p (i + 1) 0) (n := l.length) fun j _ => (seenF_whole HPi.out hpi j).symm)
              obtain ⟨g2, cap2, e2, _, _⟩ := hown.form (by omega)
              obtain ⟨rfl, rfl⟩ : A2 = some ⟨g2, 0, none⟩ ∧ c2 = cap2 := by injection e2 with a b c; exact ⟨a, c⟩
              clear hown hout hrows hblk hbel q2 e2
              go_wp2_with (at_builtin; refine wpList_push el_rows rfl _ _ rfl (w1.heap.size + 1) _ mm _ (HO.out.alloc _) rfl wr.heap.size 1 _ rfl (by simp; rfl) rfl (by omega) (by omega) (by simp; omega) ?_; intro v' w2 hown2 hg2)
              have hcyc : (cycTo p (i + 1)).length = mm + 1 := by rw [HC.out, List.length_append, HMV.out]; rfl
              have hrow2 : OwnRows 3 w2 (w1.heap.size + 1) (vs ++ [.slice (some ⟨g2, 0, none⟩) t c2]) (toRows (cycTo p (i + 1))) := by
                have h1 := OwnRows.push HR.out (u := .slice (some ⟨g2, 0, none⟩) t c2) (l := toInts (orbP p i)) (by rw [toInts_length, orbP_length, HPE.out, HOrb.out, HPE.out]; exact own_base HOwn.out (by omega))
                have h2 := (h1.alloc (.cells #[.slice (some ⟨g2, 0, none⟩) t c2] 22)).grown (HO.out.alloc _) (by decide) hg2
                rw [HC.out]
                unfold toRows at h2 ⊢
                rw [List.map_append]; exact h2
              have hb2 : Below w.heap.size w w2 := below_push (HB.out.alloc (by omega) _) (HO.out.alloc _) (by omega) (by simp; omega) hg2
              have hg1 := below_push (Below.refl (w1.heap.size + 1) _) (HO.out.alloc (.cells #[.slice (some ⟨g2, 0, none⟩) t c2] 22)) (Nat.le_refl _) (by simp; omega) hg2
              have hblk2 : TBlk 69 w2 w1.heap.size (marks (seenF p (i + 1) 0) l.length) := by
                rw [← HM.out, HPE.out]
                exact Blk.below (Blk.alloc HBk.out _) hg1 (by omega)
              exact ⟨⟨i + 1, _, by omega, by go_num, by rw [hcyc]; exact hown2, hrow2, hblk2, hb2⟩, by simp [intOf]; omega⟩
      · obtain rfl : i = l.length := by omega
        have HF := Lib.hid (rows_of_own hrows (by rw [toRows_length]; exact hout) (by rw [toRows_length]; have := cycTo_le p l.length; omega) (cyc_wf HPi.out hl (by rw [HPL.out]; exact Nat.le_refl _)))
        clear hout hrows hblk
        go_wp2
        go_ret2
        exact ⟨_, rfl, by rw [HPL.out]; exact HF.out, hbel⟩
end Go.Proofs.Ytjnndbllaplkcaa
