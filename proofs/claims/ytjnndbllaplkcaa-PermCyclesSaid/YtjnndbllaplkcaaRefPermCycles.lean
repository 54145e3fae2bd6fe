/-
  Contract of the reference's PermCycles, and the walk of the law PermCycles. Conditions: the argument is a list of ints.
-/
import Derived.Test.YtjnndbllaplkcaaPermCycles
import Derived.Test.YtjnndbllaplkcaaSameRows
namespace Go.Dam
set_option linter.unusedVariables false
theorem isLeast_iff {p : List Nat} {i : Nat} : isLeast p i = decide (leastP p i (perP p i) = i) := by unfold isLeast; rfl
theorem leastP_int (p : List Nat) (i t : Nat) : ((leastP p i (t + 1) : Nat) : Int) = if ((itP p i t : Nat) : Int) < ((leastP p i t : Nat) : Int) then ((itP p i t : Nat) : Int) else ((leastP p i t : Nat) : Int) := by
  rw [leastP_succ]; split <;> omega
end Go.Dam
namespace Go.Proofs.Ytjnndbllaplkcaa
open Go Go.RowKit Go.Dam
set_option linter.unusedVariables false
set_option maxHeartbeats 2000000 in
theorem refPermCycles_any (v : Value) (l : List Int) (ls : List (List Int)) (cc : Int) (w : World) (B : Nat) (hB : B ≤ w.heap.size) (h : IsInts .i64 w B v l) (hR : CycR l ls cc) :
    Calls Try.prog 32 #[v] w fun e w' => ∃ u, e = .returned (.tuple #[u, .int .i64 cc]) ∧ IsRows w' w'.heap.size u ls ∧ Below w.heap.size w w' := by
  have HP := fun c hc => permFault_any v l c w B hB h hc
  obtain ⟨A, c, rfl, hc, hm, hn, hr, hw⟩ := h
  rcases hR with ⟨hf, hc0, rfl⟩ | ⟨hf, rfl, p, hp, hl, rfl⟩
  · have HP := Lib.hid (HP _ hf)
    have t0 : (cc != 0) = true := by simpa using hc0
    clear hr hw hf hc0
    go_enter Try.func32, Try.ntmps32
    go_wp2_with (go_at_call 25; refine (HP.out).mono ?_; rintro e w1 ⟨rfl, hb1⟩)
    go_ret2
    exact ⟨_, rfl, isRows_nil _ _, hb1⟩
  · have HP := Lib.hid (HP _ hf)
    have HPi := Lib.hid hp
    have HPL := Lib.hid (order_len hp)
    clear hw hf hp
    go_enter Try.func32, Try.ntmps32
    go_wp2_with (go_at_call 25; refine (HP.out).mono ?_; rintro e w1 ⟨rfl, hb1⟩)
    have hz1 := hb1.size
    go_loopw [5, 6, 7, 8, 9, 17] (fun ov zv cv mv kv iv wr => ∃ i : Nat, ∃ vs : List Value, i ≤ l.length ∧ iv = .int .i64 i ∧ wr.ownsRow w1.heap.size 22 1 ov (cycTo p i).length vs ∧ OwnRows 3 wr w1.heap.size vs (toRows (cycTo p i)) ∧ Below w.heap.size w wr ∧ w1.heap.size ≤ wr.heap.size) (fun _ _ _ _ _ iv _ => l.length - (intOf iv).toNat)
    case atStart =>
      exact ⟨0, [], by omega, rfl, by rw [cycTo_0]; exact World.ownsRow_nil _ _ _ _, by rw [cycTo_0, toRows_nil]; exact OwnRows.nil _ _ _, hb1, Nat.le_refl _⟩
    case round =>
      obtain ⟨wo, rfl⟩ : ∃ wo : World, wo = wr := ⟨_, rfl⟩
      obtain ⟨i, vs, hi, rfl, hout, hrows, hbel, hszo⟩ := hrel
      by_cases hlt : i < l.length
      · have hpi : i < p.length := by rw [HPL.out]; exact hlt
        obtain ⟨b, off, rfl, hb, hcells⟩ := ints_cells hr (by omega)
        have hzw := hbel.size
        obtain ⟨hpe1, hpe2, hpe3⟩ := (perP_is HPi.out hpi).1
        have HNe := Lib.hid (perP_is HPi.out hpi).2
        have HEq := Lib.hid hpe3
        clear hpe3
        rw [HPL.out] at hpe2
        have HIt := Lib.hid fun t => itP_lt HPi.out hpi t
        have hkc : l.getD i 0 = ((itP p i 1 : Nat) : Int) := by rw [itP_succ, itP_0, (order_at HPi.out hpi).1]
        have k0 := (hbel.cell (p := ⟨b, off + i, none⟩) (by simp; omega)).trans (hcells i hlt)
        rw [hkc] at k0
        have k0' := (World.cell?_alloc_lt wo (.cells #[.int .i64 (i : Int)] 3) ⟨b, off + i, none⟩ (by show b < wo.heap.size; omega)).trans k0
        have HO := Lib.hid hout
        have HR := Lib.hid hrows
        have HB := Lib.hid hbel
        have HCells := Lib.hid hcells
        have HL1 := Lib.hid (leastP_1 p i)
        obtain ⟨Ao, co, rfl⟩ := own_shape hout
        have hnb : (cycTo p i).length ≤ i := cycTo_le p i
        have HYes := Lib.hid fun h => cycTo_yes (p := p) (i := i) h
        have HNo := Lib.hid fun h => cycTo_no (p := p) (i := i) h
        generalize hmv : (cycTo p i).length = mm at *
        have HMV := Lib.hid hmv
        generalize hpe : perP p i = pe at *
        have HPE := Lib.hid hpe
        clear hout hrows hbel hcells hmv hpe hkc
        go_wp2_with fail
        go_loopw [7, 8, 9] (fun cv mv kv wr => ∃ t : Nat, 1 ≤ t ∧ t ≤ pe ∧ kv = .int .i64 ((itP p i t : Nat) : Int) ∧ mv = .int .i64 ((leastP p i t : Nat) : Int) ∧ wr.ownsRow wo.heap.size 3 1 cv t ((toInts (tab (itP p i) t)).map (Value.int .i64)) ∧ Below wo.heap.size wo wr) (fun cv _ _ _ => pe - (match cv with | .slice _ n _ => n | _ => 0))
        case atStart =>
          refine ⟨1, by omega, by omega, rfl, by rw [HL1.out], ?_, (Below.refl _ _).alloc (Nat.le_refl _) _⟩
          rw [tab_snoc, tab_nil, itP_0, toInts_eq]
          exact own_of_blk (cs := [.int .i64 (i : Int)]) (Blk.new wo _ _) (Nat.le_refl _) rfl (by omega)
        case round =>
          clear k0 k0'
          obtain ⟨t, ht1, ht, rfl, rfl, hown, hbo⟩ := hrel
          obtain ⟨A2, c2, rfl⟩ := own_shape hown
          have HOwn := Lib.hid hown
          have HBo := Lib.hid hbo
          have hsz := hbo.size
          by_cases hlt2 : t < pe
          · have hkl := HIt.out t
            rw [HPL.out] at hkl
            have hne := HNe.out t ht1 hlt2
            have hkc : l.getD (itP p i t) 0 = ((itP p i (t + 1) : Nat) : Int) := by rw [itP_succ, (order_at HPi.out (by rw [HPL.out]; exact hkl)).1]
            have k0 := HCells.out _ hkl
            rw [hkc] at k0
            have K0 := Lib.hid k0
            have HTab := Lib.hid (tab_snoc (itP p i) t)
            have HLe := Lib.hid (leastP_succ p i t)
            generalize hkk : itP p i t = kk at *
            generalize hkk2 : itP p i (t + 1) = kk2 at *
            generalize hmn : leastP p i t = mn at *
            have HKK := Lib.hid hkk
            have HKK2 := Lib.hid hkk2
            have hmi : mn ≤ i := by rw [← hmn]; exact leastP_le.1
            have t0 : ((kk : Int) != (i : Int)) = true := by rw [bne_iff_ne]; omega
            have t1 : ((kk : Int) == (i : Int)) = false := by rw [beq_eq_false_iff_ne]; omega
            have hcc := own_cap hown
            clear hown hbo hkk hkk2 hkc k0 hne hmn
            go_wp2_with (at_builtin; refine wpList_push el_int rfl _ _ rfl wo.heap.size _ t _ (HOwn.out.alloc _) rfl wr.heap.size 1 _ rfl (new_cell rfl) rfl (by omega) (by omega) (by simp; omega) ?_; intro v' w2 hown2 hg2; have hbn := below_push (HBo.out.alloc hsz _) (HOwn.out.alloc _) (Nat.le_refl _) (by simp; omega) hg2; have p1 := ((HB.out.trans (hbn.mono hzw)).cell (p := ⟨b, off + kk, none⟩) (by simp; omega)).trans K0.out; obtain ⟨A3, c3, rfl⟩ := own_shape hown2)
            go_roundw
            case rel => exact ⟨t + 1, by omega, by omega, by rw [HKK2.out], vint (by rw [HLe.out]; omega), by rw [HTab.out, toInts_snoc, List.map_append]; exact hown2, hbn⟩
            case measure => simp; omega
          · obtain rfl : t = pe := by omega
            rw [HEq.out]
            have t0 : ((i : Int) != (i : Int)) = false := by simp
            by_cases hls : leastP p i t = i
            · have HYes := Lib.hid (HYes.out (by rw [isLeast_iff, HPE.out, decide_eq_true_iff]; exact hls))
              rw [hls]
              have HOrb := Lib.hid (orbP_eq p i)
              clear hown hbo hls
              go_wp2_with (at_builtin; refine wpList_push el_rows rfl _ _ rfl w1.heap.size _ mm _ ((own_size HO.out HBo.out).alloc _) rfl wr.heap.size 1 _ rfl (by simp; rfl) rfl (by omega) (by omega) (by simp; omega) ?_; intro v' w2 hown2 hg2)
              have hcyc : (cycTo p (i + 1)).length = mm + 1 := by rw [HYes.out, List.length_append, HMV.out]; rfl
              have hrow2 : OwnRows 3 w2 w1.heap.size (vs ++ [.slice A2 t c2]) (toRows (cycTo p (i + 1))) := by
                have h1 := OwnRows.push (HR.out.size HBo.out) (u := .slice A2 t c2) (l := toInts (orbP p i)) (by rw [toInts_length, orbP_length, HPE.out, HOrb.out, HPE.out]; exact own_base HOwn.out (by omega))
                have h2 := (h1.alloc (.cells #[.slice A2 t c2] 22)).grown ((own_size HO.out HBo.out).alloc _) (by decide) hg2
                rw [HYes.out]
                unfold toRows at h2 ⊢
                rw [List.map_append]; exact h2
              exact ⟨⟨i + 1, _, by omega, by go_num, by rw [hcyc]; exact hown2, hrow2, below_push ((HB.out.trans (HBo.out.mono hzw)).alloc (by omega) _) ((own_size HO.out HBo.out).alloc _) hz1 (by simp; omega) hg2, by have := hg2.size; simp at this; omega⟩, by simp [intOf]; omega⟩
            · have HNo := Lib.hid (HNo.out (by rw [isLeast_iff, HPE.out, decide_eq_false_iff_not]; exact hls))
              generalize leastP p i t = mn at *
              have t1 : ((mn : Int) == (i : Int)) = false := by rw [beq_eq_false_iff_ne]; omega
              clear hown hbo hls
              go_wp2_with fail
              exact ⟨⟨i + 1, vs, by omega, by go_num, by rw [HNo.out, HMV.out]; exact own_size HO.out HBo.out, by rw [HNo.out]; exact HR.out.size HBo.out, HB.out.trans (HBo.out.mono hzw), by omega⟩, by simp [intOf]; omega⟩
      · obtain rfl : i = l.length := by omega
        have HF := Lib.hid (rows_of_own hrows (by rw [toRows_length]; exact hout) (by rw [toRows_length]; have := cycTo_le p l.length; omega) (cyc_wf HPi.out hl (by rw [HPL.out]; exact Nat.le_refl _)))
        clear hout hrows
        go_wp2
        go_ret2
        exact ⟨_, rfl, by rw [HPL.out]; exact HF.out, hbel⟩
set_option maxHeartbeats 400000 in
theorem permCycles_walk (v : Value) (w : World) (h : ∃ l, IsInts .i64 w w.heap.size v l) :
    Calls Try.prog 10 #[v] w fun e w' => e = .returned (.bool true) ∧ Below w.heap.size w w' := by
  obtain ⟨l, h⟩ := h
  obtain ⟨ls, cc, hR⟩ := CycR.ex l
  have H1 := Lib.hid (permCycles_any v l ls cc w _ (Nat.le_refl _) h hR)
  have H2 := Lib.hid fun W (hb : Below w.heap.size w W) => refPermCycles_any v l ls cc W _ hb.size (h.below hb) hR
  obtain ⟨A, c, rfl, hc, hm, hn, hr, hw⟩ := h
  clear hr hw hR
  go_enter Try.func10, Try.ntmps10
  go_wp2_with (first
    | (go_at_call 31; refine (H1.out).mono ?_; rintro e w1 ⟨v1, rfl, hi1, hb1⟩)
    | (go_at_call 32; refine (H2.out _ hb1).mono ?_; rintro e w2 ⟨v2, rfl, hi2, hb2⟩)
    | (go_at_call 33; refine (sameRows_any v1 v2 ls _ _ ((hi1.below hb2).more hb2.size) hi2).mono ?_; rintro e w3 ⟨rfl, hd⟩))
  go_ret
  exact ⟨ret_bool (by simp), (hb1.trans (hb2.mono hb1.size)).trans (hd.below _)⟩
end Go.Proofs.Ytjnndbllaplkcaa
