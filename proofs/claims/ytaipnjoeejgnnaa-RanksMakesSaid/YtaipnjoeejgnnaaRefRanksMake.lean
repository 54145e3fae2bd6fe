/-
  Contract of the reference's RanksMake: values and ranks by counting, or the code of what is refused. Conditions: the list can be read as data.
-/
import Derived.Test.YtaipnjoeejgnnaaRanksMake
import Derived.Test.YtaipnjoeejgnnaaPlaceOf
import Derived.Test.YtaipnjoeejgnnaaIntBlk
import Derived.Test.YtaipnjoeejgnnaaOwnBlk
import Derived.Test.YtaipnjoeejgnnaaOwnW
import Derived.Laws.EntriesVeiled
namespace Go.Proofs.Ytaipnjoeejgnnaa
open Go Go.RowKit Go.Dam
set_option linter.unusedVariables false
set_option maxHeartbeats 1000000 in
theorem refRank_any (ks : List Int) (kv : Value) (gb : Nat) (x : Int) (w : World) (B : Nat) (h : IsInts .i64 w B kv ks) (hn : ks.length ≤ 1000000) (hb : w.cell? ⟨gb, 0, none⟩ = some kv) :
    Calls Try.prog 90 #[.int .i64 x, .pointer (some ⟨gb, 0, none⟩)] w fun e w' => e = .returned (.int .i64 (lessN ks x : Nat)) ∧ w = w' := by
  obtain ⟨A, c, rfl, hc, hm, hl, hr, hw⟩ := h
  clear hw
  go_enter Try.func90, Try.ntmps90
  go_wp2_with fail
  go_loop [4, 6, 9] (fun rv _ iv => ∃ i : Nat, i ≤ ks.length ∧ iv = .int .i64 i ∧ rv = .int .i64 (lessN (ks.take i) x : Nat)) (fun _ _ iv => ks.length - (intOf iv).toNat)
  case atStart => exact ⟨0, by omega, rfl, by unfold lessN; rfl⟩
  case round =>
    obtain ⟨i, hi, rfl, rfl⟩ := hrel
    by_cases hlt : i < ks.length
    · have t1 : decide ((i : Int) < (ks.length : Int)) = true := decide_eq_true (by omega)
      obtain ⟨bk, off, rfl, hbk, hcells⟩ := ints_cells hr (by omega)
      have k0 := hcells i hlt
      have HS := Lib.hid (lessN_take ks x hlt)
      have hle : lessN (ks.take i) x ≤ i := by
        unfold lessN
        exact Nat.le_trans List.countP_le_length (by rw [List.length_take]; omega)
      generalize ks.getD i 0 = y at *
      generalize lessN (ks.take i) x = r at *
      clear hcells hr
      by_cases hy : y < x
      · have t2 : decide (y < x) = true := decide_eq_true hy
        rw [if_pos hy] at HS
        go_wp2_with fail
        go_round
        case rel => exact ⟨i + 1, by omega, by go_num, vint (by rw [HS.out]; push_cast; omega)⟩
        case measure => simp [intOf]; omega
      · have t2 : decide (y < x) = false := decide_eq_false hy
        rw [if_neg hy] at HS
        go_wp2_with fail
        go_round
        case rel => exact ⟨i + 1, by omega, by go_num, vint (by rw [HS.out]; push_cast; omega)⟩
        case measure => simp [intOf]; omega
    · obtain rfl : i = ks.length := by omega
      have i6 : ¬ (ks.length : Int) < (ks.length : Int) := by omega
      rw [List.take_length]
      go_wp2_with fail
      go_ret
      exact ⟨rfl, rfl⟩
set_option maxRecDepth 100000 in
set_option maxHeartbeats 4000000 in
theorem refRanksMake_any (v : Value) (l vs rs : List Int) (cc : Int) (w : World) (B : Nat) (hB : B ≤ w.heap.size) (h : IsInts .i64 w B v l) (hR : RankAns l vs rs cc) :
    Calls Try.prog 38 #[v] w (Gives2 vs rs cc w) := by
  obtain ⟨A, c, rfl, hc, hm, hn, hr, hw⟩ := h
  rcases hR with ⟨h3, rfl, rfl, rfl⟩ | ⟨h3, hR, rfl⟩
  · have t0 : decide ((300 : Int) < (l.length : Int)) = true := decide_eq_true (by omega)
    clear hr hw
    go_enter Try.func38, Try.ntmps38
    go_wp2_with fail
    go_ret3
    exact ⟨_, _, rfl, isBytes_nil _ _ _, isBytes_nil _ _ _, Below.refl _ _⟩
  · have t0 : decide ((300 : Int) < (l.length : Int)) = false := decide_eq_false (by omega)
    have HR := Lib.hid hR
    have HLw : Hid (∀ z ∈ l, (Lit.int .i64 z).wf = true) := Lib.hid hw
    have HW := Lib.hid (hR.i64 hw h3)
    have hvl : vs.length ≤ l.length := hR.1.len
    have HRl := Lib.hid hR.2.1
    clear hR hw
    go_enter Try.func38, Try.ntmps38
    go_wp2_with fail
    go_loopw [7, 20] (fun _ iv wr => ∃ (i : Nat) (ks : List Int) (kv : Value), i ≤ l.length ∧ iv = .int .i64 i ∧ ks.length ≤ i ∧ Hid (KindsR l ks i) ∧ Hid (Blk wr w.heap.size 29 #[kv]) ∧ Hid (wr.ownsRow (w.heap.size + 1) 3 1 kv ks.length (ks.map (Value.int .i64))) ∧ Hid (Below w.heap.size w wr)) (fun _ iv _ => l.length - (intOf iv).toNat)
    case atStart => exact ⟨0, [], .slice none 0 0, by omega, rfl, by simp, Lib.hid ⟨List.nodup_nil, fun z => by simp⟩, Lib.hid (Blk.new _ _ _), Lib.hid (World.ownsRow_nil _ _ _ _), Lib.hid ((Below.refl _ _).alloc (Nat.le_refl _) _)⟩
    case round =>
      obtain ⟨i, ks, kv, hi, rfl, hki, HK, HBk, HO, HB⟩ := hrel
      obtain ⟨A2, c2, rfl⟩ := own_shape HO.out
      have k0 := (HBk.out.cell 0).trans rfl
      have f0 := HBk.out.frozen 0
      have hz := HBk.out.lt
      by_cases hlt : i < l.length
      · have t1 : decide ((i : Int) < (l.length : Int)) = true := decide_eq_true (by omega)
        obtain ⟨bk, off, rfl, hbk, hcells⟩ := ints_cells hr (by omega)
        have k1 := (HB.out.cell (p := ⟨bk, off + i, none⟩) (by show bk < w.heap.size; omega)).trans (hcells i hlt)
        have HIk := Lib.hid (own_ints HO.out (by omega) (fun z hz => HLw.out z (List.mem_of_mem_take ((HK.out.2 z).1 hz))))
        have HPl := Lib.hid (placeOf_any _ ks (l.getD i 0) wr _ HIk.out)
        by_cases hx : l.getD i 0 ∈ ks
        · have HN := Lib.hid (HK.out.same hlt hx)
          have HP2 : Hid (Calls Try.prog 89 #[.slice A2 ks.length c2, .int .i64 (l.getD i 0)] wr fun e w' => ∃ r : Int, e = .returned (.int .i64 r) ∧ ¬ r < 0 ∧ wr = w') := Lib.hid (HPl.out.mono fun e w' ⟨⟨r, he, hr⟩, hw'⟩ => ⟨r, he, by
            rcases hr with ⟨j, rfl, _⟩ | ⟨_, hno⟩
            · omega
            · obtain ⟨j, hj, e⟩ := List.mem_iff_getElem.1 hx
              exact absurd (by rw [List.getD_eq_getElem?_getD, List.getElem?_eq_getElem hj]; exact e) (hno j hj), hw'⟩)
          generalize l.getD i 0 = x at *
          clear hcells hr hx HPl HIk
          go_wp2_with (go_at_call 89; refine (HP2.out).mono ?_; rintro e w1 ⟨r, rfl, hr0, rfl⟩)
          go_roundw
          case rel => exact ⟨i + 1, ks, .slice A2 ks.length c2, by omega, by go_num, by omega, HN, HBk, HO, HB⟩
          case measure => simp [intOf]; omega
        · have HN := Lib.hid (HK.out.more hlt hx)
          have HP2 : Hid (Calls Try.prog 89 #[.slice A2 ks.length c2, .int .i64 (l.getD i 0)] wr fun e w' => e = .returned (.int .i64 (-1)) ∧ wr = w') := Lib.hid (HPl.out.mono fun e w' ⟨⟨r, he, hr⟩, hw'⟩ => by
            rcases hr with ⟨j, rfl, hj, e2, _⟩ | ⟨rfl, _⟩
            · exact absurd (by rw [← e2, List.getD_eq_getElem?_getD, List.getElem?_eq_getElem hj]; exact List.getElem_mem hj) hx
            · exact ⟨he, hw'⟩)
          generalize l.getD i 0 = x at *
          clear hcells hr hx HPl HIk
          go_wp2_with (first
            | (go_at_call 89; refine (HP2.out).mono ?_; rintro e w1 ⟨rfl, rfl⟩)
            | (at_builtin; refine wpList_pushD el_int rfl (.tmp 28) (.tmp 30) rfl (w.heap.size + 1) _ ks.length _ (HO.out.alloc _) rfl wr.heap.size 1 _ rfl (new_cell rfl) rfl (by omega) (by omega) (by simp; omega) ?_; intro v2 w2 hown2 hg2 hl2; have HO2 := Lib.hid hown2; have HBk2 := Lib.hid (Blk.grown (HBk.out.alloc _) hg2 (fun e => by have := ((HO.out.lt _ e.symm).1); omega)); have k2 := (HBk2.out.cell 0).trans rfl; have f2 := HBk2.out.frozen 0; obtain ⟨A3, c3, rfl⟩ := own_shape hown2; have HBl2 := Lib.hid (((HB.out.alloc (by omega) _).grown hg2 (by simp; omega) (fun k hk => by have := (HO.out.lt k hk).1; omega))); clear hown2 hg2 hl2))
          go_roundw
          case rel => exact ⟨i + 1, ks ++ [x], .slice A3 (ks.length + 1) c3, by omega, by go_num, by simp; omega, HN, Lib.hid (HBk2.out.set_ 0 _), Lib.hid (by rw [List.length_append, List.map_append]; exact own_far HO2.out HBk2.out (by decide) _), Lib.hid (HBl2.out.setCell (p := ⟨w.heap.size, 0, none⟩) (Nat.le_refl _) _)⟩
          case measure => simp [intOf]; omega
      · obtain rfl : i = l.length := by omega
        have i6 : ¬ (l.length : Int) < (l.length : Int) := by omega
        have hperm := HK.out.perm HR.out.1
        have hkl : ks.length = vs.length := hperm.length_eq
        have HPm := Lib.hid hperm
        have HKl := Lib.hid hkl
        have HLe : Hid (∀ x, lessN ks x = lessN vs x) := Lib.hid fun x => HK.out.less HR.out.1 x
        have HIk := Lib.hid (own_ints HO.out (by omega) (fun z hz => HLw.out z (List.mem_of_mem_take ((HK.out.2 z).1 hz))))
        obtain ⟨W, rfl⟩ : ∃ W : World, W = wr := ⟨_, rfl⟩
        have hmk := fun w' => run_make1 el_int rfl ks.length ks.length rfl (by omega) (by omega) w'
        rw [zerosV_eq] at hmk
        clear hperm hkl
        go_wp2_with fail
        have HI0 : Hid (IBlk .i64 3 (W.alloc (.cells (zerosV ks.length) 3)) W.heap.size (laid vs ks 0)) := Lib.hid (by rw [laid_0, ← HKl.out]; exact IBlk.zerosV_at _ _ _ _ rfl)
        have HW0 : Hid (Below W.heap.size W (W.alloc (.cells (zerosV ks.length) 3))) := Lib.hid ((Below.refl _ _).alloc (Nat.le_refl _) _)
        clear hmk k0 f0
        go_loopw [11, 39] (fun _ iv wr => ∃ i : Nat, i ≤ ks.length ∧ iv = .int .i64 i ∧ Hid (IBlk .i64 3 wr W.heap.size (laid vs ks i)) ∧ Hid (Below W.heap.size W wr)) (fun _ iv _ => ks.length - (intOf iv).toNat)
        case atStart => exact ⟨0, by omega, rfl, HI0, HW0⟩
        case round =>
          obtain ⟨j, hj, rfl, HIb, HBw⟩ := hrel
          have b0 := ((HBk.out.below HBw.out hz).cell 0).trans rfl
          by_cases hlt2 : j < ks.length
          · have t2 : decide ((j : Int) < (ks.length : Int)) = true := decide_eq_true (by omega)
            obtain ⟨g2, cap2, hv2, _, hg2lt⟩ := HO.out.form (by omega)
            injection hv2 with hA2 _ hc2
            subst hA2 hc2
            have k1 : W.cell? ⟨g2, j, none⟩ = some (.int .i64 (ks.getD j 0)) := by
              rw [HO.out.cellAt j (by omega), List.getElem?_map, List.getElem?_eq_getElem hlt2, List.getD_eq_getElem?_getD, List.getElem?_eq_getElem hlt2]; rfl
            have k2 := (HBw.out.cell (p := ⟨g2, j, none⟩) hg2lt).trans k1
            have hin : ks.getD j 0 ∈ vs := HPm.out.mem_iff.1 (by rw [List.getD_eq_getElem?_getD, List.getElem?_eq_getElem hlt2]; exact List.getElem_mem hlt2)
            obtain ⟨hr1, _⟩ := HR.out.1.at_rank hin
            have HSt := Lib.hid (laid_set HR.out.1 HPm.out hlt2)
            have HRk := Lib.hid (refRank_any ks _ w.heap.size (ks.getD j 0) wr _ ((HIk.out.below HBw.out)) (by omega) b0)
            rw [HLe.out] at HRk
            have hll := laid_len vs ks j
            have k3 := HIb.out.cell (i := lessN vs (ks.getD j 0)) (by omega)
            have f3 := HIb.out.frozen (lessN vs (ks.getD j 0))
            have hrk : lessN vs (ks.getD j 0) < ks.length := by have := HKl.out; omega
            generalize (laid vs ks j).getD (lessN vs (ks.getD j 0)) 0 = old at *
            generalize lessN vs (ks.getD j 0) = r at *
            generalize ks.getD j 0 = x at *
            clear k1 hin hll
            go_wp2_with (go_at_call 90; refine (HRk.out).mono ?_; rintro e w1 ⟨rfl, rfl⟩)
            go_roundw
            case rel => exact ⟨j + 1, by omega, by go_num, Lib.hid (by rw [← HSt.out]; exact HIb.out.set r x), Lib.hid (HBw.out.setCell (p := ⟨W.heap.size, r, none⟩) (Nat.le_refl _) _)⟩
            case measure => simp [intOf]; omega
          · obtain rfl : j = ks.length := by omega
            have i7 : ¬ (ks.length : Int) < (ks.length : Int) := by omega
            obtain ⟨W2, rfl⟩ : ∃ W2 : World, W2 = wr := ⟨_, rfl⟩
            have HIv : Hid (IBlk .i64 3 W2 W.heap.size vs) := Lib.hid (by have := HIb.out; rwa [laid_all HPm.out] at this)
            clear HIb
            go_wp2_with fail
            go_loopw [12, 14, 52] (fun rv _ iv wr => ∃ i : Nat, i ≤ l.length ∧ iv = .int .i64 i ∧ Hid (wr.ownsRow W2.heap.size 3 1 rv i ((rs.take i).map (Value.int .i64))) ∧ Hid (Below W2.heap.size W2 wr)) (fun _ _ iv _ => l.length - (intOf iv).toNat)
            case atStart => exact ⟨0, by omega, rfl, Lib.hid (World.ownsRow_nil _ _ _ _), Lib.hid (Below.refl _ _)⟩
            case round =>
              obtain ⟨i, hi, rfl, HO3, HB3⟩ := hrel
              obtain ⟨A3, c3, rfl⟩ := own_shape HO3.out
              have hz3 := HB3.out.size
              have hWz := HBw.out.size
              have hwz := HB.out.size
              by_cases hlt3 : i < l.length
              · have t1 : decide ((i : Int) < (l.length : Int)) = true := decide_eq_true (by omega)
                obtain ⟨bk, off, rfl, hbk, hcells⟩ := ints_cells hr (by omega)
                have hbw : bk < w.heap.size := by omega
                have k1 := (HB3.out.cell (p := ⟨bk, off + i, none⟩) (by show bk < W2.heap.size; omega)).trans ((HBw.out.cell (p := ⟨bk, off + i, none⟩) (by show bk < W.heap.size; omega)).trans ((HB.out.cell (p := ⟨bk, off + i, none⟩) hbw).trans (hcells i hlt3)))
                have b1 := ((Blk.below (HBk.out.below HBw.out hz) HB3.out (by omega)).cell 0).trans rfl
                have HRk := Lib.hid (refRank_any ks _ w.heap.size (l.getD i 0) wr _ ((HIk.out.below HBw.out).below (HB3.out.mono hWz)) (by omega) b1)
                rw [HLe.out] at HRk
                have HT := Lib.hid (HR.out.take hlt3 (rankOf_ex HR.out.1.asc (l.getD i 0)))
                generalize lessN vs (l.getD i 0) = r at *
                generalize l.getD i 0 = x at *
                clear hcells hr b0
                go_wp2_with (first
                  | (go_at_call 90; refine (HRk.out).mono ?_; rintro e w1 ⟨rfl, rfl⟩)
                  | (at_builtin; refine wpList_pushD el_int rfl (.tmp 56) (.tmp 60) rfl W2.heap.size _ i _ (HO3.out.alloc _) rfl wr.heap.size 1 _ rfl (new_cell rfl) rfl (by omega) (by omega) (by simp; omega) ?_; intro v6 w6 hown6 hg6 hl6))
                go_roundw
                case rel => exact ⟨i + 1, by omega, by go_num, Lib.hid (by rw [HT.out, List.map_append]; exact hown6), Lib.hid (below_push (HB3.out.alloc hz3 _) (HO3.out.alloc _) (Nat.le_refl _) (by simp; omega) hg6)⟩
                case measure => simp [intOf]; omega
              · obtain rfl : i = l.length := by omega
                have hfull : rs.take l.length = rs := List.take_of_length_le (by rw [HRl.out]; exact Nat.le_refl _)
                rw [hfull] at HO3
                have HV3 := Lib.hid ((HIv.out.below HB3.out HIv.out.lt).isInts (by omega) HW.out.1)
                have hvk := HKl.out
                clear b0 hr
                go_wp2_with fail
                go_ret3
                exact ⟨_, _, rfl, by rw [HKl.out]; exact HV3.out, own_ints HO3.out (by rw [HRl.out]; omega) HW.out.2, HB.out.trans ((HBw.out.trans (HB3.out.mono hWz)).mono hwz)⟩
end Go.Proofs.Ytaipnjoeejgnnaa
