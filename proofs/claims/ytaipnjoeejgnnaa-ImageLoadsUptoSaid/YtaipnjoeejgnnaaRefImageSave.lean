/-
  Contract of the reference's ImageSaved; and the walk of the law ImageSaves. Conditions: the points can be read as data.
-/
import Derived.Test.YtaipnjoeejgnnaaImageSave
import Derived.Test.YtaipnjoeejgnnaaRefPoints
namespace Go.Proofs.Ytaipnjoeejgnnaa
open Go Go.RowKit Go.Dam
set_option linter.unusedVariables false
/-- A callee has made memory. -/
theorem Putting.below {W w w1 : World} {b v : Value} {K c : Nat} {m : List Int} (h : Putting W b K c m w v) (hb : Below w.heap.size w w1) : Putting W b K c m w1 v :=
  ⟨own_size h.1 hb, ⟨h.2.1.1.trans ⟨hb.os, hb.tape, hb.output, hb.size, fun i hi _ => hb.block i hi⟩, h.2.1.2⟩, h.2.2.1, Nat.le_trans h.2.2.2 hb.size⟩
/-- Bytes have been put behind. -/
theorem Putting.push {W w w2 : World} {b v v' : Value} {K c n : Nat} {m x : List Int} (h : Putting W b K c m w v) (ho : w2.ownsRow K 5 1 v' (m.length + n) (m.map (Value.int .u8) ++ x.map (Value.int .u8))) (hx : x.length = n) (hn : n ≤ 4)
    (hg : w.grownBy w2 v.ownBlock) (hl : LiesOr w.heap.size v v') : Putting W b K (c + 1) (m ++ x) w2 v' := by
  subst hx
  refine ⟨?_, h.2.1.push hg hl, ?_, Nat.le_trans h.2.2.2 hg.size⟩
  · unfold OwnB; rw [List.length_append, List.map_append]; exact ho
  · have := h.2.2.1; rw [List.length_append]; omega
theorem refImageSum_s (v : Value) (l : List Int) (w : World) (B : Nat) (hB : B ≤ w.heap.size) (h : IsInts .u8 w B v l) :
    Calls Try.prog 46 #[v] w fun e w' => e = .returned (.int .i64 ((sumL l : Nat) : Int)) ∧ Below w.heap.size w w' := by
  refine (refImageSum_any v l w B hB h).mono ?_
  rintro e w' ⟨rfl, hb⟩
  obtain ⟨A, c, rfl, hc, hm, hn, hr, hw⟩ := h
  have := crcTo_lt (l := l) (fun i => by have := byte_at hw i; omega) l.length
  exact ⟨ret_int (by rw [sumL_eq]; omega), hb⟩
set_option maxRecDepth 100000 in
set_option maxHeartbeats 4000000 in
theorem refSave_any (v : Value) (n : Nat) (l : List Int) (w : World) (B : Nat) (hB : B ≤ w.heap.size) (h : IsFlat 3 w B v n l) :
    Calls Try.prog 48 #[v] w (GivesBytes (savedL n l) (ptCode n l) w) := by
  have HC := Lib.hid (pointsFault_any v n l w B hB h)
  obtain ⟨A, c, rfl, hc, hm, hn, hl, hr, hw⟩ := h
  by_cases hp : ptCode n l = 0
  rotate_left
  · have HSv := Lib.hid (savedL_no hp)
    have t0 : (ptCode n l != 0) = true := by simpa using hp
    clear hp hr hw
    go_enter Try.func48, Try.ntmps48
    go_wp2_with (go_at_call 79; refine (HC.out).mono ?_; rintro e w1 ⟨rfl, hb1⟩)
    go_ret2
    exact ⟨_, rfl, by rw [HSv.out]; exact isBytes_nil _ _ _, hb1⟩
  · obtain ⟨hn150, hco⟩ := pt_coords hp
    have HSv := Lib.hid (savedL_0 hp)
    have HP := Lib.hid hp
    have HCo := Lib.hid hco
    have HL1 := Lib.hid (sevL_len4 (n := n) (by omega))
    rw [hp] at HC
    clear hp hco hw
    go_enter Try.func48, Try.ntmps48
    go_wp2_with (first
      | (go_at_call 79; refine (HC.out).mono ?_; rintro e w1 ⟨rfl, hb1⟩; have hz1 := hb1.size; have HB1 := Lib.hid hb1; clear hb1)
      | (go_at_call 103; refine (sevens_any n n (Nat.le_refl _) (by omega) _).mono ?_; rintro e w2 ⟨v2, rfl, hown2, hb2⟩; obtain ⟨A2, c2, rfl⟩ := own_shape hown2; obtain ⟨g2, rfl⟩ := ownB_block hown2 (sevL_pos _); have HO2 := Lib.hid hown2; have HB2 := Lib.hid hb2; clear hown2 hb2)
      | (at_builtin; refine wpList_pushM el_u8 rfl (.tmp 18) (.tmp 21) rfl w.heap.size _ 4 _ (own_of_blk (cs := [Value.int .u8 68, Value.int .u8 65, Value.int .u8 77, Value.int .u8 49]) (Blk.below (Blk.new w1 _ _) HB2.out (by simp)) hz1 rfl (by decide)) rfl ⟨g2, 0, none⟩ (sevL n).length c2 _ rfl (by simp) (ownB_news HO2.out) (ownB_one _) (by have := HL1.out; omega) (by have := HL1.out; omega) (by have := HB2.out.size; simp at this; omega) ?_; intro v3 w3 hown3 hg3 hl3))
    have hz2 := HB2.out.size
    have hz3 := hg3.size
    have HO3 : Hid (OwnB w3 w.heap.size v3 (bodyL n l 0)) := Lib.hid (by
      rw [bodyL_0]; unfold OwnB; rw [List.length_append, List.map_append]; exact hown3)
    have HB3 : Hid (Below w.heap.size w w3) := Lib.hid (((HB1.out.alloc hz1 _).trans (HB2.out.mono (by simp; omega))).grown hg3 (by simp at hz2; omega) (fun k hk => by simp only [Value.ownBlock, Option.some.injEq] at hk; omega))
    clear hown3 hg3 hl3 HC HB2 HO2
    go_loopw [5, 7, 9, 25] (fun bv _ _ iv wr => ∃ i : Nat, i ≤ n ∧ iv = .int .i64 i ∧ OwnB wr w.heap.size bv (bodyL n l (i * 3)) ∧ Below w.heap.size w wr) (fun _ _ _ iv _ => n - (intOf iv).toNat)
    case atStart => exact ⟨0, by omega, rfl, by rw [Nat.zero_mul]; exact HO3.out, HB3.out⟩
    case round =>
      obtain ⟨i, hi, rfl, hown, hbel⟩ := hrel
      by_cases hlt : i < n
      · obtain ⟨b, off, rfl, hb, hcells⟩ := flat_cells hr hl (by omega) (by omega)
        have c0 := (hbel.cell (p := ⟨b, off + i * 3, none⟩) (by simp; omega)).trans (hcells (i * 3) (by omega))
        have c1 := (hbel.cell (p := ⟨b, off + i * 3 + 1, none⟩) (by simp; omega)).trans (hcells (i * 3 + 1) (by omega))
        have c2 := (hbel.cell (p := ⟨b, off + i * 3 + 2, none⟩) (by simp; omega)).trans (hcells (i * 3 + 2) (by omega))
        have hL := bodyL_len (n := n) (l := l) hn150 (i * 3) (fun j hj => HCo.out j (by omega))
        have HX : Hid (∀ t, t < 3 → (#[Value.int .i64 (l.getD (i * 3) 0), .int .i64 (l.getD (i * 3 + 1) 0), .int .i64 (l.getD (i * 3 + 2) 0)] : Array Value)[t]? = some (.int .i64 (l.getD (i * 3 + t) 0))) := Lib.hid fun t ht => by
          match t, ht with
          | 0, _ => rfl
          | 1, _ => rfl
          | 2, _ => rfl
        generalize l.getD (i * 3) 0 = x0 at *
        generalize l.getD (i * 3 + 1) 0 = x1 at *
        generalize l.getD (i * 3 + 2) 0 = x2 at *
        obtain ⟨A2, c3, rfl⟩ := own_shape hown
        have HO := Lib.hid hown
        have HB := Lib.hid hbel
        clear hown hbel hcells HO3 HB3
        go_wp2_with fail
        have HBk : Hid (Blk ((wr.alloc (.cells #[.int .i64 x0, .int .i64 x1, .int .i64 x2] 82)).alloc (.cells #[.int .i64 x0, .int .i64 x1, .int .i64 x2] 3)) (wr.heap.size + 1) 3 #[.int .i64 x0, .int .i64 x1, .int .i64 x2]) := Lib.hid (Blk.new_at _ _ _ _ (by simp))
        have HNe : Hid ((Value.slice A2 (bodyL n l (i * 3)).length c3).ownBlock ≠ some (wr.heap.size + 1)) := Lib.hid (ne_own HO.out (by omega))
        have HB2 := Lib.hid ((HB.out.alloc HB.out.size (.cells #[.int .i64 x0, .int .i64 x1, .int .i64 x2] 82)).alloc (by have := HB.out.size; simp; omega) (.cells #[.int .i64 x0, .int .i64 x1, .int .i64 x2] 3))
        have HPu : Hid (Putting ((wr.alloc (.cells #[.int .i64 x0, .int .i64 x1, .int .i64 x2] 82)).alloc (.cells #[.int .i64 x0, .int .i64 x1, .int .i64 x2] 3)) (.slice A2 (bodyL n l (i * 3)).length c3) w.heap.size (2 + i * 3) (bodyL n l (i * 3)) ((wr.alloc (.cells #[.int .i64 x0, .int .i64 x1, .int .i64 x2] 82)).alloc (.cells #[.int .i64 x0, .int .i64 x1, .int .i64 x2] 3)) (.slice A2 (bodyL n l (i * 3)).length c3)) :=
          Lib.hid ⟨(HO.out.alloc _).alloc _, Grew.refl _ _, by omega, by have := HB2.out.size; simp at this; simp; omega⟩
        clear c0 c1 c2 hr
        generalize hW : (wr.alloc (.cells #[.int .i64 x0, .int .i64 x1, .int .i64 x2] 82)).alloc (.cells #[.int .i64 x0, .int .i64 x1, .int .i64 x2] 3) = W at *
        clear hW
        go_loopw [5, 9, 37] (fun bv _ tv w2 => ∃ t : Nat, t ≤ 3 ∧ tv = .int .i64 t ∧ Putting W (.slice A2 (bodyL n l (i * 3)).length c3) w.heap.size (2 + i * 3 + t) (bodyL n l (i * 3 + t)) w2 bv) (fun _ _ tv _ => 3 - (intOf tv).toNat)
        case atStart => exact ⟨0, by omega, rfl, HPu.out⟩
        case round =>
          obtain ⟨t, ht, rfl, hpu⟩ := hrel
          by_cases hlt3 : t < 3
          · have hB3 := hpu.2.1.blk HBk.out HNe.out
            have k0 := (hB3.cell t).trans (HX.out t hlt3)
            have hco1 := HCo.out (i * 3 + t) (by omega)
            have HS := Lib.hid (bodyL_succ n l (i * 3 + t))
            generalize l.getD (i * 3 + t) 0 = x at *
            have hfl := foldN_le hco1.1 hco1.2
            have hl4 := sevL_len4 hfl
            have HL4 := Lib.hid hl4
            have HTw := Lib.hid fun W => refTwice_any x W hco1.1 hco1.2
            have HPP := Lib.hid hpu
            obtain ⟨A5, c5, rfl⟩ := own_shape hpu.1
            have hlen := hpu.2.2.1
            generalize bodyL n l (i * 3 + t) = m1 at *
            clear hpu hB3 hl4
            go_wp2_with (first
              | (go_at_call 104; refine (HTw.out _).mono ?_; rintro e w4 ⟨rfl, rfl⟩)
              | (go_at_call 103; refine (sevens_any _ _ (Nat.le_refl _) hfl _).mono ?_; rintro e w4 ⟨v4, rfl, hown4, hb4⟩; obtain ⟨A6, c6, rfl⟩ := own_shape hown4; obtain ⟨g6, rfl⟩ := ownB_block hown4 (sevL_pos _); have HO4 := Lib.hid hown4; have HP4 := Lib.hid (HPP.out.below hb4); clear hown4 hb4)
              | (at_builtin; refine wpList_pushM el_u8 rfl (.tmp 41) (.tmp 44) rfl w.heap.size _ m1.length _ HP4.out.1 rfl ⟨g6, 0, none⟩ (sevL (foldN x)).length c6 _ rfl (by simp) (ownB_news HO4.out) (ownB_one _) (by have := HL4.out; omega) (by have := HL4.out; omega) HP4.out.2.2.2 ?_; intro v7 w7 hown7 hg7 hl7))
            go_roundw
            case rel => exact ⟨t + 1, by omega, by go_num, by rw [show i * 3 + (t + 1) = i * 3 + t + 1 from by omega, HS.out]; exact HP4.out.push hown7 rfl HL4.out hg7 hl7⟩
            case measure => simp [intOf]; omega
          · obtain rfl : t = 3 := by omega
            go_wp2_with fail
            go_roundw
            case rel => exact ⟨i + 1, by omega, by go_num, by rw [show (i + 1) * 3 = i * 3 + 3 from by omega]; exact hpu.1, hpu.2.1.below_own HPu.out.1 (Nat.le_refl _) HPu.out.2.2.2 HB2.out⟩
            case measure => simp [intOf]; omega
      · obtain rfl : i = n := by omega
        have HS2 := Lib.hid (saveL_eq i l)
        have HL := bodyL_len (n := i) (l := l) hn150 (i * 3) HCo.out
        have hwf := bodyL_wf i l (i * 3)
        have HSm := Lib.hid fun W (hb : Below wr.heap.size wr W) => refImageSum_s _ _ W wr.heap.size hb.size ((own_ints hown (by omega) hwf).below hb)
        generalize hmm : bodyL i l (i * 3) = m at *
        have HMM := Lib.hid hmm
        have hs := sumL_lt m
        have HO := Lib.hid hown
        have HBe := Lib.hid hbel
        obtain ⟨A2, c3, rfl⟩ := own_shape hown
        generalize sumL m = s at *
        clear hmm hown hbel hwf HB3 HO3 hr
        go_wp2_with (first
          | (go_at_call 46; refine (HSm.out _ (Below.refl _ _)).mono ?_; rintro e w4 ⟨rfl, hb4⟩; have HB4 := Lib.hid hb4; clear hb4))
        have hz4 := HB4.out.size
        have hzw := HBe.out.size
        have HBk : Hid (Blk (w4.alloc (.cells #[.int .i64 16777216, .int .i64 65536, .int .i64 256, .int .i64 1] 3)) w4.heap.size 3 #[.int .i64 16777216, .int .i64 65536, .int .i64 256, .int .i64 1]) := Lib.hid (Blk.new _ _ _)
        have HO4 : Hid (OwnB (w4.alloc (.cells #[.int .i64 16777216, .int .i64 65536, .int .i64 256, .int .i64 1] 3)) w.heap.size (.slice A2 m.length c3) m) := Lib.hid ((own_size HO.out HB4.out).alloc _)
        have HNe : Hid ((Value.slice A2 m.length c3).ownBlock ≠ some w4.heap.size) := Lib.hid (ne_own HO.out hz4)
        have HB5 := Lib.hid ((HBe.out.trans (HB4.out.mono hzw)).alloc (by omega) (.cells #[.int .i64 16777216, .int .i64 65536, .int .i64 256, .int .i64 1] 3))
        have hzW : w.heap.size ≤ (w4.alloc (.cells #[.int .i64 16777216, .int .i64 65536, .int .i64 256, .int .i64 1] 3)).heap.size := by simp; omega
        generalize hW : w4.alloc (.cells #[.int .i64 16777216, .int .i64 65536, .int .i64 256, .int .i64 1] 3) = W at *
        clear hW
        go_loopw [5, 12, 52] (fun bv _ tv w2 => ∃ t : Nat, t ≤ 4 ∧ tv = .int .i64 t ∧ OwnB w2 w.heap.size bv (m ++ (tailL s).take t) ∧ Grew W w2 (.slice A2 m.length c3) bv) (fun _ _ tv _ => 4 - (intOf tv).toNat)
        case atStart => exact ⟨0, by omega, rfl, by rw [List.take_zero, List.append_nil]; exact HO4.out, Grew.refl _ _⟩
        case round =>
          obtain ⟨t, ht, rfl, hown, hgr⟩ := hrel
          have hz5 := hgr.size
          by_cases hlt4 : t < 4
          · have hB3 := hgr.blk HBk.out HNe.out
            obtain ⟨A5, c5, rfl⟩ := own_shape hown
            have HO5 := Lib.hid hown
            have HG5 := Lib.hid hgr
            have hll : (m ++ (tailL s).take t).length = m.length + t := by rw [List.length_append, List.length_take, tailL_len]; omega
            have HLL := Lib.hid hll
            have hle : (m ++ (tailL s).take t).length ≤ 5000 := by omega
            rcases (show t = 0 ∨ t = 1 ∨ t = 2 ∨ t = 3 from by omega) with rfl | rfl | rfl | rfl
            all_goals
              have k0 := hB3.cell 0
              have k1 := hB3.cell 1
              have k2 := hB3.cell 2
              have k3 := hB3.cell 3
              simp at k0 k1 k2 k3
              clear hown hgr hB3 hll
              generalize hmm : m ++ (tailL s).take _ = m5 at *
              have HM5 := Lib.hid hmm
              clear hmm
              go_wp2_with (at_builtin; refine wpList_pushD el_u8 rfl (.tmp 56) (.tmp 62) rfl w.heap.size _ m5.length _ (HO5.out.alloc _) rfl wr.heap.size 1 _ rfl (by simp; rfl) rfl (by omega) (by omega) (by simp; omega) ?_; intro v' w6 hown6 hg6 hl6)
              go_roundw
              case rel =>
                first
                  | refine ⟨1, by decide, rfl, ?_, (HG5.out.alloc _).push hg6 hl6⟩
                  | refine ⟨2, by decide, rfl, ?_, (HG5.out.alloc _).push hg6 hl6⟩
                  | refine ⟨3, by decide, rfl, ?_, (HG5.out.alloc _).push hg6 hl6⟩
                  | refine ⟨4, by decide, rfl, ?_, (HG5.out.alloc _).push hg6 hl6⟩
                rw [tailL_eq] at HM5 ⊢
                have e := HM5.out
                unfold OwnB
                simp only [List.take_zero, List.take_succ_cons, List.take_nil, List.append_nil, ← e, List.length_append, List.length_cons, List.length_nil, List.map_append, List.map_cons, List.map_nil] at hown6 ⊢
                simpa [Nat.add_assoc] using hown6
              case measure => simp [intOf]
          · obtain rfl : t = 4 := by omega
            have HOw := Lib.hid hown
            have HGr := Lib.hid hgr
            clear hown hgr
            go_wp2_with fail
            go_ret2
            refine ⟨_, by rw [HP.out]; rfl, ?_, HGr.out.below_own HO4.out (Nat.le_refl _) hzW HB5.out⟩
            rw [HSv.out]
            have hll : (saveL i l).length = m.length + 4 := by rw [HS2.out, List.length_append, tailL_len]
            have h5 := HOw.out
            rw [List.take_of_length_le (by rw [tailL_len]; exact Nat.le_refl _), ← HS2.out] at h5
            exact own_ints h5 (by omega) (saveL_wf i l)
end Go.Proofs.Ytaipnjoeejgnnaa
