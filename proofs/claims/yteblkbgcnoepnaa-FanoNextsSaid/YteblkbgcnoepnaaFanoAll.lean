/-
  Contract of fano.all: the numbers at the first marks. Conditions: the struct can be read as data.
-/
import Derived.Test.YteblkbgcnoepnaaRefFanoReadBad
import Derived.Test.YteblkbgcnoepnaaBitsSelect
import Derived.Test.YteblkbgcnoepnaaPackMay
namespace Go.Proofs.Yteblkbgcnoepnaa
open Go Go.RowKit Go.Dam
set_option linter.unusedVariables false
set_option maxRecDepth 100000 in
set_option maxHeartbeats 1000000 in
theorem fanoAll_bad (v : Value) (bd n1 m1 : Int) (ws1 : List Nat) (n2 : Int) (ws2 : List Nat) (l : List Int) (w : World) (B : Nat) (hB : B ≤ w.heap.size) (h : IsFano w B v bd n1 m1 ws1 n2 ws2)
    (hok : mayPacked n1 m1 ws1 = false ∨ mayBits n2 ws2 = false) :
    Calls Try.prog 78 #[v] w (GivesRead l false w) := by
  obtain ⟨s1, s2, rfl, hbd, hn1, hm1, hn2, h1, h2⟩ := h
  have HM1 := Lib.hid fun W (hW : Below w.heap.size w W) => packMay_any (.agg #[.int .i64 n1, .int .i64 m1, s1]) n1 m1 ws1 W B (Nat.le_trans hB hW.size) ⟨_, rfl, hn1, hm1, h1.below (hW.mono hB)⟩
  have HM2 := Lib.hid fun W (hW : Below w.heap.size w W) => may_any (.agg #[.int .i64 n2, s2]) n2 ws2 W B (Nat.le_trans hB hW.size) ⟨_, rfl, hn2, h2.below (hW.mono hB)⟩
  have HBk := Lib.hid (Blk.new w 45 #[.int .i64 bd, .int .i64 n1, .int .i64 m1, s1, .int .i64 n2, s2])
  have HA := Lib.hid ((Below.refl w.heap.size w).alloc (Nat.le_refl _) (.cells #[.int .i64 bd, .int .i64 n1, .int .i64 m1, s1, .int .i64 n2, s2] 45))
  clear h1 h2 hbd hn1 hm1 hn2
  cases e1 : mayPacked n1 m1 ws1 with
  | false =>
    rw [e1] at HM1
    clear hok e1
    go_enter Try.func78, Try.ntmps78
    go_wp2_with (go_at_call 87; refine (HM1.out _ HA.out).mono ?_; rintro e w1 ⟨rfl, hb1⟩; have HB1 := Lib.hid (below_box hb1); clear hb1)
    go_ret2
    exact givesRead_no rfl HB1.out
  | true =>
    have e2 : mayBits n2 ws2 = false := by rcases hok with h | h; · rw [e1] at h; cases h
                                           · exact h
    rw [e1] at HM1
    rw [e2] at HM2
    clear hok e1 e2
    go_enter Try.func78, Try.ntmps78
    go_wp2_with (first
      | (go_at_call 87; refine (HM1.out _ HA.out).mono ?_; rintro e w1 ⟨rfl, hb1⟩; have hz1 := size_box hb1; have k4 := (HBk.out.below hb1 HBk.out.lt).cell 4; have k5 := (HBk.out.below hb1 HBk.out.lt).cell 5; have HB1 := Lib.hid (below_box hb1); clear hb1)
      | (go_at_call 42; refine (HM2.out _ HB1.out).mono ?_; rintro e w2 ⟨rfl, hb2⟩; have HB2 := Lib.hid (HB1.out.trans (hb2.mono HB1.out.size)); clear hb2))
    go_ret2
    exact givesRead_no rfl HB2.out
set_option maxRecDepth 100000 in
set_option maxHeartbeats 1000000 in
theorem fanoAll_good (bd : Int) (A1 A2 : Option Addr) (c1 c2 : Nat) (N1 W : Nat) (ws1 : List Nat) (N2 : Nat) (ws2 : List Nat) (ok : Bool) (w : World) (B : Nat) (hB : B ≤ w.heap.size)
    (h1 : IsWords w B (.slice A1 ws1.length c1) ws1) (h2 : IsWords w B (.slice A2 ws2.length c2) ws2)
    (hM1 : mayPacked N1 W ws1 = true) (hM2 : mayBits N2 ws2 = true) (hok : ok = true ↔ N1 ≤ cntB ws2 true N2) :
    Calls Try.prog 78 #[.agg #[.int .i64 bd, .int .i64 N1, .int .i64 W, .slice A1 ws1.length c1, .int .i64 N2, .slice A2 ws2.length c2]] w (GivesRead ((readTo ws1 ws2 W N2).take N1) ok w) := by
  obtain ⟨_, hN1, _, hW62, _⟩ := packed_facts hM1
  obtain ⟨_, hN2, _⟩ := may_facts hM2
  have hN1' : N1 ≤ 300 := by omega
  have hW' : W ≤ 62 := by omega
  have hN2' : N2 ≤ 4096 := by omega
  have i1 : I64 (N1 : Int) := by unfold I64; omega
  have i2 : I64 (W : Int) := by unfold I64; omega
  have i3 : I64 (N2 : Int) := by unfold I64; omega
  have HMay1 := Lib.hid hM1
  have HMay2 := Lib.hid hM2
  have HM1 := Lib.hid fun Wd (hW : Below w.heap.size w Wd) => packMay_any (.agg #[.int .i64 N1, .int .i64 W, .slice A1 ws1.length c1]) N1 W ws1 Wd B (Nat.le_trans hB hW.size) ⟨_, rfl, i1, i2, h1.below (hW.mono hB)⟩
  rw [hM1] at HM1
  have HM2 := Lib.hid fun Wd (hW : Below w.heap.size w Wd) => may_any (.agg #[.int .i64 N2, .slice A2 ws2.length c2]) N2 ws2 Wd B (Nat.le_trans hB hW.size) ⟨_, rfl, i3, h2.below (hW.mono hB)⟩
  rw [hM2] at HM2
  have HSe := Lib.hid fun Wd (hW : Below w.heap.size w Wd) k r cc (hk : I64 k) (hR : BSelR N2 ws2 true k r cc) => bitsSelect_any (.agg #[.int .i64 N2, .slice A2 ws2.length c2]) N2 k true ws2 r cc Wd B (Nat.le_trans hB hW.size) ⟨_, rfl, i3, h2.below (hW.mono hB)⟩ hk hR
  have HPA := Lib.hid fun Wd (hW : Below w.heap.size w Wd) i r cc (hi : I64 i) (hR : PackAtR N1 W ws1 i r cc) => packAt_any (.agg #[.int .i64 N1, .int .i64 W, .slice A1 ws1.length c1]) N1 W i ws1 r cc Wd B (Nat.le_trans hB hW.size) ⟨_, rfl, i1, i2, h1.below (hW.mono hB)⟩ hi hR
  have HBk := Lib.hid (Blk.new w 45 #[.int .i64 bd, .int .i64 N1, .int .i64 W, .slice A1 ws1.length c1, .int .i64 N2, .slice A2 ws2.length c2])
  have HA := Lib.hid ((Below.refl w.heap.size w).alloc (Nat.le_refl _) (.cells #[.int .i64 bd, .int .i64 N1, .int .i64 W, .slice A1 ws1.length c1, .int .i64 N2, .slice A2 ws2.length c2] 45))
  have HOk := Lib.hid hok
  have HRlen := Lib.hid (readTo_length ws1 ws2 W N2)
  have HR64 := Lib.hid (readTo_i64 ws1 ws2 W hW' N2)
  have HCle := Lib.hid (cntB_le ws2 true N2)
  clear h1 h2 hM1 hM2 hok hN1 hW62 hN2 i1 i2 i3
  go_enter Try.func78, Try.ntmps78
  go_wp2_with (first
    | (go_at_call 87; refine (HM1.out _ HA.out).mono ?_; rintro e w1 ⟨rfl, hb1⟩; have hz1 := size_box hb1; have HK1 := Lib.hid (HBk.out.below hb1 HBk.out.lt); have k14 := HK1.out.cell 4; have k15 := HK1.out.cell 5; have HB1 := Lib.hid (below_box hb1); clear hb1)
    | (go_at_call 42; refine (HM2.out _ HB1.out).mono ?_; rintro e w2 ⟨rfl, hb2⟩; have hz2 := hb2.size; have HK2 := Lib.hid (HK1.out.below hb2 (by omega)); have k21 := HK2.out.cell 1; have HB2 := Lib.hid (HB1.out.trans (hb2.mono HB1.out.size)); clear hb2 k14 k15))
  clear HM1 HM2 HBk HA k21
  go_loopw [4, 23] (fun ov iv wr => ∃ i : Nat, i ≤ N1 ∧ iv = .int .i64 i ∧ i ≤ cntB ws2 true N2 ∧ wr.ownsRow w2.heap.size 3 1 ov i (((readTo ws1 ws2 W N2).take i).map (Value.int .i64)) ∧ Below w2.heap.size w2 wr) (fun _ iv _ => N1 - (intOf iv).toNat)
  case atStart => exact ⟨0, by omega, rfl, by omega, by rw [List.take_zero]; exact World.ownsRow_nil _ _ _ _, Below.refl _ _⟩
  case round =>
    obtain ⟨i, hi, rfl, hcn, hown, hbel⟩ := hrel
    obtain ⟨Ao, co, rfl⟩ := own_shape hown
    have hz4 := hbel.size
    have HK4 := Lib.hid (HK2.out.below hbel (by omega))
    have HB4 := Lib.hid (HB2.out.trans (hbel.mono HB2.out.size))
    have HO := Lib.hid hown
    have HBe := Lib.hid hbel
    clear hown hbel
    by_cases hlt : i < N1
    · have k41 := HK4.out.cell 1
      have k42 := HK4.out.cell 2
      have k43 := HK4.out.cell 3
      have k44 := HK4.out.cell 4
      have k45 := HK4.out.cell 5
      by_cases hin : i < cntB ws2 true N2
      · obtain ⟨p, hp, hbit, hcp⟩ := cntB_place (ws := ws2) (one := true) (k := i) N2 (by omega)
        have hple := cntB_le ws2 true p
        rw [hcp] at hple
        obtain ⟨x, hx⟩ : ∃ x, x = numAt ws1 (i * W) W := ⟨_, rfl⟩
        have hsel : SelK N2 ws2 true i (p : Nat) 0 := by
          obtain ⟨r, c, hs⟩ := SelK.ex N2 ws2 true i
          rcases hs.at_ hbit hcp with ⟨_, rfl, rfl⟩ | ⟨h, _⟩
          · exact hs
          · omega
        have HS := Lib.hid fun Wd (hW : Below w.heap.size w Wd) => HSe.out Wd hW (i : Nat) (p : Nat) 0 (by unfold I64; omega) (.inr (.inr ⟨HMay2.out, by omega, by rw [Int.toNat_natCast, Int.toNat_natCast]; exact hsel⟩))
        clear hsel
        have HP := Lib.hid fun Wd (hW : Below w.heap.size w Wd) => HPA.out Wd hW (i : Nat) (x : Nat) 0 (by unfold I64; omega) (.inr (.inr ⟨HMay1.out, by omega, by omega, by rw [hx]; rfl, rfl⟩))
        have HV2 := Lib.hid (valF_or ws1 W p i hW')
        have HT := Lib.hid (readTo_take_succ ws1 ws2 W p N2 hp hbit)
        rw [hcp] at HT
        rw [← hx] at HV2
        have hsub : (p : Int) - (i : Int) = ((p - i : Nat) : Int) := by omega
        have hpw : (2 : Int) ^ W = ((2 ^ W : Nat) : Int) := by simp
        have hp62 : 2 ^ W ≤ 2 ^ 62 := Nat.pow_le_pow_right (by decide) hW'
        clear hx hcp hbit
        generalize 2 ^ W = Q at *
        go_wp2_with (first
          | (go_at_call 17; refine (HS.out _ HB4.out).mono ?_; rintro e w4 ⟨rfl, hb4⟩; have hz41 := hb4.size; have HK5 := Lib.hid (HK4.out.below hb4 (by omega)); have k51 := HK5.out.cell 1; have k52 := HK5.out.cell 2; have k53 := HK5.out.cell 3; have HB5 := Lib.hid (HB4.out.trans (hb4.mono HB4.out.size)); have HBe5 := Lib.hid (HBe.out.trans (hb4.mono hz4)); have HO5 := Lib.hid (own_size HO.out hb4); clear hb4)
          | (go_at_call 88; refine (HP.out _ HB5.out).mono ?_; rintro e w5 ⟨rfl, hb5⟩; have hz5 := hb5.size; have HK6 := Lib.hid (HK5.out.below hb5 (by omega)); have k62 := HK6.out.cell 2; have HBe6 := Lib.hid (HBe5.out.trans (hb5.mono (by omega))); have HO6 := Lib.hid (own_size HO5.out hb5); clear hb5)
          | (at_builtin; refine wpList_push el_int rfl (.tmp 42) (.tmp 52) rfl w2.heap.size (.slice Ao i co) i _ (HO6.out.alloc _) rfl w5.heap.size 1 _ rfl (new_cell (by simp)) rfl (by omega) (by omega) (by simp; omega) ?_; intro v' w6 hown6 hg6))
        have e6 : ((readTo ws1 ws2 W N2).take i).map (Value.int .i64) ++ [.int .i64 (bits .or .i64 (wrap64 (((p - i : Nat) : Int) * (Q : Int))) (x : Int))] = ((readTo ws1 ws2 W N2).take (i + 1)).map (Value.int .i64) := by rw [HT.out, HV2.out, List.map_append]; rfl
        rw [e6] at hown6
        go_roundw
        case rel => exact ⟨i + 1, by omega, by go_num, by omega, hown6, below_push (HBe6.out.alloc (by omega) _) (HO6.out.alloc _) (by omega) (by simp; omega) hg6⟩
        case measure => simp [intOf]; omega
      · have hno : Hid (ok = false) := Lib.hid (by
          cases hk : ok with
          | false => rfl
          | true =>
            have := HOk.out.1 hk
            omega)
        have hsel : SelK N2 ws2 true i 0 7 := by
          obtain ⟨r, c, hs⟩ := SelK.ex N2 ws2 true i
          obtain ⟨rfl, rfl⟩ := hs.none_ (by omega)
          exact hs
        have HS := Lib.hid fun Wd (hW : Below w.heap.size w Wd) => HSe.out Wd hW (i : Nat) 0 7 (by unfold I64; omega) (.inr (.inr ⟨HMay2.out, by omega, by rw [Int.toNat_natCast, Int.toNat_natCast]; exact hsel⟩))
        clear hsel
        clear HOk hin
        go_wp2_with (first
          | (go_at_call 17; refine (HS.out _ HB4.out).mono ?_; rintro e w4 ⟨rfl, hb4⟩; have HB5 := Lib.hid (HB4.out.trans (hb4.mono HB4.out.size)); clear hb4))
        go_ret2
        exact givesRead_no hno.out HB5.out
    · obtain rfl : i = N1 := by omega
      have hyes : Hid (ok = true) := Lib.hid (HOk.out.2 hcn)
      have hlen : ((readTo ws1 ws2 W N2).take i).length = i := by rw [List.length_take, HRlen.out]; omega
      have HLen := Lib.hid hlen
      have HIns := Lib.hid (own_ints HO.out (by rw [hlen]; omega) (fun z hz => int_wf (HR64.out z (List.mem_of_mem_take hz))))
      clear hlen HOk
      go_wp2_with fail
      go_ret2
      exact ⟨Ao, co, _, by rw [hyes.out, HLen.out]; rfl, by rw [HLen.out]; exact HIns.out, fun _ => rfl, HB4.out⟩
theorem fanoAll_any (v : Value) (bd n1 m1 : Int) (ws1 : List Nat) (n2 : Int) (ws2 : List Nat) (ok : Bool) (w : World) (B : Nat) (hB : B ≤ w.heap.size) (h : IsFano w B v bd n1 m1 ws1 n2 ws2)
    (hok : ok = true ↔ mayPacked n1 m1 ws1 = true ∧ mayBits n2 ws2 = true ∧ n1 ≤ (cntB ws2 true n2.toNat : Int)) :
    Calls Try.prog 78 #[v] w (GivesRead ((listF m1 ws1 n2 ws2).take n1.toNat) ok w) := by
  by_cases hm : mayPacked n1 m1 ws1 = true ∧ mayBits n2 ws2 = true
  · obtain ⟨hM1, hM2⟩ := hm
    obtain ⟨p1, _, p3, _, _⟩ := packed_facts hM1
    obtain ⟨p2, _, _⟩ := may_facts hM2
    obtain ⟨N1, rfl⟩ := Int.eq_ofNat_of_zero_le p1
    obtain ⟨W, rfl⟩ := Int.eq_ofNat_of_zero_le p3
    obtain ⟨N2, rfl⟩ := Int.eq_ofNat_of_zero_le p2
    obtain ⟨s1, s2, rfl, hbd, _, _, _, h1, h2⟩ := h
    obtain ⟨A1, c1, rfl, _⟩ := id h1
    obtain ⟨A2, c2, rfl, _⟩ := id h2
    rw [listF_nat, Int.toNat_natCast]
    rw [Int.toNat_natCast] at hok
    exact fanoAll_good bd A1 A2 c1 c2 N1 W ws1 N2 ws2 ok w B hB h1 h2 hM1 hM2 (hok.trans ⟨fun g => by omega, fun g => ⟨hM1, hM2, by omega⟩⟩)
  · have hno : ok = false := by
      cases hk : ok with
      | false => rfl
      | true => exact absurd ⟨(hok.1 hk).1, (hok.1 hk).2.1⟩ hm
    subst hno
    exact fanoAll_bad v bd n1 m1 ws1 n2 ws2 _ w B hB h (by
      cases e : mayPacked n1 m1 ws1 with
      | false => exact .inl rfl
      | true =>
        cases e2 : mayBits n2 ws2 with
        | false => exact .inr rfl
        | true => exact absurd ⟨e, e2⟩ hm)
end Go.Proofs.Yteblkbgcnoepnaa
