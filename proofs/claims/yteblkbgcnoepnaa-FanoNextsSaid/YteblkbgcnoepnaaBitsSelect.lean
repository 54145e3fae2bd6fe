/-
  Contract of bits.Select: the place of the bit 'one' that has so many of them below, or why there is no answer. Conditions: the row can be read as data.
-/
import Derived.Test.YteblkbgcnoepnaaBitsAt
import Derived.Test.YteblkbgcnoepnaaPopSelect
import Derived.Test.YteblkbgcnoepnaaBitsCount
import Derived.Lib.Zigzag
namespace Go.Dam
open Go
theorem faced_yes (x : Nat) : faced true x = x := by unfold faced; simp
theorem faced_no (x : Nat) : faced false x = 18446744073709551615 - x := by unfold faced; simp
theorem cntB_lt {ws : List Nat} {one : Bool} {i j : Nat} (h : bitAt ws i = one) (hij : i < j) : cntB ws one i < cntB ws one j := by
  have h1 := cntB_yes h
  have h2 := cntB_mono ws one (i + 1) (j - (i + 1))
  rw [show i + 1 + (j - (i + 1)) = j from by omega] at h2
  omega
theorem cntB_place {ws : List Nat} {one : Bool} {k : Nat} : ∀ n, k < cntB ws one n → ∃ i, i < n ∧ bitAt ws i = one ∧ cntB ws one i = k
  | 0, h => by rw [cntB_0] at h; omega
  | n + 1, h => by
    by_cases hb : bitAt ws n = one
    · rw [cntB_yes hb] at h
      by_cases hk : k = cntB ws one n
      · exact ⟨n, by omega, hb, hk.symm⟩
      · obtain ⟨i, hi, h1, h2⟩ := cntB_place (ws := ws) (one := one) (k := k) n (by omega)
        exact ⟨i, by omega, h1, h2⟩
    · rw [cntB_no hb] at h
      obtain ⟨i, hi, h1, h2⟩ := cntB_place n h
      exact ⟨i, by omega, h1, h2⟩
/-- What Select answers for a k of 0 or more, of the first n bits. -/
def SelK (n : Nat) (ws : List Nat) (one : Bool) (k : Nat) (r c : Int) : Prop :=
  (∃ i : Nat, i < n ∧ bitAt ws i = one ∧ cntB ws one i = k ∧ r = i ∧ c = 0) ∨ (cntB ws one n ≤ k ∧ r = 0 ∧ c = 7)
theorem SelK.ex (n : Nat) (ws : List Nat) (one : Bool) (k : Nat) : ∃ r c, SelK n ws one k r c := by
  by_cases h : cntB ws one n ≤ k
  · exact ⟨_, _, .inr ⟨h, rfl, rfl⟩⟩
  · obtain ⟨i, h1, h2, h3⟩ := cntB_place (ws := ws) (one := one) (k := k) n (by omega)
    exact ⟨_, _, .inl ⟨i, h1, h2, h3, rfl, rfl⟩⟩
theorem SelK.at_ {n : Nat} {ws : List Nat} {one : Bool} {k : Nat} {r c : Int} (h : SelK n ws one k r c) {j : Nat} (hj : bitAt ws j = one) (hk : cntB ws one j = k) : (j < n ∧ r = j ∧ c = 0) ∨ (n ≤ j ∧ r = 0 ∧ c = 7) := by
  rcases h with ⟨i, hi, hb, hc, rfl, rfl⟩ | ⟨h, rfl, rfl⟩
  · rcases Nat.lt_trichotomy i j with h | h | h
    · have := cntB_lt hb h; omega
    · subst h; exact .inl ⟨hi, rfl, rfl⟩
    · have := cntB_lt hj h; omega
  · rcases Nat.lt_or_ge j n with h1 | h1
    · have := cntB_lt hj h1; omega
    · exact .inr ⟨h1, rfl, rfl⟩
theorem SelK.none_ {n : Nat} {ws : List Nat} {one : Bool} {k : Nat} {r c : Int} (h : SelK n ws one k r c) (hk : cntB ws one n ≤ k) : r = 0 ∧ c = 7 := by
  rcases h with ⟨i, hi, hb, hc, rfl, rfl⟩ | ⟨h, rfl, rfl⟩
  · have := cntB_lt hb hi; omega
  · exact ⟨rfl, rfl⟩
attribute [irreducible] SelK
/-- What Select answers. -/
def BSelR (n : Int) (ws : List Nat) (one : Bool) (k r c : Int) : Prop :=
  (mayBits n ws = false ∧ r = 0 ∧ c = 4) ∨ (mayBits n ws = true ∧ k < 0 ∧ r = 0 ∧ c = 2) ∨ (mayBits n ws = true ∧ 0 ≤ k ∧ SelK n.toNat ws one k.toNat r c)
theorem BSelR.ex (n : Int) (ws : List Nat) (one : Bool) (k : Int) : ∃ r c, BSelR n ws one k r c := by
  cases hm : mayBits n ws with
  | false => exact ⟨_, _, .inl ⟨hm, rfl, rfl⟩⟩
  | true =>
    by_cases h : k < 0
    · exact ⟨_, _, .inr (.inl ⟨hm, h, rfl, rfl⟩)⟩
    · obtain ⟨r, c, h1⟩ := SelK.ex n.toNat ws one k.toNat
      exact ⟨r, c, .inr (.inr ⟨hm, by omega, h1⟩)⟩
end Go.Dam
namespace Go.Proofs.Yteblkbgcnoepnaa
open Go Go.RowKit Go.Dam
set_option linter.unusedVariables false
set_option maxHeartbeats 1000000 in
theorem bitsSelect_any (v : Value) (n k : Int) (one : Bool) (ws : List Nat) (r cc : Int) (w : World) (B : Nat) (hB : B ≤ w.heap.size) (h : IsBits w B v n ws) (hk64 : I64 k) (hR : BSelR n ws one k r cc) :
    Calls Try.prog 17 #[v, .bool one, .int .i64 k] w fun e w' => e = .returned (.tuple #[.int .i64 r, .int .i64 cc]) ∧ Below w.heap.size w w' := by
  obtain ⟨s, rfl, hs⟩ : ∃ s, v = .agg #[.int .i64 n, s] ∧ IsWords w B s ws := by
    obtain ⟨s, e, _, hs⟩ := h
    exact ⟨s, e, hs⟩
  have hA : IsBits (w.alloc (.cells #[.int .i64 n, s] 24)) B (.agg #[.int .i64 n, s]) n ws := h.below ((Below.refl _ _).alloc hB _)
  have HA := Lib.hid (fun W (hW : Below B w W) (hz : B ≤ W.heap.size) => may_any (.agg #[.int .i64 n, s]) n ws W B hz (h.below hW))
  unfold I64 at hk64
  rcases hR with ⟨hm, rfl, rfl⟩ | ⟨hm, hi, rfl, rfl⟩ | ⟨hm, h1, hS⟩
  · clear h hA hs
    go_enter Try.func17, Try.ntmps17
    go_wp2_with (go_at_call 42; refine (HA.out _ ((Below.refl _ _).alloc hB _) (box_le hB)).mono ?_; rintro e w1 ⟨rfl, hb⟩)
    go_ret2
    exact ⟨rfl, below_box hb⟩
  · clear h hA hs
    go_enter Try.func17, Try.ntmps17
    go_wp2_with (go_at_call 42; refine (HA.out _ ((Below.refl _ _).alloc hB _) (box_le hB)).mono ?_; rintro e w1 ⟨rfl, hb⟩; obtain ⟨k0, k1⟩ := box2 hb)
    go_ret2
    exact ⟨rfl, below_box hb⟩
  · obtain ⟨h3, h4, h5⟩ := may_facts hm
    obtain ⟨k, rfl⟩ := Int.eq_ofNat_of_zero_le h1
    obtain ⟨n, rfl⟩ := Int.eq_ofNat_of_zero_le h3
    obtain ⟨A, c, rfl, hc, hcm, hl, hr, hw⟩ := hs
    rw [Int.toNat_natCast, Int.toNat_natCast] at hS
    have hn4 : n ≤ 4096 := by omega
    have hwl : ws.length ≤ 64 := by omega
    have hnl : n ≤ 64 * ws.length := by omega
    have HCW := Lib.hid fun q r hr => cntB_word ws one q (word_lt hw q) r hr
    have HS := Lib.hid hS
    clear h hA h5 hS
    go_enter Try.func17, Try.ntmps17
    go_wp2_with (go_at_call 42; refine (HA.out _ ((Below.refl _ _).alloc hB _) (box_le hB)).mono ?_; rintro e w1 ⟨rfl, hb⟩; obtain ⟨k0, k1⟩ := box2 hb)
    go_loopw [2, 23] (fun kv iv wr => ∃ q : Nat, q ≤ ws.length ∧ iv = .int .i64 q ∧ (∃ d : Nat, kv = .int .i64 d ∧ d + cntB ws one (64 * q) = k) ∧ Below (w.heap.size + 1) w1 wr) (fun _ iv _ => ws.length - (intOf iv).toNat)
    case atStart => exact ⟨0, by omega, rfl, ⟨k, rfl, by rw [Nat.mul_zero, cntB_0]; rfl⟩, Below.refl _ _⟩
    case round =>
      obtain ⟨q, hq, rfl, ⟨d, rfl, hd⟩, hbel⟩ := hrel
      have k0r := (hbel.cell (p := ⟨w.heap.size, 0, none⟩) (by simp)).trans k0
      by_cases hlt : q < ws.length
      · obtain ⟨b, off, rfl, hbB, hcells⟩ := word_at hr (by omega)
        have hcell := hcells q (by omega)
        have hx := word_lt hw q
        have k2 := (hbel.cell (p := ⟨b, off + q, none⟩) (by simp; omega)).trans (old_cell hb (show b < w.heap.size by omega) hcell)
        obtain ⟨x, hxx⟩ : ∃ x, x = ws.getD q 0 := ⟨_, rfl⟩
        rw [← hxx] at hcell hx k2
        obtain ⟨y, hy⟩ : ∃ y, y = faced one x := ⟨_, rfl⟩
        have hyl : y < 18446744073709551616 := by rw [hy]; exact faced_lt hx
        cases one with
        | true =>
        have hyx : y = x := by rw [hy, faced_yes]
        by_cases h6 : d < cnt y 64
        · obtain ⟨p, hp, hb1, hb2⟩ := sel_ex y d 64 h6
          have hAt : bitAt ws (64 * q + p) = true := by
            have := faced_bit true hx hp
            rw [← hy, hb1] at this
            unfold bitAt
            rw [show (64 * q + p) / 64 = q from by omega, show (64 * q + p) % 64 = p from by omega, ← hxx]
            simpa using this.symm
          have hcn : cntB ws true (64 * q + p) = k := by rw [HCW.out q p (by omega), ← hxx, ← hy, hb2]; omega
          have hres := HS.out.at_ hAt hcn
          have HO := Lib.hid fun W => ones_any y W hyl
          have HSE := Lib.hid fun W => select_some y d p W hyl hp hb1 hb2
          have H6 : Hid (d < cnt y 64) := Lib.hid h6
          obtain ⟨t, ht⟩ : ∃ t, t = cnt y 64 := ⟨_, rfl⟩
          rw [← ht] at HO h6
          have HB := Lib.hid hbel
          clear hcells hcell hxx hAt hcn hb1 hb2 ht hy hbel H6
          subst hyx
          rcases hres with ⟨o1, rfl, rfl⟩ | ⟨o1, rfl, rfl⟩
          all_goals
            go_wp2_with (first
              | (go_at_call 43; refine (HO.out _).mono ?_; rintro e w2 ⟨rfl, rfl⟩)
              | (go_at_call 47; refine (HSE.out _).mono ?_; rintro e w2 ⟨rfl, hd2⟩; have k3 := (hd2.cell ⟨w.heap.size, 0, none⟩).trans k0r))
            go_ret2
            exact ⟨ret2 (vint (by omega)) rfl, (below_box hb).trans ((HB.out.trans (hd2.below _)).mono (by omega))⟩
        · have HW := Lib.hid (HCW.out q 64 (by omega))
          rw [← hxx, ← hy] at HW
          have HO := Lib.hid fun W => ones_any y W hyl
          obtain ⟨t, ht⟩ : ∃ t, t = cnt y 64 := ⟨_, rfl⟩
          rw [← ht] at HO h6 HW
          have HB := Lib.hid hbel
          clear hcells hcell hxx ht hy hbel
          subst hyx
          go_wp2_with (go_at_call 43; refine (HO.out _).mono ?_; rintro e w2 ⟨rfl, rfl⟩)
          go_roundw
          case rel => exact ⟨q + 1, by omega, by go_num, ⟨d - t, vint (by omega), by rw [show 64 * (q + 1) = 64 * q + 64 from by omega, HW.out]; omega⟩, HB.out⟩
          case measure => simp [intOf]; omega
        | false =>
        have ex : bits .xor .u64 IntKind.u64.max (x : Int) = (y : Int) := by
          have e2 : IntKind.u64.max = ((2 ^ 64 - 1 : Nat) : Int) := by decide
          rw [hy, faced_no, e2, bits_xor_u64_nat _ _ (by decide) hx, Lib.xor_ones64 _ (by omega)]
        by_cases h6 : d < cnt y 64
        · obtain ⟨p, hp, hb1, hb2⟩ := sel_ex y d 64 h6
          have hAt : bitAt ws (64 * q + p) = false := by
            have := faced_bit false hx hp
            rw [← hy, hb1] at this
            unfold bitAt
            rw [show (64 * q + p) / 64 = q from by omega, show (64 * q + p) % 64 = p from by omega, ← hxx]
            simpa using this.symm
          have hcn : cntB ws false (64 * q + p) = k := by rw [HCW.out q p (by omega), ← hxx, ← hy, hb2]; omega
          have hres := HS.out.at_ hAt hcn
          have HO := Lib.hid fun W => ones_any y W hyl
          have HO2 : Hid (∀ W, Calls Try.prog 43 #[.int .u64 (bits .xor .u64 IntKind.u64.max (x : Int))] W fun e w' => e = .returned (.int .i64 (cnt y 64)) ∧ W = w') := by rw [ex]; exact HO
          have HSE := Lib.hid fun W => select_some y d p W hyl hp hb1 hb2
          have HSE2 : Hid (∀ W, Calls Try.prog 47 #[.int .u64 (bits .xor .u64 IntKind.u64.max (x : Int)), .int .i64 d] W fun e w' => e = .returned (.tuple #[.int .i64 p, .int .i64 0]) ∧ Drawn W w') := by rw [ex]; exact HSE
          have H6 : Hid (d < cnt y 64) := Lib.hid h6
          obtain ⟨t, ht⟩ : ∃ t, t = cnt y 64 := ⟨_, rfl⟩
          rw [← ht] at HO HO2 h6
          have HB := Lib.hid hbel
          clear hcells hcell hxx hAt hcn hb1 hb2 ht hy hbel H6
          rcases hres with ⟨o1, rfl, rfl⟩ | ⟨o1, rfl, rfl⟩
          all_goals
            go_wp2_with (first
              | (go_at_call 43; (first | with_reducible refine (HO.out _).mono ?_ | with_reducible refine (HO2.out _).mono ?_); rintro e w2 ⟨rfl, rfl⟩)
              | (go_at_call 47; (first | with_reducible refine (HSE.out _).mono ?_ | with_reducible refine (HSE2.out _).mono ?_); rintro e w2 ⟨rfl, hd2⟩; have k3 := (hd2.cell ⟨w.heap.size, 0, none⟩).trans k0r))
            go_ret2
            exact ⟨ret2 (vint (by omega)) rfl, (below_box hb).trans ((HB.out.trans (hd2.below _)).mono (by omega))⟩
        · have HW := Lib.hid (HCW.out q 64 (by omega))
          rw [← hxx, ← hy] at HW
          have HO := Lib.hid fun W => ones_any y W hyl
          have HO2 : Hid (∀ W, Calls Try.prog 43 #[.int .u64 (bits .xor .u64 IntKind.u64.max (x : Int))] W fun e w' => e = .returned (.int .i64 (cnt y 64)) ∧ W = w') := by rw [ex]; exact HO
          obtain ⟨t, ht⟩ : ∃ t, t = cnt y 64 := ⟨_, rfl⟩
          rw [← ht] at HO HO2 h6 HW
          have HB := Lib.hid hbel
          clear hcells hcell hxx ht hy hbel
          go_wp2_with (go_at_call 43; (first | with_reducible refine (HO.out _).mono ?_ | with_reducible refine (HO2.out _).mono ?_); rintro e w2 ⟨rfl, rfl⟩)
          go_roundw
          case rel => exact ⟨q + 1, by omega, by go_num, ⟨d - t, vint (by omega), by rw [show 64 * (q + 1) = 64 * q + 64 from by omega, HW.out]; omega⟩, HB.out⟩
          case measure => simp [intOf]; omega
      · obtain rfl : q = ws.length := by omega
        obtain ⟨rfl, rfl⟩ := HS.out.none_ (by
          have := cntB_mono ws one n (64 * ws.length - n)
          rw [show n + (64 * ws.length - n) = 64 * ws.length from by omega] at this
          omega)
        have HB := Lib.hid hbel
        clear hr hw hlt hbel
        go_wp2
        go_ret2
        exact ⟨rfl, (below_box hb).trans (HB.out.mono (by omega))⟩
end Go.Proofs.Yteblkbgcnoepnaa
