/-
  Texts of one claim behind each other. Conditions: none of its own.
-/
import Derived.Test.YtdmfhpigchbcbaaMTopCover03
import Derived.Test.YtdmfhpigchbcbaaMTopCover11
import Derived.Test.YtdmfhpigchbcbaaMTopCover00
import Derived.Test.YtdmfhpigchbcbaaMTopCover13
import Derived.Test.YtdmfhpigchbcbaaMTopCover15
/-
  Contracts of math/bits.OnesCount64, pop.Ones and pop.Rank: they count the set bits. Conditions: the word is below 2 to the 64th, as every uint64 is.
-/
namespace Go.Proofs.Ytdmfhpigchbcbaa
open Go Go.RowKit Go.Dam
set_option linter.unusedVariables false

set_option maxHeartbeats 400000 in
theorem ones64_any (n : Nat) (w : World) (h : n < 18446744073709551616) : Calls Try.prog 96 #[.int .u64 n] w fun e w' => e = .returned (.int .i64 (cnt n 64)) ∧ w = w' := by
  have HF : Hid (((cnt n 64 : Nat) : Int) = ((oc6 (oc5 (oc4 (oc3 (oc2 (oc1 n))))) % 128 : Nat) : Int)) := by rw [ones_count]; rfl
  obtain ⟨a1, ha1⟩ : ∃ a, a = n / 2 &&& 6148914691236517205 := ⟨_, rfl⟩
  obtain ⟨b1, hb1⟩ : ∃ a, a = n &&& 6148914691236517205 := ⟨_, rfl⟩
  have e1 : bits .and .u64 ((n : Int) / 2) 6148914691236517205 = (a1 : Int) := by rw [ha1]; exact and_u64 _ (n / 2) 6148914691236517205 (by omega) (by omega) (by decide)
  have f1 : bits .and .u64 (n : Int) 6148914691236517205 = (b1 : Int) := by rw [hb1]; exact and_u64 _ n 6148914691236517205 rfl h (by decide)
  have la1 : a1 ≤ 6148914691236517205 := by rw [ha1]; exact Nat.and_le_right
  have lb1 : b1 ≤ 6148914691236517205 := by rw [hb1]; exact Nat.and_le_right
  obtain ⟨a2, ha2⟩ : ∃ a, a = (a1 + b1) / 4 &&& 3689348814741910323 := ⟨_, rfl⟩
  obtain ⟨b2, hb2⟩ : ∃ a, a = (a1 + b1) &&& 3689348814741910323 := ⟨_, rfl⟩
  have e2 : bits .and .u64 (((a1 : Int) + (b1 : Int)) / 4) 3689348814741910323 = (a2 : Int) := by rw [ha2]; exact and_u64 _ ((a1 + b1) / 4) 3689348814741910323 (by omega) (by omega) (by decide)
  have f2 : bits .and .u64 ((a1 : Int) + (b1 : Int)) 3689348814741910323 = (b2 : Int) := by rw [hb2]; exact and_u64 _ (a1 + b1) 3689348814741910323 (by omega) (by omega) (by decide)
  have la2 : a2 ≤ 3689348814741910323 := by rw [ha2]; exact Nat.and_le_right
  have lb2 : b2 ≤ 3689348814741910323 := by rw [hb2]; exact Nat.and_le_right
  obtain ⟨a3, ha3⟩ : ∃ a, a = (a2 + b2) / 16 + (a2 + b2) &&& 1085102592571150095 := ⟨_, rfl⟩
  have e3 : bits .and .u64 (((a2 : Int) + (b2 : Int)) / 16 + ((a2 : Int) + (b2 : Int))) 1085102592571150095 = (a3 : Int) := by rw [ha3]; exact and_u64 _ ((a2 + b2) / 16 + (a2 + b2)) 1085102592571150095 (by omega) (by omega) (by decide)
  have la3 : a3 ≤ 1085102592571150095 := by rw [ha3]; exact Nat.and_le_right
  have hfin : oc6 (oc5 (oc4 (oc3 (oc2 (oc1 n))))) = (a3 + a3 / 256 + (a3 + a3 / 256) / 65536) + (a3 + a3 / 256 + (a3 + a3 / 256) / 65536) / 4294967296 := by
    have h1 : oc1 n = a1 + b1 := by rw [ha1, hb1]; rfl
    have h2 : oc2 (a1 + b1) = a2 + b2 := by rw [ha2, hb2]; rfl
    have h3 : oc3 (a2 + b2) = a3 := by rw [ha3]; rfl
    rw [h1, h2, h3]; rfl
  rw [hfin] at HF
  clear hfin ha1 hb1 ha2 hb2 ha3
  go_enter Try.func96, Try.ntmps96
  go_wp2
  go_ret
  refine ⟨ret_int ?_, rfl⟩
  rw [HF.out]
  have := and_i64 (a3 + a3 / 256 + (a3 + a3 / 256) / 65536 + (a3 + a3 / 256 + (a3 + a3 / 256) / 65536) / 4294967296 : Int) (a3 + a3 / 256 + (a3 + a3 / 256) / 65536 + (a3 + a3 / 256 + (a3 + a3 / 256) / 65536) / 4294967296) 127 (by omega) (by omega) (by decide)
  rw [Nat.and_two_pow_sub_one_eq_mod _ 7] at this
  exact this

set_option maxHeartbeats 400000 in
theorem ones_any (n : Nat) (w : World) (h : n < 18446744073709551616) : Calls Try.prog 87 #[.int .u64 n] w fun e w' => e = .returned (.int .i64 (cnt n 64)) ∧ w = w' := by
  go_enter Try.func87, Try.ntmps87
  go_wp2_with (go_at_call 96; refine (ones64_any _ _ (by omega)).mono ?_; rintro e w' ⟨rfl, rfl⟩)
  go_ret
  exact ⟨rfl, rfl⟩

/-- What Rank answers: a number, and a code. -/
def rankR (n : Nat) (i : Int) : Int × Int := if i < 0 ∨ 64 < i then (0, 2) else (cnt n i.toNat, 0)
set_option maxHeartbeats 400000 in
theorem rank_no (n : Nat) (i : Int) (w : World) (h : n < 18446744073709551616) (hi : i < 0 ∨ 64 < i) :
    Calls Try.prog 88 #[.int .u64 n, .int .i64 i] w fun e w' => e = .returned (.tuple #[.int .i64 (rankR n i).1, .int .i64 (rankR n i).2]) ∧ w = w' := by
  have HF : Hid (rankR n i = (0, 2)) := Lib.hid (if_pos hi)
  rcases hi with hi | hi
  · go_enter Try.func88, Try.ntmps88
    go_wp2_with fail
    go_ret2
    exact ⟨ret2 (vint (congrArg Prod.fst HF.out).symm) (vint (congrArg Prod.snd HF.out).symm), rfl⟩
  · have h2 : ¬ i < 0 := by omega
    go_enter Try.func88, Try.ntmps88
    go_wp2_with fail
    go_ret2
    exact ⟨ret2 (vint (congrArg Prod.fst HF.out).symm) (vint (congrArg Prod.snd HF.out).symm), rfl⟩
set_option maxHeartbeats 400000 in
theorem rank_yes (n i : Nat) (w : World) (h : n < 18446744073709551616) (hi : i ≤ 64) :
    Calls Try.prog 88 #[.int .u64 n, .int .i64 i] w fun e w' => e = .returned (.tuple #[.int .i64 (cnt n i), .int .i64 0]) ∧ w = w' := by
  have HC := Lib.hid (cnt_low n i hi)
  have hm : n % 2 ^ i ≤ n := Nat.mod_le _ _
  obtain ⟨m, hm'⟩ : ∃ m, m = n % 2 ^ i := ⟨_, rfl⟩
  have e := mask_and n i h hi
  rw [← hm'] at e HC hm
  clear hm'
  go_enter Try.func88, Try.ntmps88
  go_wp2_with (go_at_call 96; refine (ones64_any _ _ (by omega)).mono ?_; rintro e w' ⟨rfl, rfl⟩)
  go_ret2
  exact ⟨ret2 (vnat HC.out) rfl, rfl⟩
theorem rank_any (n : Nat) (i : Int) (w : World) (h : n < 18446744073709551616) :
    Calls Try.prog 88 #[.int .u64 n, .int .i64 i] w fun e w' => e = .returned (.tuple #[.int .i64 (rankR n i).1, .int .i64 (rankR n i).2]) ∧ w = w' := by
  by_cases hi : i < 0 ∨ 64 < i
  · exact rank_no n i w h hi
  · obtain ⟨k, rfl⟩ := Int.eq_ofNat_of_zero_le (by omega : 0 ≤ i)
    have e : rankR n k = (((cnt n k : Nat) : Int), 0) := by rw [rankR, if_neg hi]; simp
    rw [e]
    exact rank_yes n k w h (by omega)
end Go.Proofs.Ytdmfhpigchbcbaa

/-
  Contract of bits.Rank: how many bits below a place are set, or why there is no answer. Conditions: the row can be read as data.
-/
namespace Go.Dam
open Go
theorem faced_true (x : Nat) : faced true x = x := by unfold faced; simp
/-- What Rank answers. -/
def BRankR (n : Int) (ws : List Nat) (i : Int) (r c : Int) : Prop :=
  (mayBits n ws = false ∧ r = 0 ∧ c = 4) ∨ (mayBits n ws = true ∧ (i < 0 ∨ n < i) ∧ r = 0 ∧ c = 2) ∨ (mayBits n ws = true ∧ 0 ≤ i ∧ i ≤ n ∧ r = (cntB ws true i.toNat : Nat) ∧ c = 0)
theorem BRankR.ex (n : Int) (ws : List Nat) (i : Int) : ∃ r c, BRankR n ws i r c := by
  cases hm : mayBits n ws with
  | false => exact ⟨_, _, .inl ⟨hm, rfl, rfl⟩⟩
  | true =>
    by_cases h : i < 0 ∨ n < i
    · exact ⟨_, _, .inr (.inl ⟨hm, h, rfl, rfl⟩)⟩
    · exact ⟨_, _, .inr (.inr ⟨hm, by omega, by omega, rfl, rfl⟩)⟩
end Go.Dam
namespace Go.Proofs.Ytdmfhpigchbcbaa
open Go Go.RowKit Go.Dam
set_option linter.unusedVariables false
set_option maxHeartbeats 1000000 in
theorem bitsRank_any (v : Value) (n i : Int) (ws : List Nat) (r cc : Int) (w : World) (B : Nat) (hB : B ≤ w.heap.size) (h : IsBits w B v n ws) (hi64 : I64 i) (hR : BRankR n ws i r cc) :
    Calls Try.prog 73 #[v, .int .i64 i] w fun e w' => e = .returned (.tuple #[.int .i64 r, .int .i64 cc]) ∧ Below w.heap.size w w' := by
  obtain ⟨s, rfl, hs⟩ : ∃ s, v = .agg #[.int .i64 n, s] ∧ IsWords w B s ws := by
    obtain ⟨s, e, _, hs⟩ := h
    exact ⟨s, e, hs⟩
  have hA : IsBits (w.alloc (.cells #[.int .i64 n, s] 73)) B (.agg #[.int .i64 n, s]) n ws := h.below ((Below.refl _ _).alloc hB _)
  have HA := Lib.hid (fun W (hW : Below B w W) (hz : B ≤ W.heap.size) => may_any (.agg #[.int .i64 n, s]) n ws W B hz (h.below hW))
  unfold I64 at hi64
  rcases hR with ⟨hm, rfl, rfl⟩ | ⟨hm, hi, rfl, rfl⟩ | ⟨hm, h1, h2, rfl, rfl⟩
  · clear h hA hs
    go_enter Try.func73, Try.ntmps73
    go_wp2_with (go_at_call 62; refine (HA.out _ ((Below.refl _ _).alloc hB _) (box_le hB)).mono ?_; rintro e w1 ⟨rfl, hb⟩)
    go_ret2
    exact ⟨rfl, below_box hb⟩
  · clear h hA hs
    rcases hi with hi | hi
    · go_enter Try.func73, Try.ntmps73
      go_wp2_with (go_at_call 62; refine (HA.out _ ((Below.refl _ _).alloc hB _) (box_le hB)).mono ?_; rintro e w1 ⟨rfl, hb⟩; obtain ⟨k0, k1⟩ := box2 hb)
      go_ret2
      exact ⟨rfl, below_box hb⟩
    · have h0 := (may_facts hm).1
      have hi' : ¬ i < 0 := by omega
      go_enter Try.func73, Try.ntmps73
      go_wp2_with (go_at_call 62; refine (HA.out _ ((Below.refl _ _).alloc hB _) (box_le hB)).mono ?_; rintro e w1 ⟨rfl, hb⟩; obtain ⟨k0, k1⟩ := box2 hb)
      go_ret2
      exact ⟨rfl, below_box hb⟩
  · obtain ⟨h3, h4, h5⟩ := may_facts hm
    obtain ⟨k, rfl⟩ := Int.eq_ofNat_of_zero_le h1
    obtain ⟨A, c, rfl, hc, hcm, hl, hr, hw⟩ := hs
    rw [Int.toNat_natCast]
    have hkl : k / 64 ≤ ws.length := by omega
    have hk4 : k ≤ 4096 := by omega
    have HKL : Hid (0 < k % 64 → k / 64 < ws.length) := Lib.hid (by omega)
    have HCW := Lib.hid fun q r hr => cntB_word ws true q (word_lt hw q) r hr
    clear h hA h5
    go_enter Try.func73, Try.ntmps73
    go_wp2_with (go_at_call 62; refine (HA.out _ ((Below.refl _ _).alloc hB _) (box_le hB)).mono ?_; rintro e w1 ⟨rfl, hb⟩; obtain ⟨k0, k1⟩ := box2 hb)
    go_loop [6, 30] (fun nv iv => ∃ q : Nat, q ≤ k / 64 ∧ iv = .int .i64 q ∧ nv = .int .i64 (cntB ws true (64 * q) : Nat)) (fun _ iv => k / 64 - (intOf iv).toNat)
    case atStart => exact ⟨0, by omega, rfl, by rw [Nat.mul_zero, cntB_0]; rfl⟩
    case round =>
      obtain ⟨q, hq, rfl, rfl⟩ := hrel
      by_cases hlt : q < k / 64
      · obtain ⟨b, off, rfl, hbB, hcells⟩ := word_at hr (by omega)
        have hcell := hcells q (by omega)
        have hx := word_lt hw q
        have HW := Lib.hid (HCW.out q 64 (by omega))
        have hbd := cntB_le ws true (64 * q)
        have hbd2 : cnt (ws.getD q 0) 64 ≤ 64 := cnt_le _ _
        have k2 := old_cell hb (show b < w.heap.size by omega) hcell
        generalize ws.getD q 0 = x at *
        have HO := Lib.hid fun W => ones_any x W hx
        obtain ⟨s, hs⟩ : ∃ s, s = cnt x 64 := ⟨_, rfl⟩
        rw [faced_true] at HW
        rw [← hs] at HO HW hbd2
        have HB := Lib.hid hb
        clear hcells hcell hs
        go_wp2_with (go_at_call 87; refine (HO.out _).mono ?_; rintro e w2 ⟨rfl, rfl⟩)
        go_round
        case rel => exact ⟨q + 1, by omega, by go_num, vint (by rw [show 64 * (q + 1) = 64 * q + 64 from by omega, HW.out]; simp)⟩
        case measure => simp [intOf]; omega
      · obtain rfl : q = k / 64 := by omega
        have hbd := cntB_le ws true (64 * (k / 64))
        by_cases h0 : k % 64 = 0
        · have HE : Hid (cntB ws true (64 * (k / 64)) = cntB ws true k) := Lib.hid (by rw [show 64 * (k / 64) = k from by omega])
          clear hr hw hlt
          go_wp2
          go_ret2
          exact ⟨ret2 (vnat HE.out) rfl, below_box hb⟩
        · have hp : 0 < k % 64 := by omega
          have hl2 := HKL.out hp
          obtain ⟨b, off, rfl, hbB, hcells⟩ := word_at hr (by omega)
          have hcell := hcells (k / 64) (by omega)
          have hx := word_lt hw (k / 64)
          have HW := Lib.hid (HCW.out (k / 64) (k % 64) (by omega))
          have k2 := old_cell hb (show b < w.heap.size by omega) hcell
          generalize ws.getD (k / 64) 0 = x at *
          have hbd2 : cnt x (k % 64) ≤ 64 := Nat.le_trans (cnt_le _ _) (by omega)
          have HO := Lib.hid fun W => rank_yes x (k % 64) W hx (by omega)
          obtain ⟨s, hs⟩ : ∃ s, s = cnt x (k % 64) := ⟨_, rfl⟩
          rw [faced_true] at HW
          rw [← hs] at HO HW hbd2
          have HB := Lib.hid hb
          clear hcells hcell hs hlt
          go_wp2_with (go_at_call 88; refine (HO.out _).mono ?_; rintro e w2 ⟨rfl, rfl⟩)
          go_ret2
          exact ⟨ret2 (vint (by have := HW.out; rw [show 64 * (k / 64) + k % 64 = k from by omega] at this; rw [this]; simp)) rfl, below_box HB.out⟩
end Go.Proofs.Ytdmfhpigchbcbaa

/-
  Contracts of wave.rank and wave.down. Conditions: the row of bits may be, and the place lies within it.
-/
namespace Go.Proofs.Ytdmfhpigchbcbaa
open Go Go.RowKit Go.Dam
set_option linter.unusedVariables false
set_option maxHeartbeats 400000 in
theorem waveRank1_any (v : Value) (n p : Nat) (ws : List Nat) (w : World) (B : Nat) (hB : B ≤ w.heap.size) (h : IsBits w B v n ws) (hm : mayBits n ws = true) (hp : p ≤ n) :
    Calls Try.prog 63 #[v, .int .i64 p] w fun e w' => e = .returned (.int .i64 ((cntB ws true p : Nat) : Int)) ∧ Below w.heap.size w w' := by
  have hn := (may_facts hm).2.1
  have h' := h
  obtain ⟨s, rfl, hi64, hws⟩ := h
  obtain ⟨A, c, rfl, _⟩ := hws
  have HR := Lib.hid (bitsRank_any (.agg #[.int .i64 n, .slice A ws.length c]) n p ws (cntB ws true p : Nat) 0 (w.alloc (.cells #[.int .i64 n, .slice A ws.length c] 73)) B (box_le hB) (h'.below ((Below.refl _ _).alloc hB _)) (by unfold I64; omega) (.inr (.inr ⟨hm, by omega, by omega, by simp, rfl⟩)))
  clear h' hm
  generalize cntB ws true p = q at *
  go_enter Try.func63, Try.ntmps63
  go_wp2_with (go_at_call 73; refine (HR.out).mono ?_; rintro e w1 ⟨rfl, hb⟩)
  go_ret
  exact ⟨rfl, below_box hb⟩
set_option maxRecDepth 100000 in
set_option maxHeartbeats 1000000 in
theorem waveDown_any (v : Value) (n p : Nat) (ws : List Nat) (one : Bool) (w : World) (B : Nat) (hB : B ≤ w.heap.size) (h : IsBits w B v n ws) (hm : mayBits n ws = true) (hp : p ≤ n) :
    Calls Try.prog 44 #[v, .int .i64 p, .bool one] w fun e w' => e = .returned (.int .i64 ((dnW ws n one p : Nat) : Int)) ∧ Below w.heap.size w w' := by
  have hn := (may_facts hm).2.1
  have h' := h
  obtain ⟨s, rfl, hi64, hws⟩ := h
  obtain ⟨A, c, rfl, _⟩ := hws
  have HR := Lib.hid fun W q (hq : q ≤ n) (hW : Below w.heap.size w W) => waveRank1_any (.agg #[.int .i64 n, .slice A ws.length c]) n q ws W B (Nat.le_trans hB hW.size) (h'.below (hW.mono hB)) hm hq
  have hc1 := cntB_both ws p
  have hc2 := cntB_both ws n
  have hc3 := cntB_upto ws true hp
  have HA := Lib.hid ((Below.refl w.heap.size w).alloc (Nat.le_refl _) (.cells #[.int .i64 n, .slice A ws.length c] 73))
  clear h' hm
  cases one with
  | false =>
    have hd : ((cntB ws false p : Nat) : Int) = (p : Int) - ((cntB ws true p : Nat) : Int) := by omega
    rw [dnW_false, hd]
    have HP := Lib.hid (HR.out _ p hp HA.out)
    generalize cntB ws true p = q at *
    clear hd hc2 hc3
    go_enter Try.func44, Try.ntmps44
    go_wp2_with (go_at_call 63; refine (HP.out).mono ?_; rintro e w1 ⟨rfl, hb⟩)
    go_ret
    exact ⟨rfl, below_box hb⟩
  | true =>
    have hd : ((cntB ws false n + cntB ws true p : Nat) : Int) = (n : Int) - ((cntB ws true n : Nat) : Int) + ((cntB ws true p : Nat) : Int) := by omega
    rw [dnW_true, hd]
    have HP := Lib.hid (HR.out _ p hp HA.out)
    have HN := Lib.hid fun W hW => HR.out W n (Nat.le_refl _) hW
    have hb1 := cntB_le ws true n
    have hb2 := cntB_le ws true p
    generalize cntB ws true p = q at *
    generalize cntB ws true n = m at *
    have w1' : IntKind.i64.wrap ((n : Int) - (m : Int)) = (n : Int) - (m : Int) := by rw [IntKind.wrap_i64]; omega
    have w2' : IntKind.i64.wrap ((n : Int) - (m : Int) + (q : Int)) = (n : Int) - (m : Int) + (q : Int) := by rw [IntKind.wrap_i64]; omega
    clear hd hc1 hc2
    go_enter Try.func44, Try.ntmps44
    go_wp2_with (go_at_call 63; refine (HP.out).mono ?_; rintro e w1 ⟨rfl, hb⟩)
    have HB := Lib.hid (below_box hb)
    obtain ⟨k0, k1⟩ := box2 hb
    have q0 := fun d os => cell_regrown k0 d os
    have q1 := fun d os => cell_regrown k1 d os
    have HN2 := Lib.hid fun d os => Calls.regrown_of (HN.out (Sort.grow (redrawn w1 d) os) (HB.out.trans ((below_regrown w1 d os).mono HB.out.size)))
    clear k0 k1 hb
    refine wp_region_quiet_below (by kernel_rfl) (by kernel_rfl) ?_
    repeat (quiet_step ((go_at_call 63; exact HN2.out _ _)))
    refine wpQuiet_nil ?_
    intro _ hw'
    obtain ⟨⟨dq, osq⟩, hw''⟩ := hw'
    subst hw''
    have HW := Lib.hid (below_regrown w1 dq osq)
    generalize Sort.grow (redrawn w1 dq) osq = w5 at *
    clear q0 q1
    go_wp2_with fail
    go_ret
    exact ⟨rfl, HB.out.trans (HW.out.mono HB.out.size)⟩
end Go.Proofs.Ytdmfhpigchbcbaa

/-
  Contracts of wave.fits and wave.Rank. Conditions: the wave can be read as data.
-/
namespace Go.Dam
open Go Go.RowKit
theorem box1' {w w1 : World} {a : Value} {T : TypeId} (hb : Below (w.alloc (.cells #[a] T)).heap.size (w.alloc (.cells #[a] T)) w1) : w1.cell? ⟨w.heap.size, 0, none⟩ = some a :=
  (hb.cell (p := ⟨w.heap.size, 0, none⟩) (by simp)).trans (by simp)
end Go.Dam
namespace Go.Proofs.Ytdmfhpigchbcbaa
open Go Go.RowKit Go.Dam
set_option linter.unusedVariables false
/-- Has a number no more bits than there are levels? -/
def fitsW (m : Nat) (x : Int) (r : Bool) : Prop := (x < 0 ∧ r = false) ∨ ∃ y : Nat, x = y ∧ y < 9223372036854775808 ∧ r = decide (y / 2 ^ m = 0)
theorem fitsW.ex (m : Nat) {x : Int} (h : I64 x) : ∃ r, fitsW m x r := by
  unfold I64 at h
  by_cases hx : x < 0
  · exact ⟨_, .inl ⟨hx, rfl⟩⟩
  · exact ⟨_, .inr ⟨x.toNat, by omega, by omega, rfl⟩⟩
set_option maxRecDepth 100000 in
set_option maxHeartbeats 400000 in
theorem waveFits_any (v : Value) (rs : List (Int × List Nat)) (x : Int) (r : Bool) (w : World) (B : Nat) (hB : B ≤ w.heap.size) (h : IsWave w B v rs) (h64 : I64 x) (hl : rs.length ≤ 21) (hR : fitsW rs.length x r) :
    Calls Try.prog 86 #[v, .int .i64 x] w fun e w' => e = .returned (.bool r) ∧ Below w.heap.size w w' := by
  unfold I64 at h64
  obtain ⟨s, rfl, h⟩ := h
  obtain ⟨A, c, vs, rfl, hc, hm, hn, _, _⟩ := h
  rcases hR with ⟨hx, rfl⟩ | ⟨y, rfl, hy, hr⟩
  · go_enter Try.func86, Try.ntmps86
    go_wp2_with fail
    go_ret
    exact ⟨rfl, (Below.refl _ _).alloc (Nat.le_refl _) _⟩
  · have e : ((y : Int) / 2 ^ rs.length == 0) = r := by
      rw [hr]
      have : (y : Int) / 2 ^ rs.length = ((y / 2 ^ rs.length : Nat) : Int) := by simp
      rw [this]
      generalize y / 2 ^ rs.length = q
      by_cases h : q = 0
      · subst h; rfl
      · simp [h]
    have HE := Lib.hid hr
    clear hr
    cases r
    all_goals
      go_enter Try.func86, Try.ntmps86
      go_wp2_with fail
      go_ret
      exact ⟨rfl, (Below.refl _ _).alloc (Nat.le_refl _) _⟩
end Go.Proofs.Ytdmfhpigchbcbaa
