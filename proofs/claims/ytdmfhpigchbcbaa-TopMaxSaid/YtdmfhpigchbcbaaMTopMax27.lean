/-
  Contracts of math/bits.OnesCount64, pop.Ones and pop.Rank: they count the set bits. Conditions: the word is below 2 to the 64th, as every uint64 is.
-/
import Derived.Test.YtdmfhpigchbcbaaMTopMax02
namespace Go.Proofs.Ytdmfhpigchbcbaa
open Go Go.RowKit Go.Dam
set_option linter.unusedVariables false

set_option maxHeartbeats 400000 in
theorem ones64_any (n : Nat) (w : World) (h : n < 18446744073709551616) : Calls Try.prog 96 #[.int .u64 n] w fun e w' => e = .returned (.int .i64 (cnt n 64)) ∧ w = w' := by
  have HF : Hid (((cnt n 64 : Nat) : Int) = ((oc6 (oc5 (oc4 (oc3 (oc2 (oc1 n))))) % 128 : Nat) : Int)) := by rw [ones_count]; rfl
  obtain ⟨a1, ha1⟩ : ∃ a, a = n / 2 &&& 6148914691236517205 := ⟨_, rfl⟩
  obtain ⟨b1, hb1⟩ : ∃ a, a = n &&& 6148914691236517205 := ⟨_, rfl⟩
  have e1 : bits .and .u64 ((n : Int) / 2) 6148914691236517205 = (a1 : Int) := by rw [ha1]; exact and_u64 _ (n / 2) 6148914691236517205 (by omega) (by omega) (by decide)
  have f1 : bits .and .u64 (n : Int) 6148914691236517205 = (b1 : Int) := by rw [hb1]; exact and_u64 _ n 6148914691236517205 rfl h (by decide)
  have la1 : a1 ≤ 6148914691236517205 := by rw [ha1]; exact Nat.and_le_right
  have lb1 : b1 ≤ 6148914691236517205 := by rw [hb1]; exact Nat.and_le_right
  obtain ⟨a2, ha2⟩ : ∃ a, a = (a1 + b1) / 4 &&& 3689348814741910323 := ⟨_, rfl⟩
  obtain ⟨b2, hb2⟩ : ∃ a, a = (a1 + b1) &&& 3689348814741910323 := ⟨_, rfl⟩
  have e2 : bits .and .u64 (((a1 : Int) + (b1 : Int)) / 4) 3689348814741910323 = (a2 : Int) := by rw [ha2]; exact and_u64 _ ((a1 + b1) / 4) 3689348814741910323 (by omega) (by omega) (by decide)
  have f2 : bits .and .u64 ((a1 : Int) + (b1 : Int)) 3689348814741910323 = (b2 : Int) := by rw [hb2]; exact and_u64 _ (a1 + b1) 3689348814741910323 (by omega) (by omega) (by decide)
  have la2 : a2 ≤ 3689348814741910323 := by rw [ha2]; exact Nat.and_le_right
  have lb2 : b2 ≤ 3689348814741910323 := by rw [hb2]; exact Nat.and_le_right
  obtain ⟨a3, ha3⟩ : ∃ a, a = (a2 + b2) / 16 + (a2 + b2) &&& 1085102592571150095 := ⟨_, rfl⟩
  have e3 : bits .and .u64 (((a2 : Int) + (b2 : Int)) / 16 + ((a2 : Int) + (b2 : Int))) 1085102592571150095 = (a3 : Int) := by rw [ha3]; exact and_u64 _ ((a2 + b2) / 16 + (a2 + b2)) 1085102592571150095 (by omega) (by omega) (by decide)
  have la3 : a3 ≤ 1085102592571150095 := by rw [ha3]; exact Nat.and_le_right
  have hfin : oc6 (oc5 (oc4 (oc3 (oc2 (oc1 n))))) = (a3 + a3 / 256 + (a3 + a3 / 256) / 65536) + (a3 + a3 / 256 + (a3 + a3 / 256) / 65536) / 4294967296 := by
    have h1 : oc1 n = a1 + b1 := by rw [ha1, hb1]; rfl
    have h2 : oc2 (a1 + b1) = a2 + b2 := by rw [ha2, hb2]; rfl
    have h3 : oc3 (a2 + b2) = a3 := by rw [ha3]; rfl
    rw [h1, h2, h3]; rfl
  rw [hfin] at HF
  clear hfin ha1 hb1 ha2 hb2 ha3
  go_enter Try.func96, Try.ntmps96
  go_wp2
  go_ret
  refine ⟨ret_int ?_, rfl⟩
  rw [HF.out]
  have := and_i64 (a3 + a3 / 256 + (a3 + a3 / 256) / 65536 + (a3 + a3 / 256 + (a3 + a3 / 256) / 65536) / 4294967296 : Int) (a3 + a3 / 256 + (a3 + a3 / 256) / 65536 + (a3 + a3 / 256 + (a3 + a3 / 256) / 65536) / 4294967296) 127 (by omega) (by omega) (by decide)
  rw [Nat.and_two_pow_sub_one_eq_mod _ 7] at this
  exact this

set_option maxHeartbeats 400000 in
theorem ones_any (n : Nat) (w : World) (h : n < 18446744073709551616) : Calls Try.prog 87 #[.int .u64 n] w fun e w' => e = .returned (.int .i64 (cnt n 64)) ∧ w = w' := by
  go_enter Try.func87, Try.ntmps87
  go_wp2_with (go_at_call 96; refine (ones64_any _ _ (by omega)).mono ?_; rintro e w' ⟨rfl, rfl⟩)
  go_ret
  exact ⟨rfl, rfl⟩

/-- What Rank answers: a number, and a code. -/
def rankR (n : Nat) (i : Int) : Int × Int := if i < 0 ∨ 64 < i then (0, 2) else (cnt n i.toNat, 0)
set_option maxHeartbeats 400000 in
theorem rank_no (n : Nat) (i : Int) (w : World) (h : n < 18446744073709551616) (hi : i < 0 ∨ 64 < i) :
    Calls Try.prog 88 #[.int .u64 n, .int .i64 i] w fun e w' => e = .returned (.tuple #[.int .i64 (rankR n i).1, .int .i64 (rankR n i).2]) ∧ w = w' := by
  have HF : Hid (rankR n i = (0, 2)) := Lib.hid (if_pos hi)
  rcases hi with hi | hi
  · go_enter Try.func88, Try.ntmps88
    go_wp2_with fail
    go_ret2
    exact ⟨ret2 (vint (congrArg Prod.fst HF.out).symm) (vint (congrArg Prod.snd HF.out).symm), rfl⟩
  · have h2 : ¬ i < 0 := by omega
    go_enter Try.func88, Try.ntmps88
    go_wp2_with fail
    go_ret2
    exact ⟨ret2 (vint (congrArg Prod.fst HF.out).symm) (vint (congrArg Prod.snd HF.out).symm), rfl⟩
set_option maxHeartbeats 400000 in
theorem rank_yes (n i : Nat) (w : World) (h : n < 18446744073709551616) (hi : i ≤ 64) :
    Calls Try.prog 88 #[.int .u64 n, .int .i64 i] w fun e w' => e = .returned (.tuple #[.int .i64 (cnt n i), .int .i64 0]) ∧ w = w' := by
  have HC := Lib.hid (cnt_low n i hi)
  have hm : n % 2 ^ i ≤ n := Nat.mod_le _ _
  obtain ⟨m, hm'⟩ : ∃ m, m = n % 2 ^ i := ⟨_, rfl⟩
  have e := mask_and n i h hi
  rw [← hm'] at e HC hm
  clear hm'
  go_enter Try.func88, Try.ntmps88
  go_wp2_with (go_at_call 96; refine (ones64_any _ _ (by omega)).mono ?_; rintro e w' ⟨rfl, rfl⟩)
  go_ret2
  exact ⟨ret2 (vnat HC.out) rfl, rfl⟩
theorem rank_any (n : Nat) (i : Int) (w : World) (h : n < 18446744073709551616) :
    Calls Try.prog 88 #[.int .u64 n, .int .i64 i] w fun e w' => e = .returned (.tuple #[.int .i64 (rankR n i).1, .int .i64 (rankR n i).2]) ∧ w = w' := by
  by_cases hi : i < 0 ∨ 64 < i
  · exact rank_no n i w h hi
  · obtain ⟨k, rfl⟩ := Int.eq_ofNat_of_zero_le (by omega : 0 ≤ i)
    have e : rankR n k = (((cnt n k : Nat) : Int), 0) := by rw [rankR, if_neg hi]; simp
    rw [e]
    exact rank_yes n k w h (by omega)
end Go.Proofs.Ytdmfhpigchbcbaa
