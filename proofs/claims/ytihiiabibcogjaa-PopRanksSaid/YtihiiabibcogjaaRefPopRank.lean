/-
  The contract of the reference's PopRank: bit by bit it counts the set bits below a place. Conditions: the word is below 2 to the 64th, as every uint64 is.
-/
import Derived.Test.YtihiiabibcogjaaRefBit
import Derived.Test.YtihiiabibcogjaaPopRank
namespace Go.Proofs.Ytihiiabibcogjaa
open Go Go.RowKit Go.Dam
set_option linter.unusedVariables false

set_option maxHeartbeats 400000 in
theorem refRank_no (n : Nat) (i : Int) (w : World) (h : n < 18446744073709551616) (hi : i < 0 ∨ 64 < i) :
    Calls Try.prog 31 #[.int .u64 n, .int .i64 i] w fun e w' => e = .returned (.tuple #[.int .i64 (rankR n i).1, .int .i64 (rankR n i).2]) ∧ w = w' := by
  have HF : Hid (rankR n i = (0, 2)) := Lib.hid (if_pos hi)
  rcases hi with hi | hi
  · go_enter Try.func31, Try.ntmps31
    go_wp2_with fail
    go_ret2
    exact ⟨ret2 (vint (congrArg Prod.fst HF.out).symm) (vint (congrArg Prod.snd HF.out).symm), rfl⟩
  · have h2 : ¬ i < 0 := by omega
    go_enter Try.func31, Try.ntmps31
    go_wp2_with fail
    go_ret2
    exact ⟨ret2 (vint (congrArg Prod.fst HF.out).symm) (vint (congrArg Prod.snd HF.out).symm), rfl⟩
set_option maxHeartbeats 400000 in
theorem refRank_yes (n i : Nat) (w : World) (h : n < 18446744073709551616) (hi : i ≤ 64) :
    Calls Try.prog 31 #[.int .u64 n, .int .i64 i] w fun e w' => e = .returned (.tuple #[.int .i64 (cnt n i), .int .i64 0]) ∧ w = w' := by
  go_enter Try.func31, Try.ntmps31
  go_wp2_with fail
  go_loop [6, 7] (fun s k => ∃ j : Nat, j ≤ i ∧ k = .int .i64 j ∧ s = .int .i64 (cnt n j)) (fun _ k => i - (intOf k).toNat)
  case atStart => exact ⟨0, by omega, rfl, by rw [cnt_0]; rfl⟩
  case round =>
    obtain ⟨j, hj, rfl, rfl⟩ := hrel
    have hl := cnt_le n j
    by_cases hlt : j < i
    · have HS : Hid (cnt n (j + 1) = cnt n j + if n.testBit j then 1 else 0) := Lib.hid (by rw [← mod_of_test, cnt_succ])
      go_wp2_with (go_at_call 38; refine (bitOf_any _ _ _ (by omega) (by omega)).mono ?_; rintro e w' ⟨rfl, rfl⟩)
      all_goals
        go_round
        case rel => exact ⟨j + 1, by omega, by go_num, by rw [HS.out]; first | (rw [if_pos (by assumption)]; go_num) | (rw [if_neg (by rw [Bool.not_eq_true]; assumption)]; go_num)⟩
        case measure => simp [intOf]; omega
    · obtain rfl : j = i := by omega
      go_wp2
      go_ret2
      exact ⟨rfl, rfl⟩
theorem refRank_any (n : Nat) (i : Int) (w : World) (h : n < 18446744073709551616) :
    Calls Try.prog 31 #[.int .u64 n, .int .i64 i] w fun e w' => e = .returned (.tuple #[.int .i64 (rankR n i).1, .int .i64 (rankR n i).2]) ∧ w = w' := by
  by_cases hi : i < 0 ∨ 64 < i
  · exact refRank_no n i w h hi
  · obtain ⟨k, rfl⟩ := Int.eq_ofNat_of_zero_le (by omega : 0 ≤ i)
    have e : rankR n k = (((cnt n k : Nat) : Int), 0) := by rw [rankR, if_neg hi]; simp
    rw [e]
    exact refRank_yes n k w h (by omega)
end Go.Proofs.Ytihiiabibcogjaa
