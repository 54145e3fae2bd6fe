/-
  The contract of the reference's PopSelect: bit by bit it comes to the set bit with a number. Conditions: the word is below 2 to the 64th, as every uint64 is.
-/
import Derived.Test.YtihiiabibcogjaaPopSelect
namespace Go.Proofs.Ytihiiabibcogjaa
open Go Go.RowKit Go.Dam
set_option linter.unusedVariables false

set_option maxHeartbeats 400000 in
theorem refSelect_neg (n : Nat) (k : Int) (w : World) (h : n < 18446744073709551616) (hk : k < 0) :
    Calls Try.prog 37 #[.int .u64 n, .int .i64 k] w fun e w' => e = .returned (.tuple #[.int .i64 0, .int .i64 2]) ∧ w = w' := by
  go_enter Try.func37, Try.ntmps37
  go_wp2_with fail
  go_ret2
  exact ⟨rfl, rfl⟩
/-- Both answers in one: the place p is that of the bit wanted, or 64 where there is none. -/
def RefSel (n k p : Nat) (r c : Int) : Prop := (p < 64 ∧ n.testBit p = true ∧ cnt n p = k ∧ r = p ∧ c = 0) ∨ (p = 64 ∧ cnt n 64 ≤ k ∧ r = 0 ∧ c = 7)
set_option maxHeartbeats 400000 in
theorem refSelect_any (n k p : Nat) (r c : Int) (w : World) (h : n < 18446744073709551616) (hk : k ≤ 9223372036854775807) (hs : RefSel n k p r c) :
    Calls Try.prog 37 #[.int .u64 n, .int .i64 k] w fun e w' => e = .returned (.tuple #[.int .i64 r, .int .i64 c]) ∧ w = w' := by
  have hp : p ≤ 64 := by rcases hs with h | h <;> omega
  have hle : cnt n p ≤ k := by rcases hs with ⟨_, _, h, _⟩ | ⟨rfl, h, _⟩ <;> omega
  have HS := Lib.hid hs; clear hs
  have HP : Hid (p ≤ 64) := Lib.hid hp
  go_enter Try.func37, Try.ntmps37
  go_wp2_with fail
  go_loop [1, 6] (fun kv iv => ∃ i kk : Nat, i ≤ p ∧ kk + cnt n i = k ∧ kv = .int .i64 kk ∧ iv = .int .i64 i) (fun _ iv => 64 - (intOf iv).toNat)
  case atStart => exact ⟨0, k, by omega, by rw [cnt_0]; rfl, rfl, rfl⟩
  case round =>
    obtain ⟨i, kk, hi, hkk, rfl, rfl⟩ := hrel
    have hkl : kk ≤ k := by omega
    by_cases hlt : i < 64
    · have hm := mod_of_test n i
      have hs1 := cnt_succ n i
      have hmono : i + 1 ≤ p → cnt n (i + 1) ≤ cnt n p := cnt_mono n
      have HKK := Lib.hid hkk
      by_cases hip : i = p
      · subst hip
        have hs := HS.out
        rcases hs with ⟨_, ht, hc, hr⟩ | ⟨rfl, _⟩
        · obtain rfl : kk = 0 := by omega
          have HR := Lib.hid hr
          clear hm hs1 hmono hkk hc hr
          go_wp2_with (go_at_call 38; refine (bitOf_any _ _ _ (by omega) (by omega)).mono ?_; rintro e w' ⟨rfl, rfl⟩)
          go_ret2
          exact ⟨ret2 (vint HR.out.1.symm) (vint HR.out.2.symm), rfl⟩
        · omega
      · have hm' := hmono (by omega)
        have hne : n.testBit i = true → (((kk : Int)) == 0) = false := by
          intro ht
          rw [ht] at hm
          simp at hm ⊢
          omega
        cases ht : n.testBit i with
        | true =>
          rw [ht] at hm
          simp at hm
          have hk0 := hne ht
          have hs2 : Hid (kk - 1 + cnt n (i + 1) = k) := Lib.hid (by simp at hk0; omega)
          have hk1 : 1 ≤ kk := by simp at hk0; omega
          clear hm hs1 hmono hkk hm' hne
          go_wp2_with (go_at_call 38; refine (bitOf_any _ _ _ (by omega) (by omega)).mono ?_; rintro e w' ⟨rfl, rfl⟩)
          go_round
          case rel => exact ⟨i + 1, kk - 1, by omega, hs2.out, vint (by omega), by go_num⟩
          case measure => simp [intOf]; omega
        | false =>
          rw [ht] at hm
          simp at hm
          have hs2 : Hid (kk + cnt n (i + 1) = k) := Lib.hid (by omega)
          clear hm hs1 hmono hkk hm' hne
          go_wp2_with (go_at_call 38; refine (bitOf_any _ _ _ (by omega) (by omega)).mono ?_; rintro e w' ⟨rfl, rfl⟩)
          go_round
          case rel => exact ⟨i + 1, kk, by omega, hs2.out, rfl, by go_num⟩
          case measure => simp [intOf]; omega
    · obtain rfl : i = 64 := by omega
      obtain rfl : p = 64 := by omega
      clear hkk
      have hs := HS.out
      rcases hs with ⟨h64, _⟩ | ⟨_, _, hr⟩
      · omega
      · have HR := Lib.hid hr
        clear hr
        go_wp2
        go_ret2
        exact ⟨ret2 (vint HR.out.1.symm) (vint HR.out.2.symm), rfl⟩
end Go.Proofs.Ytihiiabibcogjaa
