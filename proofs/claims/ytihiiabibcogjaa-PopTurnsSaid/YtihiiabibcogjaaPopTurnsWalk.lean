/-
  Contracts of math/bits.Reverse64 (through ReverseBytes64), pop.Turn and the reference's PopTurn, and the walk of the law PopTurns: both turn a word round. Conditions: the argument is a uint64.
-/
import Derived.Test.YtihiiabibcogjaaRefBit
namespace Go.Proofs.Ytihiiabibcogjaa
open Go Go.RowKit Go.Dam
set_option linter.unusedVariables false

set_option maxHeartbeats 400000 in
theorem revBytes_any (n : Nat) (w : World) (h : n < 18446744073709551616) :
    Calls Try.prog 47 #[.int .u64 n] w fun e w' => e = .returned (.int .u64 (rv 32 4294967295 (rv 16 281470681808895 (rv 8 71777214294589695 n)) : Nat)) ∧ w = w' := by
  obtain ⟨a1, b1, la1, lb1, lc1, ea1, eb1, eo1, h1⟩ := rv_facts 8 71777214294589695 n 256 71777214294589695 rfl rfl h (by decide) (by decide)
  generalize rv 8 71777214294589695 n = n1 at *
  obtain ⟨a2, b2, la2, lb2, lc2, ea2, eb2, eo2, h2⟩ := rv_facts 16 281470681808895 n1 65536 281470681808895 rfl rfl h1 (by decide) (by decide)
  generalize rv 16 281470681808895 n1 = n2 at *
  have e3 := rv_last n2 h2
  generalize rv 32 4294967295 n2 = n3 at *
  go_enter Try.func47, Try.ntmps47
  go_wp2
  go_ret
  exact ⟨rfl, rfl⟩
set_option maxHeartbeats 400000 in
theorem reverse_any (n : Nat) (w : World) (h : n < 18446744073709551616) :
    Calls Try.prog 41 #[.int .u64 n] w fun e w' => e = .returned (.int .u64 (rev64 n : Nat)) ∧ w = w' := by
  rw [rev64_eq]
  obtain ⟨a1, b1, la1, lb1, lc1, ea1, eb1, eo1, h1⟩ := rv_facts 1 6148914691236517205 n 2 6148914691236517205 rfl rfl h (by decide) (by decide)
  generalize rv 1 6148914691236517205 n = n1 at *
  obtain ⟨a2, b2, la2, lb2, lc2, ea2, eb2, eo2, h2⟩ := rv_facts 2 3689348814741910323 n1 4 3689348814741910323 rfl rfl h1 (by decide) (by decide)
  generalize rv 2 3689348814741910323 n1 = n2 at *
  obtain ⟨a3, b3, la3, lb3, lc3, ea3, eb3, eo3, h3⟩ := rv_facts 4 1085102592571150095 n2 16 1085102592571150095 rfl rfl h2 (by decide) (by decide)
  generalize rv 4 1085102592571150095 n2 = n3 at *
  have C := Lib.hid (fun W => revBytes_any n3 W h3)
  generalize rv 32 4294967295 (rv 16 281470681808895 (rv 8 71777214294589695 n3)) = n4 at *
  go_enter Try.func41, Try.ntmps41
  go_wp2_with (go_at_call 47; refine (C.out _).mono ?_; rintro e w' ⟨rfl, rfl⟩)
  go_ret
  exact ⟨rfl, rfl⟩
set_option maxHeartbeats 400000 in
theorem refTurn_any (n : Nat) (w : World) (h : n < 18446744073709551616) :
    Calls Try.prog 23 #[.int .u64 n] w fun e w' => e = .returned (.int .u64 (rev64 n : Nat)) ∧ w = w' := by
  have HF := Lib.hid (rev_turned n)
  generalize rev64 n = r at *
  go_enter Try.func23, Try.ntmps23
  go_wp2_with fail
  go_loop [3, 4] (fun s k => ∃ i : Nat, i ≤ 64 ∧ k = .int .i64 i ∧ s = .int .u64 ((2 ^ (64 - i) * turned n i : Nat) : Int)) (fun _ k => 64 - (intOf k).toNat)
  case atStart => exact ⟨0, by omega, rfl, by rw [turned_0]; rfl⟩
  case round =>
    obtain ⟨i, hi, rfl, rfl⟩ := hrel
    by_cases hlt : i < 64
    · have hst := turned_step n i hlt
      have hm := mod_of_test n i
      have hl := turned_le n (i + 1) (by omega)
      obtain ⟨t, ht⟩ : ∃ t, t = 2 ^ (64 - i) * turned n i := ⟨_, rfl⟩
      have hp := pow_u64 (63 - i) (by omega)
      have e63 : (63 - (i : Int)).toNat = 63 - i := by omega
      rw [← ht] at hst ⊢
      obtain ⟨t', ht'⟩ : ∃ t, t = 2 ^ (64 - (i + 1)) * turned n (i + 1) := ⟨_, rfl⟩
      rw [← ht'] at hst hl
      obtain ⟨q, hq⟩ : ∃ q : Nat, q = 2 ^ (63 - i) := ⟨_, rfl⟩
      have HT := Lib.hid ht'
      rw [← hq] at hst hp
      cases hb : n.testBit i with
      | true =>
        rw [hb] at hm
        simp only [if_true] at hm
        rw [hm, Nat.one_mul] at hst
        have hle : t + q < 18446744073709551616 := by omega
        have HS := Lib.hid hst
        clear hst hm ht ht' hq
        go_wp2_with (go_at_call 38; refine (bitOf_any _ _ _ (by omega) (by omega)).mono ?_; rintro e w' ⟨rfl, rfl⟩)
        go_round
        case rel => exact ⟨i + 1, by omega, by go_num, by rw [← HT.out, ← HS.out]; go_num⟩
        case measure => simp [intOf]; omega
      | false =>
        rw [hb] at hm
        simp only [if_false, Bool.false_eq_true] at hm
        rw [hm, Nat.zero_mul, Nat.add_zero] at hst
        have HS := Lib.hid hst
        clear hst hm ht ht' hq
        go_wp2_with (go_at_call 38; refine (bitOf_any _ _ _ (by omega) (by omega)).mono ?_; rintro e w' ⟨rfl, rfl⟩)
        go_round
        case rel => exact ⟨i + 1, by omega, by go_num, by rw [← HT.out, ← HS.out]⟩
        case measure => simp [intOf]; omega
    · obtain rfl : i = 64 := by omega
      go_wp2
      go_ret
      exact ⟨ret_int (by rw [HF.out]), rfl⟩
set_option maxHeartbeats 400000 in
theorem turn_any (n : Nat) (w : World) (h : n < 18446744073709551616) :
    Calls Try.prog 22 #[.int .u64 n] w fun e w' => e = .returned (.int .u64 (rev64 n : Nat)) ∧ w = w' := by
  go_enter Try.func22, Try.ntmps22
  go_wp2_with (go_at_call 41; refine (reverse_any _ _ h).mono ?_; rintro e w' ⟨rfl, rfl⟩)
  go_ret
  exact ⟨rfl, rfl⟩
set_option maxHeartbeats 400000 in
theorem popTurns_walk (v : Value) (w : World) (h : ∃ n : Nat, v = .int .u64 n ∧ n < 18446744073709551616) :
    Calls Try.prog 7 #[v] w fun e w' => e = .returned (.bool true) ∧ Below w.heap.size w w' := by
  obtain ⟨n, rfl, hn⟩ := h
  go_enter Try.func7, Try.ntmps7
  go_wp2_with (first
    | (go_at_call 23; refine (refTurn_any _ _ hn).mono ?_; rintro e w' ⟨rfl, rfl⟩)
    | (go_at_call 22; refine (turn_any _ _ hn).mono ?_; rintro e w' ⟨rfl, rfl⟩))
  go_ret
  exact ⟨ret_bool (by simp), Below.refl _ _⟩
end Go.Proofs.Ytihiiabibcogjaa
