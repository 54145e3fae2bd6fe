/-
  Contract of the reference's gamText: the code of a number, as a text of 0 and 1. Conditions: a number from 1 to 2^20, kind 1 or 2.
-/
import Derived.Test.YteblkbgcnoepnaaGamEncPlain
import Derived.Test.YteblkbgcnoepnaaRefPackMake
import Derived.Test.YteblkbgcnoepnaaBase
namespace Go.Dam
open Go Go.RowKit
set_option linter.unusedVariables false
theorem half_test (n t : Nat) : (((n / 2 ^ t : Nat) : Int) % 2 == 1) = n.testBit t := by
  rw [Nat.testBit_eq_decide_div_mod_eq]
  generalize n / 2 ^ t = m
  by_cases h : m % 2 = 1
  · have e : (m : Int) % 2 = 1 := by omega
    rw [e, h]; rfl
  · have e : (m : Int) % 2 = 0 := by omega
    rw [e, show m % 2 = 0 from by omega]; rfl
theorem half_succ (n t : Nat) : ((n / 2 ^ t : Nat) : Int) / 2 = ((n / 2 ^ (t + 1) : Nat) : Int) := by
  rw [Nat.pow_succ, ← Nat.div_div_eq_div_mul]; simp
end Go.Dam
namespace Go.Proofs.Yteblkbgcnoepnaa
open Go Go.RowKit Go.Dam
set_option linter.unusedVariables false
set_option maxRecDepth 100000 in
set_option maxHeartbeats 1000000 in
theorem gamText_1 (n : Nat) (w : World) (h1 : 1 ≤ n) (h2 : n ≤ 1048576) :
    Calls Try.prog 50 #[.int .i64 1, .int .i64 n] w fun e w' => e = .returned (.string (txtB (gamK 1 n))) ∧ w = w' := by
  have hs := fun t => bitLen_above (n := n) (t := t) (by omega)
  have hb1 := bitLen_pos h1 (by omega)
  have hb2 := bitLen_21 h2
  rw [gamK_1 (by decide)]
  generalize Lib.bitLen n = L at *
  have HS := Lib.hid hs
  clear hs
  go_enter Try.func50, Try.ntmps50
  go_wp2_with fail
  go_loop [5, 6] (fun ov mv => ∃ t : Nat, t ≤ L ∧ mv = .int .i64 ((n / 2 ^ t : Nat) : Int) ∧ ov = .string (txtB (binN n t))) (fun _ mv => (intOf mv).toNat)
  case atStart => exact ⟨0, by omega, by simp, by rw [binN_0, txtB_nil]⟩
  case round =>
    obtain ⟨t, ht, rfl, rfl⟩ := hrel
    have hst := HS.out t
    have hle : n / 2 ^ t ≤ n := Nat.div_le_self _ _
    have hd := half_test n t
    have hsu := half_succ n t
    by_cases hlt : t < L
    · have hpos := hst.2 hlt
      have hadd1 : n.testBit t = true → (Op.stringOp .add ⟨#[49]⟩ (txtB (binN n t))).run Try.prog w = .ok (.string (txtB (binN n (t + 1)))) w := fun hb => by
        rw [run_string_add_sum w _ _ (by rw [txtB_size, binN_length]; show (1 : Nat) + _ ≤ _; omega), txtB_1, txtB_append, binN_succ, hb]; rfl
      have hadd0 : n.testBit t = false → (Op.stringOp .add ⟨#[48]⟩ (txtB (binN n t))).run Try.prog w = .ok (.string (txtB (binN n (t + 1)))) w := fun hb => by
        rw [run_string_add_sum w _ _ (by rw [txtB_size, binN_length]; show (1 : Nat) + _ ≤ _; omega), txtB_0, txtB_append, binN_succ, hb]; rfl
      have hmz : ((n / 2 ^ (t + 1) : Nat) : Int) < ((n / 2 ^ t : Nat) : Int) := by rw [← hsu]; omega
      have hmp : (0 : Int) ≤ ((n / 2 ^ (t + 1) : Nat) : Int) := by omega
      generalize n / 2 ^ t = m at *
      generalize hmm : n / 2 ^ (t + 1) = m' at *
      have HM := Lib.hid hmm
      clear hmm
      clear hst
      cases hb : n.testBit t
      all_goals
        rw [hb] at hd
        first
          | (have hadd := hadd1 hb)
          | (have hadd := hadd0 hb)
        clear hadd1 hadd0 hb
        go_wp2_with fail
        go_round
        case rel => exact ⟨t + 1, by omega, by rw [HM.out], rfl⟩
        case measure => simp [intOf]; omega
    · obtain rfl : t = L := by omega
      have h0 : n / 2 ^ t = 0 := Nat.le_zero.1 (Nat.not_lt.1 (mt hst.1 (by omega)))
      rw [h0]
      clear hst hd hsu h0 hle
      go_wp2_with fail
      go_loop [7, 8] (fun ov iv => ∃ k : Nat, k + 1 ≤ t ∧ iv = .int .i64 ((k + 1 : Nat) : Int) ∧ ov = .string (txtB (List.replicate k false))) (fun _ iv => t - (intOf iv).toNat)
      case atStart => exact ⟨0, by omega, rfl, by rw [List.replicate_zero, txtB_nil]⟩
      case round =>
        obtain ⟨k, hk, rfl, rfl⟩ := hrel
        have hsz : (txtB (binN n t)).size = t := by rw [txtB_size, binN_length]
        by_cases hlt : k + 1 < t
        · have hadd : (Op.stringOp .add (txtB (List.replicate k false)) ⟨#[48]⟩).run Try.prog w = .ok (.string (txtB (List.replicate (k + 1) false))) w := by
            rw [run_string_add_sum w _ _ (by rw [txtB_size, List.length_replicate]; show _ + (1 : Nat) ≤ _; omega), txtB_0, txtB_append, List.replicate_succ']
          go_wp2_with fail
          go_round
          case rel => exact ⟨k + 1, by omega, by go_num, rfl⟩
          case measure => simp [intOf]; omega
        · obtain rfl : t = k + 1 := by omega
          have hadd : (Op.stringOp .add (txtB (List.replicate k false)) (txtB (binN n (k + 1)))).run Try.prog w = .ok (.string (txtB (List.replicate (k + 1 - 1) false ++ binN n (k + 1)))) w := by
            rw [run_string_add_sum w _ _ (by rw [txtB_size, txtB_size, List.length_replicate, binN_length]; omega), txtB_append]; rfl
          go_wp2_with fail
          go_ret
          exact ⟨rfl, rfl⟩
set_option maxRecDepth 100000 in
set_option maxHeartbeats 1000000 in
theorem gamText_2 (n : Nat) (w : World) (h1 : 1 ≤ n) (h2 : n ≤ 1048576) :
    Calls Try.prog 50 #[.int .i64 2, .int .i64 n] w fun e w' => e = .returned (.string (txtB (gamK 2 n))) ∧ Drawn w w' := by
  have hs := fun t => bitLen_above (n := n) (t := t) (by omega)
  have hb1 := bitLen_pos h1 (by omega)
  have hb2 := bitLen_21 h2
  rw [gamK_2, gam1_eq]
  have HR := Lib.hid fun w => gamText_1 (Lib.bitLen n) w hb1 (by omega)
  have hl1 : (gamK 1 (Lib.bitLen n)).length ≤ 100 := gamK_len (by omega)
  generalize Lib.bitLen n = L at *
  have HS := Lib.hid hs
  clear hs
  go_enter Try.func50, Try.ntmps50
  go_wp2_with fail
  go_loop [5, 6] (fun ov mv => ∃ t : Nat, t ≤ L ∧ mv = .int .i64 ((n / 2 ^ t : Nat) : Int) ∧ ov = .string (txtB (binN n t))) (fun _ mv => (intOf mv).toNat)
  case atStart => exact ⟨0, by omega, by simp, by rw [binN_0, txtB_nil]⟩
  case round =>
    obtain ⟨t, ht, rfl, rfl⟩ := hrel
    have hst := HS.out t
    have hle : n / 2 ^ t ≤ n := Nat.div_le_self _ _
    have hd := half_test n t
    have hsu := half_succ n t
    by_cases hlt : t < L
    · have hpos := hst.2 hlt
      have hadd1 : n.testBit t = true → (Op.stringOp .add ⟨#[49]⟩ (txtB (binN n t))).run Try.prog w = .ok (.string (txtB (binN n (t + 1)))) w := fun hb => by
        rw [run_string_add_sum w _ _ (by rw [txtB_size, binN_length]; show (1 : Nat) + _ ≤ _; omega), txtB_1, txtB_append, binN_succ, hb]; rfl
      have hadd0 : n.testBit t = false → (Op.stringOp .add ⟨#[48]⟩ (txtB (binN n t))).run Try.prog w = .ok (.string (txtB (binN n (t + 1)))) w := fun hb => by
        rw [run_string_add_sum w _ _ (by rw [txtB_size, binN_length]; show (1 : Nat) + _ ≤ _; omega), txtB_0, txtB_append, binN_succ, hb]; rfl
      have hmz : ((n / 2 ^ (t + 1) : Nat) : Int) < ((n / 2 ^ t : Nat) : Int) := by rw [← hsu]; omega
      have hmp : (0 : Int) ≤ ((n / 2 ^ (t + 1) : Nat) : Int) := by omega
      generalize n / 2 ^ t = m at *
      generalize hmm : n / 2 ^ (t + 1) = m' at *
      have HM := Lib.hid hmm
      clear hmm
      clear hst
      cases hb : n.testBit t
      all_goals
        rw [hb] at hd
        first
          | (have hadd := hadd1 hb)
          | (have hadd := hadd0 hb)
        clear hadd1 hadd0 hb
        go_wp2_with fail
        go_round
        case rel => exact ⟨t + 1, by omega, by rw [HM.out], rfl⟩
        case measure => simp [intOf]; omega
    · obtain rfl : t = L := by omega
      have h0 : n / 2 ^ t = 0 := Nat.le_zero.1 (Nat.not_lt.1 (mt hst.1 (by omega)))
      rw [h0]
      have hsz : (txtB (binN n t)).size = t := by rw [txtB_size, binN_length]
      obtain ⟨s, rfl⟩ : ∃ s, t = s + 1 := ⟨t - 1, by omega⟩
      have hext : (txtB (binN n (s + 1))).extract 1 (s + 1) = txtB (binN n s) := by
        have := txtB_tail (n.testBit s) (binN n s)
        rw [← binN_succ, hsz] at this
        exact this
      have hadd : ∀ W : World, (Op.stringOp .add (txtB (gamK 1 (s + 1))) (txtB (binN n s))).run Try.prog W = .ok (.string (txtB (gamK 1 (s + 1) ++ binN n (s + 1 - 1)))) W := fun W => by
        rw [run_string_add_sum W _ _ (by rw [txtB_size, txtB_size, binN_length]; omega), txtB_append]; rfl
      clear hst hd hsu h0 hle
      go_wp2_with fail
      go_quiet ((go_at_call 50; exact Calls.quiet_of_same ((HR.out _).mono fun e w' h => ⟨h.1, h.2.symm⟩)))
      go_wp2
      go_ret
      exact ⟨rfl, _, rfl⟩
theorem gamText_any (k : Int) (n : Nat) (w : World) (hk : kinded k) (h1 : 1 ≤ n) (h2 : n ≤ 1048576) :
    Calls Try.prog 50 #[.int .i64 k, .int .i64 n] w fun e w' => e = .returned (.string (txtB (gamK k n))) ∧ Drawn w w' := by
  rcases hk with rfl | rfl
  · refine (gamText_1 n w h1 h2).mono ?_
    rintro e w' ⟨rfl, rfl⟩
    exact ⟨rfl, 0, rfl⟩
  · exact gamText_2 n w h1 h2
end Go.Proofs.Yteblkbgcnoepnaa
