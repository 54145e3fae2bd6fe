/-
  Contracts of pack.words, pack.May and the reference's PackMay: they say whether packed numbers are well formed. Conditions: the numbers can be read as data.
-/
import Derived.Test.YteblkbgcnoepnaaRefBit
import Derived.Test.YteblkbgcnoepnaaWords
import Derived.Test.YteblkbgcnoepnaaPackedPlain
namespace Go.Proofs.Yteblkbgcnoepnaa
open Go Go.RowKit Go.Dam
set_option linter.unusedVariables false

theorem bit_of_word' (ws : List Nat) (i : Nat) : (ws.getD (i / 64) 0).testBit (i % 64) = bitAt ws i := by unfold bitAt; rfl
theorem zero_test' (x m : Nat) : (((x : Int) / 2 ^ m) == 0) = decide (x / 2 ^ m = 0) := by
  have e : (x : Int) / 2 ^ m = ((x / 2 ^ m : Nat) : Int) := by simp
  rw [e, Bool.eq_iff_iff, beq_iff_eq, decide_eq_true_iff]
  omega
set_option maxHeartbeats 400000 in
theorem words_any (n m : Int) (w : World) (h0 : 0 ≤ n * m) (h1 : n * m ≤ 18600) :
    Calls Try.prog 76 #[.int .i64 n, .int .i64 m] w fun e w' => e = .returned (.int .i64 ((n * m + 63) / 64)) ∧ w = w' := by
  go_enter Try.func76, Try.ntmps76
  go_wp2
  go_ret
  exact ⟨ret_int (by omega), rfl⟩
theorem packBox {w : World} {n m : Int} {s : Value} {T : TypeId} :
    (w.alloc (.cells #[.int .i64 n, .int .i64 m, s] T)).cell? ⟨w.heap.size, 0, none⟩ = some (.int .i64 n) ∧ (w.alloc (.cells #[.int .i64 n, .int .i64 m, s] T)).cell? ⟨w.heap.size, 1, none⟩ = some (.int .i64 m) ∧ (w.alloc (.cells #[.int .i64 n, .int .i64 m, s] T)).cell? ⟨w.heap.size, 2, none⟩ = some s :=
  ⟨by simp, by simp, by simp⟩
set_option maxHeartbeats 1000000 in
theorem packMay_any (v : Value) (n m : Int) (ws : List Nat) (w : World) (B : Nat) (hB : B ≤ w.heap.size) (h : IsPacked w B v n m ws) :
    Calls Try.prog 87 #[v] w fun e w' => e = .returned (.bool (mayPacked n m ws)) ∧ Below w.heap.size w w' := by
  obtain ⟨s, rfl, hi, hi', A, c, rfl, hc, hm, hl, hr, hw⟩ := h
  unfold I64 at hi hi'
  have HBX : Hid (Below w.heap.size w (w.alloc (.cells #[.int .i64 n, .int .i64 m, .slice A ws.length c] 43))) := Lib.hid ((Below.refl _ _).alloc (Nat.le_refl _) _)
  by_cases c1 : n < 0
  · have HM := Lib.hid (mayPacked_false.2 fun h => by unfold MayPacked at h; omega : mayPacked n m ws = false)
    have t1 : decide (n < 0) = true := by simpa using c1
    go_enter Try.func87, Try.ntmps87
    go_wp2_with fail
    go_quiet (fail)
    go_wp2
    go_ret
    exact ⟨ret_bool HM.out.symm, HBX.out.trans (Drawn.below ⟨_, rfl⟩ _)⟩
  by_cases c2 : 300 < n
  · have HM := Lib.hid (mayPacked_false.2 fun h => by unfold MayPacked at h; omega : mayPacked n m ws = false)
    have t0 : decide (n < 0) = false := by simp; omega
    have t1 : decide (300 < n) = true := by simp; omega
    go_enter Try.func87, Try.ntmps87
    go_wp2_with fail
    go_quiet (fail)
    go_wp2
    go_ret
    exact ⟨ret_bool HM.out.symm, HBX.out.trans (Drawn.below ⟨_, rfl⟩ _)⟩
  by_cases c3 : m < 0
  · have HM := Lib.hid (mayPacked_false.2 fun h => by unfold MayPacked at h; omega : mayPacked n m ws = false)
    have t0 : decide (n < 0) = false := by simp; omega
    have t1 : decide (300 < n) = false := by simp; omega
    have t2 : decide (m < 0) = true := by simp; omega
    go_enter Try.func87, Try.ntmps87
    go_wp2_with fail
    go_quiet (fail)
    go_wp2
    go_ret
    exact ⟨ret_bool HM.out.symm, HBX.out.trans (Drawn.below ⟨_, rfl⟩ _)⟩
  by_cases c4 : 62 < m
  · have HM := Lib.hid (mayPacked_false.2 fun h => by unfold MayPacked at h; omega : mayPacked n m ws = false)
    have t0 : decide (n < 0) = false := by simp; omega
    have t1 : decide (300 < n) = false := by simp; omega
    have t2 : decide (m < 0) = false := by simp; omega
    have t3 : decide (62 < m) = true := by simp; omega
    go_enter Try.func87, Try.ntmps87
    go_wp2_with fail
    go_quiet (fail)
    go_wp2
    go_ret
    exact ⟨ret_bool HM.out.symm, HBX.out.trans (Drawn.below ⟨_, rfl⟩ _)⟩
  obtain ⟨p0, p1⟩ := prod_bd (n := n) (m := m) (by omega) (by omega) (by omega) (by omega)
  have t0 : decide (n < 0) = false := by simp; omega
  have t1 : decide (300 < n) = false := by simp; omega
  have t2 : decide (m < 0) = false := by simp; omega
  have t3 : decide (62 < m) = false := by simp; omega
  have HPL : Hid (∀ W, Calls Try.prog 76 #[.int .i64 n, .int .i64 m] W fun e w' => e = .returned (.int .i64 ((n * m + 63) / 64)) ∧ W = w') := Lib.hid fun W => words_any n m W p0 p1
  by_cases c5 : (ws.length : Int) = (n * m + 63) / 64
  rotate_left
  · have HM := Lib.hid (mayPacked_false.2 fun h => by unfold MayPacked at h; omega : mayPacked n m ws = false)
    have t4 : ((ws.length : Int) != (n * m + 63) / 64) = true := by simp; omega
    clear c5
    go_enter Try.func87, Try.ntmps87
    go_wp2_with fail
    go_quiet ((go_at_call 76; exact quiet_of_same (HPL.out _)))
    go_wp2
    go_ret
    exact ⟨ret_bool HM.out.symm, HBX.out.trans (Drawn.below ⟨_, rfl⟩ _)⟩
  have t4 : ((ws.length : Int) != (n * m + 63) / 64) = false := by simp; omega
  by_cases c6 : n * m % 64 = 0
  · have HM := Lib.hid (mayPacked_iff.2 (by unfold MayPacked; exact ⟨by omega, by omega, by omega, by omega, c5, .inl c6⟩) : mayPacked n m ws = true)
    have t6 : (n * m % 64 == 0) = true := by simp; omega
    clear c5 c6
    go_enter Try.func87, Try.ntmps87
    go_wp2_with fail
    go_quiet ((go_at_call 76; exact quiet_of_same (HPL.out _)))
    go_wp2
    go_ret
    exact ⟨ret_bool HM.out.symm, HBX.out.trans (Drawn.below ⟨_, rfl⟩ _)⟩
  have t6 : (n * m % 64 == 0) = false := by simp; omega
  have hpos : 0 < ws.length := by omega
  obtain ⟨b, off, rfl, hb, hcells⟩ := word_at hr hpos
  have hcell := hcells (ws.length - 1) (by omega)
  clear hcells
  have hbw : b < w.heap.size := by omega
  have hx := word_lt hw (ws.length - 1)
  obtain ⟨k, hk⟩ : ∃ k : Nat, k = (n * m % 64).toNat := ⟨_, rfl⟩
  have HM : Hid (mayPacked n m ws = decide (ws.getD (ws.length - 1) 0 / 2 ^ k = 0)) := by
    rw [hk]
    by_cases c5' : ws.getD (ws.length - 1) 0 / 2 ^ (n * m % 64).toNat = 0
    · exact (mayPacked_iff.2 (by unfold MayPacked; exact ⟨by omega, by omega, by omega, by omega, c5, .inr c5'⟩)).trans (decide_eq_true c5').symm
    · exact (mayPacked_false.2 (by unfold MayPacked; rintro ⟨_, _, _, _, _, h | h⟩ <;> contradiction)).trans (decide_eq_false c5').symm
  generalize ws.getD (ws.length - 1) 0 = x at *
  have HK := Lib.hid hk
  clear hk c5 c6
  go_enter Try.func87, Try.ntmps87
  go_wp2_with fail
  go_quiet ((go_at_call 76; exact quiet_of_same (HPL.out _)))
  go_wp2
  go_ret
  exact ⟨ret_bool (by rw [HM.out, HK.out, zero_test']), HBX.out.trans (Drawn.below ⟨_, rfl⟩ _)⟩
end Go.Proofs.Yteblkbgcnoepnaa
