/-
  Contracts of bits.May and of the reference's BitsMay: both say whether a row is well formed. Conditions: the row can be read as data.
-/
import Derived.Test.YtjnndbllaplkcaaRefBit
import Derived.Test.YtjnndbllaplkcaaBitsPlain
import Derived.Test.YtjnndbllaplkcaaWords
namespace Go.Proofs.Ytjnndbllaplkcaa
open Go Go.RowKit Go.Dam
set_option linter.unusedVariables false

theorem zero_test (x m : Nat) : (((x : Int) / 2 ^ m) == 0) = decide (x / 2 ^ m = 0) := by
  have e : (x : Int) / 2 ^ m = ((x / 2 ^ m : Nat) : Int) := by simp
  rw [e, Bool.eq_iff_iff, beq_iff_eq, decide_eq_true_iff]
  omega
set_option maxHeartbeats 400000 in
theorem may_any (v : Value) (n : Int) (ws : List Nat) (w : World) (B : Nat) (hB : B ≤ w.heap.size) (h : IsBits w B v n ws) :
    Calls Try.prog 90 #[v] w fun e w' => e = .returned (.bool (mayBits n ws)) ∧ Below w.heap.size w w' := by
  obtain ⟨s, rfl, hi, A, c, rfl, hc, hm, hl, hr, hw⟩ := h
  unfold I64 at hi
  by_cases c1 : n < 0
  · have HM := Lib.hid (mayBits_false.2 fun h => by unfold MayBits at h; omega : mayBits n ws = false)
    go_enter Try.func90, Try.ntmps90
    go_wp2_with fail
    go_ret
    exact ⟨ret_bool HM.out.symm, (Below.refl _ _).alloc (Nat.le_refl _) _⟩
  by_cases c2 : 4096 < n
  · have HM := Lib.hid (mayBits_false.2 fun h => by unfold MayBits at h; omega : mayBits n ws = false)
    go_enter Try.func90, Try.ntmps90
    go_wp2_with fail
    go_ret
    exact ⟨ret_bool HM.out.symm, (Below.refl _ _).alloc (Nat.le_refl _) _⟩
  by_cases c3 : (ws.length : Int) = (n + 63) / 64
  rotate_left
  · have HM := Lib.hid (mayBits_false.2 fun h => by unfold MayBits at h; omega : mayBits n ws = false)
    have h3 : ((ws.length : Int) != (n + 64 - 1) / 64) = true := by simp; omega
    clear c3
    go_enter Try.func90, Try.ntmps90
    go_wp2_with fail
    go_ret
    exact ⟨ret_bool HM.out.symm, (Below.refl _ _).alloc (Nat.le_refl _) _⟩
  have h3 : ((ws.length : Int) != (n + 64 - 1) / 64) = false := by simp; omega
  by_cases c4 : n % 64 = 0
  · have HM := Lib.hid (mayBits_iff.2 (by unfold MayBits; exact ⟨by omega, by omega, c3, .inl c4⟩) : mayBits n ws = true)
    have h4 : (n % 64 == 0) = true := by simp; omega
    clear c3 c4
    go_enter Try.func90, Try.ntmps90
    go_wp2_with fail
    go_ret
    exact ⟨ret_bool HM.out.symm, (Below.refl _ _).alloc (Nat.le_refl _) _⟩
  have h4 : (n % 64 == 0) = false := by simp; omega
  have hpos : 0 < ws.length := by omega
  obtain ⟨b, off, rfl, hb, hcells⟩ := word_at hr hpos
  have hcell := hcells (ws.length - 1) (by omega)
  clear hcells
  have hbw : b < w.heap.size := by omega
  have hx := word_lt hw (ws.length - 1)
  obtain ⟨k, hk⟩ : ∃ k : Nat, k = (n % 64).toNat := ⟨_, rfl⟩
  have HM : Hid (mayBits n ws = decide (ws.getD (ws.length - 1) 0 / 2 ^ k = 0)) := by
    rw [hk]
    by_cases c5 : ws.getD (ws.length - 1) 0 / 2 ^ (n % 64).toNat = 0
    · exact (mayBits_iff.2 (by unfold MayBits; exact ⟨by omega, by omega, c3, .inr c5⟩)).trans (decide_eq_true c5).symm
    · exact (mayBits_false.2 (by unfold MayBits; rintro ⟨_, _, _, h | h⟩ <;> contradiction)).trans (decide_eq_false c5).symm
  generalize ws.getD (ws.length - 1) 0 = x at *
  have HK := Lib.hid hk
  clear hk c3 c4
  go_enter Try.func90, Try.ntmps90
  go_wp2_with fail
  go_ret
  exact ⟨ret_bool (by rw [HM.out, HK.out, zero_test]), (Below.refl _ _).alloc (Nat.le_refl _) _⟩

theorem bit_of_word (ws : List Nat) (i : Nat) : (ws.getD (i / 64) 0).testBit (i % 64) = bitAt ws i := by unfold bitAt; rfl
set_option maxHeartbeats 400000 in
theorem refMay_any (v : Value) (n : Int) (ws : List Nat) (w : World) (B : Nat) (hB : B ≤ w.heap.size) (h : IsBits w B v n ws) :
    Calls Try.prog 92 #[v] w fun e w' => e = .returned (.bool (mayBits n ws)) ∧ Below w.heap.size w w' := by
  obtain ⟨s, rfl, hi, A, c, rfl, hc, hm, hl, hr, hw⟩ := h
  unfold I64 at hi
  have HR := Lib.hid (mayBits_ref (n := n) hw)
  by_cases c1 : n < 0 ∨ 4096 < n ∨ 64 * (ws.length : Int) < n ∨ n + 64 ≤ 64 * (ws.length : Int)
  · have HM : Hid (mayBits n ws = false) := Lib.hid (mayBits_false.2 fun h => (HR.out.1 h).1 c1)
    go_enter Try.func92, Try.ntmps92
    go_wp2_with fail
    all_goals first
      | (go_ret; exact ⟨ret_bool HM.out.symm, (Below.refl _ _).alloc (Nat.le_refl _) _⟩)
      | (exfalso; omega)
  obtain ⟨k, rfl⟩ := Int.eq_ofNat_of_zero_le (by omega : 0 ≤ n)
  have d1 : (k : Int) ≤ 4096 := by omega
  have d2 : (k : Int) ≤ 64 * (ws.length : Int) := by omega
  have d3 : 64 * (ws.length : Int) < (k : Int) + 64 := by omega
  have HC := Lib.hid c1
  clear c1
  go_enter Try.func92, Try.ntmps92
  go_wp2_with fail
  go_loop [3] (fun iv => ∃ i : Nat, k ≤ i ∧ i ≤ 64 * ws.length ∧ iv = .int .i64 i ∧ ∀ j : Nat, k ≤ j → j < i → bitAt ws j = false) (fun iv => 64 * ws.length - (intOf iv).toNat)
  case atStart => exact ⟨k, Nat.le_refl _, by omega, rfl, fun j h1 h2 => absurd h2 (by omega)⟩
  case round =>
    obtain ⟨i, h1, h2, rfl, h3⟩ := hrel
    by_cases hlt : i < 64 * ws.length
    · obtain ⟨b, off, rfl, hb, hcells⟩ := word_at hr (by omega)
      have hcell := hcells (i / 64) (by omega)
      have hx := word_lt hw (i / 64)
      have hbit := bit_of_word ws i
      generalize ws.getD (i / 64) 0 = x at *
      have hbw : b < w.heap.size := by omega
      have H3 := Lib.hid h3
      clear hcells h3
      cases ht : bitAt ws i with
      | true =>
        rw [ht] at hbit
        have HM : Hid (mayBits k ws = false) := Lib.hid (mayBits_false.2 fun h => by
          have := (HR.out.1 h).2 i (by omega) hlt
          rw [ht] at this; cases this)
        have hb6 := bitOf_any x (i % 64) (w.alloc (Obj.cells #[Value.int IntKind.i64 k, Value.slice (some ⟨b, off, none⟩) ws.length c] 32)) hx (by omega)
        rw [hbit] at hb6
        have HB := Lib.hid hb6
        clear hb6 hbit ht
        go_wp2_with (go_at_call 99; refine (HB.out).mono ?_; rintro e w' ⟨rfl, rfl⟩)
        go_ret
        exact ⟨ret_bool HM.out.symm, (Below.refl _ _).alloc (Nat.le_refl _) _⟩
      | false =>
        rw [ht] at hbit
        have hb6 := bitOf_any x (i % 64) (w.alloc (Obj.cells #[Value.int IntKind.i64 k, Value.slice (some ⟨b, off, none⟩) ws.length c] 32)) hx (by omega)
        rw [hbit] at hb6
        have HB := Lib.hid hb6
        have HT := Lib.hid ht
        clear hb6 hbit ht
        go_wp2_with (go_at_call 99; refine (HB.out).mono ?_; rintro e w' ⟨rfl, rfl⟩)
        go_round
        case rel => exact ⟨i + 1, by omega, by omega, by go_num, fun j h4 h5 => by
          rcases Nat.lt_or_ge j i with h6 | h6
          · exact H3.out j h4 h6
          · rw [show j = i from by omega]; exact HT.out⟩
        case measure => simp [intOf]; omega
    · have hi' : i = 64 * ws.length := by omega
      have HM : Hid (mayBits k ws = true) := Lib.hid (mayBits_iff.2 (HR.out.2 ⟨HC.out, fun j h4 h5 => h3 j (by omega) (by omega)⟩))
      clear h3 hi'
      go_wp2
      go_ret
      exact ⟨ret_bool HM.out.symm, (Below.refl _ _).alloc (Nat.le_refl _) _⟩
end Go.Proofs.Ytjnndbllaplkcaa
