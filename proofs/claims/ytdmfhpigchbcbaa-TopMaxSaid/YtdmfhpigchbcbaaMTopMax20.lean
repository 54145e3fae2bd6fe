/-
  Contracts of bits.May and of the reference's BitsMay: both say whether a row is well formed. Conditions: the row can be read as data.
-/
import Derived.Test.YtdmfhpigchbcbaaMTopMax19
import Derived.Test.YtdmfhpigchbcbaaMTopMax00
namespace Go.Proofs.Ytdmfhpigchbcbaa
open Go Go.RowKit Go.Dam
set_option linter.unusedVariables false

theorem zero_test (x m : Nat) : (((x : Int) / 2 ^ m) == 0) = decide (x / 2 ^ m = 0) := by
  have e : (x : Int) / 2 ^ m = ((x / 2 ^ m : Nat) : Int) := by simp
  rw [e, Bool.eq_iff_iff, beq_iff_eq, decide_eq_true_iff]
  omega
set_option maxHeartbeats 400000 in
theorem may_any (v : Value) (n : Int) (ws : List Nat) (w : World) (B : Nat) (hB : B ≤ w.heap.size) (h : IsBits w B v n ws) :
    Calls Try.prog 62 #[v] w fun e w' => e = .returned (.bool (mayBits n ws)) ∧ Below w.heap.size w w' := by
  obtain ⟨s, rfl, hi, A, c, rfl, hc, hm, hl, hr, hw⟩ := h
  unfold I64 at hi
  by_cases c1 : n < 0
  · have HM := Lib.hid (mayBits_false.2 fun h => by unfold MayBits at h; omega : mayBits n ws = false)
    go_enter Try.func62, Try.ntmps62
    go_wp2_with fail
    go_ret
    exact ⟨ret_bool HM.out.symm, (Below.refl _ _).alloc (Nat.le_refl _) _⟩
  by_cases c2 : 4096 < n
  · have HM := Lib.hid (mayBits_false.2 fun h => by unfold MayBits at h; omega : mayBits n ws = false)
    go_enter Try.func62, Try.ntmps62
    go_wp2_with fail
    go_ret
    exact ⟨ret_bool HM.out.symm, (Below.refl _ _).alloc (Nat.le_refl _) _⟩
  by_cases c3 : (ws.length : Int) = (n + 63) / 64
  rotate_left
  · have HM := Lib.hid (mayBits_false.2 fun h => by unfold MayBits at h; omega : mayBits n ws = false)
    have h3 : ((ws.length : Int) != (n + 64 - 1) / 64) = true := by simp; omega
    clear c3
    go_enter Try.func62, Try.ntmps62
    go_wp2_with fail
    go_ret
    exact ⟨ret_bool HM.out.symm, (Below.refl _ _).alloc (Nat.le_refl _) _⟩
  have h3 : ((ws.length : Int) != (n + 64 - 1) / 64) = false := by simp; omega
  by_cases c4 : n % 64 = 0
  · have HM := Lib.hid (mayBits_iff.2 (by unfold MayBits; exact ⟨by omega, by omega, c3, .inl c4⟩) : mayBits n ws = true)
    have h4 : (n % 64 == 0) = true := by simp; omega
    clear c3 c4
    go_enter Try.func62, Try.ntmps62
    go_wp2_with fail
    go_ret
    exact ⟨ret_bool HM.out.symm, (Below.refl _ _).alloc (Nat.le_refl _) _⟩
  have h4 : (n % 64 == 0) = false := by simp; omega
  have hpos : 0 < ws.length := by omega
  obtain ⟨b, off, rfl, hb, hcells⟩ := word_at hr hpos
  have hcell := hcells (ws.length - 1) (by omega)
  clear hcells
  have hbw : b < w.heap.size := by omega
  have hx := word_lt hw (ws.length - 1)
  obtain ⟨k, hk⟩ : ∃ k : Nat, k = (n % 64).toNat := ⟨_, rfl⟩
  have HM : Hid (mayBits n ws = decide (ws.getD (ws.length - 1) 0 / 2 ^ k = 0)) := by
    rw [hk]
    by_cases c5 : ws.getD (ws.length - 1) 0 / 2 ^ (n % 64).toNat = 0
    · exact (mayBits_iff.2 (by unfold MayBits; exact ⟨by omega, by omega, c3, .inr c5⟩)).trans (decide_eq_true c5).symm
    · exact (mayBits_false.2 (by unfold MayBits; rintro ⟨_, _, _, h | h⟩ <;> contradiction)).trans (decide_eq_false c5).symm
  generalize ws.getD (ws.length - 1) 0 = x at *
  have HK := Lib.hid hk
  clear hk c3 c4
  go_enter Try.func62, Try.ntmps62
  go_wp2_with fail
  go_ret
  exact ⟨ret_bool (by rw [HM.out, HK.out, zero_test]), (Below.refl _ _).alloc (Nat.le_refl _) _⟩

theorem bit_of_word (ws : List Nat) (i : Nat) : (ws.getD (i / 64) 0).testBit (i % 64) = bitAt ws i := by unfold bitAt; rfl
end Go.Proofs.Ytdmfhpigchbcbaa
