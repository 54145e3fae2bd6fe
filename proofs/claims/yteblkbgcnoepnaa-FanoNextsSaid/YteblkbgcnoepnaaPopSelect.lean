/-
  Contracts of pop.Select and of the reference's PopSelect: the place of the set bit with a number. Conditions: the word is below 2 to the 64th, as every uint64 is.
-/
import Derived.Test.YteblkbgcnoepnaaRefBit
import Derived.Test.YteblkbgcnoepnaaPopRank
namespace Go.Proofs.Yteblkbgcnoepnaa
open Go Go.RowKit Go.Dam
set_option linter.unusedVariables false

theorem sel_ex (n k j : Nat) (h : k < cnt n j) : ∃ p, p < j ∧ n.testBit p = true ∧ cnt n p = k := by
  induction j with
  | zero => simp [cnt_0] at h
  | succ j ih =>
    by_cases hk : k < cnt n j
    · obtain ⟨p, h1, h2⟩ := ih hk
      exact ⟨p, by omega, h2⟩
    · have hm := mod_of_test n j
      rw [cnt_succ] at h
      refine ⟨j, by omega, ?_, by split at hm <;> omega⟩
      cases ht : n.testBit j with
      | true => rfl
      | false => rw [ht] at hm; simp at hm; omega

set_option maxHeartbeats 400000 in
theorem select_neg (n : Nat) (k : Int) (w : World) (h : n < 18446744073709551616) (hk : k < 0) :
    Calls Try.prog 47 #[.int .u64 n, .int .i64 k] w fun e w' => e = .returned (.tuple #[.int .i64 0, .int .i64 2]) ∧ w = w' := by
  go_enter Try.func47, Try.ntmps47
  go_wp2_with fail
  go_ret2
  exact ⟨rfl, rfl⟩
set_option maxHeartbeats 400000 in
theorem select_none (n k : Nat) (w : World) (h : n < 18446744073709551616) (hk : cnt n 64 ≤ k) (hk' : k ≤ 9223372036854775807) :
    Calls Try.prog 47 #[.int .u64 n, .int .i64 k] w fun e w' => e = .returned (.tuple #[.int .i64 0, .int .i64 7]) ∧ w = w' := by
  go_enter Try.func47, Try.ntmps47
  go_wp2_with (go_at_call 43; refine (ones_any _ _ h).mono ?_; rintro e w' ⟨rfl, rfl⟩)
  go_ret2
  exact ⟨rfl, rfl⟩
/-- The halves: 32, 16, .., 1, and 0 behind the last. -/
def Half (h : Nat) : Prop := h = 0 ∨ h = 1 ∨ h = 2 ∨ h = 4 ∨ h = 8 ∨ h = 16 ∨ h = 32
def room (h : Nat) : Nat := if h = 0 then 1 else 2 * h
theorem half_next {h : Nat} (hh : Half h) (h0 : 0 < h) : Half (h / 2) ∧ room (h / 2) = h ∧ room h = 2 * h ∧ h ≤ 32 := by
  rcases hh with rfl | rfl | rfl | rfl | rfl | rfl | rfl <;> simp [Half, room] at *
set_option maxHeartbeats 400000 in
theorem select_some (n k p : Nat) (w : World) (h : n < 18446744073709551616) (hp : p < 64) (hb : n.testBit p = true) (hk : cnt n p = k) :
    Calls Try.prog 47 #[.int .u64 n, .int .i64 k] w fun e w' => e = .returned (.tuple #[.int .i64 p, .int .i64 0]) ∧ Drawn w w' := by
  have h64 : k < cnt n 64 := by
    have h1 := mod_of_test n p
    have h2 : cnt n (p + 1) ≤ cnt n 64 := cnt_mono n (by omega)
    rw [cnt_succ] at h2
    rw [hb] at h1; simp at h1; omega
  have l64 := cnt_le n 64
  have HB := Lib.hid hb; clear hb
  have HK := Lib.hid hk; clear hk
  go_enter Try.func47, Try.ntmps47
  go_wp2_with (go_at_call 43; refine (ones_any _ _ h).mono ?_; rintro e w' ⟨rfl, rfl⟩)
  go_loopw [1, 6, 7, 8] (fun kv av hv nv wr => ∃ at_ hh kk : Nat, Half hh ∧ at_ ≤ p ∧ p < at_ + room hh ∧ at_ + room hh ≤ 64 ∧ kk + cnt n at_ = k ∧ kv = .int .i64 kk ∧ av = .int .i64 at_ ∧ hv = .int .i64 hh ∧ Drawn w wr) (fun _ _ hv _ _ => (intOf hv).toNat)
  case atStart => exact ⟨0, 32, k, by simp [Half], by omega, by simp [room]; omega, by simp [room], by rw [cnt_0]; omega, rfl, rfl, rfl, Drawn.refl w⟩
  case round =>
    obtain ⟨at_, hh, kk, hH, hp1, hp2, hp3, hkk, rfl, rfl, rfl, hdr⟩ := hrel
    by_cases h0 : 0 < hh
    · obtain ⟨hH', hr', hr, hle⟩ := half_next hH h0
      have ha := cnt_add n at_ hh
      have hd : n / 2 ^ at_ ≤ n := Nat.div_le_self _ _
      have e := mask_and (n / 2 ^ at_) hh (by omega) (by omega)
      have hc := cnt_low (n / 2 ^ at_) hh (by omega)
      have hmod : n / 2 ^ at_ % 2 ^ hh ≤ n / 2 ^ at_ := Nat.mod_le _ _
      have hkp : kk + cnt n at_ = cnt n p := by rw [hkk, HK.out]
      have key : (cnt n (at_ + hh) ≤ cnt n p ↔ at_ + hh ≤ p) := by
        constructor
        · intro hle'
          rcases Nat.lt_or_ge p (at_ + hh) with hlt | hge
          · have h1 := mod_of_test n p
            have h2 : cnt n (p + 1) ≤ cnt n (at_ + hh) := cnt_mono n (by omega)
            rw [cnt_succ] at h2
            rw [HB.out] at h1; simp at h1; omega
          · exact hge
        · exact fun hge => cnt_mono n hge
      obtain ⟨q, hq⟩ : ∃ q, q = n / 2 ^ at_ % 2 ^ hh := ⟨_, rfl⟩
      rw [← hq] at e hc hmod
      have hcl : cnt q 64 ≤ 64 := cnt_le _ _
      have HA : Hid (cnt n (at_ + hh) = cnt n at_ + cnt q 64) := Lib.hid (by rw [hc, ha])
      have hcp : (cnt q 64 ≤ kk ↔ at_ + hh ≤ p) := by have := HA.out; omega
      clear hq
      have hkl : kk ≤ k := by omega
      have HE := Lib.hid hkk; clear hkk
      have e' : bits .and .u64 ((n : Int) / 2 ^ at_) (IntKind.u64.wrap (IntKind.u64.wrap (2 ^ hh) - 1)) = (q : Int) := by rw [← e]; congr 1
      clear e hc ha hkp key
      by_cases hd' : at_ + hh ≤ p
      · have hck : cnt q 64 ≤ kk := by omega
        clear hcp
        go_wp2_with fail
        go_quiet ((go_at_call 43; exact quiet_of_same (ones_any q _ (by omega))))
        go_wp2
        go_roundw
        case rel => exact ⟨at_ + hh, hh / 2, kk - cnt q 64, hH', by omega, by omega, by omega, by have := HE.out; have := HA.out; omega, vint (by omega), by go_num, by go_num, hdr.drewN _⟩
        case measure => simp [intOf]; omega
      · have hck : ¬ cnt q 64 ≤ kk := by omega
        clear hcp
        go_wp2_with fail
        go_quiet ((go_at_call 43; exact quiet_of_same (ones_any q _ (by omega))))
        go_wp2
        go_roundw
        case rel => exact ⟨at_, hh / 2, kk, hH', by omega, by omega, by omega, HE.out, rfl, rfl, by go_num, hdr.drewN _⟩
        case measure => simp [intOf]; omega
    · obtain rfl : hh = 0 := by omega
      obtain rfl : at_ = p := by simp [room] at hp2; omega
      go_wp2
      go_ret2
      exact ⟨rfl, hdr⟩
end Go.Proofs.Yteblkbgcnoepnaa
