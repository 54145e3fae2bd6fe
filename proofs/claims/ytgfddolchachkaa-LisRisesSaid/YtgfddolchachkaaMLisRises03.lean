/-
  Contracts of sort.Search at the closures of package lis: the boundary of a monotone test. Conditions: the closure has a contract.
-/
import Derived.Test.YtgfddolchachkaaMLisRises02
namespace Go.Dam
/-- Where a test turns from no to yes. -/
def BoundOf (P : Nat → Bool) (n k : Nat) : Prop := k ≤ n ∧ (∀ h, h < k → P h = false) ∧ ∀ h, k ≤ h → h < n → P h = true
end Go.Dam
namespace Go.Proofs.Ytgfddolchachkaa
open Go Go.RowKit Go.Dam
set_option linter.unusedVariables false
set_option maxHeartbeats 1000000 in
theorem pilesSearch_any (n a1 a2 a3 : Nat) (P : Nat → Bool) (w : World) (hn : n ≤ 1099511627776) (hmono : ∀ i j, i ≤ j → j < n → P i = true → P j = true)
    (hF : ∀ h b, h < n → P h = b → ∀ W, Drawn w W → Calls Try.prog 133 #[.int .i64 h, .pointer (some ⟨a1, 0, none⟩), .pointer (some ⟨a2, 0, none⟩), .pointer (some ⟨a3, 0, none⟩)] W fun e w' => e = .returned (.bool b) ∧ Drawn W w') :
    Calls Try.prog 90 #[.int .i64 n, .func (.func 133) #[] #[.pointer (some ⟨a1, 0, none⟩), .pointer (some ⟨a2, 0, none⟩), .pointer (some ⟨a3, 0, none⟩)]] w fun e w' => ∃ k : Nat, e = .returned (.int .i64 k) ∧ BoundOf P n k ∧ Drawn w w' := by
  have HF := Lib.hid hF
  have HM := Lib.hid hmono
  clear hF hmono
  go_enter Try.func90, Try.ntmps90
  go_wp2_with fail
  go_loopw [5, 6] (fun iv jv wr => ∃ i j : Nat, i ≤ j ∧ j ≤ n ∧ iv = .int .i64 i ∧ jv = .int .i64 j ∧ (∀ h, h < i → P h = false) ∧ (∀ h, j ≤ h → h < n → P h = true) ∧ Drawn w wr) (fun iv jv _ => (intOf jv).toNat - (intOf iv).toNat)
  case atStart => exact ⟨0, n, by omega, by omega, rfl, rfl, fun h hh => absurd hh (by omega), fun h h1 h2 => absurd h2 (by omega), Drawn.refl _⟩
  case round =>
    obtain ⟨i, j, hi, hj, rfl, rfl, hlo, hhi, hd⟩ := hrel
    by_cases hlt : i < j
    · have EM : Hid (((i : Int) + (j : Int)) / 2 = (((i + j) / 2 : Nat) : Int)) := Lib.hid (by simp)
      have HLO := Lib.hid hlo
      have HHI := Lib.hid hhi
      have HD := Lib.hid hd
      have hC := fun b hb => HF.out ((i + j) / 2) b (by omega) hb
      clear hlo hhi hd
      cases hc : P ((i + j) / 2) with
      | true =>
        have HC := Lib.hid (hC true hc)
        have HX : Hid (∀ h, (i + j) / 2 ≤ h → h < n → P h = true) := Lib.hid fun h h1 h2 => HM.out _ _ h1 h2 hc
        clear hc hC
        go_wp2_with (rw [EM.out]; go_at_call 133; refine (HC.out _ HD.out).mono ?_; rintro e w1 ⟨rfl, hd1⟩)
        go_roundw
        case rel => exact ⟨i, (i + j) / 2, by omega, by omega, rfl, by go_num, HLO.out, HX.out, HD.out.trans hd1⟩
        case measure => simp [intOf]; omega
      | false =>
        have HC := Lib.hid (hC false hc)
        have HX : Hid (∀ h, h < (i + j) / 2 + 1 → P h = false) := Lib.hid fun h h1 => by
          cases hp : P h with
          | false => rfl
          | true => have := HM.out h ((i + j) / 2) (by omega) (by omega) hp; rw [hc] at this; cases this
        clear hc hC
        go_wp2_with (rw [EM.out]; go_at_call 133; refine (HC.out _ HD.out).mono ?_; rintro e w1 ⟨rfl, hd1⟩)
        go_roundw
        case rel => exact ⟨(i + j) / 2 + 1, j, by omega, by omega, by go_num, rfl, HX.out, HHI.out, HD.out.trans hd1⟩
        case measure => simp [intOf]; omega
    · obtain rfl : i = j := by omega
      have HR : Hid (BoundOf P n i) := Lib.hid ⟨hj, hlo, hhi⟩
      clear hlo hhi
      go_wp2
      go_ret
      exact ⟨i, rfl, HR.out, hd⟩
set_option maxHeartbeats 1000000 in
theorem riseSearch_any (n a1 a2 : Nat) (P : Nat → Bool) (w : World) (hn : n ≤ 1099511627776) (hmono : ∀ i j, i ≤ j → j < n → P i = true → P j = true)
    (hF : ∀ h b, h < n → P h = b → ∀ W, Drawn w W → Calls Try.prog 91 #[.int .i64 h, .pointer (some ⟨a1, 0, none⟩), .pointer (some ⟨a2, 0, none⟩)] W fun e w' => e = .returned (.bool b) ∧ Drawn W w') :
    Calls Try.prog 90 #[.int .i64 n, .func (.func 91) #[] #[.pointer (some ⟨a1, 0, none⟩), .pointer (some ⟨a2, 0, none⟩)]] w fun e w' => ∃ k : Nat, e = .returned (.int .i64 k) ∧ BoundOf P n k ∧ Drawn w w' := by
  have HF := Lib.hid hF
  have HM := Lib.hid hmono
  clear hF hmono
  go_enter Try.func90, Try.ntmps90
  go_wp2_with fail
  go_loopw [5, 6] (fun iv jv wr => ∃ i j : Nat, i ≤ j ∧ j ≤ n ∧ iv = .int .i64 i ∧ jv = .int .i64 j ∧ (∀ h, h < i → P h = false) ∧ (∀ h, j ≤ h → h < n → P h = true) ∧ Drawn w wr) (fun iv jv _ => (intOf jv).toNat - (intOf iv).toNat)
  case atStart => exact ⟨0, n, by omega, by omega, rfl, rfl, fun h hh => absurd hh (by omega), fun h h1 h2 => absurd h2 (by omega), Drawn.refl _⟩
  case round =>
    obtain ⟨i, j, hi, hj, rfl, rfl, hlo, hhi, hd⟩ := hrel
    by_cases hlt : i < j
    · have EM : Hid (((i : Int) + (j : Int)) / 2 = (((i + j) / 2 : Nat) : Int)) := Lib.hid (by simp)
      have HLO := Lib.hid hlo
      have HHI := Lib.hid hhi
      have HD := Lib.hid hd
      have hC := fun b hb => HF.out ((i + j) / 2) b (by omega) hb
      clear hlo hhi hd
      cases hc : P ((i + j) / 2) with
      | true =>
        have HC := Lib.hid (hC true hc)
        have HX : Hid (∀ h, (i + j) / 2 ≤ h → h < n → P h = true) := Lib.hid fun h h1 h2 => HM.out _ _ h1 h2 hc
        clear hc hC
        go_wp2_with (rw [EM.out]; go_at_call 91; refine (HC.out _ HD.out).mono ?_; rintro e w1 ⟨rfl, hd1⟩)
        go_roundw
        case rel => exact ⟨i, (i + j) / 2, by omega, by omega, rfl, by go_num, HLO.out, HX.out, HD.out.trans hd1⟩
        case measure => simp [intOf]; omega
      | false =>
        have HC := Lib.hid (hC false hc)
        have HX : Hid (∀ h, h < (i + j) / 2 + 1 → P h = false) := Lib.hid fun h h1 => by
          cases hp : P h with
          | false => rfl
          | true => have := HM.out h ((i + j) / 2) (by omega) (by omega) hp; rw [hc] at this; cases this
        clear hc hC
        go_wp2_with (rw [EM.out]; go_at_call 91; refine (HC.out _ HD.out).mono ?_; rintro e w1 ⟨rfl, hd1⟩)
        go_roundw
        case rel => exact ⟨(i + j) / 2 + 1, j, by omega, by omega, by go_num, rfl, HX.out, HHI.out, HD.out.trans hd1⟩
        case measure => simp [intOf]; omega
    · obtain rfl : i = j := by omega
      have HR : Hid (BoundOf P n i) := Lib.hid ⟨hj, hlo, hhi⟩
      clear hlo hhi
      go_wp2
      go_ret
      exact ⟨i, rfl, HR.out, hd⟩
end Go.Proofs.Ytgfddolchachkaa
