/-
  Contracts of morton.Code and morton.Back (with fits, spread and gather). Conditions: the arguments are ints.
-/
import Derived.Test.YtnkflafkalmnmaaMTopUnits02
import Derived.Test.YtnkflafkalmnmaaMTopUnits00
namespace Go.Dam
/-- What Code answers. -/
def CodeR (x y r c : Int) : Prop := (0 ≤ x ∧ x ≤ 1048576 ∧ 0 ≤ y ∧ y ≤ 1048576 ∧ r = (zipB x.toNat y.toNat 21 : Nat) ∧ c = 0) ∨ ((x < 0 ∨ y < 0 ∨ 1048576 < x ∨ 1048576 < y) ∧ r = 0 ∧ c = 2)
theorem CodeR.ex (x y : Int) : ∃ r c, CodeR x y r c := by
  by_cases h : x < 0 ∨ y < 0 ∨ 1048576 < x ∨ 1048576 < y
  · exact ⟨_, _, .inr ⟨h, rfl, rfl⟩⟩
  · exact ⟨_, _, .inl ⟨by omega, by omega, by omega, by omega, rfl, rfl⟩⟩
/-- What Back answers. -/
def BackR (code a b c : Int) : Prop :=
  (∃ k : Nat, code = k ∧ evens k 32 ≤ 1048576 ∧ evens (k / 2) 32 ≤ 1048576 ∧ a = (evens k 32 : Nat) ∧ b = (evens (k / 2) 32 : Nat) ∧ c = 0) ∨
  ((code < 0 ∨ ∃ k : Nat, code = k ∧ (1048576 < evens k 32 ∨ 1048576 < evens (k / 2) 32)) ∧ a = 0 ∧ b = 0 ∧ c = 2)
theorem BackR.ex (code : Int) : ∃ a b c, BackR code a b c := by
  by_cases h : code < 0
  · exact ⟨_, _, _, .inr ⟨.inl h, rfl, rfl, rfl⟩⟩
  · obtain ⟨k, rfl⟩ := Int.eq_ofNat_of_zero_le (by omega : 0 ≤ code)
    by_cases h : 1048576 < evens k 32 ∨ 1048576 < evens (k / 2) 32
    · exact ⟨_, _, _, .inr ⟨.inr ⟨k, rfl, h⟩, rfl, rfl, rfl⟩⟩
    · exact ⟨_, _, _, .inl ⟨k, rfl, by omega, by omega, rfl, rfl, rfl⟩⟩
end Go.Dam
namespace Go.Proofs.Ytnkflafkalmnmaa
open Go Go.RowKit Go.Dam
set_option linter.unusedVariables false
set_option maxHeartbeats 400000 in
theorem mortonFits_yes (x : Int) (w : World) (h0 : 0 ≤ x) (h1 : x ≤ 1048576) : Calls Try.prog 10 #[.int .i64 x] w fun e w' => e = .returned (.bool true) ∧ w = w' := by
  go_enter Try.func10, Try.ntmps10
  go_wp2
  go_ret
  exact ⟨ret_bool (by simp <;> omega), rfl⟩
set_option maxHeartbeats 400000 in
theorem mortonFits_no (x : Int) (w : World) (h : x < 0 ∨ 1048576 < x) : Calls Try.prog 10 #[.int .i64 x] w fun e w' => e = .returned (.bool false) ∧ w = w' := by
  rcases h with h | h
  · go_enter Try.func10, Try.ntmps10
    go_wp2
    go_ret
    exact ⟨ret_bool (by simp <;> omega), rfl⟩
  · have h0 : 0 ≤ x := by omega
    go_enter Try.func10, Try.ntmps10
    go_wp2
    go_ret
    exact ⟨ret_bool (by simp <;> omega), rfl⟩
set_option maxHeartbeats 400000 in
theorem spread_any (n : Nat) (w : World) (hn : n < 2097152) : Calls Try.prog 11 #[.int .i64 n] w fun e w' => e = .returned (.int .i64 (spN n : Nat)) ∧ w = w' := by
  have hE := spN_eq n
  obtain ⟨o1, a1, l1, c1, d1, e1, f1⟩ := sp_step 16 281470681808895 n 65536 281470681808895 rfl rfl (by decide) (by omega) (by omega)
  have g1 := spS_lt 16 281470681808895 n 21 (by omega)
  rw [← f1] at g1
  obtain ⟨o2, a2, l2, c2, d2, e2, f2⟩ := sp_step 8 71777214294589695 a1 256 71777214294589695 rfl rfl (by decide) (by omega) (by omega)
  have g2 := spS_lt 8 71777214294589695 a1 37 (by omega)
  rw [← f2] at g2
  obtain ⟨o3, a3, l3, c3, d3, e3, f3⟩ := sp_step 4 1085102592571150095 a2 16 1085102592571150095 rfl rfl (by decide) (by omega) (by omega)
  have g3 := spS_lt 4 1085102592571150095 a2 45 (by omega)
  rw [← f3] at g3
  obtain ⟨o4, a4, l4, c4, d4, e4, f4⟩ := sp_step 2 3689348814741910323 a3 4 3689348814741910323 rfl rfl (by decide) (by omega) (by omega)
  have g4 := spS_lt 2 3689348814741910323 a3 49 (by omega)
  rw [← f4] at g4
  obtain ⟨o5, a5, l5, c5, d5, e5, f5⟩ := sp_step 1 6148914691236517205 a4 2 6148914691236517205 rfl rfl (by decide) (by omega) (by omega)
  have HE : Hid (a5 = spN n) := Lib.hid (by rw [hE, ← f1, ← f2, ← f3, ← f4, ← f5])
  clear hE f1 f2 f3 f4 f5
  go_enter Try.func11, Try.ntmps11
  go_wp2
  go_ret
  exact ⟨ret_int (by rw [← HE.out]), rfl⟩
set_option maxHeartbeats 400000 in
theorem code_any (x y r c : Int) (w : World) (hR : CodeR x y r c) : Calls Try.prog 5 #[.int .i64 x, .int .i64 y] w fun e w' => e = .returned (.tuple #[.int .i64 r, .int .i64 c]) ∧ w = w' := by
  rcases hR with ⟨h1, h2, h3, h4, rfl, rfl⟩ | ⟨h, rfl, rfl⟩
  · obtain ⟨a, rfl⟩ := Int.eq_ofNat_of_zero_le h1
    obtain ⟨b, rfl⟩ := Int.eq_ofNat_of_zero_le h3
    simp only [Int.toNat_natCast]
    have s1 := Lib.hid fun W => spread_any a W (by omega)
    have s2 := Lib.hid fun W => spread_any b W (by omega)
    have hz := code_or a b (by omega) (by omega)
    have l2 := spN_lt b (by omega)
    have HE : Hid (zipB a b 21 = zipB a b 21) := Lib.hid rfl
    generalize zipB a b 21 = z at *
    generalize spN a = p at *
    generalize spN b = q at *
    go_enter Try.func5, Try.ntmps5
    go_wp2_with (first
      | (go_at_call 10; refine (mortonFits_yes _ _ (by omega) (by omega)).mono ?_; rintro e w1 ⟨rfl, rfl⟩)
      | (go_at_call 11; (with_reducible refine (s1.out _).mono ?_); rintro e w1 ⟨rfl, rfl⟩)
      | (go_at_call 11; (with_reducible refine (s2.out _).mono ?_); rintro e w1 ⟨rfl, rfl⟩))
    go_ret2
    exact ⟨rfl, rfl⟩
  · by_cases hx : x < 0 ∨ 1048576 < x
    · clear h
      go_enter Try.func5, Try.ntmps5
      go_wp2_with (go_at_call 10; refine (mortonFits_no _ _ hx).mono ?_; rintro e w1 ⟨rfl, rfl⟩)
      go_ret2
      exact ⟨rfl, rfl⟩
    · have hy : y < 0 ∨ 1048576 < y := by omega
      have h0 : 0 ≤ x := by omega
      have h1 : x ≤ 1048576 := by omega
      clear h hx
      go_enter Try.func5, Try.ntmps5
      go_wp2_with (first
        | (go_at_call 10; (with_reducible refine (mortonFits_yes x _ h0 h1).mono ?_); rintro e w1 ⟨rfl, rfl⟩)
        | (go_at_call 10; (with_reducible refine (mortonFits_no y _ hy).mono ?_); rintro e w1 ⟨rfl, rfl⟩))
      go_ret2
      exact ⟨rfl, rfl⟩
end Go.Proofs.Ytnkflafkalmnmaa
