/-
  Contracts of skt.fits, skt.place, of the reference's SktPlace (with codeMay): the place of a key in a row of a sketch. Conditions: the arguments are ints.
-/
import Derived.Test.YtjniiiimkejkiaaBase
namespace Go.Dam
/-- The place of key k in row r. -/
def placeN (r k : Nat) : Nat := ((2 * r + 1) * k + 40 * r + 7 + k / 64 * (r + 3)) % 64
theorem placeN_lt (r k : Nat) : placeN r k < 64 := Nat.mod_lt _ (by decide)
theorem placeN_int (r k : Nat) : ((placeN r k : Nat) : Int) = ((2 * (r : Int) + 1) * k + 40 * r + 7 + (k : Int) / 64 * ((r : Int) + 3)) % 64 := by unfold placeN; simp
attribute [irreducible] placeN
end Go.Dam
namespace Go.Proofs.Ytjniiiimkejkiaa
open Go Go.RowKit Go.Dam
set_option linter.unusedVariables false
set_option maxHeartbeats 400000 in
theorem sktFits_yes (x : Int) (w : World) (h0 : 0 ≤ x) (h1 : x ≤ 1048576) : Calls Try.prog 42 #[.int .i64 x] w fun e w' => e = .returned (.bool true) ∧ w = w' := by
  go_enter Try.func42, Try.ntmps42
  go_wp2
  go_ret
  exact ⟨ret_bool (by simp <;> omega), rfl⟩
set_option maxHeartbeats 400000 in
theorem sktFits_no (x : Int) (w : World) (h : x < 0 ∨ 1048576 < x) : Calls Try.prog 42 #[.int .i64 x] w fun e w' => e = .returned (.bool false) ∧ w = w' := by
  rcases h with h | h
  · go_enter Try.func42, Try.ntmps42
    go_wp2
    go_ret
    exact ⟨ret_bool (by simp <;> omega), rfl⟩
  · have h0 : 0 ≤ x := by omega
    go_enter Try.func42, Try.ntmps42
    go_wp2
    go_ret
    exact ⟨ret_bool (by simp <;> omega), rfl⟩
theorem place_bd {r k : Nat} (hr : r < 8) (hk : k ≤ 1048576) : (2 * r + 1) * k ≤ 15728640 ∧ k / 64 * (r + 3) ≤ 163840 :=
  ⟨Nat.mul_le_mul (by omega : 2 * r + 1 ≤ 15) hk, Nat.mul_le_mul (by omega : k / 64 ≤ 16384) (by omega : r + 3 ≤ 10)⟩
set_option maxHeartbeats 400000 in
theorem sktplace_any (r k : Nat) (w : World) (hr : r < 8) (hk : k ≤ 1048576) : Calls Try.prog 43 #[.int .i64 r, .int .i64 k] w fun e w' => e = .returned (.int .i64 (placeN r k : Nat)) ∧ w = w' := by
  obtain ⟨b1, b2⟩ := place_bd hr hk
  have e1 : (2 * (r : Int) + 1) * (k : Int) = (((2 * r + 1) * k : Nat) : Int) := by simp
  have e2 : (k : Int) / 64 * ((r : Int) + 3) = ((k / 64 * (r + 3) : Nat) : Int) := by simp
  have c1 : 0 ≤ (2 * (r : Int) + 1) * (k : Int) := by rw [e1]; omega
  have c2 : (2 * (r : Int) + 1) * (k : Int) ≤ 15728640 := by rw [e1]; omega
  have c3 : 0 ≤ (k : Int) / 64 * ((r : Int) + 3) := by rw [e2]; omega
  have c4 : (k : Int) / 64 * ((r : Int) + 3) ≤ 163840 := by rw [e2]; omega
  have HP := Lib.hid (placeN_int r k)
  clear e1 e2 b1 b2
  go_enter Try.func43, Try.ntmps43
  go_wp2
  go_ret
  exact ⟨ret_int HP.out.symm, rfl⟩
/-- What Place answers. -/
def PlaceR (row key r c : Int) : Prop := (0 ≤ row ∧ row < 8 ∧ 0 ≤ key ∧ key ≤ 1048576 ∧ r = (placeN row.toNat key.toNat : Nat) ∧ c = 0) ∨ ((row < 0 ∨ 8 ≤ row ∨ key < 0 ∨ 1048576 < key) ∧ r = 0 ∧ c = 2)
theorem PlaceR.ex (row key : Int) : ∃ r c, PlaceR row key r c := by
  by_cases h : row < 0 ∨ 8 ≤ row ∨ key < 0 ∨ 1048576 < key
  · exact ⟨_, _, .inr ⟨h, rfl, rfl⟩⟩
  · exact ⟨_, _, .inl ⟨by omega, by omega, by omega, by omega, rfl, rfl⟩⟩
set_option maxHeartbeats 400000 in
theorem codeMay_yes (x : Int) (w : World) (h0 : 0 ≤ x) (h1 : x ≤ 1048576) : Calls Try.prog 44 #[.int .i64 x] w fun e w' => e = .returned (.bool true) ∧ w = w' := by
  go_enter Try.func44, Try.ntmps44
  go_wp2
  go_ret
  exact ⟨ret_bool (by simp <;> omega), rfl⟩
set_option maxHeartbeats 400000 in
theorem codeMay_no (x : Int) (w : World) (h : x < 0 ∨ 1048576 < x) : Calls Try.prog 44 #[.int .i64 x] w fun e w' => e = .returned (.bool false) ∧ w = w' := by
  rcases h with h | h
  · go_enter Try.func44, Try.ntmps44
    go_wp2
    go_ret
    exact ⟨ret_bool (by simp <;> omega), rfl⟩
  · have h0 : 0 ≤ x := by omega
    go_enter Try.func44, Try.ntmps44
    go_wp2
    go_ret
    exact ⟨ret_bool (by simp <;> omega), rfl⟩
set_option maxHeartbeats 400000 in
theorem refSktPlace_any (row key r c : Int) (w : World) (hR : PlaceR row key r c) : Calls Try.prog 45 #[.int .i64 row, .int .i64 key] w fun e w' => e = .returned (.tuple #[.int .i64 r, .int .i64 c]) ∧ w = w' := by
  rcases hR with ⟨h1, h2, h3, h4, rfl, rfl⟩ | ⟨h, rfl, rfl⟩
  · obtain ⟨a, rfl⟩ := Int.eq_ofNat_of_zero_le h1
    obtain ⟨k, rfl⟩ := Int.eq_ofNat_of_zero_le h3
    simp only [Int.toNat_natCast]
    obtain ⟨b1, b2⟩ := place_bd (r := a) (k := k) (by omega) (by omega)
    have e1 : 2 * (a : Int) * (k : Int) = ((2 * a * k : Nat) : Int) := by simp
    have b3 : 2 * a * k ≤ 15728640 := Nat.le_trans (Nat.mul_le_mul_right _ (by omega)) b1
    have c1 : 0 ≤ 2 * (a : Int) * (k : Int) := by rw [e1]; omega
    have c2 : 2 * (a : Int) * (k : Int) ≤ 15728640 := by rw [e1]; omega
    have HP : Hid (((placeN a k : Nat) : Int) = ((k : Int) + 2 * (a : Int) * k + (40 * a + 7) + ((k / 64 * (a + 3) : Nat) : Int)) % 64) := Lib.hid (by
      rw [placeN_int]
      congr 1
      have : (2 * (a : Int) + 1) * (k : Int) = 2 * (a : Int) * k + k := by rw [Int.add_mul, Int.one_mul]
      rw [this]; simp; omega)
    have d1 : decide ((a : Int) < 0) = false := by simp
    have d2 : decide (7 < (a : Int)) = false := by simp; omega
    clear e1 b1 b3
    go_enter Try.func45, Try.ntmps45
    go_wp2_with (go_at_call 44; refine (codeMay_yes _ _ h3 h4).mono ?_; rintro e w1 ⟨rfl, rfl⟩)
    obtain ⟨q, hq⟩ : ∃ q, q = k / 64 := ⟨_, rfl⟩
    go_loop [6, 7] (fun nv iv => ∃ i : Nat, i ≤ a + 3 ∧ iv = .int .i64 i ∧ nv = .int .i64 ((k : Int) + 2 * (a : Int) * k + (40 * a + 7) + ((k / 64 * i : Nat) : Int))) (fun _ iv => a + 3 - (intOf iv).toNat)
    case atStart => exact ⟨0, by omega, rfl, vint (by simp)⟩
    case round =>
      obtain ⟨i, hi, rfl, rfl⟩ := hrel
      have hs : k / 64 * (i + 1) = k / 64 * i + k / 64 := Nat.mul_succ _ _
      have hb : k / 64 * i ≤ k / 64 * (a + 3) := Nat.mul_le_mul_left _ hi
      by_cases hlt : i < a + 3
      · have HS := Lib.hid hs
        obtain ⟨t, ht⟩ : ∃ t, t = k / 64 * i := ⟨_, rfl⟩
        rw [← ht] at HS hb ⊢
        clear hs ht
        go_wp2
        go_round
        case rel => exact ⟨i + 1, by omega, by go_num, vint (by rw [HS.out]; omega)⟩
        case measure => simp [intOf]; omega
      · obtain rfl : i = a + 3 := by omega
        obtain ⟨t, ht⟩ : ∃ t, t = k / 64 * (a + 3) := ⟨_, rfl⟩
        rw [← ht] at HP b2 ⊢
        clear hs hb ht
        go_wp2
        go_ret2
        exact ⟨ret2 (vint HP.out.symm) rfl, rfl⟩
  · by_cases h1 : row < 0
    · go_enter Try.func45, Try.ntmps45
      go_wp2_with fail
      go_ret2
      exact ⟨rfl, rfl⟩
    by_cases h2 : 8 ≤ row
    · go_enter Try.func45, Try.ntmps45
      go_wp2_with fail
      go_ret2
      exact ⟨rfl, rfl⟩
    have h3 : key < 0 ∨ 1048576 < key := by omega
    clear h
    go_enter Try.func45, Try.ntmps45
    go_wp2_with (go_at_call 44; refine (codeMay_no _ _ h3).mono ?_; rintro e w1 ⟨rfl, rfl⟩)
    go_ret2
    exact ⟨rfl, rfl⟩
end Go.Proofs.Ytjniiiimkejkiaa
