/-
  Contract of the reference's SktPlace and the walk of the law SktPlaces: both answer the same place and the same code. Conditions: the arguments are ints.
-/
import Derived.Test.YtmcfdlijkcibbaaSktPlace
namespace Go.Proofs.Ytmcfdlijkcibbaa
open Go Go.RowKit Go.Dam
set_option linter.unusedVariables false
set_option maxHeartbeats 400000 in
theorem refSktPlace_any (row key r c : Int) (w : World) (hR : PlaceR row key r c) : Calls Try.prog 16 #[.int .i64 row, .int .i64 key] w fun e w' => e = .returned (.tuple #[.int .i64 r, .int .i64 c]) ∧ w = w' := by
  rcases hR with ⟨h1, h2, h3, h4, rfl, rfl⟩ | ⟨h, rfl, rfl⟩
  · obtain ⟨a, rfl⟩ := Int.eq_ofNat_of_zero_le h1
    obtain ⟨k, rfl⟩ := Int.eq_ofNat_of_zero_le h3
    simp only [Int.toNat_natCast]
    obtain ⟨b1, b2⟩ := place_bd (r := a) (k := k) (by omega) (by omega)
    have e1 : 2 * (a : Int) * (k : Int) = ((2 * a * k : Nat) : Int) := by simp
    have b3 : 2 * a * k ≤ 15728640 := Nat.le_trans (Nat.mul_le_mul_right _ (by omega)) b1
    have c1 : 0 ≤ 2 * (a : Int) * (k : Int) := by rw [e1]; omega
    have c2 : 2 * (a : Int) * (k : Int) ≤ 15728640 := by rw [e1]; omega
    have HP : Hid (((placeN a k : Nat) : Int) = ((k : Int) + 2 * (a : Int) * k + (40 * a + 7) + ((k / 64 * (a + 3) : Nat) : Int)) % 64) := Lib.hid (by
      rw [placeN_int]
      congr 1
      have : (2 * (a : Int) + 1) * (k : Int) = 2 * (a : Int) * k + k := by rw [Int.add_mul, Int.one_mul]
      rw [this]; simp; omega)
    have d1 : decide ((a : Int) < 0) = false := by simp
    have d2 : decide (7 < (a : Int)) = false := by simp; omega
    clear e1 b1 b3
    go_enter Try.func16, Try.ntmps16
    go_wp2_with (go_at_call 42; refine (codeMay_yes _ _ h3 h4).mono ?_; rintro e w1 ⟨rfl, rfl⟩)
    obtain ⟨q, hq⟩ : ∃ q, q = k / 64 := ⟨_, rfl⟩
    go_loop [6, 7] (fun nv iv => ∃ i : Nat, i ≤ a + 3 ∧ iv = .int .i64 i ∧ nv = .int .i64 ((k : Int) + 2 * (a : Int) * k + (40 * a + 7) + ((k / 64 * i : Nat) : Int))) (fun _ iv => a + 3 - (intOf iv).toNat)
    case atStart => exact ⟨0, by omega, rfl, vint (by simp)⟩
    case round =>
      obtain ⟨i, hi, rfl, rfl⟩ := hrel
      have hs : k / 64 * (i + 1) = k / 64 * i + k / 64 := Nat.mul_succ _ _
      have hb : k / 64 * i ≤ k / 64 * (a + 3) := Nat.mul_le_mul_left _ hi
      by_cases hlt : i < a + 3
      · have HS := Lib.hid hs
        obtain ⟨t, ht⟩ : ∃ t, t = k / 64 * i := ⟨_, rfl⟩
        rw [← ht] at HS hb ⊢
        clear hs ht
        go_wp2
        go_round
        case rel => exact ⟨i + 1, by omega, by go_num, vint (by rw [HS.out]; omega)⟩
        case measure => simp [intOf]; omega
      · obtain rfl : i = a + 3 := by omega
        obtain ⟨t, ht⟩ : ∃ t, t = k / 64 * (a + 3) := ⟨_, rfl⟩
        rw [← ht] at HP b2 ⊢
        clear hs hb ht
        go_wp2
        go_ret2
        exact ⟨ret2 (vint HP.out.symm) rfl, rfl⟩
  · by_cases h1 : row < 0
    · go_enter Try.func16, Try.ntmps16
      go_wp2_with fail
      go_ret2
      exact ⟨rfl, rfl⟩
    by_cases h2 : 8 ≤ row
    · go_enter Try.func16, Try.ntmps16
      go_wp2_with fail
      go_ret2
      exact ⟨rfl, rfl⟩
    have h3 : key < 0 ∨ 1048576 < key := by omega
    clear h
    go_enter Try.func16, Try.ntmps16
    go_wp2_with (go_at_call 42; refine (codeMay_no _ _ h3).mono ?_; rintro e w1 ⟨rfl, rfl⟩)
    go_ret2
    exact ⟨rfl, rfl⟩
set_option maxHeartbeats 400000 in
theorem sktPlaces_walk (v u : Value) (w : World) (h : ∃ x : Int, v = .int .i64 x ∧ I64 x) (h' : ∃ x : Int, u = .int .i64 x ∧ I64 x) :
    Calls Try.prog 3 #[v, u] w fun e w' => e = .returned (.bool true) ∧ Below w.heap.size w w' := by
  obtain ⟨x, rfl, hx⟩ := h
  obtain ⟨y, rfl, hy⟩ := h'
  obtain ⟨r, c, hR⟩ := PlaceR.ex x y
  have HR := Lib.hid hR
  unfold I64 at hx hy
  clear hR
  go_enter Try.func3, Try.ntmps3
  go_wp2_with (first
    | (go_at_call 15; refine (sktPlace_any _ _ _ _ _ HR.out).mono ?_; rintro e w1 ⟨rfl, rfl⟩)
    | (go_at_call 16; refine (refSktPlace_any _ _ _ _ _ HR.out).mono ?_; rintro e w1 ⟨rfl, rfl⟩))
  all_goals (go_ret; exact ⟨ret_bool (by simp), Below.refl _ _⟩)
end Go.Proofs.Ytmcfdlijkcibbaa
