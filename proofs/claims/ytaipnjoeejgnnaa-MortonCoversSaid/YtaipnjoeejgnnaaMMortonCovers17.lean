/-
  Contracts of the reference's MortonCode and MortonBack. Conditions: the arguments are ints.
-/
import Derived.Test.YtaipnjoeejgnnaaMMortonCovers12
namespace Go.Dam
theorem bit_nat (n i : Nat) (hn : n < 9223372036854775808) : bits .and .i64 ((n : Int) / 2 ^ i) 1 = ((n / 2 ^ i % 2 : Nat) : Int) := by
  have h : n / 2 ^ i ≤ n := Nat.div_le_self _ _
  have := and_i64 ((n : Int) / 2 ^ i) (n / 2 ^ i) 1 (by simp) (by omega) (by decide)
  rw [Nat.and_one_is_mod] at this
  exact this
theorem pow_i64 (i : Nat) (hi : i < 63) : IntKind.i64.wrap (2 ^ i) = ((2 ^ i : Nat) : Int) := by
  have h2 : 2 ^ i < 2 ^ 63 := Nat.pow_lt_pow_right (by omega) hi
  have e : ((2 : Int) ^ i) = ((2 ^ i : Nat) : Int) := by simp
  rw [IntKind.wrap_i64, e]
  generalize (2 ^ i : Nat) = q at *
  omega
end Go.Dam
namespace Go.Proofs.Ytaipnjoeejgnnaa
open Go Go.RowKit Go.Dam
set_option linter.unusedVariables false
set_option maxHeartbeats 1000000 in
theorem refCode_any (x y r c : Int) (w : World) (hx64 : I64 x) (hy64 : I64 y) (hR : CodeR x y r c) : Calls Try.prog 82 #[.int .i64 x, .int .i64 y] w fun e w' => e = .returned (.tuple #[.int .i64 r, .int .i64 c]) ∧ Drawn w w' := by
  rcases hR with ⟨h1, h2, h3, h4, rfl, rfl⟩ | ⟨h, rfl, rfl⟩
  · obtain ⟨a, rfl⟩ := Int.eq_ofNat_of_zero_le h1
    obtain ⟨b, rfl⟩ := Int.eq_ofNat_of_zero_le h3
    simp only [Int.toNat_natCast]
    have d1 : decide ((a : Int) < 0) = false := by simp
    have d2 : decide ((b : Int) < 0) = false := by simp
    have d3 : decide (1048576 < (a : Int)) = false := by simp; omega
    have d4 : decide (1048576 < (b : Int)) = false := by simp; omega
    clear hx64 hy64
    go_enter Try.func82, Try.ntmps82
    go_wp2_with fail
    clear d1 d2 d3 d4
    go_loopw [6, 7] (fun nv iv wr => ∃ i : Nat, i ≤ 21 ∧ iv = .int .i64 i ∧ nv = .int .i64 ((zipB a b i : Nat) : Int) ∧ Drawn w wr) (fun _ iv _ => 21 - (intOf iv).toNat)
    case atStart => exact ⟨0, by omega, rfl, by rw [zipB_0]; rfl, Drawn.refl _⟩
    case round =>
      obtain ⟨i, hi, rfl, rfl, hd⟩ := hrel
      by_cases hlt : i < 21
      · have hS := zipB_succ a b i
        have hz := zipB_lt a b i
        have hz1 := zipB_lt a b (i + 1)
        have p1 : 4 ^ (i + 1) ≤ 4 ^ 21 := Nat.pow_le_pow_right (by omega) (by omega)
        have ba := bit_nat a i (by omega)
        have bb := bit_nat b i (by omega)
        have q1 := pow_i64 (2 * i) (by omega)
        have q2 := pow_i64 (2 * i + 1) (by omega)
        generalize hs : a / 2 ^ i % 2 = s at *
        generalize ht : b / 2 ^ i % 2 = t at *
        have hs2 : s < 2 := by rw [← hs]; exact Nat.mod_lt _ (by omega)
        have ht2 : t < 2 := by rw [← ht]; exact Nat.mod_lt _ (by omega)
        clear hs ht
        obtain ⟨q, hq⟩ : ∃ q, q = 4 ^ i := ⟨_, rfl⟩
        have ep : ((2 : Int) ^ (2 * i)) = (q : Int) := by rw [hq, four_pow]; simp
        rw [← hq] at hS hz
        rw [Nat.pow_succ, ← hq] at hz1 p1
        have p2 : q * 4 ≤ 4398046511104 := p1
        obtain ⟨p, hp⟩ : ∃ p, p = s * q := ⟨_, rfl⟩
        obtain ⟨p', hp'⟩ : ∃ p', p' = t * (2 * q) := ⟨_, rfl⟩
        have b1 : p ≤ q := by rw [hp]; exact Nat.le_trans (Nat.mul_le_mul_right _ (by omega : s ≤ 1)) (by omega)
        have b2 : p' ≤ 2 * q := by rw [hp']; exact Nat.le_trans (Nat.mul_le_mul_right _ (by omega : t ≤ 1)) (by omega)
        have r1 : (s : Int) * 2 ^ (2 * i) = (p : Int) := by rw [ep, hp]; simp
        have r2 : (t : Int) * (2 * 2 ^ (2 * i)) = (p' : Int) := by rw [ep, hp']; simp
        rw [← hp, ← hp'] at hS
        have HS := Lib.hid hS
        have i4 : IntKind.i64.wrap (2 * 2 ^ (2 * i)) = 2 * 2 ^ (2 * i) := by rw [ep, IntKind.wrap_i64]; omega
        have i1 : IntKind.i64.wrap (2 * (i : Int)) = 2 * (i : Int) := by rw [IntKind.wrap_i64]; omega
        have i2 : (0 : Int) ≤ 2 * (i : Int) := by omega
        have i3 : (2 * (i : Int)).toNat = 2 * i := by omega
        have i5 : IntKind.i64.wrap (p : Int) = p := by rw [IntKind.wrap_i64]; omega
        have i6 : IntKind.i64.wrap (p' : Int) = p' := by rw [IntKind.wrap_i64]; omega
        generalize zipB a b i = z at *
        have i7 : IntKind.i64.wrap ((z : Int) + p) = z + p := by rw [IntKind.wrap_i64]; omega
        have i8 : IntKind.i64.wrap ((z : Int) + p + p') = z + p + p' := by rw [IntKind.wrap_i64]; omega
        clear ep hp hp' hS hq hz hz1 p1 q2
        go_wp2_with fail
        go_quiet (fail)
        go_wp2_with fail
        go_quiet (fail)
        go_wp2
        go_roundw
        case rel => exact ⟨i + 1, by omega, by go_num, vint (by rw [HS.out]; omega), hd.drewN _⟩
        case measure => simp [intOf]; omega
      · obtain rfl : i = 21 := by omega
        have HD := Lib.hid hd
        clear hd
        go_wp2
        go_ret2
        exact ⟨rfl, HD.out⟩
  · have d5 : ∀ p : Prop, [Decidable p] → (¬ p) → decide p = false := fun p _ h => by simp [h]
    by_cases g1 : x < 0
    · clear h d5
      go_enter Try.func82, Try.ntmps82
      go_wp2_with fail
      go_ret2
      exact ⟨rfl, Drawn.refl _⟩
    have d1 := d5 _ g1
    by_cases g2 : y < 0
    · clear h d5
      go_enter Try.func82, Try.ntmps82
      go_wp2_with fail
      go_ret2
      exact ⟨rfl, Drawn.refl _⟩
    have d2 := d5 _ g2
    by_cases g3 : 1048576 < x
    · clear h d5
      go_enter Try.func82, Try.ntmps82
      go_wp2_with fail
      go_ret2
      exact ⟨rfl, Drawn.refl _⟩
    have d3 := d5 _ g3
    have g4 : 1048576 < y := by omega
    clear h d5
    go_enter Try.func82, Try.ntmps82
    go_wp2_with fail
    go_ret2
    exact ⟨rfl, Drawn.refl _⟩
end Go.Proofs.Ytaipnjoeejgnnaa
