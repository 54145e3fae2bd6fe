/-
  Contracts of the reference's MortonCode and MortonBack. Conditions: the arguments are ints.
-/
import Derived.Test.YtmcfdlijkcibbaaMorton
namespace Go.Dam
theorem bit_nat (n i : Nat) (hn : n < 9223372036854775808) : bits .and .i64 ((n : Int) / 2 ^ i) 1 = ((n / 2 ^ i % 2 : Nat) : Int) := by
  have h : n / 2 ^ i ≤ n := Nat.div_le_self _ _
  have := and_i64 ((n : Int) / 2 ^ i) (n / 2 ^ i) 1 (by simp) (by omega) (by decide)
  rw [Nat.and_one_is_mod] at this
  exact this
theorem pow_i64 (i : Nat) (hi : i < 63) : IntKind.i64.wrap (2 ^ i) = ((2 ^ i : Nat) : Int) := by
  have h2 : 2 ^ i < 2 ^ 63 := Nat.pow_lt_pow_right (by omega) hi
  have e : ((2 : Int) ^ i) = ((2 ^ i : Nat) : Int) := by simp
  rw [IntKind.wrap_i64, e]
  generalize (2 ^ i : Nat) = q at *
  omega
end Go.Dam
namespace Go.Proofs.Ytmcfdlijkcibbaa
open Go Go.RowKit Go.Dam
set_option linter.unusedVariables false
set_option maxHeartbeats 1000000 in
theorem refCode_any (x y r c : Int) (w : World) (hx64 : I64 x) (hy64 : I64 y) (hR : CodeR x y r c) : Calls Try.prog 18 #[.int .i64 x, .int .i64 y] w fun e w' => e = .returned (.tuple #[.int .i64 r, .int .i64 c]) ∧ Drawn w w' := by
  rcases hR with ⟨h1, h2, h3, h4, rfl, rfl⟩ | ⟨h, rfl, rfl⟩
  · obtain ⟨a, rfl⟩ := Int.eq_ofNat_of_zero_le h1
    obtain ⟨b, rfl⟩ := Int.eq_ofNat_of_zero_le h3
    simp only [Int.toNat_natCast]
    have d1 : decide ((a : Int) < 0) = false := by simp
    have d2 : decide ((b : Int) < 0) = false := by simp
    have d3 : decide (1048576 < (a : Int)) = false := by simp; omega
    have d4 : decide (1048576 < (b : Int)) = false := by simp; omega
    clear hx64 hy64
    go_enter Try.func18, Try.ntmps18
    go_wp2_with fail
    clear d1 d2 d3 d4
    go_loopw [6, 7] (fun nv iv wr => ∃ i : Nat, i ≤ 21 ∧ iv = .int .i64 i ∧ nv = .int .i64 ((zipB a b i : Nat) : Int) ∧ Drawn w wr) (fun _ iv _ => 21 - (intOf iv).toNat)
    case atStart => exact ⟨0, by omega, rfl, by rw [zipB_0]; rfl, Drawn.refl _⟩
    case round =>
      obtain ⟨i, hi, rfl, rfl, hd⟩ := hrel
      by_cases hlt : i < 21
      · have hS := zipB_succ a b i
        have hz := zipB_lt a b i
        have hz1 := zipB_lt a b (i + 1)
        have p1 : 4 ^ (i + 1) ≤ 4 ^ 21 := Nat.pow_le_pow_right (by omega) (by omega)
        have ba := bit_nat a i (by omega)
        have bb := bit_nat b i (by omega)
        have q1 := pow_i64 (2 * i) (by omega)
        have q2 := pow_i64 (2 * i + 1) (by omega)
        generalize hs : a / 2 ^ i % 2 = s at *
        generalize ht : b / 2 ^ i % 2 = t at *
        have hs2 : s < 2 := by rw [← hs]; exact Nat.mod_lt _ (by omega)
        have ht2 : t < 2 := by rw [← ht]; exact Nat.mod_lt _ (by omega)
        clear hs ht
        obtain ⟨q, hq⟩ : ∃ q, q = 4 ^ i := ⟨_, rfl⟩
        have ep : ((2 : Int) ^ (2 * i)) = (q : Int) := by rw [hq, four_pow]; simp
        rw [← hq] at hS hz
        rw [Nat.pow_succ, ← hq] at hz1 p1
        have p2 : q * 4 ≤ 4398046511104 := p1
        obtain ⟨p, hp⟩ : ∃ p, p = s * q := ⟨_, rfl⟩
        obtain ⟨p', hp'⟩ : ∃ p', p' = t * (2 * q) := ⟨_, rfl⟩
        have b1 : p ≤ q := by rw [hp]; exact Nat.le_trans (Nat.mul_le_mul_right _ (by omega : s ≤ 1)) (by omega)
        have b2 : p' ≤ 2 * q := by rw [hp']; exact Nat.le_trans (Nat.mul_le_mul_right _ (by omega : t ≤ 1)) (by omega)
        have r1 : (s : Int) * 2 ^ (2 * i) = (p : Int) := by rw [ep, hp]; simp
        have r2 : (t : Int) * (2 * 2 ^ (2 * i)) = (p' : Int) := by rw [ep, hp']; simp
        rw [← hp, ← hp'] at hS
        have HS := Lib.hid hS
        have i4 : IntKind.i64.wrap (2 * 2 ^ (2 * i)) = 2 * 2 ^ (2 * i) := by rw [ep, IntKind.wrap_i64]; omega
        have i1 : IntKind.i64.wrap (2 * (i : Int)) = 2 * (i : Int) := by rw [IntKind.wrap_i64]; omega
        have i2 : (0 : Int) ≤ 2 * (i : Int) := by omega
        have i3 : (2 * (i : Int)).toNat = 2 * i := by omega
        have i5 : IntKind.i64.wrap (p : Int) = p := by rw [IntKind.wrap_i64]; omega
        have i6 : IntKind.i64.wrap (p' : Int) = p' := by rw [IntKind.wrap_i64]; omega
        generalize zipB a b i = z at *
        have i7 : IntKind.i64.wrap ((z : Int) + p) = z + p := by rw [IntKind.wrap_i64]; omega
        have i8 : IntKind.i64.wrap ((z : Int) + p + p') = z + p + p' := by rw [IntKind.wrap_i64]; omega
        clear ep hp hp' hS hq hz hz1 p1 q2
        go_wp2_with fail
        go_quiet (fail)
        go_wp2_with fail
        go_quiet (fail)
        go_wp2
        go_roundw
        case rel => exact ⟨i + 1, by omega, by go_num, vint (by rw [HS.out]; omega), hd.drewN _⟩
        case measure => simp [intOf]; omega
      · obtain rfl : i = 21 := by omega
        have HD := Lib.hid hd
        clear hd
        go_wp2
        go_ret2
        exact ⟨rfl, HD.out⟩
  · have d5 : ∀ p : Prop, [Decidable p] → (¬ p) → decide p = false := fun p _ h => by simp [h]
    by_cases g1 : x < 0
    · clear h d5
      go_enter Try.func18, Try.ntmps18
      go_wp2_with fail
      go_ret2
      exact ⟨rfl, Drawn.refl _⟩
    have d1 := d5 _ g1
    by_cases g2 : y < 0
    · clear h d5
      go_enter Try.func18, Try.ntmps18
      go_wp2_with fail
      go_ret2
      exact ⟨rfl, Drawn.refl _⟩
    have d2 := d5 _ g2
    by_cases g3 : 1048576 < x
    · clear h d5
      go_enter Try.func18, Try.ntmps18
      go_wp2_with fail
      go_ret2
      exact ⟨rfl, Drawn.refl _⟩
    have d3 := d5 _ g3
    have g4 : 1048576 < y := by omega
    clear h d5
    go_enter Try.func18, Try.ntmps18
    go_wp2_with fail
    go_ret2
    exact ⟨rfl, Drawn.refl _⟩
set_option maxHeartbeats 1000000 in
theorem refBack_any (code a b c : Int) (w : World) (h64 : I64 code) (hR : BackR code a b c) : Calls Try.prog 20 #[.int .i64 code] w fun e w' => e = .returned (.tuple #[.int .i64 a, .int .i64 b, .int .i64 c]) ∧ Drawn w w' := by
  unfold I64 at h64
  by_cases h0 : code ≤ 0
  · obtain ⟨r, c', hC⟩ := CodeR.ex 0 0
    have HC := Lib.hid fun W => refCode_any 0 0 r c' W (by unfold I64; omega) (by unfold I64; omega) hC
    obtain ⟨rfl, rfl⟩ : r = 0 ∧ c' = 0 := by
      rcases hC with ⟨_, _, _, _, h1, h2⟩ | ⟨h, _⟩
      · exact ⟨by rw [h1]; decide +kernel, h2⟩
      · omega
    have t0 : decide (0 < code) = false := by simp; omega
    by_cases h1 : code = 0
    · subst h1
      obtain ⟨rfl, rfl, rfl⟩ : a = 0 ∧ b = 0 ∧ c = 0 := by
        rcases hR with ⟨k, hk, _, _, h1, h2, h3⟩ | ⟨h | ⟨k, hk, h⟩, _⟩
        · obtain rfl : k = 0 := by omega
          rw [evens_zero] at h1
          rw [Nat.zero_div, evens_zero] at h2
          exact ⟨h1, h2, h3⟩
        · omega
        · obtain rfl : k = 0 := by omega
          rw [Nat.zero_div, evens_zero] at h; omega
      clear hC hR h0
      go_enter Try.func20, Try.ntmps20
      go_wp2_with fail
      go_loop [5, 6, 7] (fun xv yv iv => xv = .int .i64 0 ∧ yv = .int .i64 0 ∧ iv = .int .i64 0) (fun _ _ _ => 0)
      case atStart => exact ⟨rfl, rfl, rfl⟩
      case round =>
        obtain ⟨rfl, rfl, rfl⟩ := hrel
        go_wp2_with (go_at_call 18; refine (HC.out _).mono ?_; rintro e w1 ⟨rfl, hd1⟩)
        go_ret3
        exact ⟨rfl, hd1⟩
    · obtain ⟨rfl, rfl, rfl⟩ : a = 0 ∧ b = 0 ∧ c = 2 := by
        rcases hR with ⟨k, hk, _, _, h1, h2, h3⟩ | ⟨_, h⟩
        · omega
        · exact h
      have h2 : ((0 : Int) != code) = true := by simp; omega
      clear hC hR h0 h1
      go_enter Try.func20, Try.ntmps20
      go_wp2_with fail
      go_loop [5, 6, 7] (fun xv yv iv => xv = .int .i64 0 ∧ yv = .int .i64 0 ∧ iv = .int .i64 0) (fun _ _ _ => 0)
      case atStart => exact ⟨rfl, rfl, rfl⟩
      case round =>
        obtain ⟨rfl, rfl, rfl⟩ := hrel
        go_wp2_with (go_at_call 18; refine (HC.out _).mono ?_; rintro e w1 ⟨rfl, hd1⟩)
        go_ret3
        exact ⟨rfl, hd1⟩
  · obtain ⟨k, rfl⟩ := Int.eq_ofNat_of_zero_le (by omega : 0 ≤ code)
    have hk0 : 0 < k := by omega
    have hk63 : k < 9223372036854775808 := by omega
    have t0 : decide (0 < (k : Int)) = true := by simp; omega
    have HBR := Lib.hid (back_ref k hk63)
    have HR := Lib.hid hR
    clear h0 h64 hR
    go_enter Try.func20, Try.ntmps20
    go_wp2_with fail
    go_loop [5, 6, 7] (fun xv yv iv => ∃ i : Nat, i ≤ 62 ∧ iv = .int .i64 i ∧ xv = .int .i64 ((evens k ((i + 1) / 2) : Nat) : Int) ∧ yv = .int .i64 ((evens (k / 2) (i / 2) : Nat) : Int)) (fun _ _ iv => 62 - (intOf iv).toNat)
    case atStart => exact ⟨0, by omega, rfl, by rw [show (0 + 1) / 2 = 0 from rfl, evens_0]; rfl, by rw [Nat.zero_div, evens_0]; rfl⟩
    case round =>
      obtain ⟨i, hi, rfl, rfl, rfl⟩ := hrel
      by_cases hlt : i < 62
      · have hb := bit_nat k i hk63
        rcases Nat.mod_two_eq_zero_or_one i with hp | hp
        · obtain ⟨j, rfl⟩ : ∃ j, i = 2 * j := ⟨i / 2, by omega⟩
          have e1 : (2 * j + 1) / 2 = j := by omega
          have e2 : (2 * j + 1 + 1) / 2 = j + 1 := by omega
          have e3 : (2 * j) / 2 = j := by omega
          have hS := evens_succ k j
          have hl := evens_lt k j
          rw [show k / 2 ^ (2 * j) % 2 = k / 4 ^ j % 2 from by rw [← four_pow]] at hb
          rw [e1, e3]
          have HE2 := Lib.hid e2
          have HE1 := Lib.hid e1
          obtain ⟨x, hx⟩ : ∃ x, x = evens k j := ⟨_, rfl⟩
          obtain ⟨y, hy⟩ : ∃ y, y = evens (k / 2) j := ⟨_, rfl⟩
          rw [← hx] at hS hl ⊢
          rw [← hy]
          have HY := Lib.hid hy.symm
          clear e1 e2 e3 hx hy
          have f1 : (2 * (j : Int)) / 2 = (j : Int) := by omega
          have f2 : ((2 * (j : Int)) % 2 == 0) = true := by simp
          obtain ⟨q, hq⟩ : ∃ q, q = 2 ^ j := ⟨_, rfl⟩
          have ep : ((2 : Int) ^ j) = (q : Int) := by rw [hq]; simp
          have hq1 : q ≤ 1073741824 := by rw [hq]; exact Nat.pow_le_pow_right (by omega : 0 < 2) (by omega : j ≤ 30)
          rw [← hq] at hS hl
          rcases Nat.mod_two_eq_zero_or_one (k / 4 ^ j) with hs | hs
          · rw [hs, Nat.zero_mul, Nat.add_zero] at hS
            rw [hs] at hb
            have hb : bits .and .i64 ((k : Int) / 2 ^ (2 * j)) 1 = 0 := hb
            have HS := Lib.hid hS
            clear hS hs hq
            go_wp2_with fail
            go_round
            case rel => exact ⟨2 * j + 1, by omega, by go_num, vint (by rw [HE2.out, HS.out]; omega), by rw [HE1.out, HY.out]⟩
            case measure => simp [intOf]; omega
          · rw [hs, Nat.one_mul] at hS
            rw [hs] at hb
            have hb : bits .and .i64 ((k : Int) / 2 ^ (2 * j)) 1 = 1 := hb
            have HS := Lib.hid hS
            clear hS hs hq
            go_wp2_with fail
            go_round
            case rel => exact ⟨2 * j + 1, by omega, by go_num, vint (by rw [HE2.out, HS.out]; omega), by rw [HE1.out, HY.out]⟩
            case measure => simp [intOf]; omega
        · obtain ⟨j, rfl⟩ : ∃ j, i = 2 * j + 1 := ⟨i / 2, by omega⟩
          have e1 : (2 * j + 1 + 1 + 1) / 2 = j + 1 := by omega
          have e2 : (2 * j + 1 + 1) / 2 = j + 1 := by omega
          have e3 : (2 * j + 1) / 2 = j := by omega
          have hS := evens_succ (k / 2) j
          have hl := evens_lt (k / 2) j
          rw [show k / 2 ^ (2 * j + 1) % 2 = k / 2 / 4 ^ j % 2 from by rw [four_pow, Nat.div_div_eq_div_mul, ← Nat.pow_succ']] at hb
          rw [e2, e3]
          have HE2 := Lib.hid e2
          have HE1 := Lib.hid e1
          obtain ⟨x, hx⟩ : ∃ x, x = evens k (j + 1) := ⟨_, rfl⟩
          obtain ⟨y, hy⟩ : ∃ y, y = evens (k / 2) j := ⟨_, rfl⟩
          rw [← hy] at hS hl ⊢
          rw [← hx]
          have HX := Lib.hid hx.symm
          clear e1 e2 e3 hx hy
          have f1 : (2 * (j : Int) + 1) / 2 = (j : Int) := by omega
          have f2 : ((2 * (j : Int) + 1) % 2 == 0) = false := by simp <;> omega
          obtain ⟨q, hq⟩ : ∃ q, q = 2 ^ j := ⟨_, rfl⟩
          have ep : ((2 : Int) ^ j) = (q : Int) := by rw [hq]; simp
          have hq1 : q ≤ 1073741824 := by rw [hq]; exact Nat.pow_le_pow_right (by omega : 0 < 2) (by omega : j ≤ 30)
          rw [← hq] at hS hl
          rcases Nat.mod_two_eq_zero_or_one (k / 2 / 4 ^ j) with hs | hs
          · rw [hs, Nat.zero_mul, Nat.add_zero] at hS
            rw [hs] at hb
            have hb : bits .and .i64 ((k : Int) / 2 ^ (2 * j + 1)) 1 = 0 := hb
            have HS := Lib.hid hS
            clear hS hs hq
            go_wp2_with fail
            go_round
            case rel => exact ⟨2 * j + 1 + 1, by omega, by go_num, by rw [HE1.out, HX.out], vint (by rw [HE2.out, HS.out]; omega)⟩
            case measure => simp [intOf]; omega
          · rw [hs, Nat.one_mul] at hS
            rw [hs] at hb
            have hb : bits .and .i64 ((k : Int) / 2 ^ (2 * j + 1)) 1 = 1 := hb
            have HS := Lib.hid hS
            clear hS hs hq
            go_wp2_with fail
            go_round
            case rel => exact ⟨2 * j + 1 + 1, by omega, by go_num, by rw [HE1.out, HX.out], vint (by rw [HE2.out, HS.out]; omega)⟩
            case measure => simp [intOf]; omega
      · obtain rfl : i = 62 := by omega
        obtain ⟨x, hx⟩ : ∃ x, x = evens k 31 := ⟨_, rfl⟩
        obtain ⟨y, hy⟩ : ∃ y, y = evens (k / 2) 31 := ⟨_, rfl⟩
        rw [show (62 + 1) / 2 = 31 from rfl, ← hx, ← hy]
        have hBR := HBR.out
        rw [← hx, ← hy] at hBR
        have hx1 := evens_lt k 31
        have hy1 := evens_lt (k / 2) 31
        rw [← hx] at hx1
        rw [← hy] at hy1
        obtain ⟨r, c', hC⟩ := CodeR.ex x y
        have HC := Lib.hid fun W => refCode_any x y r c' W (by unfold I64; omega) (by unfold I64; omega) hC
        by_cases hok : x ≤ 1048576 ∧ y ≤ 1048576 ∧ zipB x y 21 = k
        · obtain ⟨o1, o2, o3⟩ := hok
          obtain ⟨p1, p2⟩ := hBR.2 ⟨o1, o2, o3⟩
          obtain ⟨rfl, rfl⟩ : r = (k : Int) ∧ c' = 0 := by
            rcases hC with ⟨_, _, _, _, h1, h2⟩ | ⟨h, _⟩
            · rw [Int.toNat_natCast, Int.toNat_natCast, o3] at h1; exact ⟨h1, h2⟩
            · omega
          obtain ⟨ha, hb, rfl⟩ : a = ((evens k 32 : Nat) : Int) ∧ b = ((evens (k / 2) 32 : Nat) : Int) ∧ c = 0 := by
            rcases HR.out with ⟨k', hk, _, _, h1, h2, h3⟩ | ⟨h | ⟨k', hk, h⟩, _⟩
            · obtain rfl : k = k' := by omega
              exact ⟨h1, h2, h3⟩
            · omega
            · obtain rfl : k = k' := by omega
              omega
          have q1 : evens k 32 = x := by
            have := evens_31 k
            rw [← hx] at this
            have h5 := Nat.mod_two_eq_zero_or_one (k / 4 ^ 31)
            rcases h5 with h5 | h5
            · rw [h5] at this; omega
            · rw [h5] at this; omega
          have q2 : evens (k / 2) 32 = y := by
            have := evens_31 (k / 2)
            rw [← hy] at this
            have h5 := Nat.mod_two_eq_zero_or_one (k / 2 / 4 ^ 31)
            rcases h5 with h5 | h5
            · rw [h5] at this; omega
            · rw [h5] at this; omega
          rw [q1] at ha
          rw [q2] at hb
          subst ha
          subst hb
          clear hC hBR hx hy hx1 hy1 o1 o2 o3 p1 p2 q1 q2 HR HBR
          go_wp2_with (go_at_call 18; refine (HC.out _).mono ?_; rintro e w1 ⟨rfl, hd1⟩)
          go_ret3
          exact ⟨rfl, hd1⟩
        · obtain ⟨rfl, rfl, rfl⟩ : a = 0 ∧ b = 0 ∧ c = 2 := by
            rcases HR.out with ⟨k', hk, h1, h2, _⟩ | ⟨_, h⟩
            · obtain rfl : k = k' := by omega
              exact absurd (hBR.1 ⟨h1, h2⟩) hok
            · exact h
          have hne : (c' = 0 ∧ ((r : Int) != (k : Int)) = true) ∨ (c' != 0) = true := by
            rcases hC with ⟨h1, h2, h3, h4, h5, h6⟩ | ⟨h, h5, h6⟩
            · left
              refine ⟨h6, ?_⟩
              rw [h5, Int.toNat_natCast, Int.toNat_natCast]
              simp only [bne_iff_ne]
              intro h7
              exact hok ⟨by omega, by omega, by omega⟩
            · right; rw [h6]; rfl
          clear hC hBR hx hy hok HR HBR
          rcases hne with ⟨rfl, hne⟩ | hne
          · go_wp2_with (go_at_call 18; refine (HC.out _).mono ?_; rintro e w1 ⟨rfl, hd1⟩)
            go_ret3
            exact ⟨rfl, hd1⟩
          · go_wp2_with (go_at_call 18; refine (HC.out _).mono ?_; rintro e w1 ⟨rfl, hd1⟩)
            go_ret3
            exact ⟨rfl, hd1⟩
end Go.Proofs.Ytmcfdlijkcibbaa
