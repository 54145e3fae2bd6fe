/-
  Plain arithmetic of Morton codes, no program in sight: bits with gaps, put together by masks and shifts, are the sum bit by bit. Conditions: bounds on the numbers.
-/
import Derived.Test.YtmcfdlijkcibbaaBits
namespace Go.Dam
set_option linter.unusedVariables false
open Go
/-- One step of spread. -/
def spS (k m n : Nat) : Nat := (n ||| n <<< k) &&& m
/-- One step of gather. -/
def gaS (k m n : Nat) : Nat := (n ||| n >>> k) &&& m
def spN (n : Nat) : Nat := spS 1 6148914691236517205 (spS 2 3689348814741910323 (spS 4 1085102592571150095 (spS 8 71777214294589695 (spS 16 281470681808895 n))))
def gaN (n : Nat) : Nat := gaS 16 4294967295 (gaS 8 281470681808895 (gaS 4 71777214294589695 (gaS 2 1085102592571150095 (gaS 1 3689348814741910323 (n &&& 6148914691236517205)))))
theorem spS_or (k m a b : Nat) : spS k m (a ||| b) = spS k m a ||| spS k m b := by
  unfold spS
  apply Nat.eq_of_testBit_eq; intro i
  simp only [Nat.testBit_and, Nat.testBit_or, Nat.testBit_shiftLeft]
  cases a.testBit i <;> cases b.testBit i <;> cases m.testBit i <;> cases decide (i ≥ k) <;> cases a.testBit (i - k) <;> cases b.testBit (i - k) <;> rfl
theorem gaS_or (k m a b : Nat) : gaS k m (a ||| b) = gaS k m a ||| gaS k m b := by
  unfold gaS
  apply Nat.eq_of_testBit_eq; intro i
  simp only [Nat.testBit_and, Nat.testBit_or, Nat.testBit_shiftRight]
  cases a.testBit i <;> cases b.testBit i <;> cases m.testBit i <;> cases a.testBit (k + i) <;> cases b.testBit (k + i) <;> rfl
theorem spN_or (a b : Nat) : spN (a ||| b) = spN a ||| spN b := by simp only [spN, spS_or]
theorem gaN_or (a b : Nat) : gaN (a ||| b) = gaN a ||| gaN b := by
  simp only [gaN]
  rw [show (a ||| b) &&& 6148914691236517205 = (a &&& 6148914691236517205) ||| (b &&& 6148914691236517205) from by
    apply Nat.eq_of_testBit_eq; intro i; simp only [Nat.testBit_and, Nat.testBit_or]
    cases a.testBit i <;> cases b.testBit i <;> cases Nat.testBit 6148914691236517205 i <;> rfl]
  simp only [gaS_or]
theorem spN_bit : ∀ i < 21, ∀ b < 2, spN (2 ^ i * b) = 4 ^ i * b := by decide +kernel
theorem gaN_bits : ∀ i < 32, ∀ d < 4, gaN (4 ^ i * d) = 2 ^ i * (d % 2) := by decide +kernel
theorem mod_two_pow (n i : Nat) : n % 2 ^ (i + 1) = 2 ^ i * (n / 2 ^ i % 2) ||| n % 2 ^ i := by
  rw [← Nat.two_pow_add_eq_or_of_lt (Nat.mod_lt _ (Nat.two_pow_pos i)), Nat.pow_succ, Nat.mod_mul, Nat.add_comm]
theorem four_pow (i : Nat) : 4 ^ i = 2 ^ (2 * i) := by rw [Nat.pow_mul]
theorem mod_four_pow (n i : Nat) : n % 4 ^ (i + 1) = 4 ^ i * (n / 4 ^ i % 4) ||| n % 4 ^ i := by
  rw [four_pow i, ← Nat.two_pow_add_eq_or_of_lt (Nat.mod_lt _ (Nat.two_pow_pos _)), ← four_pow, Nat.pow_succ, Nat.mod_mul, Nat.add_comm]
/-- Two numbers' bits in turn. -/
def zipB (x y : Nat) : Nat → Nat
  | 0 => 0
  | i + 1 => zipB x y i + (x / 2 ^ i % 2) * 4 ^ i + (y / 2 ^ i % 2) * (2 * 4 ^ i)
/-- Every second bit. -/
def evens (c : Nat) : Nat → Nat
  | 0 => 0
  | i + 1 => evens c i + (c / 4 ^ i % 2) * 2 ^ i
theorem zipB_lt (x y i : Nat) : zipB x y i < 4 ^ i := by
  induction i with
  | zero => simp [zipB]
  | succ i ih =>
    simp only [zipB, Nat.pow_succ]
    have h1 := Nat.mod_lt (x / 2 ^ i) (by omega : 0 < 2)
    have h2 := Nat.mod_lt (y / 2 ^ i) (by omega : 0 < 2)
    generalize 4 ^ i = q at *
    have h3 : x / 2 ^ i % 2 * q ≤ 1 * q := Nat.mul_le_mul_right _ (by omega)
    have h4 : y / 2 ^ i % 2 * (2 * q) ≤ 1 * (2 * q) := Nat.mul_le_mul_right _ (by omega)
    omega
theorem evens_lt (c i : Nat) : evens c i < 2 ^ i := by
  induction i with
  | zero => simp [evens]
  | succ i ih =>
    simp only [evens, Nat.pow_succ]
    have h1 := Nat.mod_lt (c / 4 ^ i) (by omega : 0 < 2)
    generalize 2 ^ i = q at *
    have h3 : c / 4 ^ i % 2 * q ≤ 1 * q := Nat.mul_le_mul_right _ (by omega)
    omega
theorem zip_low (x y i : Nat) (hi : i ≤ 21) : spN (x % 2 ^ i) ||| spN (y % 2 ^ i) <<< 1 = zipB x y i := by
  induction i with
  | zero => simp [zipB, Nat.mod_one]; decide
  | succ i ih =>
    have ih := ih (by omega)
    rw [mod_two_pow, mod_two_pow y, spN_or, spN_or, spN_bit i (by omega) _ (Nat.mod_lt _ (by omega)), spN_bit i (by omega) _ (Nat.mod_lt _ (by omega))]
    have hz := zipB_lt x y i
    have e1 : zipB x y (i + 1) = 4 ^ i * (x / 2 ^ i % 2 + 2 * (y / 2 ^ i % 2)) + zipB x y i := by
      simp only [zipB]
      generalize 4 ^ i = q
      generalize zipB x y i = z
      rcases Nat.mod_two_eq_zero_or_one (x / 2 ^ i) with hx | hx <;> rcases Nat.mod_two_eq_zero_or_one (y / 2 ^ i) with hy | hy <;> rw [hx, hy] <;> omega
    rw [e1, four_pow, Nat.two_pow_add_eq_or_of_lt (by rw [← four_pow]; exact hz), ← ih]
    have e2 : 2 ^ (2 * i) * (x / 2 ^ i % 2 + 2 * (y / 2 ^ i % 2)) = (2 ^ (2 * i) * (x / 2 ^ i % 2)) ||| (2 ^ (2 * i) * (y / 2 ^ i % 2)) <<< 1 := by
      rw [Nat.shiftLeft_eq]
      rcases Nat.mod_two_eq_zero_or_one (x / 2 ^ i) with hx | hx <;> rcases Nat.mod_two_eq_zero_or_one (y / 2 ^ i) with hy | hy <;> rw [hx, hy]
      · simp
      · simp
      · simp
      · have := Nat.two_pow_add_eq_or_of_lt (i := 2 * i + 1) (b := 2 ^ (2 * i)) (by rw [Nat.pow_succ]; have := Nat.two_pow_pos (2 * i); omega) 1
        rw [Nat.mul_one, Nat.pow_succ] at this
        simp only [Nat.mul_one, Nat.pow_one]
        rw [Nat.or_comm, ← this]
        omega
    rw [e2]
    rw [Nat.shiftLeft_or_distrib]
    generalize spN (x % 2 ^ i) = a
    generalize spN (y % 2 ^ i) <<< 1 = b
    generalize (2 ^ (2 * i) * (y / 2 ^ i % 2)) <<< 1 = d
    generalize 2 ^ (2 * i) * (x / 2 ^ i % 2) = f
    apply Nat.eq_of_testBit_eq; intro j
    simp only [Nat.testBit_or]
    cases a.testBit j <;> cases b.testBit j <;> cases d.testBit j <;> cases f.testBit j <;> rfl
theorem zip_sp (x y : Nat) (hx : x < 2097152) (hy : y < 2097152) : spN x ||| spN y <<< 1 = zipB x y 21 := by
  have := zip_low x y 21 (Nat.le_refl _)
  rwa [Nat.mod_eq_of_lt (by omega), Nat.mod_eq_of_lt (by omega)] at this
theorem gaN_low (c i : Nat) (hi : i ≤ 32) : gaN (c % 4 ^ i) = evens c i := by
  induction i with
  | zero => simp [evens, Nat.mod_one]; decide
  | succ i ih =>
    rw [mod_four_pow, gaN_or, gaN_bits i (by omega) _ (Nat.mod_lt _ (by omega)), ih (by omega), ← Nat.two_pow_add_eq_or_of_lt (evens_lt c i)]
    simp only [evens]
    rw [Nat.mod_mod_of_dvd _ (by decide : 2 ∣ 4), Nat.mul_comm]; omega
theorem gaN_eq (c : Nat) (hc : c < 18446744073709551616) : gaN c = evens c 32 := by
  have := gaN_low c 32 (Nat.le_refl _)
  rwa [Nat.mod_eq_of_lt (by omega)] at this
theorem evens_bit (c k i : Nat) (h : i < k) : evens c k / 2 ^ i % 2 = c / 4 ^ i % 2 := by
  induction k with
  | zero => omega
  | succ k ih =>
    simp only [evens]
    rcases Nat.lt_or_ge i k with h1 | h1
    · rw [← ih h1]
      have : 2 ^ k = 2 ^ i * (2 * 2 ^ (k - i - 1)) := by
        rw [← Nat.mul_assoc, ← Nat.pow_succ, ← Nat.pow_add]; congr 1; omega
      rw [this, Nat.mul_left_comm, Nat.add_mul_div_left _ _ (Nat.two_pow_pos i), ← Nat.mul_left_comm, Nat.add_mul_mod_self_left]
    · obtain rfl : i = k := by omega
      rw [Nat.mul_comm, Nat.add_mul_div_left _ _ (Nat.two_pow_pos i), Nat.div_eq_of_lt (evens_lt c i)]; omega
theorem zip_evens (c k : Nat) : ∀ i, i ≤ k → zipB (evens c k) (evens (c / 2) k) i = c % 4 ^ i
  | 0, _ => by simp [zipB, Nat.mod_one]
  | i + 1, h => by
    simp only [zipB]
    rw [zip_evens c k i (by omega), evens_bit _ _ _ (by omega), evens_bit _ _ _ (by omega), Nat.pow_succ, Nat.mod_mul, Nat.div_div_eq_div_mul, Nat.mul_comm 2, ← Nat.div_div_eq_div_mul]
    have : c / 4 ^ i % 4 = c / 4 ^ i % 2 + 2 * (c / 4 ^ i / 2 % 2) := by omega
    rw [this]
    generalize 4 ^ i = q
    rcases Nat.mod_two_eq_zero_or_one (c / q) with hx | hx <;> rcases Nat.mod_two_eq_zero_or_one (c / q / 2) with hy | hy <;> rw [hx, hy] <;> omega
theorem zip_more (x y i : Nat) (hx : x < 2 ^ i) (hy : y < 2 ^ i) : ∀ j, zipB x y (i + j) = zipB x y i
  | 0 => rfl
  | j + 1 => by
    show zipB x y (i + j + 1) = _
    simp only [zipB]
    have hp : 2 ^ i ≤ 2 ^ (i + j) := Nat.pow_le_pow_right (by omega) (by omega)
    rw [zip_more x y i hx hy j, Nat.div_eq_of_lt (by omega), Nat.div_eq_of_lt (by omega)]; simp
theorem zipB_0 (x y : Nat) : zipB x y 0 = 0 := rfl
theorem zipB_succ (x y i : Nat) : zipB x y (i + 1) = zipB x y i + (x / 2 ^ i % 2) * 4 ^ i + (y / 2 ^ i % 2) * (2 * 4 ^ i) := rfl
theorem evens_0 (c : Nat) : evens c 0 = 0 := rfl
theorem evens_succ (c i : Nat) : evens c (i + 1) = evens c i + (c / 4 ^ i % 2) * 2 ^ i := rfl
theorem evens_zero (i : Nat) : evens 0 i = 0 := by
  induction i with
  | zero => rfl
  | succ i ih => simp [evens, ih]
attribute [irreducible] zipB evens
/-- A code is what its halves make together, if both are small. -/
theorem back_zip (c : Nat) (hc : c < 9223372036854775808) (hx : evens c 32 ≤ 1048576) (hy : evens (c / 2) 32 ≤ 1048576) : zipB (evens c 32) (evens (c / 2) 32) 21 = c := by
  have h := zip_evens c 32 32 (Nat.le_refl _)
  rw [Nat.mod_eq_of_lt (by omega)] at h
  rw [← zip_more _ _ 21 (by omega) (by omega) 11]
  exact h
theorem evens_31 (c : Nat) : evens c 32 = evens c 31 + c / 4 ^ 31 % 2 * 2 ^ 31 := evens_succ c 31
/-- What morton.Back and its reference answer alike: of the halves below bit 62 the code is made again only if there was none above. -/
theorem back_ref (c : Nat) (hc : c < 9223372036854775808) :
    (evens c 32 ≤ 1048576 ∧ evens (c / 2) 32 ≤ 1048576) ↔ (evens c 31 ≤ 1048576 ∧ evens (c / 2) 31 ≤ 1048576 ∧ zipB (evens c 31) (evens (c / 2) 31) 21 = c) := by
  have e1 := evens_31 c
  have e2 := evens_31 (c / 2)
  have q1 : (4 : Nat) ^ 31 = 4611686018427387904 := by decide
  have q2 : (2 : Nat) ^ 31 = 2147483648 := by decide
  have q3 : (4 : Nat) ^ 21 = 4398046511104 := by decide
  rw [q1, q2] at e1 e2
  have hz : c / 2 / 4611686018427387904 % 2 = 0 := by omega
  rw [hz, Nat.zero_mul, Nat.add_zero] at e2
  rw [e2]
  have h4 := zipB_lt (evens c 31) (evens (c / 2) 31) 21
  rw [q3] at h4
  have hb := back_zip c hc
  rw [e2] at hb
  clear e2 hz q1 q2 q3
  have hq : c / 4611686018427387904 % 2 = 0 ∨ 4611686018427387904 ≤ c ∧ c / 4611686018427387904 % 2 = 1 := by omega
  generalize evens (c / 2) 31 = y at *
  generalize evens c 31 = x at *
  generalize evens c 32 = x' at *
  rcases hq with hq | ⟨hq1, hq⟩
  · rw [hq, Nat.zero_mul, Nat.add_zero] at e1
    subst e1
    exact ⟨fun ⟨h1, h2⟩ => ⟨h1, h2, hb h1 h2⟩, fun ⟨h1, h2, _⟩ => ⟨h1, h2⟩⟩
  · rw [hq, Nat.one_mul] at e1
    subst e1
    constructor
    · rintro ⟨h1, _⟩; omega
    · rintro ⟨_, _, h3⟩; rw [h3] at h4; omega
/-- The walk's own terms of one step of spread. -/
theorem sp_step (k m n : Nat) (K M : Int) (hK : K = 2 ^ k) (hM : M = (m : Nat)) (hm : m < 9223372036854775808) (hn : n * 2 ^ k < 4611686018427387904) (hn2 : n < 4611686018427387904) :
    ∃ o a : Nat, o < 9223372036854775808 ∧ (n : Int) * K < 4611686018427387904 ∧ bits .or .i64 (n : Int) ((n : Int) * K) = (o : Int) ∧ bits .and .i64 (o : Int) M = (a : Int) ∧ a = spS k m n := by
  subst hK hM
  have e : ((n : Int) * 2 ^ k) = ((n * 2 ^ k : Nat) : Int) := by simp
  have ho : n ||| n * 2 ^ k < 9223372036854775808 := Nat.or_lt_two_pow (n := 63) (by omega) (by omega)
  refine ⟨n ||| n * 2 ^ k, spS k m n, ho, by rw [e]; omega, ?_, ?_, rfl⟩
  · rw [e]; exact i64_or_nat _ _ (by omega) (by omega)
  · unfold spS; rw [Nat.shiftLeft_eq]; exact and_i64 _ _ _ rfl ho hm
theorem ga_step (k m n : Nat) (K M : Int) (hK : K = 2 ^ k) (hM : M = (m : Nat)) (hm : m < 9223372036854775808) (hn : n < 9223372036854775808) :
    ∃ o a : Nat, o < 9223372036854775808 ∧ bits .or .i64 (n : Int) ((n : Int) / K) = (o : Int) ∧ bits .and .i64 (o : Int) M = (a : Int) ∧ a = gaS k m n ∧ a ≤ m := by
  subst hK hM
  have e : ((n : Int) / 2 ^ k) = ((n / 2 ^ k : Nat) : Int) := by simp
  have hd : n / 2 ^ k ≤ n := Nat.div_le_self _ _
  have ho : n ||| n / 2 ^ k < 9223372036854775808 := Nat.or_lt_two_pow (n := 63) (by omega) (by omega)
  refine ⟨n ||| n / 2 ^ k, gaS k m n, ho, ?_, ?_, rfl, by unfold gaS; exact Nat.and_le_right⟩
  · rw [e]; exact i64_or_nat _ _ (by omega) (by omega)
  · unfold gaS; rw [Nat.shiftRight_eq_div_pow]; exact and_i64 _ _ _ rfl ho hm
theorem spS_le (k m n : Nat) : spS k m n ≤ m := by unfold spS; exact Nat.and_le_right
theorem spS_lt (k m n j : Nat) (hn : n < 2 ^ j) : spS k m n < 2 ^ (j + k) := by
  unfold spS
  refine Nat.lt_of_le_of_lt Nat.and_le_left (Nat.or_lt_two_pow (Nat.lt_of_lt_of_le hn (Nat.pow_le_pow_right (by omega) (by omega))) ?_)
  rw [Nat.shiftLeft_eq, Nat.pow_add]
  exact Nat.mul_lt_mul_of_pos_right hn (Nat.two_pow_pos k)
/-- Any number's low bits by a mask. -/
theorem and_i64_any (x : Int) (m : Nat) (M : Int) (hM : M = (m : Nat)) (hm : m < 9223372036854775808) : ∃ a : Nat, a ≤ m ∧ bits .and .i64 x M = (a : Int) := by
  subst hM
  refine ⟨(BitVec.ofInt 64 x &&& BitVec.ofInt 64 (m : Int)).toNat, ?_, ?_⟩
  · rw [BitVec.toNat_and, ofInt_i64 m hm]; exact Nat.and_le_right
  · show IntKind.i64.wrap ((BitVec.ofInt 64 x &&& BitVec.ofInt 64 (m : Int)).toNat : Int) = _
    have : (BitVec.ofInt 64 x &&& BitVec.ofInt 64 (m : Int)).toNat ≤ m := by rw [BitVec.toNat_and, ofInt_i64 m hm]; exact Nat.and_le_right
    rw [IntKind.wrap_i64]; omega
theorem spN_eq (n : Nat) : spN n = spS 1 6148914691236517205 (spS 2 3689348814741910323 (spS 4 1085102592571150095 (spS 8 71777214294589695 (spS 16 281470681808895 n)))) := rfl
theorem gaN_out (n : Nat) : gaN n = gaS 16 4294967295 (gaS 8 281470681808895 (gaS 4 71777214294589695 (gaS 2 1085102592571150095 (gaS 1 3689348814741910323 (n &&& 6148914691236517205))))) := rfl
theorem spN_lt (n : Nat) (hn : n < 2097152) : spN n < 4503599627370496 :=
  spS_lt 1 _ _ 51 (spS_lt 2 _ _ 49 (spS_lt 4 _ _ 45 (spS_lt 8 _ _ 37 (spS_lt 16 _ _ 21 hn))))
theorem code_or (x y : Nat) (hx : x < 2097152) (hy : y < 2097152) : bits .or .i64 ((spN x : Nat) : Int) (((spN y : Nat) : Int) * 2) = ((zipB x y 21 : Nat) : Int) := by
  have h1 := spN_lt x hx
  have h2 := spN_lt y hy
  rw [← zip_sp x y hx hy, Nat.shiftLeft_eq]
  have := i64_or_nat (spN x) (spN y * 2) (by omega) (by omega)
  simpa using this
theorem gaN_le (n : Nat) : gaN n ≤ 4294967295 := by unfold gaN gaS; exact Nat.and_le_right
attribute [irreducible] spS gaS spN gaN
end Go.Dam
