/-
  Plain arithmetic of the sum of bytes, no program in sight: eight steps of one bit are one look into the table. Conditions: bounds on the numbers.
-/
import Derived.Test.YtaipnjoeejgnnaaBits
namespace Go.Dam
set_option linter.unusedVariables false
open Go
def crcS (n : Nat) : Nat := if n % 2 = 1 then n / 2 ^^^ 3988292384 else n / 2
/-- So many steps. -/
def crcN : Nat → Nat → Nat
  | 0, n => n
  | k + 1, n => crcS (crcN k n)
/-- The sum after k bytes. -/
def crcTo (l : List Int) : Nat → Nat
  | 0 => 4294967295
  | k + 1 => crcN 8 (crcTo l k ^^^ (l.getD k 0).toNat)
theorem crcS_bit (n i : Nat) : (crcS n).testBit i = (n.testBit (i + 1) ^^ (n.testBit 0 && Nat.testBit 3988292384 i)) := by
  unfold crcS
  have h2 : (n / 2).testBit i = n.testBit (i + 1) := by rw [Nat.testBit_succ]
  split
  · rename_i h
    have : n.testBit 0 = true := by rw [Nat.testBit_zero]; simpa using h
    rw [Nat.testBit_xor, h2, this, Bool.true_and]
  · rename_i h
    have : n.testBit 0 = false := by rw [Nat.testBit_zero]; simpa using h
    rw [h2, this, Bool.false_and, Bool.xor_false]
theorem crcS_xor (a b : Nat) : crcS (a ^^^ b) = crcS a ^^^ crcS b := by
  apply Nat.eq_of_testBit_eq; intro i
  simp only [crcS_bit, Nat.testBit_xor]
  cases a.testBit (i + 1) <;> cases b.testBit (i + 1) <;> cases a.testBit 0 <;> cases b.testBit 0 <;> cases Nat.testBit 3988292384 i <;> rfl
theorem crcS_lt {n : Nat} (h : n < 4294967296) : crcS n < 4294967296 := by
  unfold crcS
  split
  · exact Nat.xor_lt_two_pow (n := 32) (by omega) (by omega)
  · omega
theorem crcN_lt {n : Nat} (h : n < 4294967296) : ∀ k, crcN k n < 4294967296
  | 0 => h
  | k + 1 => crcS_lt (crcN_lt h k)
theorem crcN_xor (a b : Nat) : ∀ k, crcN k (a ^^^ b) = crcN k a ^^^ crcN k b
  | 0 => rfl
  | k + 1 => by simp only [crcN, crcN_xor a b k, crcS_xor]
theorem crcS_even (q : Nat) : crcS (2 * q) = q := by
  unfold crcS
  rw [if_neg (by omega)]; omega
theorem crcN_high (k q : Nat) : crcN k (2 ^ k * q) = q := by
  induction k generalizing q with
  | zero => simp [crcN]
  | succ k ih =>
    rw [Nat.pow_succ, Nat.mul_assoc]
    simp only [crcN]
    rw [ih, crcS_even]
theorem split_xor (n x : Nat) (hx : x < 256) : n ^^^ x = (n % 256 ^^^ x) ^^^ 2 ^ 8 * (n / 256) := by
  apply Nat.eq_of_testBit_eq; intro i
  simp only [Nat.testBit_xor]
  have e : 2 ^ 8 * (n / 256) + n % 256 = n := by omega
  have h := Nat.testBit_two_pow_mul_add (n / 256) (show n % 256 < 2 ^ 8 by omega) i
  rw [e] at h
  have h2 := Nat.testBit_two_pow_mul_add (n / 256) (show 0 < 2 ^ 8 by omega) i
  rw [Nat.add_zero] at h2
  have hm : (n % 256).testBit i = (decide (i < 8) && n.testBit i) := Nat.testBit_mod_two_pow n 8 i
  rw [h2, h, hm]
  by_cases hi : i < 8
  · simp [hi, h]
  · simp [hi, Nat.testBit_lt_two_pow (Nat.lt_of_lt_of_le hx (Nat.pow_le_pow_right (by omega : 0 < 2) (by omega : 8 ≤ i)))]
theorem crc_table (n x : Nat) (hx : x < 256) : crcN 8 (n ^^^ x) = crcN 8 (n % 256 ^^^ x) ^^^ n / 256 := by
  rw [split_xor n x hx, crcN_xor, crcN_high]
theorem crcTo_lt {l : List Int} (hl : ∀ i, (l.getD i 0).toNat < 256) : ∀ k, crcTo l k < 4294967296
  | 0 => by simp [crcTo]
  | k + 1 => by
    have := hl k
    exact crcN_lt (Nat.xor_lt_two_pow (n := 32) (crcTo_lt hl k) (by omega)) 8
theorem crcS_odd {n : Nat} (h : n % 2 = 1) : crcS n = n / 2 ^^^ 3988292384 := if_pos h
theorem crcS_ev {n : Nat} (h : n % 2 = 0) : crcS n = n / 2 := if_neg (by omega)
theorem crcN_0 (n : Nat) : crcN 0 n = n := rfl
theorem crcN_succ (k n : Nat) : crcN (k + 1) n = crcS (crcN k n) := rfl
theorem crcTo_0 (l : List Int) : crcTo l 0 = 4294967295 := rfl
theorem crcTo_succ (l : List Int) (k : Nat) : crcTo l (k + 1) = crcN 8 (crcTo l k ^^^ (l.getD k 0).toNat) := rfl
theorem ofInt_n (n a : Nat) (ha : a < 2 ^ n) : (BitVec.ofInt n (a : Int)).toNat = a := by
  rw [BitVec.ofInt_natCast, BitVec.toNat_ofNat]; exact Nat.mod_eq_of_lt ha
theorem wrap_u32 (x : Int) : IntKind.u32.wrap x = x % 4294967296 := by simp [IntKind.wrap, IntKind.bits, IntKind.signed]
theorem wrap_u8 (x : Int) : IntKind.u8.wrap x = x % 256 := by simp [IntKind.wrap, IntKind.bits, IntKind.signed]
theorem xor_u32 (a b : Nat) (ha : a < 4294967296) (hb : b < 4294967296) : bits .xor .u32 (a : Int) (b : Int) = ((a ^^^ b : Nat) : Int) := by
  have hx : a ^^^ b < 2 ^ 32 := Nat.xor_lt_two_pow (by omega) (by omega)
  show IntKind.u32.wrap ((BitVec.ofInt 32 (a : Int) ^^^ BitVec.ofInt 32 (b : Int)).toNat : Int) = _
  rw [BitVec.toNat_xor, ofInt_n 32 a (by omega), ofInt_n 32 b (by omega), wrap_u32]
  omega
theorem not_u32 (a : Nat) (ha : a < 4294967296) : bits .xor .u32 IntKind.u32.max (a : Int) = ((4294967295 - a : Nat) : Int) := by
  have h := xor_u32 4294967295 a (by decide) ha
  have e : (4294967295 : Nat) ^^^ a = 4294967295 - a := by
    apply Nat.eq_of_testBit_eq; intro i
    rw [Nat.testBit_xor, show (4294967295 : Nat) - a = 2 ^ 32 - (a + 1) from by omega, Nat.testBit_two_pow_sub_succ (by omega), show (4294967295 : Nat) = 2 ^ 32 - 1 from rfl, Nat.testBit_two_pow_sub_one]
    by_cases hi : i < 32
    · simp [hi]
    · simp [hi]; exact Nat.testBit_lt_two_pow (Nat.lt_of_lt_of_le ha (Nat.pow_le_pow_right (by omega : 0 < 2) (by omega : 32 ≤ i)))
  rw [e] at h
  exact h
theorem xor_u8 (a b : Nat) (ha : a < 256) (hb : b < 256) : bits .xor .u8 (a : Int) (b : Int) = ((a ^^^ b : Nat) : Int) := by
  have hx : a ^^^ b < 2 ^ 8 := Nat.xor_lt_two_pow (by omega) (by omega)
  show IntKind.u8.wrap ((BitVec.ofInt 8 (a : Int) ^^^ BitVec.ofInt 8 (b : Int)).toNat : Int) = _
  rw [BitVec.toNat_xor, ofInt_n 8 a (by omega), ofInt_n 8 b (by omega), wrap_u8]
  omega
theorem and1_u32 (a : Nat) (ha : a < 4294967296) : bits .and .u32 (a : Int) 1 = ((a % 2 : Nat) : Int) := by
  show IntKind.u32.wrap ((BitVec.ofInt 32 (a : Int) &&& BitVec.ofInt 32 ((1 : Nat) : Int)).toNat : Int) = _
  rw [BitVec.toNat_and, ofInt_n 32 a (by omega), ofInt_n 32 1 (by decide), wrap_u32, Nat.and_one_is_mod]
  omega
theorem wf_u8 {x : Int} (h : (Lit.int .u8 x).wf = true) : 0 ≤ x ∧ x ≤ 255 := by
  simpa [Lit.wf, IntKind.min, IntKind.max, IntKind.signed, IntKind.bits] using h
theorem byte_at {l : List Int} (hw : ∀ z ∈ l, (Lit.int .u8 z).wf = true) (i : Nat) : 0 ≤ l.getD i 0 ∧ l.getD i 0 ≤ 255 := by
  rcases Nat.lt_or_ge i l.length with h | h
  · have : l.getD i 0 = l[i] := by simp [h]
    rw [this]; exact wf_u8 (hw _ (List.getElem_mem h))
  · simp [h]
theorem crc_odd {t : Nat} (ht : t < 4294967296) (h2 : t % 2 = 1) : bits .and .u32 (t : Int) 1 = 1 ∧ bits .xor .u32 ((t : Int) / 2) 3988292384 = ((crcS t : Nat) : Int) := by
  refine ⟨by rw [and1_u32 t ht, h2]; rfl, ?_⟩
  rw [crcS_odd h2]
  have := xor_u32 (t / 2) 3988292384 (by omega) (by decide)
  rw [← this]; congr 1
theorem crc_even {t : Nat} (ht : t < 4294967296) (h2 : t % 2 = 0) : bits .and .u32 (t : Int) 1 = 0 ∧ (t : Int) / 2 = ((crcS t : Nat) : Int) := by
  refine ⟨by rw [and1_u32 t ht, h2]; rfl, ?_⟩
  rw [crcS_ev h2]; omega
attribute [irreducible] crcS crcN crcTo
end Go.Dam
