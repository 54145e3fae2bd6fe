/-
  Plain laws of numbers as bits, highest first, and of codes whose ends are told by themselves; texts of 0 and 1. Conditions: none; no program in sight.
-/
import Derived.Test.YteblkbgcnoepnaaLenPlain
import Derived.Laws.Concat
namespace Go.Dam
open Go
set_option linter.unusedVariables false
/-- The lowest k bits of n, the highest of them first. -/
def binN (n : Nat) : Nat → List Bool
  | 0 => []
  | k + 1 => n.testBit k :: binN n k
theorem binN_0 (n : Nat) : binN n 0 = [] := rfl
theorem binN_succ (n k : Nat) : binN n (k + 1) = n.testBit k :: binN n k := rfl
theorem binN_length (n : Nat) : ∀ k, (binN n k).length = k
  | 0 => rfl
  | k + 1 => by rw [binN_succ, List.length_cons, binN_length n k]
/-- The code of a number: kind 1, and kind 2. -/
def gam1 (n : Nat) : List Bool := List.replicate (Lib.bitLen n - 1) false ++ binN n (Lib.bitLen n)
def gam2 (n : Nat) : List Bool := gam1 (Lib.bitLen n) ++ binN n (Lib.bitLen n - 1)
def gamK (k : Int) (n : Nat) : List Bool := if k = 2 then gam2 n else gam1 n
theorem gamK_2 (n : Nat) : gamK 2 n = gam1 (Lib.bitLen n) ++ binN n (Lib.bitLen n - 1) := by unfold gamK; rw [if_pos rfl]; rfl
theorem gamK_1 {k : Int} (h : k ≠ 2) (n : Nat) : gamK k n = List.replicate (Lib.bitLen n - 1) false ++ binN n (Lib.bitLen n) := by unfold gamK; rw [if_neg h]; rfl
theorem gam1_eq (n : Nat) : gam1 n = gamK 1 n := by unfold gamK; rw [if_neg (by decide)]
theorem bitLen_pos {n : Nat} (h : 1 ≤ n) (h2 : n < 18446744073709551616) : 1 ≤ Lib.bitLen n := by
  have := (bitLen_iff 0 n h2).2 (by omega); omega
theorem bitLen_21 {n : Nat} (h : n ≤ 1048576) : Lib.bitLen n ≤ 21 := by
  have e : (2 : Nat) ^ 21 = 2097152 := by decide
  exact (bitLen_le 21 n (by omega)).2 (by omega)
theorem bitLen_above {n t : Nat} (h2 : n < 18446744073709551616) : 0 < n / 2 ^ t ↔ t < Lib.bitLen n := by
  rw [bitLen_iff t n h2, Nat.div_pos_iff]
  exact ⟨fun h => h.2, fun h => ⟨Nat.pow_pos (by decide), h⟩⟩
/-- A text of 0 and 1. -/
def txt (l : List Bool) : List UInt8 := l.map fun b => if b then 49 else 48
def txtB (l : List Bool) : ByteArray := ⟨(txt l).toArray⟩
theorem txtB_nil : txtB [] = ⟨#[]⟩ := rfl
theorem txtB_size (l : List Bool) : (txtB l).size = l.length := by show (txt l).toArray.size = _; simp [txt]
theorem txtB_append (a b : List Bool) : txtB a ++ txtB b = txtB (a ++ b) := by
  unfold txtB
  rw [Go.ByteArray.mk_append_mk]
  simp [txt]
theorem txtB_1 : (⟨#[49]⟩ : ByteArray) = txtB [true] := rfl
theorem txtB_0 : (⟨#[48]⟩ : ByteArray) = txtB [false] := rfl
theorem txtB_tail (b : Bool) (l : List Bool) : (txtB (b :: l)).extract 1 (txtB (b :: l)).size = txtB l := by
  rw [txtB_size]
  unfold txtB
  apply ByteArray.ext
  rw [ByteArray.data_extract]
  simp [txt]
  rw [List.take_of_length_le (by simp)]
theorem txtB_at (l : List Bool) (i : Nat) (h : i < (txtB l).size) : ((txtB l)[i]'h) = if l.getD i false then 49 else 48 := by
  have h2 : i < l.length := by rw [txtB_size] at h; exact h
  show (txt l).toArray[i]'_ = _
  simp [txt, h2]
attribute [irreducible] binN gam1 gam2 gamK txtB
end Go.Dam
