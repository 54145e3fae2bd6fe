/-
  Texts of one claim behind each other. Conditions: none of its own.
-/
import Derived.Test.YthbopbbpogddlaaMGridReports02
import Derived.Test.YthbopbbpogddlaaMGridReports00
import Derived.Test.YthbopbbpogddlaaMGridReports30
/-
  The contract of the reference's bitOf: bit i of a word. Conditions: the word is below 2 to the 64th, i is below 64.
-/
namespace Go.Proofs.Ythbopbbpogddlaa
open Go Go.RowKit Go.Dam
set_option linter.unusedVariables false

end Go.Proofs.Ythbopbbpogddlaa

/-
  Contracts of bits.May and of the reference's BitsMay: both say whether a row is well formed. Conditions: the row can be read as data.
-/
namespace Go.Proofs.Ythbopbbpogddlaa
open Go Go.RowKit Go.Dam
set_option linter.unusedVariables false

theorem zero_test (x m : Nat) : (((x : Int) / 2 ^ m) == 0) = decide (x / 2 ^ m = 0) := by
  have e : (x : Int) / 2 ^ m = ((x / 2 ^ m : Nat) : Int) := by simp
  rw [e, Bool.eq_iff_iff, beq_iff_eq, decide_eq_true_iff]
  omega
set_option maxHeartbeats 400000 in
theorem may_any (v : Value) (n : Int) (ws : List Nat) (w : World) (B : Nat) (hB : B ≤ w.heap.size) (h : IsBits w B v n ws) :
    Calls Try.prog 134 #[v] w fun e w' => e = .returned (.bool (mayBits n ws)) ∧ Below w.heap.size w w' := by
  obtain ⟨s, rfl, hi, A, c, rfl, hc, hm, hl, hr, hw⟩ := h
  unfold I64 at hi
  by_cases c1 : n < 0
  · have HM := Lib.hid (mayBits_false.2 fun h => by unfold MayBits at h; omega : mayBits n ws = false)
    go_enter Try.func134, Try.ntmps134
    go_wp2_with fail
    go_ret
    exact ⟨ret_bool HM.out.symm, (Below.refl _ _).alloc (Nat.le_refl _) _⟩
  by_cases c2 : 4096 < n
  · have HM := Lib.hid (mayBits_false.2 fun h => by unfold MayBits at h; omega : mayBits n ws = false)
    go_enter Try.func134, Try.ntmps134
    go_wp2_with fail
    go_ret
    exact ⟨ret_bool HM.out.symm, (Below.refl _ _).alloc (Nat.le_refl _) _⟩
  by_cases c3 : (ws.length : Int) = (n + 63) / 64
  rotate_left
  · have HM := Lib.hid (mayBits_false.2 fun h => by unfold MayBits at h; omega : mayBits n ws = false)
    have h3 : ((ws.length : Int) != (n + 64 - 1) / 64) = true := by simp; omega
    clear c3
    go_enter Try.func134, Try.ntmps134
    go_wp2_with fail
    go_ret
    exact ⟨ret_bool HM.out.symm, (Below.refl _ _).alloc (Nat.le_refl _) _⟩
  have h3 : ((ws.length : Int) != (n + 64 - 1) / 64) = false := by simp; omega
  by_cases c4 : n % 64 = 0
  · have HM := Lib.hid (mayBits_iff.2 (by unfold MayBits; exact ⟨by omega, by omega, c3, .inl c4⟩) : mayBits n ws = true)
    have h4 : (n % 64 == 0) = true := by simp; omega
    clear c3 c4
    go_enter Try.func134, Try.ntmps134
    go_wp2_with fail
    go_ret
    exact ⟨ret_bool HM.out.symm, (Below.refl _ _).alloc (Nat.le_refl _) _⟩
  have h4 : (n % 64 == 0) = false := by simp; omega
  have hpos : 0 < ws.length := by omega
  obtain ⟨b, off, rfl, hb, hcells⟩ := word_at hr hpos
  have hcell := hcells (ws.length - 1) (by omega)
  clear hcells
  have hbw : b < w.heap.size := by omega
  have hx := word_lt hw (ws.length - 1)
  obtain ⟨k, hk⟩ : ∃ k : Nat, k = (n % 64).toNat := ⟨_, rfl⟩
  have HM : Hid (mayBits n ws = decide (ws.getD (ws.length - 1) 0 / 2 ^ k = 0)) := by
    rw [hk]
    by_cases c5 : ws.getD (ws.length - 1) 0 / 2 ^ (n % 64).toNat = 0
    · exact (mayBits_iff.2 (by unfold MayBits; exact ⟨by omega, by omega, c3, .inr c5⟩)).trans (decide_eq_true c5).symm
    · exact (mayBits_false.2 (by unfold MayBits; rintro ⟨_, _, _, h | h⟩ <;> contradiction)).trans (decide_eq_false c5).symm
  generalize ws.getD (ws.length - 1) 0 = x at *
  have HK := Lib.hid hk
  clear hk c3 c4
  go_enter Try.func134, Try.ntmps134
  go_wp2_with fail
  go_ret
  exact ⟨ret_bool (by rw [HM.out, HK.out, zero_test]), (Below.refl _ _).alloc (Nat.le_refl _) _⟩

theorem bit_of_word (ws : List Nat) (i : Nat) : (ws.getD (i / 64) 0).testBit (i % 64) = bitAt ws i := by unfold bitAt; rfl
end Go.Proofs.Ythbopbbpogddlaa

/-
  Contract of the reference's bools: the bits of a row as a slice of its own. Conditions: the row can be read as data and is well formed.
-/
namespace Go.Proofs.Ythbopbbpogddlaa
open Go Go.RowKit Go.Dam
set_option linter.unusedVariables false

theorem el_bool : El Try.prog 105 4 (.bool false) 1 1 := ⟨Try.underlying105, by kernel_rfl, rfl, by decide⟩
/-- The bits of a row. -/
def rowBits (ws : List Nat) (n : Nat) : List Bool := (List.range n).map (bitAt ws)
theorem rowBits_succ (ws : List Nat) (n : Nat) : rowBits ws (n + 1) = rowBits ws n ++ [bitAt ws n] := by
  unfold rowBits; rw [List.range_succ, List.map_append]; rfl
theorem rowBits_length (ws : List Nat) (n : Nat) : (rowBits ws n).length = n := by unfold rowBits; simp
theorem rowBits_0 (ws : List Nat) : rowBits ws 0 = [] := rfl
theorem rowBits_get (ws : List Nat) (n k : Nat) (hk : k < n) : (rowBits ws n).getD k false = bitAt ws k := by
  unfold rowBits; simp [hk]
attribute [irreducible] rowBits
/-- It returns a slice of its own that reads as the bits. -/
def GivesBools (l : List Bool) (w : World) (e : Ending) (w' : World) : Prop := ∃ v, e = .returned v ∧ IsBools w' w'.heap.size v l ∧ Below w.heap.size w w'
end Go.Proofs.Ythbopbbpogddlaa
