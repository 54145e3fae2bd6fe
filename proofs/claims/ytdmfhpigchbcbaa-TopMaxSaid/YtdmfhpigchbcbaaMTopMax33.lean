/-
  Contract of the reference's bools: the bits of a row as a slice of its own. Conditions: the row can be read as data and is well formed.
-/
import Derived.Test.YtdmfhpigchbcbaaMTopMax20
namespace Go.Proofs.Ytdmfhpigchbcbaa
open Go Go.RowKit Go.Dam
set_option linter.unusedVariables false

theorem el_bool : El Try.prog 69 4 (.bool false) 1 1 := ⟨Try.underlying69, by kernel_rfl, rfl, by decide⟩
/-- The bits of a row. -/
def rowBits (ws : List Nat) (n : Nat) : List Bool := (List.range n).map (bitAt ws)
theorem rowBits_succ (ws : List Nat) (n : Nat) : rowBits ws (n + 1) = rowBits ws n ++ [bitAt ws n] := by
  unfold rowBits; rw [List.range_succ, List.map_append]; rfl
theorem rowBits_length (ws : List Nat) (n : Nat) : (rowBits ws n).length = n := by unfold rowBits; simp
theorem rowBits_0 (ws : List Nat) : rowBits ws 0 = [] := rfl
theorem rowBits_get (ws : List Nat) (n k : Nat) (hk : k < n) : (rowBits ws n).getD k false = bitAt ws k := by
  unfold rowBits; simp [hk]
attribute [irreducible] rowBits
/-- It returns a slice of its own that reads as the bits. -/
def GivesBools (l : List Bool) (w : World) (e : Ending) (w' : World) : Prop := ∃ v, e = .returned v ∧ IsBools w' w'.heap.size v l ∧ Below w.heap.size w w'
end Go.Proofs.Ytdmfhpigchbcbaa
