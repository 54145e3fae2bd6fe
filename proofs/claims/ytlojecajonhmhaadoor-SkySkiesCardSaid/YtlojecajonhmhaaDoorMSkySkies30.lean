/-
  Contract of the reference's within with the order by X and Y: the places in a rectangle, sorted stably. Conditions: the points can be read as data; they are at most 150.
-/
import Derived.Test.YtlojecajonhmhaaDoorMSkySkies29
set_option linter.unusedVariables false
set_option linter.unusedSimpArgs false
namespace Go.Dam
open Go Go.RowKit Go.Dam.Stable
theorem natL_take (l : List Int) (x0 y0 x1 y1 : Int) (t : Nat) : (List.range (t + 1)).filter (inQ l x0 y0 x1 y1) = (List.range t).filter (inQ l x0 y0 x1 y1) ++ (if inQ l x0 y0 x1 y1 t then [t] else []) := by
  rw [List.range_succ, List.filter_append]
  cases h : inQ l x0 y0 x1 y1 t <;> simp [h]
/-- A number that is a place below n. -/
def IsPl (n : Nat) (z : Int) : Prop := ∃ i : Nat, z = i ∧ i < n
theorem ltP_weak (l : List Int) : Weak (ltP l) where
  asym x y h := by unfold ltP ltXY at *; simp at *; omega
  tr x y z h g := by unfold ltP ltXY at *; simp at *; omega
  neg x y z h g := by unfold ltP ltXY at *; simp at *; omega
theorem StabR_mem {lt : Int → Int → Bool} {l r : List Int} (h : StabR lt l r) {z : Int} (hz : z ∈ r) : z ∈ l := by
  obtain ⟨m, hm, _, rfl⟩ := h
  have := (hm.map (·.2)).mem_iff.1 hz
  rwa [tagL_snd] at this
end Go.Dam
namespace Go.Proofs.YtlojecajonhmhaaDoor
open Go Go.RowKit Go.Dam Go.Sort Go.Dam.Stable
set_option linter.unusedVariables false
end Go.Proofs.YtlojecajonhmhaaDoor
