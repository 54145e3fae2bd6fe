/-
  Contracts of hull.Hull and the reference's HullOf: the corners, or the code of what is refused. Conditions: the points can be read as data.
-/
import Derived.Test.YthiccmncdmohbaaMHullInsides21
import Derived.Test.YthiccmncdmohbaaMHullInsides31
import Derived.Test.YthiccmncdmohbaaMHullInsides32
import Derived.Test.YthiccmncdmohbaaMHullInsides33
import Derived.Test.YthiccmncdmohbaaMHullInsides04
set_option linter.unusedVariables false
set_option linter.unusedSimpArgs false
namespace Go.Dam.Hull
open Go Go.RowKit Go.Dam
theorem pt_okC {n : Nat} {l : List Int} (h : ptCode n l = 0) : n ≤ 150 ∧ ∀ i, i < n → okC (l.getD (i * 3) 0) ∧ okC (l.getD (i * 3 + 1) 0) := by
  obtain ⟨h1, h2⟩ := pt_coords h
  exact ⟨h1, fun i hi => ⟨h2 (i * 3) (by omega), h2 (i * 3 + 1) (by omega)⟩⟩
theorem pt_nr {n : Nat} {l : List Int} (h : ∀ i, i < n → okC (l.getD (i * 3) 0) ∧ okC (l.getD (i * 3 + 1) 0)) : ∀ i, i < n → nr (ptF l i) := fun i hi => (h i hi).2
/-- The corners of points, where they are not refused. -/
def HullsR (n : Nat) (l : List Int) (c : Int) (H : List Nat) : Prop := c = hullCode n l ∧ H.length ≤ 300 ∧ (c ≠ 0 → H = []) ∧ (c = 0 → HullIs (ptF l) n H)
theorem HullsR.ex (n : Nat) (l : List Int) : ∃ c H, HullsR n l c H := by
  by_cases h : hullCode n l = 0
  · obtain ⟨h1, h2⟩ := hullCode_ok h
    obtain ⟨h3, h4⟩ := pt_okC h1
    obtain ⟨H, h5, h6⟩ := hull_ex2 h2 (pt_nr h4)
    exact ⟨0, H, h.symm, by omega, fun h => absurd rfl h, fun _ => h5⟩
  · exact ⟨_, [], rfl, by simp, fun _ => rfl, fun h0 => absurd h0 h⟩
theorem natH_wf {n : Nat} {H : List Nat} (h : ∀ j, j < H.length → H.getD j 0 < n) (hn : n ≤ 1000) : ∀ z ∈ natH H, (Lit.int .i64 z).wf = true := fun z hz => by
  unfold natH at hz
  obtain ⟨i, hi, rfl⟩ := List.mem_map.1 hz
  obtain ⟨u, hu, rfl⟩ := List.mem_iff_getElem.1 hi
  have := h u hu
  rw [gE _ _ hu] at this
  exact int_wf (by unfold I64; omega)
end Go.Dam.Hull
namespace Go.Proofs.Ythiccmncdmohbaa
open Go Go.RowKit Go.Dam Go.Dam.Hull
set_option linter.unusedVariables false
end Go.Proofs.Ythiccmncdmohbaa
