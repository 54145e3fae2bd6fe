/-
  Contract of the index's report: the places of the order whose points lie in a rectangle. Conditions: the index lies in memory, its order is by X.
-/
import Derived.Test.YtdmfhpigchbcbaaMTopCover27
import Derived.Test.YtdmfhpigchbcbaaMTopCover00
import Derived.Test.YtdmfhpigchbcbaaMTopCover06
import Derived.Test.YtdmfhpigchbcbaaMTopCover05
import Derived.Deep.RegionHeld3
import Derived.Deep.CutRange
namespace Go.Dam
open Go Go.RowKit
/-- Does the point at a place lie in a rectangle? -/
def inP (l : List Int) (x0 y0 x1 y1 : Int) (i : Nat) : Bool := inR (l.getD (i * 3) 0) (l.getD (i * 3 + 1) 0) x0 y0 x1 y1
theorem inP_x {l : List Int} {x0 y0 x1 y1 : Int} {i : Nat} (h : inP l x0 y0 x1 y1 i = true) : x0 ≤ l.getD (i * 3) 0 ∧ l.getD (i * 3) 0 ≤ x1 := by
  unfold inP inR at h; simp at h; exact ⟨h.1.1.1, h.1.1.2⟩
theorem filter_one {α : Type} (p : α → Bool) (x : α) : [x].filter p = if p x then [x] else [] := by cases h : p x <;> simp [h]
/-- What stands outside the columns is in no rectangle. -/
theorem cols_filter {l : List Int} {n a b : Nat} {r : List Nat} {x0 y0 x1 y1 : Int} (hr : r.length = n) (h : ColsAt l r n x0 x1 a b) : ((r.drop a).take (b - a)).filter (inP l x0 y0 x1 y1) = r.filter (inP l x0 y0 x1 y1) := by
  obtain ⟨b', rfl, ⟨ha, ha1, ha2⟩, hb, hb1, hb2⟩ := h
  have e : r = r.take a ++ ((r.drop a).take (max a b' - a) ++ (r.drop a).drop (max a b' - a)) := by rw [List.take_append_drop, List.take_append_drop]
  conv => rhs; rw [e]
  rw [List.filter_append, List.filter_append]
  have f1 : (r.take a).filter (inP l x0 y0 x1 y1) = [] := by
    rw [List.filter_eq_nil_iff]
    intro i hi hp
    obtain ⟨u, hu, rfl⟩ := List.mem_iff_getElem.1 hi
    have hu2 : u < a := by simp at hu; omega
    have this : isAb (xOf l r u) x0 false = false := ha1 u hu2
    unfold isAb xOf at this
    rw [ge_at r (by omega)] at this
    rw [List.getElem_take] at hp
    have := inP_x hp
    simp at *
    omega
  have f2 : ((r.drop a).drop (max a b' - a)).filter (inP l x0 y0 x1 y1) = [] := by
    rw [List.filter_eq_nil_iff, List.drop_drop]
    intro i hi hp
    obtain ⟨u, hu, rfl⟩ := List.mem_iff_getElem.1 hi
    simp at hu
    rw [List.getElem_drop] at hp
    have this : isAb (xOf l r (a + (max a b' - a) + u)) x1 true = true := hb2 (a + (max a b' - a) + u) (by omega) (by omega)
    unfold isAb xOf at this
    rw [ge_at r (by omega)] at this
    have := inP_x hp
    simp at *
    omega
  rw [f1, f2, List.nil_append, List.append_nil]
end Go.Dam
namespace Go.Proofs.Ytdmfhpigchbcbaa
open Go Go.RowKit Go.Dam
set_option linter.unusedVariables false
end Go.Proofs.Ytdmfhpigchbcbaa
