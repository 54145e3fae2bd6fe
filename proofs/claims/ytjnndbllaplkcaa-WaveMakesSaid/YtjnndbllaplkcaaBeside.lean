/-
  Words beside a store into another cell; a made row of false under a name. Conditions: none; nothing here names the program.
-/
import Derived.Test.YtjnndbllaplkcaaLib
namespace Go.Dam
open Go Go.RowKit
set_option linter.unusedVariables false
theorem IsWords.beside {w : World} {B : Nat} {v : Value} {ws : List Nat} (h : IsWords w B v ws) {p : Addr} {y : Value} (hp : w.cell? p = some y) (hy : ∀ n, y ≠ .int .u64 n) (x : Value) : IsWords (w.setCell p x) B v ws := by
  obtain ⟨A, c, rfl, h1, h2, h5, ⟨h3, h3'⟩, h4⟩ := h
  refine ⟨A, c, rfl, h1, h2, h5, ⟨h3, fun h0 => ?_⟩, h4⟩
  obtain ⟨ad, rfl, hB, hc⟩ := h3' h0
  refine ⟨ad, rfl, hB, fun j u hu => ?_⟩
  have hcu := hc j u hu
  rw [World.cell?_setCell_other, hcu]
  intro e
  rw [← e, hp] at hcu
  have hm := List.mem_of_getElem? hu
  obtain ⟨z, _, rfl⟩ := List.mem_map.1 hm
  exact hy _ (Option.some.inj hcu)
/-- A made row of false. -/
def falsesV (n : Nat) : Array Value := (List.replicate n (Value.bool false)).toArray
theorem falsesV_eq (n : Nat) : (List.replicate n (Value.bool false)).toArray = falsesV n := rfl
theorem own_falses {w : World} {E : TypeId} {n base : Nat} (hn : n ≤ 140737488351232) (hb : base ≤ w.heap.size) : (w.alloc (.cells (falsesV n) E)).ownsRow base E 1 (.slice (some ⟨w.heap.size, 0, none⟩) n n) n ((List.replicate n false).map Value.bool) :=
  ⟨by simp, .inr ⟨w.heap.size, n, _, rfl, hb, Blk.new w E (falsesV n), Nat.le_refl _, by unfold maxLen; omega, by unfold falsesV; simp, by unfold falsesV; simp⟩⟩
attribute [irreducible] falsesV
end Go.Dam
