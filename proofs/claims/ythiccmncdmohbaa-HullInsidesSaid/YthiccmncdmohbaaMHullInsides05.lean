/-
  A block of the call's own that is just a row of ints: its cells, a store into it, and its reading as a list. Conditions: none; nothing here names the program.
-/
import Derived.Test.YthiccmncdmohbaaMHullInsides04
set_option linter.unusedVariables false
set_option linter.unusedSimpArgs false
namespace Go.Dam
open Go Go.RowKit
set_option linter.unusedVariables false
/-- Block g is just the ints l of kind k, of element type t. -/
def IBlk (k : IntKind) (t : TypeId) (w : World) (g : Nat) (l : List Int) : Prop := Blk w g t (l.map (Value.int k)).toArray
section
variable {k : IntKind} {t : TypeId} {w w' : World} {g : Nat} {l : List Int}
theorem IBlk.cell (h : IBlk k t w g l) {i : Nat} (hi : i < l.length) : w.cell? ⟨g, i, none⟩ = some (.int k (l.getD i 0)) := by
  rw [Blk.cell h]; simp [hi]
theorem IBlk.frozen (h : IBlk k t w g l) (i : Nat) : w.frozen? ⟨g, i, none⟩ = false := Blk.frozen h i
theorem IBlk.lt (h : IBlk k t w g l) : g < w.heap.size := Blk.lt h
theorem IBlk.set (h : IBlk k t w g l) (i : Nat) (x : Int) : IBlk k t (w.setCell ⟨g, i, none⟩ (.int k x)) g (l.set i x) := by
  have := Blk.set_ h i (.int k x)
  unfold IBlk
  rw [List.map_set]
  simpa using this
theorem IBlk.far (h : IBlk k t w g l) {p : Addr} (hp : g ≠ p.block) (u : Value) : IBlk k t (w.setCell p u) g l := Blk.far h hp u
theorem IBlk.alloc (h : IBlk k t w g l) (o : Obj) : IBlk k t (w.alloc o) g l := Blk.alloc h o
theorem IBlk.drew (h : IBlk k t w g l) : IBlk k t w.drew g l := h
theorem IBlk.drewN (h : IBlk k t w g l) (n : Nat) : IBlk k t (w.drewN n) g l := h
theorem IBlk.below {B : Nat} (h : IBlk k t w g l) (hb : Below B w w') (hg : g < B) : IBlk k t w' g l := Blk.below h hb hg
theorem IBlk.grown {row : Option Nat} (h : IBlk k t w g l) (hb : w.grownBy w' row) (hg : some g ≠ row) : IBlk k t w' g l := Blk.grown h hb hg
theorem IBlk.zeros (w : World) (n : Nat) : IBlk k t (w.alloc (.cells (List.replicate n (Value.int k 0)).toArray t)) w.heap.size (List.replicate n 0) := by
  unfold IBlk; rw [List.map_replicate]; exact Blk.new w t _
theorem IBlk.zeros_at (w : World) (n g : Nat) (hg : g = w.heap.size) : IBlk k t (w.alloc (.cells (List.replicate n (Value.int k 0)).toArray t)) g (List.replicate n 0) := by subst hg; exact IBlk.zeros w n
theorem IBlk.reads (h : IBlk k t w g l) : Reads w w.heap.size 1 (some ⟨g, 0, none⟩) l.length (l.map (Value.int k)) := by
  refine ⟨by simp, fun _ => ⟨_, rfl, Blk.lt h, fun j u hu => ?_⟩⟩
  have : (⟨g, 0, none⟩ : Addr).add j = ⟨g, j, none⟩ := by unfold Addr.add; split <;> simp_all
  rw [this, Blk.cell h, ← hu]; simp
theorem IBlk.isInts (h : IBlk k t w g l) (hl : l.length ≤ 140737488351232) (hw : ∀ z ∈ l, (Lit.int k z).wf = true) : IsInts k w w.heap.size (.slice (some ⟨g, 0, none⟩) l.length l.length) l :=
  ⟨_, _, rfl, Nat.le_refl _, by unfold maxLen; omega, hl, h.reads, hw⟩
end
theorem set_getD_same {l : List Int} {i : Nat} (h : i < l.length) (x : Int) : (l.set i x).getD i 0 = x := by simp [h]
theorem set_getD_ne {l : List Int} {i j : Nat} (h : i ≠ j) (x : Int) : (l.set i x).getD j 0 = l.getD j 0 := by simp [h]
end Go.Dam
