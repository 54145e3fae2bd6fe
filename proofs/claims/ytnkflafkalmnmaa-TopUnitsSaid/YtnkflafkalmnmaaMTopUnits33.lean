/-
  Contracts of the reference's cuts and cells: the closure is called at each cell between cuts, with how many places it has and in how many rectangles it lies. Conditions: the rectangles can be read as data and are not refused; the closure turns one block, and what it lays.
-/
import Derived.Test.YtnkflafkalmnmaaMTopUnits29
import Derived.Test.YtnkflafkalmnmaaMTopUnits31
import Derived.Test.YtnkflafkalmnmaaMTopUnits32
namespace Go.Dam.Klee
open Go Go.RowKit Go.Dam
set_option linter.unusedVariables false
theorem BelowBut.less {n m e : Nat} {A B : World} (h : BelowBut n e A B) (hm : m ≤ n) : BelowBut m e A B := ⟨h.os, h.tape, h.output, h.size, fun i hi he => h.block i (by omega) he⟩
/-- What is asked of the closure of cells. -/
structure CellOk (P : Program) (l : List Int) (n : Nat) (cx cy : List Int) (g : Nat) (lb : Array Value) (gB : Nat) (J : Nat → Nat → World → Prop) (w : World) : Prop where
  eg : ∀ args w, (callFunc g args).run P w = .ok (.enter g args) w
  low : gB < w.heap.size
  grow : ∀ i k W W', J i k W → Below w.heap.size W W' → J i k W'
  skip : ∀ i k W, i + 1 < cx.length → k + 1 < cy.length → (cx.getD (i + 1) 0 - cx.getD i 0) * (cy.getD (k + 1) 0 - cy.getD k 0) = 0 → J i k W → J i (k + 1) W
  next : ∀ i W, i + 1 < cx.length → J i (cy.length - 1) W → J (i + 1) 0 W
  zero : J 0 0 w
  call : ∀ i k W, i + 1 < cx.length → k + 1 < cy.length → (cx.getD (i + 1) 0 - cx.getD i 0) * (cy.getD (k + 1) 0 - cy.getD k 0) ≠ 0 → J i k W →
    Calls P g (#[.int .i64 ((cx.getD (i + 1) 0 - cx.getD i 0) * (cy.getD (k + 1) 0 - cy.getD k 0)), .int .i64 (deepN l n (cx.getD i 0) (cy.getD k 0))] ++ lb) W fun e W' => e = .returned (.tuple #[]) ∧ J i (k + 1) W' ∧ BelowBut W.heap.size gB W W'
/-- What the loops of cells keep. -/
def CInv (tI : TypeId) (J : Nat → Nat → World → Prop) (cx cy : List Int) (base gB K : Nat) (xv yv : Value) (w0 : World) (i k : Nat) (W : World) : Prop :=
  J i k W ∧ W.ownsRow base tI 1 xv K (cx.map (Value.int .i64)) ∧ W.ownsRow base tI 1 yv K (cy.map (Value.int .i64)) ∧ BelowBut w0.heap.size gB w0 W
section
variable {tI : TypeId} {J : Nat → Nat → World → Prop} {cx cy : List Int} {base gB K i k : Nat} {xv yv : Value} {w0 W W' : World}
theorem CInv.grow (h : CInv tI J cx cy base gB K xv yv w0 i k W) (hJ : ∀ i k W W', J i k W → Below w0.heap.size W W' → J i k W') (hb : Below W.heap.size W W') : CInv tI J cx cy base gB K xv yv w0 i k W' := by
  obtain ⟨h1, h2, h3, h4⟩ := h
  exact ⟨hJ _ _ _ _ h1 (hb.mono h4.size), own_size h2 hb, own_size h3 hb, h4.trans (.of_below (hb.mono h4.size))⟩
theorem CInv.but (h : CInv tI J cx cy base gB K xv yv w0 i k W) {i' k' : Nat} (hJ : J i' k' W') (hg : gB < base) (hb : BelowBut W.heap.size gB W W') : CInv tI J cx cy base gB K xv yv w0 i' k' W' :=
  ⟨hJ, own_but h.2.1 hb hg, own_but h.2.2.1 hb hg, h.2.2.2.trans (BelowBut.less hb h.2.2.2.size)⟩
end
end Go.Dam.Klee
namespace Go.Proofs.Ytnkflafkalmnmaa
open Go Go.RowKit Go.Dam Go.Dam.Klee
set_option linter.unusedVariables false
end Go.Proofs.Ytnkflafkalmnmaa
