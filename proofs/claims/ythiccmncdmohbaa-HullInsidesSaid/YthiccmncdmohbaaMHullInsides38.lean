/-
  Nothing below some block has turned, but for one block. Conditions: none; nothing here names the program.
-/
import Derived.Test.YthiccmncdmohbaaMHullInsides03
set_option linter.unusedVariables false
set_option linter.unusedSimpArgs false
namespace Go.Dam
open Go Go.RowKit
set_option linter.unusedVariables false
/-- Nothing below n₀ has turned, but for the block e. -/
structure BelowBut (n₀ e : Nat) (W W' : World) : Prop where
  os : W'.os = W.os
  tape : W'.tape = W.tape
  output : W'.output = W.output
  size : W.heap.size ≤ W'.heap.size
  block : ∀ i, i < n₀ → i ≠ e → W'.heap[i]? = W.heap[i]?
theorem BelowBut.refl (n₀ e : Nat) (W : World) : BelowBut n₀ e W W := ⟨rfl, rfl, rfl, Nat.le_refl _, fun _ _ _ => rfl⟩
theorem BelowBut.trans {n₀ e : Nat} {A B C : World} (h : BelowBut n₀ e A B) (k : BelowBut n₀ e B C) : BelowBut n₀ e A C :=
  ⟨k.os.trans h.os, k.tape.trans h.tape, k.output.trans h.output, Nat.le_trans h.size k.size, fun i hi he => (k.block i hi he).trans (h.block i hi he)⟩
theorem BelowBut.of_below {n₀ e : Nat} {A B : World} (h : Below n₀ A B) : BelowBut n₀ e A B := ⟨h.os, h.tape, h.output, h.size, fun i hi _ => h.block i hi⟩
theorem BelowBut.below {n₀ e : Nat} {A B : World} (h : BelowBut n₀ e A B) {m : Nat} (hm : m ≤ n₀) (he : m ≤ e) : Below m A B := ⟨h.os, h.tape, h.output, h.size, fun i hi => h.block i (by omega) (by omega)⟩
theorem BelowBut.cell {n₀ e : Nat} {A B : World} (h : BelowBut n₀ e A B) {p : Addr} (hp : p.block < n₀) (he : p.block ≠ e) : B.cell? p = A.cell? p := World.cell?_of_block (w := A) (h.block p.block hp he)
theorem BelowBut.setCell {n₀ e : Nat} {A B : World} (h : BelowBut n₀ e A B) (u : Value) (o : Nat) : BelowBut n₀ e A (B.setCell ⟨e, o, none⟩ u) :=
  h.trans ⟨rfl, rfl, rfl, by simp [World.setCell], fun i _ he => Below.heap_setCell _ _ _ _ he⟩
theorem BelowBut.alloc {n₀ e : Nat} {A B : World} (h : BelowBut n₀ e A B) (hz : n₀ ≤ B.heap.size) (o : Obj) : BelowBut n₀ e A (B.alloc o) := h.trans (.of_below ((Below.refl _ _).alloc hz o))
end Go.Dam
