/-
  Small helpers for the walks of this seat: equal numbers give equal results. Conditions: none.
-/
import Derived.Test.YthiccmncdmohbaaRows
import Derived.Test.YthiccmncdmohbaaMHullInsides00
import Derived.WalkLawsBesides
import Derived.WalkSpells
import Derived.BigQuiet
import Derived.Deep.QuietTactic
set_option linter.unusedVariables false
set_option linter.unusedSimpArgs false
namespace Go.Proofs.Ythiccmncdmohbaa
open Go Go.RowKit Go.Dam
set_option linter.unusedVariables false

theorem ret_int {k : IntKind} {a b : Int} (h : a = b) : Ending.returned (.int k a) = .returned (.int k b) := by rw [h]
theorem ret_bool {a b : Bool} (h : a = b) : Ending.returned (.bool a) = .returned (.bool b) := by rw [h]
theorem ret2 {a a' b b' : Value} (h : a = a') (g : b = b') : Ending.returned (.tuple #[a, b]) = .returned (.tuple #[a', b']) := by rw [h, g]
theorem ret3 {a a' b b' c c' : Value} (h : a = a') (g : b = b') (k : c = c') : Ending.returned (.tuple #[a, b, c]) = .returned (.tuple #[a', b', c']) := by rw [h, g, k]
theorem vint {k : IntKind} {a b : Int} (h : a = b) : Value.int k a = .int k b := by rw [h]
theorem vnat {k : IntKind} {a b : Nat} (h : a = b) : Value.int k (a : Int) = .int k (b : Int) := by rw [h]
theorem vbool {a b : Bool} (h : a = b) : Value.bool a = .bool b := by rw [h]
/-- Only draws lie between the two worlds. -/
def Drawn (w w' : World) : Prop := ∃ m, w.drewN m = w'
theorem Drawn.refl (w : World) : Drawn w w := ⟨0, rfl⟩
theorem Drawn.trans {a b c : World} (h : Drawn a b) (k : Drawn b c) : Drawn a c := by
  obtain ⟨m, rfl⟩ := h
  obtain ⟨n, rfl⟩ := k
  exact ⟨m + n, (World.drewN_drewN a m n).symm⟩
theorem Drawn.drewN {a b : World} (h : Drawn a b) (n : Nat) : Drawn a (b.drewN n) := h.trans ⟨n, rfl⟩
theorem Drawn.drew {a b : World} (h : Drawn a b) : Drawn a b.drew := h.trans ⟨1, rfl⟩
theorem Drawn.below {a b : World} (h : Drawn a b) (B : Nat) : Below B a b := by
  obtain ⟨m, rfl⟩ := h
  exact ⟨rfl, rfl, rfl, Nat.le_refl _, fun _ _ => rfl⟩
theorem Drawn.size {a b : World} (h : Drawn a b) : b.heap.size = a.heap.size := by
  obtain ⟨m, rfl⟩ := h; rfl
theorem Drawn.cell {a b : World} (h : Drawn a b) (p : Addr) : b.cell? p = a.cell? p := by
  obtain ⟨m, rfl⟩ := h; rfl
theorem Drawn.reads {a b : World} (h : Drawn a b) {B size : Nat} {A : Option Addr} {n : Nat} {xs : List Value} (hr : Reads a B size A n xs) : Reads b B size A n xs := by
  obtain ⟨m, rfl⟩ := h; exact hr
theorem quiet_of_drawn {P : Program} {f : FuncId} {args : Array Value} {w : World} {n : Nat} {v : Value}
    (h : Calls P f args (w.drewN n) fun e w' => e = .returned v ∧ Drawn (w.drewN n) w') : Calls P f args (w.drewN n) fun e w'' => e = .returned v ∧ ∃ m, w'' = w.drewN m :=
  h.mono fun _ _ ⟨he, m, hm⟩ => ⟨he, n + m, by rw [← hm, World.drewN_drewN]⟩
theorem quiet_of_same {P : Program} {f : FuncId} {args : Array Value} {w : World} {n : Nat} {v : Value}
    (h : Calls P f args (w.drewN n) fun e w' => e = .returned v ∧ w.drewN n = w') : Calls P f args (w.drewN n) fun e w'' => e = .returned v ∧ ∃ m, w'' = w.drewN m :=
  h.mono fun _ _ ⟨he, hm⟩ => ⟨he, n, hm.symm⟩
theorem below_drewN {B : Nat} {a b : World} (h : Below B a b) (n : Nat) : Below B a (b.drewN n) := h.trans ((Drawn.refl b).drewN n |>.below B)
/-- A box of cells is kept over what a callee makes. -/
theorem box2 {w w1 : World} {a b : Value} {T : TypeId} (hb : Below (w.alloc (.cells #[a, b] T)).heap.size (w.alloc (.cells #[a, b] T)) w1) : w1.cell? ⟨w.heap.size, 0, none⟩ = some a ∧ w1.cell? ⟨w.heap.size, 1, none⟩ = some b :=
  ⟨(hb.cell (p := ⟨w.heap.size, 0, none⟩) (by simp)).trans (by simp), (hb.cell (p := ⟨w.heap.size, 1, none⟩) (by simp)).trans (by simp)⟩
theorem box3 {w w1 : World} {a b c : Value} {T : TypeId} (hb : Below (w.alloc (.cells #[a, b, c] T)).heap.size (w.alloc (.cells #[a, b, c] T)) w1) :
    w1.cell? ⟨w.heap.size, 0, none⟩ = some a ∧ w1.cell? ⟨w.heap.size, 1, none⟩ = some b ∧ w1.cell? ⟨w.heap.size, 2, none⟩ = some c :=
  ⟨(hb.cell (p := ⟨w.heap.size, 0, none⟩) (by simp)).trans (by simp), (hb.cell (p := ⟨w.heap.size, 1, none⟩) (by simp)).trans (by simp), (hb.cell (p := ⟨w.heap.size, 2, none⟩) (by simp)).trans (by simp)⟩
theorem below_box {w w1 : World} {o : Obj} (hb : Below (w.alloc o).heap.size (w.alloc o) w1) : Below w.heap.size w w1 := ((Below.refl _ _).alloc (Nat.le_refl _) _).trans (hb.mono (by simp))
theorem box_le {w : World} {o : Obj} {B : Nat} (h : B ≤ w.heap.size) : B ≤ (w.alloc o).heap.size := by simp; omega
theorem size_box {w w1 : World} {o : Obj} (hb : Below (w.alloc o).heap.size (w.alloc o) w1) : w.heap.size < w1.heap.size := by
  have := hb.size; simp at this; omega
/-- An old cell is kept over a box and what a callee makes. -/
theorem old_cell {w w1 : World} {o : Obj} (hb : Below (w.alloc o).heap.size (w.alloc o) w1) {b k : Nat} {u : Value} (hlt : b < w.heap.size) (hc : w.cell? ⟨b, k, none⟩ = some u) : w1.cell? ⟨b, k, none⟩ = some u :=
  ((below_box hb).cell (p := ⟨b, k, none⟩) hlt).trans hc
theorem old_cell' {w w1 : World} (hb : Below w.heap.size w w1) {b k : Nat} {u : Value} (hlt : b < w.heap.size) (hc : w.cell? ⟨b, k, none⟩ = some u) : w1.cell? ⟨b, k, none⟩ = some u :=
  (hb.cell (p := ⟨b, k, none⟩) hlt).trans hc
/-- A struct result is stored, cell by cell, into its box. -/
theorem res3_cells {wr : World} {K : Nat} {T : TypeId} {a b c a' b' c' : Value} (h : Blk wr K T #[a', b', c']) :
    (((wr.setCell ⟨K, 0, none⟩ a).setCell ⟨K, 1, none⟩ b).setCell ⟨K, 2, none⟩ c).cell? ⟨K, 0, none⟩ = some a ∧ (((wr.setCell ⟨K, 0, none⟩ a).setCell ⟨K, 1, none⟩ b).setCell ⟨K, 2, none⟩ c).cell? ⟨K, 1, none⟩ = some b ∧ (((wr.setCell ⟨K, 0, none⟩ a).setCell ⟨K, 1, none⟩ b).setCell ⟨K, 2, none⟩ c).cell? ⟨K, 2, none⟩ = some c := by
  have h3 := ((h.set_ 0 a).set_ 1 b).set_ 2 c
  exact ⟨(h3.cell 0).trans rfl, (h3.cell 1).trans rfl, (h3.cell 2).trans rfl⟩
theorem res3_below {w wr : World} {K : Nat} {a b c : Value} (h : Below w.heap.size w wr) (hK : w.heap.size ≤ K) : Below w.heap.size w (((wr.setCell ⟨K, 0, none⟩ a).setCell ⟨K, 1, none⟩ b).setCell ⟨K, 2, none⟩ c) :=
  ((h.setCell (p := ⟨K, 0, none⟩) hK _).setCell (p := ⟨K, 1, none⟩) hK _).setCell (p := ⟨K, 2, none⟩) hK _
theorem res3_far {wr : World} {K g : Nat} {T : TypeId} {cs : Array Value} {a b c : Value} (h : Blk wr g T cs) (hne : g ≠ K) : Blk (((wr.setCell ⟨K, 0, none⟩ a).setCell ⟨K, 1, none⟩ b).setCell ⟨K, 2, none⟩ c) g T cs :=
  Blk.far (Blk.far (Blk.far h (p := ⟨K, 0, none⟩) hne _) (p := ⟨K, 1, none⟩) hne _) (p := ⟨K, 2, none⟩) hne _
end Go.Proofs.Ythiccmncdmohbaa
