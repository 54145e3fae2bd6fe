/-
  Contract of the reference's ClosestOf (with dist2): the closest pair, how far it is, or the code of what is refused. Conditions: the points can be read as data.
-/
import Derived.Test.YthiccmncdmohbaaMHullInsides01
import Derived.Test.YthiccmncdmohbaaMHullInsides23
import Derived.Test.YthiccmncdmohbaaMHullInsides24
import Derived.Test.YthiccmncdmohbaaMHullInsides29
import Derived.Lib.QuietBelow
set_option linter.unusedVariables false
set_option linter.unusedSimpArgs false
namespace Go.Dam
open Go Go.RowKit
/-- What Closest answers. -/
def ClosAns (l : List Int) (n : Nat) (a b f c : Int) : Prop :=
  (ptCode n l ≠ 0 ∧ a = 0 ∧ b = 0 ∧ f = 0 ∧ c = ptCode n l) ∨ (ptCode n l = 0 ∧ n < 2 ∧ a = 0 ∧ b = 0 ∧ f = 0 ∧ c = 7) ∨
  (ptCode n l = 0 ∧ 2 ≤ n ∧ c = 0 ∧ ∃ a' b' : Nat, a = a' ∧ b = b' ∧ ClosR l n a' b' f)
theorem ClosAns.ex (l : List Int) (n : Nat) : ∃ a b f c, ClosAns l n a b f c := by
  by_cases h : ptCode n l = 0
  · by_cases h2 : n < 2
    · exact ⟨_, _, _, _, .inr (.inl ⟨h, h2, rfl, rfl, rfl, rfl⟩)⟩
    · obtain ⟨a, b, f, g⟩ := ClosR.ex l n (by omega)
      exact ⟨_, _, _, _, .inr (.inr ⟨h, by omega, rfl, a, b, rfl, rfl, g⟩)⟩
  · exact ⟨_, _, _, _, .inl ⟨h, rfl, rfl, rfl, rfl⟩⟩
theorem sq_bd {a : Int} (h : -2097152 ≤ a ∧ a ≤ 2097152) : 0 ≤ a * a ∧ a * a ≤ 4398046511104 := by
  have h1 : (a * a).natAbs ≤ 2097152 * 2097152 := by rw [Int.natAbs_mul]; exact Nat.mul_le_mul (by omega) (by omega)
  have h2 := sq_nonneg a
  omega
end Go.Dam
namespace Go.Proofs.Ythiccmncdmohbaa
open Go Go.RowKit Go.Dam
set_option linter.unusedVariables false
/-- A struct result of two cells is stored, cell by cell, into its box. -/
theorem res2_cells {wr : World} {K : Nat} {T : TypeId} {a b a' b' : Value} (h : Blk wr K T #[a', b']) :
    ((wr.setCell ⟨K, 0, none⟩ a).setCell ⟨K, 1, none⟩ b).cell? ⟨K, 0, none⟩ = some a ∧ ((wr.setCell ⟨K, 0, none⟩ a).setCell ⟨K, 1, none⟩ b).cell? ⟨K, 1, none⟩ = some b := by
  have h3 := (h.set_ 0 a).set_ 1 b
  exact ⟨(h3.cell 0).trans rfl, (h3.cell 1).trans rfl⟩
theorem res2_blk {wr : World} {K : Nat} {T : TypeId} {a b a' b' : Value} (h : Blk wr K T #[a', b']) : Blk ((wr.setCell ⟨K, 0, none⟩ a).setCell ⟨K, 1, none⟩ b) K T #[a, b] := (h.set_ 0 a).set_ 1 b
theorem res2_below {w wr : World} {K : Nat} {a b : Value} (h : Below w.heap.size w wr) (hK : w.heap.size ≤ K) : Below w.heap.size w ((wr.setCell ⟨K, 0, none⟩ a).setCell ⟨K, 1, none⟩ b) :=
  (h.setCell (p := ⟨K, 0, none⟩) hK _).setCell (p := ⟨K, 1, none⟩) hK _
theorem res2_far {wr : World} {K g : Nat} {T : TypeId} {cs : Array Value} {a b : Value} (h : Blk wr g T cs) (hne : g ≠ K) : Blk ((wr.setCell ⟨K, 0, none⟩ a).setCell ⟨K, 1, none⟩ b) g T cs :=
  Blk.far (Blk.far h (p := ⟨K, 0, none⟩) hne _) (p := ⟨K, 1, none⟩) hne _
def ptV (x y z : Int) : Value := .agg #[.int .i64 x, .int .i64 y, .int .i64 z]
set_option maxHeartbeats 1000000 in
theorem refDist2_any (x0 y0 z0 x1 y1 z1 : Int) (w : World) (hx0 : -1048576 ≤ x0 ∧ x0 ≤ 1048576) (hy0 : -1048576 ≤ y0 ∧ y0 ≤ 1048576) (hx1 : -1048576 ≤ x1 ∧ x1 ≤ 1048576) (hy1 : -1048576 ≤ y1 ∧ y1 ≤ 1048576) :
    Calls Try.prog 42 #[.agg #[.int .i64 x0, .int .i64 y0, .int .i64 z0], .agg #[.int .i64 x1, .int .i64 y1, .int .i64 z1]] w fun e w' => e = .returned (.int .i64 ((x0 - x1) * (x0 - x1) + (y0 - y1) * (y0 - y1))) ∧ Below w.heap.size w w' := by
  obtain ⟨dx, hdx⟩ : ∃ d, x0 - x1 = d := ⟨_, rfl⟩
  obtain ⟨dy, hdy⟩ : ∃ d, y0 - y1 = d := ⟨_, rfl⟩
  have bx : -2097152 ≤ dx ∧ dx ≤ 2097152 := by omega
  have by_ : -2097152 ≤ dy ∧ dy ≤ 2097152 := by omega
  have sx := sq_bd bx
  have sy := sq_bd by_
  have w1 : wrap64 (x0 - x1) = dx := by unfold wrap64; omega
  have w2 : wrap64 (y0 - y1) = dy := by unfold wrap64; omega
  have w3 : wrap64 (dx * dx) = dx * dx := by generalize dx * dx = p at *; unfold wrap64; omega
  have w4 : wrap64 (dy * dy) = dy * dy := by generalize dy * dy = p at *; unfold wrap64; omega
  have w5 : wrap64 (dx * dx + dy * dy) = dx * dx + dy * dy := by generalize dx * dx = p at *; generalize dy * dy = q at *; unfold wrap64; omega
  have HR : Hid ((x0 - x1) * (x0 - x1) + (y0 - y1) * (y0 - y1) = dx * dx + dy * dy) := Lib.hid (by rw [hdx, hdy])
  rw [HR.out]
  clear hdx hdy hx0 hy0 hx1 hy1 bx by_
  go_enter Try.func42, Try.ntmps42
  go_wp2_with fail
  go_ret
  refine ⟨ret_int (by simp), ?_⟩
  exact ((Below.refl _ _).alloc (Nat.le_refl _) _).alloc (by simp) _
end Go.Proofs.Ythiccmncdmohbaa
