/-
  Small helpers for the walks of this seat: equal numbers give equal results. Conditions: none.
-/
import Derived.Test.YtihiiabibcogjaaRows
import Derived.Test.YtihiiabibcogjaaLib
import Derived.Test.YtihiiabibcogjaaBits
import Derived.WalkLawsBesides
import Derived.WalkSpells
import Derived.BigQuiet
import Derived.Deep.QuietTactic
namespace Go.Proofs.Ytihiiabibcogjaa
open Go Go.RowKit Go.Dam
set_option linter.unusedVariables false

theorem ret_int {k : IntKind} {a b : Int} (h : a = b) : Ending.returned (.int k a) = .returned (.int k b) := by rw [h]
theorem ret_bool {a b : Bool} (h : a = b) : Ending.returned (.bool a) = .returned (.bool b) := by rw [h]
theorem ret2 {a a' b b' : Value} (h : a = a') (g : b = b') : Ending.returned (.tuple #[a, b]) = .returned (.tuple #[a', b']) := by rw [h, g]
theorem ret3 {a a' b b' c c' : Value} (h : a = a') (g : b = b') (k : c = c') : Ending.returned (.tuple #[a, b, c]) = .returned (.tuple #[a', b', c']) := by rw [h, g, k]
theorem vint {k : IntKind} {a b : Int} (h : a = b) : Value.int k a = .int k b := by rw [h]
theorem vnat {k : IntKind} {a b : Nat} (h : a = b) : Value.int k (a : Int) = .int k (b : Int) := by rw [h]
theorem vbool {a b : Bool} (h : a = b) : Value.bool a = .bool b := by rw [h]
/-- Only draws lie between the two worlds. -/
def Drawn (w w' : World) : Prop := ∃ m, w.drewN m = w'
theorem Drawn.refl (w : World) : Drawn w w := ⟨0, rfl⟩
theorem Drawn.trans {a b c : World} (h : Drawn a b) (k : Drawn b c) : Drawn a c := by
  obtain ⟨m, rfl⟩ := h
  obtain ⟨n, rfl⟩ := k
  exact ⟨m + n, (World.drewN_drewN a m n).symm⟩
theorem Drawn.drewN {a b : World} (h : Drawn a b) (n : Nat) : Drawn a (b.drewN n) := h.trans ⟨n, rfl⟩
theorem Drawn.drew {a b : World} (h : Drawn a b) : Drawn a b.drew := h.trans ⟨1, rfl⟩
theorem Drawn.below {a b : World} (h : Drawn a b) (B : Nat) : Below B a b := by
  obtain ⟨m, rfl⟩ := h
  exact ⟨rfl, rfl, rfl, Nat.le_refl _, fun _ _ => rfl⟩
theorem Drawn.size {a b : World} (h : Drawn a b) : b.heap.size = a.heap.size := by
  obtain ⟨m, rfl⟩ := h; rfl
theorem Drawn.cell {a b : World} (h : Drawn a b) (p : Addr) : b.cell? p = a.cell? p := by
  obtain ⟨m, rfl⟩ := h; rfl
theorem Drawn.reads {a b : World} (h : Drawn a b) {B size : Nat} {A : Option Addr} {n : Nat} {xs : List Value} (hr : Reads a B size A n xs) : Reads b B size A n xs := by
  obtain ⟨m, rfl⟩ := h; exact hr
theorem quiet_of_drawn {P : Program} {f : FuncId} {args : Array Value} {w : World} {n : Nat} {v : Value}
    (h : Calls P f args (w.drewN n) fun e w' => e = .returned v ∧ Drawn (w.drewN n) w') : Calls P f args (w.drewN n) fun e w'' => e = .returned v ∧ ∃ m, w'' = w.drewN m :=
  h.mono fun _ _ ⟨he, m, hm⟩ => ⟨he, n + m, by rw [← hm, World.drewN_drewN]⟩
theorem quiet_of_same {P : Program} {f : FuncId} {args : Array Value} {w : World} {n : Nat} {v : Value}
    (h : Calls P f args (w.drewN n) fun e w' => e = .returned v ∧ w.drewN n = w') : Calls P f args (w.drewN n) fun e w'' => e = .returned v ∧ ∃ m, w'' = w.drewN m :=
  h.mono fun _ _ ⟨he, hm⟩ => ⟨he, n, hm.symm⟩
end Go.Proofs.Ytihiiabibcogjaa
