/-
  Contract of the reference's WaveRead: the numbers of a wave that may be. Conditions: the wave can be read as data, and may be.
-/
import Derived.Test.YtdmfhpigchbcbaaMTopCover15
import Derived.Test.YtdmfhpigchbcbaaMTopCover11
import Derived.Test.YtdmfhpigchbcbaaMTopCover04
import Derived.Test.YtdmfhpigchbcbaaMTopCover06
import Derived.Test.YtdmfhpigchbcbaaMTopCover00
import Derived.Test.YtdmfhpigchbcbaaMTopCover05
import Derived.Laws.AppendOwnNone
import Derived.Lib.HexFns
namespace Go.Dam
open Go Go.RowKit
set_option linter.unusedVariables false
/-- The old blocks but the one of 'row' stay, when blocks of the call's own are written. -/
theorem grown_new {w a b : World} {row r' : Option Nat} (h : w.grownBy a row) (k : a.grownBy b r') (hr : ∀ x, r' = some x → w.heap.size ≤ x) : w.grownBy b row :=
  ⟨k.os.trans h.os, k.tape.trans h.tape, k.output.trans h.output, Nat.le_trans h.size k.size, fun i hi hne => (k.block i (Nat.lt_of_lt_of_le hi h.size) (fun e => by have := hr i e.symm; omega)).trans (h.block i hi hne)⟩
theorem grown_store' {w a : World} {g : Nat} {p : Addr} (h : w.grownBy a (some g)) (hp : p.block = g) (v : Value) : w.grownBy (a.setCell p v) (some g) :=
  ⟨h.os, h.tape, h.output, Nat.le_trans h.size (by simp [World.setCell]), fun i hi hne => (Below.heap_setCell a p v i (fun e => hne (by rw [e, hp]))).trans (h.block i hi hne)⟩
theorem grown_low' {w a : World} {g : Nat} (h : w.grownBy a (some g)) (hg : g ≤ w.heap.size) : Below g w a := ⟨h.os, h.tape, h.output, h.size, fun i hi => h.block i (by omega) (by simp; omega)⟩
theorem tabI_len (f : Nat → Nat) (n : Nat) : (toInts (tab f n)).length = n := by rw [toInts_eq, List.length_map, tab_length]
theorem tabI_at {f : Nat → Nat} {n i : Nat} (h : i < n) : (toInts (tab f n)).getD i 0 = ((f i : Nat) : Int) := by
  rw [toInts_eq]; simp [tab, h]
theorem tabI_set {l : List Nat} {p x : Nat} : (toInts l).set p ((x : Nat) : Int) = toInts (l.set p x) := by
  rw [toInts_eq, toInts_eq, List.map_set]
theorem intsOf_at {l : List Nat} {i : Nat} (h : i < l.length) : ((toInts l).map (Value.int .i64))[i]? = some (.int .i64 ((l.getD i 0 : Nat) : Int)) := by
  rw [toInts_eq, List.map_map, List.getElem?_map, List.getElem?_eq_getElem h, List.getD_eq_getElem?_getD, List.getElem?_eq_getElem h]; rfl
theorem bool_cell {w : World} {B : Nat} {A : Option Addr} {c : Nat} {l : List Bool} (h : IsBools w B (.slice A l.length c) l) (h0 : 0 < l.length) : l.length ≤ c ∧ ∃ b off, A = some ⟨b, off, none⟩ ∧ b < B ∧ ∀ k, k < l.length → w.cell? ⟨b, off + k, none⟩ = some (.bool (l.getD k false)) := by
  obtain ⟨A', c', hv, hc, hm, hn, hr⟩ := h
  obtain ⟨rfl, rfl⟩ : A = A' ∧ c = c' := by injection hv with a b c; exact ⟨a, c⟩
  exact ⟨hc, bools_at hr h0⟩
theorem toInts_app (a b : List Nat) : toInts (a ++ b) = toInts a ++ toInts b := by rw [toInts_eq, toInts_eq, toInts_eq, List.map_append]
theorem toInts_len (a : List Nat) : (toInts a).length = a.length := by rw [toInts_eq, List.length_map]
end Go.Dam
namespace Go.Proofs.Ytdmfhpigchbcbaa
open Go Go.RowKit Go.Dam
set_option linter.unusedVariables false
/-- What WaveRead gives, with its shape. -/
def GivesNumsS (l : List Nat) (w : World) (e : Ending) (w' : World) : Prop := ∃ u, e = .returned u ∧ IsInts .i64 w' w'.heap.size u (toInts l) ∧ Below w.heap.size w w' ∧ (u = .slice none 0 0 ∨ ∃ ad k c, u = .slice (some ad) k c)
/-- What WaveRead gives. -/
def GivesNums (l : List Nat) (w : World) (e : Ending) (w' : World) : Prop := ∃ u, e = .returned u ∧ IsInts .i64 w' w'.heap.size u (toInts l) ∧ Below w.heap.size w w'
end Go.Proofs.Ytdmfhpigchbcbaa
