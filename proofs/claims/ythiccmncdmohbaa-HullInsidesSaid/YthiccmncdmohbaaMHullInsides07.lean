/-
  A block made by the call as a row of the call's own, and the outer row of a slice of slices while it is filled. Conditions: none; nothing here names the program.
-/
import Derived.Test.YthiccmncdmohbaaMHullInsides05
import Derived.Test.YthiccmncdmohbaaMHullInsides06
set_option linter.unusedVariables false
set_option linter.unusedSimpArgs false
namespace Go.Dam
open Go Go.RowKit
set_option linter.unusedVariables false
theorem own_of_blk {w : World} {g base : Nat} {t : TypeId} {cs : List Value} {n : Nat} (h : Blk w g t cs.toArray) (hb : base ≤ g) (hn : cs.length = n) (hl : n ≤ 140737488351232) : w.ownsRow base t 1 (.slice (some ⟨g, 0, none⟩) n n) n cs := by
  subst hn
  exact ⟨by omega, .inr ⟨g, cs.length, cs.toArray, rfl, hb, h, Nat.le_refl _, by unfold maxLen; omega, by simp, by simp⟩⟩
theorem own_of_iblk {w : World} {g base : Nat} {t : TypeId} {l : List Int} {n : Nat} (h : IBlk .i64 t w g l) (hb : base ≤ g) (hn : l.length = n) (hl : n ≤ 140737488351232) : w.ownsRow base t 1 (.slice (some ⟨g, 0, none⟩) n n) n (l.map (Value.int .i64)) :=
  own_of_blk h hb (by rw [List.length_map]; exact hn) hl
theorem of_not_false {b : Bool} (h : (!b) = false) : b = true := by cases b <;> simp_all
/-- A row of n zeros, under a name of its own (a written-out row of 64 cells is a burden to each step). -/
def zerosV (n : Nat) : Array Value := (List.replicate n (Value.int .i64 0)).toArray
theorem zerosV_eq (n : Nat) : (List.replicate n (Value.int .i64 0)).toArray = zerosV n := rfl
attribute [irreducible] zerosV
theorem IBlk.zerosV_at (t : TypeId) (w : World) (n g : Nat) (hg : g = w.heap.size) : IBlk .i64 t (w.alloc (.cells (zerosV n) t)) g (List.replicate n 0) := by rw [← zerosV_eq]; exact IBlk.zeros_at w n g hg
theorem ne_blk {g g' i i' : Nat} (h : g ≠ g') : (⟨g, i, none⟩ : Addr) ≠ ⟨g', i', none⟩ := fun e => h (by injection e)
theorem new_cell {w : World} {g : Nat} {u : Value} {t : TypeId} (hg : g = w.heap.size) : (w.alloc (.cells #[u] t)).cell? ⟨g, 0, none⟩ = some u := by subst hg; simp
theorem own_cap {w : World} {base : Nat} {e : TypeId} {size n c : Nat} {A : Option Addr} {xs : List Value} (h : w.ownsRow base e size (.slice A n c) n xs) : n ≤ c := by
  rcases h.2 with ⟨h1, h2⟩ | ⟨g, cap, cur, h1, _, _, h2, _⟩
  · omega
  · injection h1 with _ _ h1; omega
/-- The outer row while it is filled: n are still nil. -/
def outerV (vs : List Value) (n : Nat) : Array Value := (vs ++ List.replicate n (Value.slice none 0 0)).toArray
theorem outerV_set {vs : List Value} {n r : Nat} (h : vs.length = r) (x : Value) : (outerV vs (n + 1)).setIfInBounds r x = outerV (vs ++ [x]) n := by
  subst h
  unfold outerV
  simp [List.replicate_succ, List.set_append]
theorem outerV_start (n : Nat) : (List.replicate n (Value.slice none 0 0)).toArray = outerV [] n := by simp [outerV]
theorem outerV_end (vs : List Value) : outerV vs 0 = vs.toArray := by simp [outerV]
theorem outerV_at {vs : List Value} {n r : Nat} {x : Value} (h : vs.length = r) : (outerV (vs ++ [x]) n)[r]? = some x := by
  subst h
  simp [outerV]
theorem outerV_old {vs : List Value} {n r : Nat} (h : vs.length = r) : (outerV vs (n + 1))[r]? = some (.slice none 0 0) := by
  subst h
  simp [outerV, List.replicate_succ]
attribute [irreducible] outerV
theorem OwnRows.iblk {t : TypeId} {w : World} {base g n : Nat} {vs : List Value} {ls : List (List Int)} {l : List Int} (h : OwnRows t w base vs ls) (hb : IBlk .i64 t w g l) (hg : base ≤ g) (hn : l.length = n) (hl : n ≤ 140737488351232) : OwnRows t w base (vs ++ [.slice (some ⟨g, 0, none⟩) n n]) (ls ++ [l]) := by
  refine h.push ?_
  rw [hn]; exact own_of_iblk hb hg hn hl
/-- A cell of another block is set. -/
theorem OwnRows.far {t to : TypeId} {w : World} {base : Nat} {vs : List Value} {ls : List (List Int)} {cs : Array Value} {p : Addr} (h : OwnRows t w base vs ls) (hp : Blk w p.block to cs) (hne : t ≠ to) (x : Value) : OwnRows t (w.setCell p x) base vs ls := by
  refine h.setCell (fun i hi e => ?_) x
  rcases (h.2 i hi).2 with ⟨h1, _⟩ | ⟨g, cap, cur, h1, _, h2, _⟩
  · rw [h1] at e; cases e
  · rw [h1] at e
    simp only [Value.ownBlock, Option.some.injEq] at e
    unfold Blk at hp
    rw [← e, h2] at hp
    injection hp with hp
    injection hp with _ ht
    exact hne ht
/-- A cell of a new block is set. -/
theorem OwnRows.farNew {t : TypeId} {w w0 : World} {base : Nat} {vs : List Value} {ls : List (List Int)} {p : Addr} (h0 : OwnRows t w0 base vs ls) (h : OwnRows t w base vs ls) (hp : w0.heap.size ≤ p.block) (x : Value) : OwnRows t (w.setCell p x) base vs ls := by
  refine h.setCell (fun i hi e => ?_) x
  have := ((h0.2 i hi).lt p.block e).2
  omega
end Go.Dam
