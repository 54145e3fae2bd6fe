/-
  Rows of the call's own that lie apart from each other: one of them grows, a new one comes. Conditions: none; nothing here names the program.
-/
import Derived.Test.YthiccmncdmohbaaMHullInsides00
import Derived.Test.YthiccmncdmohbaaMHullInsides07
set_option linter.unusedVariables false
set_option linter.unusedSimpArgs false
namespace Go.Dam
open Go Go.RowKit
set_option linter.unusedVariables false
/-- Rows of the call's own that lie apart. -/
def OwnPiles (t : TypeId) (w : World) (base : Nat) (vs : List Value) (ls : List (List Int)) : Prop :=
  OwnRows t w base vs ls ∧ ∀ i j, i < ls.length → j < ls.length → i ≠ j → Apart (vs.getD i undef) (vs.getD j undef)
section
variable {t to : TypeId} {w w' : World} {base base' n : Nat} {v u : Value} {vs : List Value} {ls : List (List Int)} {l : List Int}
theorem OwnPiles.nil (t : TypeId) (w : World) (base : Nat) : OwnPiles t w base [] [] := ⟨OwnRows.nil t w base, fun i j h => absurd h (by simp)⟩
theorem OwnPiles.drewN (h : OwnPiles t w base vs ls) (n : Nat) : OwnPiles t (w.drewN n) base vs ls := h
theorem OwnPiles.drew (h : OwnPiles t w base vs ls) : OwnPiles t w.drew base vs ls := h
theorem OwnPiles.alloc (h : OwnPiles t w base vs ls) (o : Obj) : OwnPiles t (w.alloc o) base vs ls := ⟨h.1.alloc o, h.2⟩
theorem OwnPiles.setCell (h : OwnPiles t w base vs ls) {p : Addr} (hp : ∀ i, i < ls.length → (vs.getD i undef).ownBlock ≠ some p.block) (x : Value) : OwnPiles t (w.setCell p x) base vs ls := ⟨h.1.setCell hp x, h.2⟩
theorem OwnPiles.far {p : Addr} (h : OwnPiles t w base vs ls) (hp : p.block < base) (x : Value) : OwnPiles t (w.setCell p x) base vs ls :=
  h.setCell (fun i hi e => by have := ((h.1.2 i hi).lt p.block e).1; omega) x
theorem OwnPiles.grownOther {xs : List Value} (h : OwnPiles t w base vs ls) (ho : w.ownsRow base' to 1 v n xs) (hne : to ≠ t) (hg : w.grownBy w' v.ownBlock) : OwnPiles t w' base vs ls := ⟨h.1.grown ho hne hg, h.2⟩
/-- A cell of the outer row is set. -/
theorem OwnPiles.outer {xs : List Value} (h : OwnPiles t w base vs ls) {g c : Nat} (ho : w.ownsRow base' to 1 (.slice (some ⟨g, 0, none⟩) n c) n xs) (hne : to ≠ t) (i : Nat) (x : Value) : OwnPiles t (w.setCell ⟨g, i, none⟩ x) base vs ls :=
  h.setCell (fun j hj e => own_apart ho (h.1.2 j hj) hne g rfl e) x
/-- A new row, of no elements. -/
theorem OwnPiles.pushNil (h : OwnPiles t w base vs ls) : OwnPiles t w base (vs ++ [.slice none 0 0]) (ls ++ [[]]) := by
  have h1 := h.1.push (u := .slice none 0 0) (l := []) (World.ownsRow_nil _ _ _ _)
  have hl := h.1.1
  refine ⟨h1, fun i j hi hj hne => ?_⟩
  rw [List.length_append, List.length_singleton] at hi hj
  rcases Nat.lt_or_ge i ls.length with a | a
  · rcases Nat.lt_or_ge j ls.length with b | b
    · rw [getD_snoc_old (by omega), getD_snoc_old (by omega)]; exact h.2 i j a b hne
    · rw [show j = vs.length from by omega, getD_snoc_new]; exact Apart.nil' _
  · rw [show i = vs.length from by omega, getD_snoc_new]; exact Apart.nil _
/-- Row k has grown. -/
theorem OwnPiles.grow {k : Nat} {m : List Int} (h : OwnPiles t w base vs ls) (hk : k < ls.length) (hg : w.grownBy w' (vs.getD k undef).ownBlock) (hl : LiesOr w.heap.size (vs.getD k undef) v) (hv : w'.ownsRow base t 1 v m.length (m.map (Value.int .i64))) : OwnPiles t w' base (vs.set k v) (ls.set k m) := by
  have hlen := h.1.1
  refine ⟨⟨by simp [hlen], fun i hi => ?_⟩, fun i j hi hj hne => ?_⟩
  · rw [List.length_set] at hi
    by_cases hik : k = i
    · subst hik
      rw [getD_put_same (by omega), getD_put_same hi]; exact hv
    · rw [getD_put_ne hik, getD_put_ne hik]
      exact (h.2 k i hk hi hik).kept hg (h.1.2 i hi)
  · rw [List.length_set] at hi hj
    by_cases hik : k = i
    · subst hik
      rw [getD_put_same (by omega), getD_put_ne hne]
      exact (h.2 k j hk hj hne).grow hl (h.1.2 j hj)
    · by_cases hjk : k = j
      · subst hjk
        rw [getD_put_same (by omega), getD_put_ne hik]
        exact ((h.2 k i hk hi hik).grow hl (h.1.2 i hi)).symm
      · rw [getD_put_ne hik, getD_put_ne hjk]; exact h.2 i j hi hj hne
end
/-- Places as ints. -/
def toInts (p : List Nat) : List Int := p.map fun k : Nat => (k : Int)
theorem toInts_length (p : List Nat) : (toInts p).length = p.length := by simp [toInts]
theorem toInts_at {p : List Nat} {i : Nat} (h : i < p.length) : (toInts p).getD i 0 = ((p.getD i 0 : Nat) : Int) := by simp [toInts, h]
theorem toInts_snoc (p : List Nat) (i : Nat) : toInts (p ++ [i]) = toInts p ++ [(i : Int)] := by simp [toInts]
theorem toInts_nil : toInts [] = [] := rfl
def toRows (ps : List (List Nat)) : List (List Int) := ps.map toInts
theorem toRows_length (ps : List (List Nat)) : (toRows ps).length = ps.length := by simp [toRows]
theorem toRows_at (ps : List (List Nat)) (k : Nat) : (toRows ps).getD k [] = toInts (ps.getD k []) := by
  rcases Nat.lt_or_ge k ps.length with h | h
  · simp [toRows, h]
  · rw [List.getD_eq_getElem?_getD, List.getElem?_eq_none (by simpa [toRows] using h), List.getD_eq_getElem?_getD, List.getElem?_eq_none h]; rfl
theorem toRows_set (ps : List (List Nat)) (k : Nat) (p : List Nat) : (toRows ps).set k (toInts p) = toRows (ps.set k p) := by simp [toRows, List.map_set]
theorem toRows_snoc (ps : List (List Nat)) : toRows (ps ++ [[]]) = toRows ps ++ [[]] := by simp [toRows, toInts]
theorem toRows_nil : toRows [] = [] := rfl
/-- A strictly ascending list of numbers below i is not longer than i. -/
theorem asc_len : ∀ (n : Nat) (p : List Nat) (i : Nat), p.length = n → p.Pairwise (fun a b => a < b) → (∀ j ∈ p, j < i) → n ≤ i
  | 0, _, _, _, _, _ => Nat.zero_le _
  | n + 1, p, i, hl, hp, hm => by
    rcases List.eq_nil_or_concat p with rfl | ⟨q, x, rfl⟩
    · simp at hl
    · rw [List.concat_eq_append] at hl hp hm
      rw [List.pairwise_append] at hp
      have h1 := asc_len n q x (by simpa using hl) hp.1 fun j hj => hp.2.2 j hj x (by simp)
      have h2 := hm x (by simp)
      omega
theorem Piles.len_le {f : Nat → Int} {i : Nat} {ps : List (List Nat)} (h : Piles f i ps) {k : Nat} (hk : k < ps.length) : (ps.getD k []).length ≤ i :=
  asc_len _ _ i rfl ((h.asc k hk).imp fun h => h.1) fun j hj => ((h.mem k hk j).1 hj).1
/-- The last place of a pile, in memory. -/
theorem piles_top {t : TypeId} {w : World} {base : Nat} {vs : List Value} {f : Nat → Int} {i : Nat} {ps : List (List Nat)} (h : OwnPiles t w base vs (toRows ps)) (g : Piles f i ps) {k : Nat} (hk : k < ps.length) :
    ∃ gr n cr, vs.getD k undef = .slice (some ⟨gr, 0, none⟩) (n + 1) cr ∧ n + 1 = (ps.getD k []).length ∧ w.cell? ⟨gr, n, none⟩ = some (.int .i64 ((topP (ps.getD k []) : Nat) : Int)) ∧ gr < w.heap.size ∧ base ≤ gr := by
  have h1 := h.1.2 k (by rw [toRows_length]; exact hk)
  rw [toRows_at] at h1
  have hne := g.ne k hk
  have ht := topP_at hne
  have hpos : 0 < (ps.getD k []).length := List.length_pos_iff.2 hne
  generalize ps.getD k [] = p at *
  rw [toInts_length] at h1
  obtain ⟨gr, cap, hv, hb, hlt⟩ := h1.form hpos
  refine ⟨gr, p.length - 1, cap, by rw [hv]; congr 1; omega, by omega, ?_, hlt, hb⟩
  rw [hv] at h1
  rw [h1.cellAt (p.length - 1) (by omega)]
  have h2 : p.length - 1 < (toInts p).length := by rw [toInts_length]; omega
  rw [← ht, ← toInts_at (by omega)]
  simp [h2]
/-- The lengths while they are found. -/
def lensHalf (f : Nat → Int) (i n : Nat) : List Int := toInts (lensTo f i) ++ List.replicate (n - i) 0
theorem lensHalf_0 (f : Nat → Int) (n : Nat) : lensHalf f 0 n = List.replicate n 0 := by simp [lensHalf, lensTo_0, toInts]
theorem lensHalf_length {f : Nat → Int} {i n : Nat} (h : i ≤ n) : (lensHalf f i n).length = n := by simp [lensHalf, toInts_length, lensTo_length]; omega
theorem lensHalf_set {f : Nat → Int} {i n : Nat} (h : i < n) {x : Int} (hx : x = (((lensTo f (i + 1)).getD i 0 : Nat) : Int)) : (lensHalf f i n).set i x = lensHalf f (i + 1) n := by
  subst hx
  obtain ⟨m, hm⟩ : ∃ m, n - i = m + 1 := ⟨n - i - 1, by omega⟩
  rw [lensTo_new]
  rw [lensHalf, lensHalf, lensTo_succ, toInts_snoc, hm, show n - (i + 1) = m from by omega, List.replicate_succ, List.set_append_right _ _ (by rw [toInts_length, lensTo_length]; exact Nat.le_refl _), toInts_length, lensTo_length, Nat.sub_self]
  simp
theorem lensHalf_end (f : Nat → Int) (n : Nat) : lensHalf f n n = toInts (lensTo f n) := by simp [lensHalf]
theorem lens_wf {f : Nat → Int} {n : Nat} (hn : n ≤ 1000) : ∀ z ∈ toInts (lensTo f n), (Lit.int .i64 z).wf = true := by
  intro z hz
  simp only [toInts, List.mem_map] at hz
  obtain ⟨a, ha, rfl⟩ := hz
  obtain ⟨i, hi, rfl⟩ := List.mem_iff_getElem.1 ha
  have h1 : i < n := by rw [lensTo_length] at hi; exact hi
  have := (lensTo_le (f := f) h1).2
  have e : (lensTo f n).getD i 0 = (lensTo f n)[i] := by simp [hi]
  exact int_wf (by unfold I64; omega)
attribute [irreducible] toInts toRows lensHalf
end Go.Dam
