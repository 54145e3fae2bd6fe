/-
  Contract of the columns of package grid's index: between which places of the order a rectangle's points lie. Conditions: the index lies in memory, its order is by X.
-/
import Derived.Test.YtlojecajonhmhaaDoorMSkySkies15
import Derived.Test.YtlojecajonhmhaaDoorMSkySkies00
import Derived.Test.YtlojecajonhmhaaDoorMSkySkies16
import Derived.Test.YtlojecajonhmhaaDoorMSkySkies04
import Derived.Deep.RegionHeld3
set_option linter.unusedVariables false
set_option linter.unusedSimpArgs false
namespace Go.Dam
open Go Go.RowKit
theorem ge_at {α : Type} {d : α} (r : List α) {u : Nat} (h : u < r.length) : r.getD u d = r[u] := by rw [List.getD_eq_getElem?_getD, List.getElem?_eq_getElem h]; rfl
def natL (r : List Nat) : List Int := r.map fun i : Nat => (i : Int)
theorem natL_len (r : List Nat) : (natL r).length = r.length := List.length_map _
theorem natL_at (r : List Nat) (u : Nat) : (natL r).getD u 0 = ((r.getD u 0 : Nat) : Int) := by
  unfold natL; rw [List.getD_eq_getElem?_getD, List.getElem?_map, List.getD_eq_getElem?_getD]
  cases r[u]? <;> rfl
/-- The index of points, in memory: the points, their order, the values and the wave. -/
def IsIdx (w : World) (B g n : Nat) (l : List Int) (r : List Nat) (vals : List Int) (rows : List (Int × List Nat)) : Prop :=
  g < B ∧ ∃ pv ov vv wv, w.cell? ⟨g, 0, none⟩ = some pv ∧ w.cell? ⟨g, 1, none⟩ = some ov ∧ w.cell? ⟨g, 2, none⟩ = some vv ∧ w.cell? ⟨g, 3, none⟩ = some wv ∧
    IsFlat 3 w B pv n l ∧ IsInts .i64 w B ov (natL r) ∧ IsInts .i64 w B vv vals ∧ IsRowsB w B wv rows
theorem IsIdx.below {w w' : World} {B g n : Nat} {l vals : List Int} {r : List Nat} {rows : List (Int × List Nat)} (h : IsIdx w B g n l r vals rows) (hb : Below B w w') : IsIdx w' B g n l r vals rows := by
  obtain ⟨h0, pv, ov, vv, wv, c0, c1, c2, c3, h1, h2, h3, h4⟩ := h
  exact ⟨h0, pv, ov, vv, wv, (hb.cell h0).trans c0, (hb.cell h0).trans c1, (hb.cell h0).trans c2, (hb.cell h0).trans c3, h1.below hb, h2.below hb, h3.below hb, h4.below hb⟩
theorem IsIdx.more {w : World} {B B' g n : Nat} {l vals : List Int} {r : List Nat} {rows : List (Int × List Nat)} (h : IsIdx w B g n l r vals rows) (hB : B ≤ B') : IsIdx w B' g n l r vals rows := by
  obtain ⟨h0, pv, ov, vv, wv, c0, c1, c2, c3, h1, h2, h3, h4⟩ := h
  exact ⟨by omega, pv, ov, vv, wv, c0, c1, c2, c3, h1.more hB, h2.more hB, h3.more hB, h4.more hB⟩
/-- What the columns read of the index: the points and their order. -/
def IsIdx2 (w : World) (B g n : Nat) (l : List Int) (r : List Nat) : Prop :=
  g < B ∧ ∃ pv ov, w.cell? ⟨g, 0, none⟩ = some pv ∧ w.cell? ⟨g, 1, none⟩ = some ov ∧ IsFlat 3 w B pv n l ∧ IsInts .i64 w B ov (natL r)
theorem IsIdx.two {w : World} {B g n : Nat} {l vals : List Int} {r : List Nat} {rows : List (Int × List Nat)} (h : IsIdx w B g n l r vals rows) : IsIdx2 w B g n l r := by
  obtain ⟨h0, pv, ov, vv, wv, c0, c1, c2, c3, h1, h2, h3, h4⟩ := h
  exact ⟨h0, pv, ov, c0, c1, h1, h2⟩
theorem IsIdx2.below {w w' : World} {B g n : Nat} {l : List Int} {r : List Nat} (h : IsIdx2 w B g n l r) (hb : Below B w w') : IsIdx2 w' B g n l r := by
  obtain ⟨h0, pv, ov, c0, c1, h1, h2⟩ := h
  exact ⟨h0, pv, ov, (hb.cell h0).trans c0, (hb.cell h0).trans c1, h1.below hb, h2.below hb⟩
theorem IsIdx2.more {w : World} {B B' g n : Nat} {l : List Int} {r : List Nat} (h : IsIdx2 w B g n l r) (hB : B ≤ B') : IsIdx2 w B' g n l r := by
  obtain ⟨h0, pv, ov, c0, c1, h1, h2⟩ := h
  exact ⟨by omega, pv, ov, c0, c1, h1.more hB, h2.more hB⟩
/-- The X of the point at a place of the order. -/
def xOf (l : List Int) (r : List Nat) (i : Nat) : Int := l.getD (r.getD i 0 * 3) 0
def yOf (l : List Int) (r : List Nat) (i : Nat) : Int := l.getD (r.getD i 0 * 3 + 1) 0
/-- The order is a list of all places, by X. -/
def OrdX (l : List Int) (n : Nat) (r : List Nat) : Prop := r.length = n ∧ n ≤ 150 ∧ (∀ u, u < n → r.getD u 0 < n) ∧ ∀ u v, u ≤ v → v < n → xOf l r u ≤ xOf l r v
/-- Where a rectangle's points lie. -/
def ColsAt (l : List Int) (r : List Nat) (n : Nat) (x0 x1 : Int) (a b : Nat) : Prop := ∃ b' : Nat, b = max a b' ∧ BoundOf (fun i => isAb (xOf l r i) x0 false) n a ∧ BoundOf (fun i => isAb (xOf l r i) x1 true) n b'
end Go.Dam
namespace Go.Proofs.YtlojecajonhmhaaDoor
open Go Go.RowKit Go.Dam
set_option linter.unusedVariables false
theorem kept_call {w w' : World} {p : Addr} {v : Value} (hb : Below w.heap.size w w') (hp : p.block < w.heap.size) (h : w.cell? p = some v) : w'.cell? p = some v := (hb.cell hp).trans h
theorem natmax_cast2 (a b : Nat) : ((max a b : Nat) : Int) = max (a : Int) (b : Int) := by omega
end Go.Proofs.YtlojecajonhmhaaDoor
