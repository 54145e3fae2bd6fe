/-
  Contract of the columns of package grid's index: between which places of the order a rectangle's points lie. Conditions: the index lies in memory, its order is by X.
-/
import Derived.Test.YthiccmncdmohbaaGreatMGridTops15
import Derived.Test.YthiccmncdmohbaaGreatMGridTops00
import Derived.Test.YthiccmncdmohbaaGreatMGridTops16
import Derived.Test.YthiccmncdmohbaaGreatMGridTops04
import Derived.Deep.RegionHeld3
set_option linter.unusedVariables false
set_option linter.unusedSimpArgs false
namespace Go.Dam
open Go Go.RowKit
theorem ge_at {α : Type} {d : α} (r : List α) {u : Nat} (h : u < r.length) : r.getD u d = r[u] := by rw [List.getD_eq_getElem?_getD, List.getElem?_eq_getElem h]; rfl
def natL (r : List Nat) : List Int := r.map fun i : Nat => (i : Int)
theorem natL_len (r : List Nat) : (natL r).length = r.length := List.length_map _
theorem natL_at (r : List Nat) (u : Nat) : (natL r).getD u 0 = ((r.getD u 0 : Nat) : Int) := by
  unfold natL; rw [List.getD_eq_getElem?_getD, List.getElem?_map, List.getD_eq_getElem?_getD]
  cases r[u]? <;> rfl
/-- The index of points, in memory: the points, their order, the values and the wave. -/
def IsIdx (w : World) (B g n : Nat) (l : List Int) (r : List Nat) (vals : List Int) (rows : List (Int × List Nat)) : Prop :=
  g < B ∧ ∃ pv ov vv wv, w.cell? ⟨g, 0, none⟩ = some pv ∧ w.cell? ⟨g, 1, none⟩ = some ov ∧ w.cell? ⟨g, 2, none⟩ = some vv ∧ w.cell? ⟨g, 3, none⟩ = some wv ∧
    IsFlat 3 w B pv n l ∧ IsInts .i64 w B ov (natL r) ∧ IsInts .i64 w B vv vals ∧ IsRowsB w B wv rows
theorem IsIdx.below {w w' : World} {B g n : Nat} {l vals : List Int} {r : List Nat} {rows : List (Int × List Nat)} (h : IsIdx w B g n l r vals rows) (hb : Below B w w') : IsIdx w' B g n l r vals rows := by
  obtain ⟨h0, pv, ov, vv, wv, c0, c1, c2, c3, h1, h2, h3, h4⟩ := h
  exact ⟨h0, pv, ov, vv, wv, (hb.cell h0).trans c0, (hb.cell h0).trans c1, (hb.cell h0).trans c2, (hb.cell h0).trans c3, h1.below hb, h2.below hb, h3.below hb, h4.below hb⟩
theorem IsIdx.more {w : World} {B B' g n : Nat} {l vals : List Int} {r : List Nat} {rows : List (Int × List Nat)} (h : IsIdx w B g n l r vals rows) (hB : B ≤ B') : IsIdx w B' g n l r vals rows := by
  obtain ⟨h0, pv, ov, vv, wv, c0, c1, c2, c3, h1, h2, h3, h4⟩ := h
  exact ⟨by omega, pv, ov, vv, wv, c0, c1, c2, c3, h1.more hB, h2.more hB, h3.more hB, h4.more hB⟩
/-- What the columns read of the index: the points and their order. -/
def IsIdx2 (w : World) (B g n : Nat) (l : List Int) (r : List Nat) : Prop :=
  g < B ∧ ∃ pv ov, w.cell? ⟨g, 0, none⟩ = some pv ∧ w.cell? ⟨g, 1, none⟩ = some ov ∧ IsFlat 3 w B pv n l ∧ IsInts .i64 w B ov (natL r)
theorem IsIdx.two {w : World} {B g n : Nat} {l vals : List Int} {r : List Nat} {rows : List (Int × List Nat)} (h : IsIdx w B g n l r vals rows) : IsIdx2 w B g n l r := by
  obtain ⟨h0, pv, ov, vv, wv, c0, c1, c2, c3, h1, h2, h3, h4⟩ := h
  exact ⟨h0, pv, ov, c0, c1, h1, h2⟩
theorem IsIdx2.below {w w' : World} {B g n : Nat} {l : List Int} {r : List Nat} (h : IsIdx2 w B g n l r) (hb : Below B w w') : IsIdx2 w' B g n l r := by
  obtain ⟨h0, pv, ov, c0, c1, h1, h2⟩ := h
  exact ⟨h0, pv, ov, (hb.cell h0).trans c0, (hb.cell h0).trans c1, h1.below hb, h2.below hb⟩
theorem IsIdx2.more {w : World} {B B' g n : Nat} {l : List Int} {r : List Nat} (h : IsIdx2 w B g n l r) (hB : B ≤ B') : IsIdx2 w B' g n l r := by
  obtain ⟨h0, pv, ov, c0, c1, h1, h2⟩ := h
  exact ⟨by omega, pv, ov, c0, c1, h1.more hB, h2.more hB⟩
/-- The X of the point at a place of the order. -/
def xOf (l : List Int) (r : List Nat) (i : Nat) : Int := l.getD (r.getD i 0 * 3) 0
def yOf (l : List Int) (r : List Nat) (i : Nat) : Int := l.getD (r.getD i 0 * 3 + 1) 0
/-- The order is a list of all places, by X. -/
def OrdX (l : List Int) (n : Nat) (r : List Nat) : Prop := r.length = n ∧ n ≤ 150 ∧ (∀ u, u < n → r.getD u 0 < n) ∧ ∀ u v, u ≤ v → v < n → xOf l r u ≤ xOf l r v
/-- Where a rectangle's points lie. -/
def ColsAt (l : List Int) (r : List Nat) (n : Nat) (x0 x1 : Int) (a b : Nat) : Prop := ∃ b' : Nat, b = max a b' ∧ BoundOf (fun i => isAb (xOf l r i) x0 false) n a ∧ BoundOf (fun i => isAb (xOf l r i) x1 true) n b'
end Go.Dam
namespace Go.Proofs.YthiccmncdmohbaaGreat
open Go Go.RowKit Go.Dam
set_option linter.unusedVariables false
set_option maxHeartbeats 1000000 in
theorem colFirst_any (f : Int) (a : Bool) (a1 B g n : Nat) (l : List Int) (r : List Nat) (w : World) (hB : B ≤ w.heap.size) (hI : IsIdx2 w B g n l r) (hO : OrdX l n r) (k1 : w.cell? ⟨a1, 0, none⟩ = some (.pointer (some ⟨g, 0, none⟩))) :
    Calls Tryz.prog 47 #[.int .i64 f, .bool a, .pointer (some ⟨a1, 0, none⟩)] w fun e w' => (∃ k : Nat, e = .returned (.int .i64 k) ∧ BoundOf (fun i => isAb (xOf l r i) f a) n k) ∧ Below w.heap.size w w' := by
  have hS : Calls Tryz.prog 48 #[.int .i64 n, .func (.func 49) #[] #[.pointer (some ⟨a1, 0, none⟩), .pointer (some ⟨w.heap.size, 0, none⟩), .pointer (some ⟨w.heap.size + 1, 0, none⟩)]] ((w.alloc (.cells #[.int .i64 f] 3)).alloc (.cells #[.bool a] 4)) fun e w' => ∃ k : Nat, e = .returned (.int .i64 k) ∧ BoundOf (fun i => isAb (xOf l r i) f a) n k ∧ Drawn ((w.alloc (.cells #[.int .i64 f] 3)).alloc (.cells #[.bool a] 4)) w' := by
    obtain ⟨o1, o2, o3, o4⟩ := hO
    have hb2 : Below w.heap.size w ((w.alloc (.cells #[.int .i64 f] 3)).alloc (.cells #[.bool a] 4)) := ((Below.refl _ _).alloc (Nat.le_refl _) _).alloc (by simp) _
    have b0 := ((Blk.new w 3 #[.int .i64 f]).alloc (.cells #[.bool a] 4)).cell 0
    have b1 := (Blk.new_at (w.alloc (.cells #[.int .i64 f] 3)) 4 #[.bool a] (w.heap.size + 1) (by simp)).cell 0
    refine colSearch_any n a1 w.heap.size (w.heap.size + 1) (fun i => isAb (xOf l r i) f a) _ (by omega) (fun i j hij hj hi => isAb_mono (o4 i j hij hj) hi) ?_
    rintro h b hh rfl W ⟨q, rfl⟩
    obtain ⟨h0, pv, ov, c0, c1, h1, h2⟩ := (hI.below (hb2.mono hB))
    obtain ⟨A, c, rfl, _, _, _, hl, hr, _⟩ := h1
    obtain ⟨A2, co, rfl, _, _, _, hr2, _⟩ := h2
    have hz : (natL r).length = n := by rw [natL_len, o1]
    obtain ⟨bk, off, rfl, _, hc⟩ := flat_cells hr hl (by omega) (by omega)
    obtain ⟨ob, oo, rfl, _, hc2⟩ := ints_cells hr2 (by omega)
    have d1 := hc2 h (by omega)
    rw [natL_at] at d1
    have d2 := hc (r.getD h 0 * 3) (by have := o3 h hh; omega)
    rw [hz] at c1
    exact colPred_any h (r.getD h 0) n c co bk off g ob oo a1 w.heap.size (w.heap.size + 1) (xOf l r h) f a _ (by omega) hh (o3 h hh) (((hb2.cell (cell_lt k1)).trans k1)) (b0.trans rfl) (b1.trans rfl) c0 c1 d1 d2
  have HS := Lib.hid hS
  have hI2 := hI.below ((((Below.refl w.heap.size w).alloc (Nat.le_refl _) (.cells #[.int .i64 f] 3)).alloc (by simp) (.cells #[.bool a] 4)).mono hB)
  have k2 : ((w.alloc (.cells #[.int .i64 f] 3)).alloc (.cells #[.bool a] 4)).cell? ⟨a1, 0, none⟩ = some (.pointer (some ⟨g, 0, none⟩)) := ((((Below.refl w.heap.size w).alloc (Nat.le_refl _) (.cells #[.int .i64 f] 3)).alloc (by simp) (.cells #[.bool a] 4)).cell (cell_lt k1)).trans k1
  obtain ⟨h0, pv, ov, c0, c1, h1, h2⟩ := hI2
  obtain ⟨A2, co, rfl, _, _, _, hr2, _⟩ := h2
  rw [natL_len, hO.1] at c1
  clear hS c0 h1 hI hr2 hO
  go_enter Tryz.func47, Tryz.ntmps47
  go_wp2_with (go_at_call 48; refine (HS.out).mono ?_; rintro e w1 ⟨k, rfl, hk, hd1⟩)
  go_ret
  exact ⟨⟨k, rfl, hk⟩, (((Below.refl _ _).alloc (Nat.le_refl _) _).alloc (by simp) _).trans (hd1.below _)⟩
theorem kept_call {w w' : World} {p : Addr} {v : Value} (hb : Below w.heap.size w w') (hp : p.block < w.heap.size) (h : w.cell? p = some v) : w'.cell? p = some v := (hb.cell hp).trans h
theorem natmax_cast2 (a b : Nat) : ((max a b : Nat) : Int) = max (a : Int) (b : Int) := by omega
set_option maxHeartbeats 4000000 in
theorem columns_any (x0 y0 x1 y1 : Int) (B g n : Nat) (l : List Int) (r : List Nat) (w : World) (hB : B ≤ w.heap.size) (hI : IsIdx2 w B g n l r) (hO : OrdX l n r) :
    Calls Tryz.prog 31 #[.pointer (some ⟨g, 0, none⟩), .agg #[.int .i64 x0, .int .i64 y0, .int .i64 x1, .int .i64 y1]] w fun e w' => (∃ a b : Nat, e = .returned (.tuple #[.int .i64 a, .int .i64 b]) ∧ ColsAt l r n x0 x1 a b) ∧ Below w.heap.size w w' := by
  have HF := Lib.hid fun f a (W : World) (hb : Below w.heap.size w W) (k1 : W.cell? ⟨w.heap.size, 0, none⟩ = some (.pointer (some ⟨g, 0, none⟩))) => colFirst_any f a w.heap.size B g n l r W (Nat.le_trans hB hb.size) (hI.below (hb.mono hB)) hO k1
  have hb0 : Below w.heap.size w ((w.alloc (.cells #[.pointer (some ⟨g, 0, none⟩)] 43)).alloc (.cells #[.int .i64 x0, .int .i64 y0, .int .i64 x1, .int .i64 y1] 24)) := ((Below.refl _ _).alloc (Nat.le_refl _) _).alloc (by simp) _
  have b0 := ((Blk.new w 43 #[.pointer (some ⟨g, 0, none⟩)]).alloc (.cells #[.int .i64 x0, .int .i64 y0, .int .i64 x1, .int .i64 y1] 24))
  have b1 := (Blk.new_at (w.alloc (.cells #[.pointer (some ⟨g, 0, none⟩)] 43)) 24 #[.int .i64 x0, .int .i64 y0, .int .i64 x1, .int .i64 y1] (w.heap.size + 1) (by simp))
  have k0 := (b0.cell 0).trans rfl
  have k1 := (b1.cell 0).trans rfl
  have k2 := (b1.cell 2).trans rfl
  have HB0 := Lib.hid hb0
  clear hI hO b0 b1 hb0
  go_enter Tryz.func31, Tryz.ntmps31
  go_wp2_with fail
  have hz0 : w.heap.size + 1 < ((w.alloc (.cells #[.pointer (some ⟨g, 0, none⟩)] 43)).alloc (.cells #[.int .i64 x0, .int .i64 y0, .int .i64 x1, .int .i64 y1] 24)).heap.size := by simp
  generalize (w.alloc (.cells #[.pointer (some ⟨g, 0, none⟩)] 43)).alloc (.cells #[.int .i64 x0, .int .i64 y0, .int .i64 x1, .int .i64 y1] 24) = W0 at *
  go_region_held3 (fun w' => w'.cell? ⟨w.heap.size, 0, none⟩ = some (.pointer (some ⟨g, 0, none⟩)) ∧ w'.cell? ⟨w.heap.size + 1, 0, none⟩ = some (.int .i64 x0) ∧ w'.cell? ⟨w.heap.size + 1, 2, none⟩ = some (.int .i64 x1))
    (first
      | exact ⟨k0, k1, k2⟩
      | exact ⟨kept_call hb1 (by show w.heap.size < W0.heap.size; omega) k0, kept_call hb1 (by show w.heap.size + 1 < W0.heap.size; omega) k1, kept_call hb1 (by show w.heap.size + 1 < W0.heap.size; omega) k2⟩
      | exact ⟨kept_call hb2 (by show w.heap.size < w1.heap.size; have := hb1.size; have : W0.drew.heap.size = W0.heap.size := rfl; omega) (kept_call hb1 (by show w.heap.size < W0.heap.size; omega) k0), kept_call hb2 (by show w.heap.size + 1 < w1.heap.size; have := hb1.size; have : W0.drew.heap.size = W0.heap.size := rfl; omega) (kept_call hb1 (by show w.heap.size + 1 < W0.heap.size; omega) k1), kept_call hb2 (by show w.heap.size + 1 < w1.heap.size; have := hb1.size; have : W0.drew.heap.size = W0.heap.size := rfl; omega) (kept_call hb1 (by show w.heap.size + 1 < W0.heap.size; omega) k2)⟩)
    (first
      | (go_at_call 47; refine (HF.out _ _ _ HB0.out k0).mono ?_; rintro e w1 ⟨⟨ka, rfl, hka⟩, hb1⟩)
      | (go_at_call 47; refine (HF.out _ _ _ HB0.out.drew k0).mono ?_; rintro e w1 ⟨⟨ka, rfl, hka⟩, hb1⟩)
      | (go_at_call 47; refine (HF.out _ _ _ (HB0.out.trans (hb1.mono HB0.out.size)) (kept_call hb1 (by show w.heap.size < W0.heap.size; omega) k0)).mono ?_; rintro e w2 ⟨⟨kb, rfl, hkb⟩, hb2⟩)
      | (go_at_call 47; refine (HF.out _ _ _ (HB0.out.drew.trans (hb1.mono HB0.out.size)) (kept_call hb1 (by show w.heap.size < W0.heap.size; omega) k0)).mono ?_; rintro e w2 ⟨⟨kb, rfl, hkb⟩, hb2⟩))
  all_goals go_wp2_with fail
  all_goals go_ret2
  all_goals first
    | exact ⟨⟨ka, kb, rfl, kb, by omega, hka, hkb⟩, (HB0.out.drew.trans (hb1.mono HB0.out.size)).trans (hb2.mono (Nat.le_trans HB0.out.size hb1.size))⟩
    | exact ⟨⟨ka, ka, rfl, kb, by omega, hka, hkb⟩, (HB0.out.drew.trans (hb1.mono HB0.out.size)).trans (hb2.mono (Nat.le_trans HB0.out.size hb1.size))⟩
    | exact ⟨⟨kb, ka, rfl, ka, by omega, hkb, hka⟩, (HB0.out.drew.trans (hb1.mono HB0.out.size)).trans (hb2.mono (Nat.le_trans HB0.out.size hb1.size))⟩
    | exact ⟨⟨kb, kb, rfl, ka, by omega, hkb, hka⟩, (HB0.out.drew.trans (hb1.mono HB0.out.size)).trans (hb2.mono (Nat.le_trans HB0.out.size hb1.size))⟩
end Go.Proofs.YthiccmncdmohbaaGreat
