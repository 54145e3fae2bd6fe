/-
  Contract of sky.sorted (with its comparing function): all places, by X, Y and place. Conditions: the points can be read as data; they are at most 150.
-/
import Derived.Test.YtlojecajonhmhaaDoorMSkySkies18
import Derived.Test.YtlojecajonhmhaaDoorMSkySkies00
import Derived.Test.YtlojecajonhmhaaDoorMSkySkies06
import Derived.Test.YtlojecajonhmhaaDoorMSkySkies05
import Derived.Deep.RegionHeld3
import Derived.BigQuiet
set_option linter.unusedVariables false
set_option linter.unusedSimpArgs false
namespace Go.Dam.Sky
open Go Go.RowKit Go.Dam
set_option linter.unusedVariables false
theorem natL_range (n : Nat) : natL (List.range (n + 1)) = natL (List.range n) ++ [(n : Int)] := by unfold natL; rw [List.range_succ, List.map_append]; rfl
/-- A number that is a place below n. -/
def IsPlace (n : Nat) (z : Int) : Prop := ∃ i : Nat, z = i ∧ i < n
theorem mem_places {n : Nat} {z : Int} (h : z ∈ natL (List.range n)) : IsPlace n z := by
  obtain ⟨i, hi, rfl⟩ := List.mem_map.1 h
  exact ⟨i, rfl, List.mem_range.1 hi⟩
theorem natL_perm {n : Nat} {r : List Int} (h : r.Perm (natL (List.range n))) : ∃ rn : List Nat, rn.Perm (List.range n) ∧ r = natL rn := by
  refine ⟨r.map Int.toNat, ?_, ?_⟩
  · have h1 := h.map Int.toNat
    have h2 : (natL (List.range n)).map Int.toNat = List.range n := by
      unfold natL; rw [List.map_map]
      conv => rhs; rw [← List.map_id (List.range n)]
      exact List.map_congr_left fun i _ => rfl
    rwa [h2] at h1
  · unfold natL
    rw [List.map_map]
    conv => lhs; rw [← List.map_id r]
    refine List.map_congr_left fun z hz => ?_
    obtain ⟨i, rfl, _⟩ := mem_places (h.mem_iff.1 hz)
    rfl
def pX (l : List Int) (i : Nat) : Int := l.getD (i * 3) 0
def pY (l : List Int) (i : Nat) : Int := l.getD (i * 3 + 1) 0
/-- The order by X, Y and place. -/
def OrdSky (l : List Int) (n : Nat) (o : List Nat) : Prop := OrdUp (pX l) (pY l) n o ∧ ∀ u v, u < v → v < n → pX l (o.getD u 0) = pX l (o.getD v 0) → pY l (o.getD u 0) = pY l (o.getD v 0) → o.getD u 0 < o.getD v 0
end Go.Dam.Sky
namespace Go.Proofs.YtlojecajonhmhaaDoor
open Go Go.RowKit Go.Dam Go.Dam.Sky Go.Shelf Go.Sort
set_option linter.unusedVariables false
set_option maxHeartbeats 1000000 in
theorem skyCmp_any (n c bk off gb i j : Nat) (x0 y0 x1 y1 : Int) (w : World) (hi : i < n) (hj : j < n) (hn : n ≤ 1000000) (hb : w.cell? ⟨gb, 0, none⟩ = some (.slice (some ⟨bk, off, none⟩) n c))
    (hx : w.cell? ⟨bk, off + i * 3, none⟩ = some (.int .i64 x0)) (hy : w.cell? ⟨bk, off + i * 3 + 1, none⟩ = some (.int .i64 y0)) (hx1 : w.cell? ⟨bk, off + j * 3, none⟩ = some (.int .i64 x1)) (hy1 : w.cell? ⟨bk, off + j * 3 + 1, none⟩ = some (.int .i64 y1)) :
    Calls Tryd.prog 45 #[.int .i64 i, .int .i64 j, .pointer (some ⟨gb, 0, none⟩)] w fun e w' => e = .returned (.int .i64 (or3 (Lib.compareInt x0 x1) (Lib.compareInt y0 y1) (Lib.compareInt i j))) ∧ ∃ q os, w' = Sort.grow (w.drewN q) os := by
  have i1 : (i : Int) < (n : Int) := by omega
  have j1 : (j : Int) < (n : Int) := by omega
  have l0 := cell_lt hb
  have l1 : bk < w.heap.size := cell_lt hx
  have HC := Lib.hid cmpCompareI
  have HO := Lib.hid cmpOr_any
  go_enter Tryd.func45, Tryd.ntmps45
  go_wp2_with fail
  go_region_held3 (fun w' => w'.cell? ⟨gb, 0, none⟩ = some (.slice (some ⟨bk, off, none⟩) n c) ∧ w'.cell? ⟨bk, off + i * 3, none⟩ = some (.int .i64 x0) ∧ w'.cell? ⟨bk, off + i * 3 + 1, none⟩ = some (.int .i64 y0) ∧ w'.cell? ⟨bk, off + j * 3, none⟩ = some (.int .i64 x1) ∧ w'.cell? ⟨bk, off + j * 3 + 1, none⟩ = some (.int .i64 y1))
    (first
      | exact ⟨hb, hx, hy, hx1, hy1⟩
      | exact ⟨kept_alloc l0 hb, kept_alloc l1 hx, kept_alloc l1 hy, kept_alloc l1 hx1, kept_alloc l1 hy1⟩)
    (first
      | (go_at_call 47; refine (HC.out _ _ _).mono ?_; rintro e w' ⟨rfl, rfl⟩)
      | (go_at_call 46; refine (HO.out (Lib.compareInt x0 x1) (Lib.compareInt y0 y1) (Lib.compareInt i j) w.heap.size _ (((Blk.new w 3 #[.int .i64 (Lib.compareInt x0 x1), .int .i64 (Lib.compareInt y0 y1), .int .i64 (Lib.compareInt i j)]).drew.cell 0).trans rfl) (((Blk.new w 3 #[.int .i64 (Lib.compareInt x0 x1), .int .i64 (Lib.compareInt y0 y1), .int .i64 (Lib.compareInt i j)]).drew.cell 1).trans rfl) (((Blk.new w 3 #[.int .i64 (Lib.compareInt x0 x1), .int .i64 (Lib.compareInt y0 y1), .int .i64 (Lib.compareInt i j)]).drew.cell 2).trans rfl)).mono ?_; rintro e w' ⟨rfl, q, rfl⟩))
  all_goals go_wp2_with fail
  all_goals go_ret
  all_goals exact ⟨rfl, _, _, by rw [Sort.alloc_eq_grow]; rfl⟩
set_option maxRecDepth 100000 in
set_option maxHeartbeats 4000000 in
theorem skySortedT_any (v : Value) (n : Nat) (l : List Int) (w : World) (B : Nat) (hB : B ≤ w.heap.size) (h : IsFlat 3 w B v n l) (hn : n ≤ 150) :
    Calls Tryd.prog 23 #[v] w fun e w' => ∃ u o, e = .returned u ∧ OrdSky l n o ∧ w'.ownsRow w.heap.size 3 1 u n ((natL o).map (Value.int .i64)) ∧ RowKit.Below w.heap.size w w' := by
  obtain ⟨A, c, rfl, hc, hm, hn0, hl, hr, hw⟩ := h
  have HR := Lib.hid hr
  have HB2 := Lib.hid ((RowKit.Below.refl w.heap.size w).alloc (Nat.le_refl _) (.cells #[.slice A n c] 32))
  have HJ0 := Lib.hid (Blk.new w 32 #[.slice A n c])
  have z0 : (w.alloc (.cells #[.slice A n c] 32)).cell? ⟨w.heap.size, 0, none⟩ = some (.slice A n c) := (HJ0.out.cell 0).trans rfl
  have hz2 : (w.alloc (.cells #[.slice A n c] 32)).heap.size = w.heap.size + 1 := by simp
  clear hr hw
  go_enter Tryd.func23, Tryd.ntmps23
  go_wp2_with fail
  clear z0
  generalize w.alloc (.cells #[.slice A n c] 32) = W2 at *
  go_loopw [3, 4, 7] (fun ov _ iv wr => ∃ i : Nat, i ≤ n ∧ iv = .int .i64 i ∧ Hid (wr.ownsRow W2.heap.size 3 1 ov i ((natL (List.range i)).map (Value.int .i64))) ∧ Hid (RowKit.Below W2.heap.size W2 wr)) (fun _ _ iv _ => n - (intOf iv).toNat)
  case atStart => exact ⟨0, by omega, rfl, Lib.hid (World.ownsRow_nil _ _ _ _), Lib.hid (RowKit.Below.refl _ _)⟩
  case round =>
    obtain ⟨wo, rfl⟩ : ∃ wo : World, wo = wr := ⟨_, rfl⟩
    obtain ⟨i, hi, rfl, HO, HB⟩ := hrel
    obtain ⟨A2, c2, rfl⟩ := own_shape HO.out
    have hzo := HB.out.size
    by_cases hlt : i < n
    · have t1 : decide ((i : Int) < (n : Int)) = true := decide_eq_true (by omega)
      go_wp2_with (at_builtin; refine wpList_pushD el_int rfl _ _ rfl W2.heap.size _ i _ (HO.out.alloc _) rfl wo.heap.size 1 _ rfl (new_cell rfl) rfl (by omega) (by omega) (by simp; omega) ?_; intro v2 w3 hown2 hg2 hl2)
      go_roundw
      case rel => exact ⟨i + 1, by omega, by go_num, Lib.hid (by rw [natL_range, List.map_append]; exact hown2), Lib.hid (below_push (HB.out.alloc (by omega) _) (HO.out.alloc _) (Nat.le_refl _) (by simp; omega) hg2)⟩
      case measure => simp [intOf]; omega
    · obtain rfl : n = i := by omega
      have i6 : ¬ (n : Int) < (n : Int) := by omega
      have t1 : decide ((n : Int) < (n : Int)) = false := decide_eq_false i6
      have HSort := Lib.hid (sortFunc_own HO.out (by omega) (IsPlace n) (fun z hz => mem_places hz) (cmpXY l) (swo_xy (fun x : OkF (IsPlace n) => x.1) l) 45 #[.pointer (some ⟨w.heap.size, 0, none⟩)]
        (enters_of Tryd.func45 (by kernel_rfl) rfl) (fun W l' _ _ _ hg x y hx hy => by
          obtain ⟨a1, rfl, ha1⟩ := hx
          obtain ⟨b1, rfl, hb1⟩ := hy
          obtain ⟨bk, off, rfl, hbk, hcs⟩ := flat_cells HR.out hl (by omega) (by omega)
          have cell : ∀ p : Addr, p.block < w.heap.size + 1 → W.cell? p = W2.cell? p := fun p hp => (hg.cell_far p (by omega) (fun e => own_ne HO.out (show p.block < W2.heap.size by omega) e.symm)).trans (HB.out.cell (by omega))
          have old : ∀ j, j < n * 3 → W.cell? ⟨bk, off + j, none⟩ = some (.int .i64 (l.getD j 0)) := fun j hj => (cell _ (by show bk < _; omega)).trans ((HB2.out.cell (p := ⟨bk, off + j, none⟩) (by show bk < _; omega)).trans (hcs j hj))
          have e : cmpXY l (a1 : Int) (b1 : Int) = or3 (Lib.compareInt (l.getD (a1 * 3) 0) (l.getD (b1 * 3) 0)) (Lib.compareInt (l.getD (a1 * 3 + 1) 0) (l.getD (b1 * 3 + 1) 0)) (Lib.compareInt a1 b1) := by unfold cmpXY; rw [Int.toNat_natCast, Int.toNat_natCast]
          rw [e]
          exact skyCmp_any n c bk off w.heap.size a1 b1 _ _ _ _ W ha1 hb1 (by omega) ((cell ⟨w.heap.size, 0, none⟩ (by show w.heap.size < _; omega)).trans ((HJ0.out.cell 0).trans rfl)) (old (a1 * 3) (by omega)) (old (a1 * 3 + 1) (by omega)) (old (b1 * 3) (by omega)) (old (b1 * 3 + 1) (by omega))))
      go_wp2_with (go_at_call 44; refine (HSort.out).mono ?_; rintro e w5 ⟨rfl, r, hperm, hsorted, hown5, hg5⟩)
      have HB5 : Hid (RowKit.Below W2.heap.size W2 w5) := Lib.hid (HB.out.grown hg5 hzo (fun k e => (HO.out.lt k e).1))
      obtain ⟨rn, hrn, rfl⟩ := natL_perm hperm
      have hlen : rn.length = n := by have := hrn.length_eq; simpa using this
      have HX : Hid (OrdSky l n rn) := Lib.hid ⟨⟨hrn, fun u v huv hv => by
        have h1 := hsorted u v huv (by rw [natL_len, hlen]; exact hv)
        rw [natL_at, natL_at] at h1
        unfold cmpXY at h1
        rw [or3_neg, Int.toNat_natCast, Int.toNat_natCast] at h1
        unfold pX pY
        omega⟩, fun u v huv hv ex ey => by
        have h1 := hsorted u v huv (by rw [natL_len, hlen]; exact hv)
        rw [natL_at, natL_at] at h1
        unfold cmpXY at h1
        rw [or3_neg, Int.toNat_natCast, Int.toNat_natCast] at h1
        unfold pX at ex
        unfold pY at ey
        have hne : rn.getD u 0 ≠ rn.getD v 0 := fun e => by have := perm_inj hrn (by omega) hv e; omega
        omega⟩
      go_ret
      exact ⟨_, rn, rfl, HX.out, own_base hown5 (by omega), HB2.out.trans (HB5.out.mono (by omega))⟩
theorem skySorted_any (v : Value) (n : Nat) (l : List Int) (w : World) (B : Nat) (hB : B ≤ w.heap.size) (h : IsFlat 3 w B v n l) (hn : n ≤ 150) :
    Calls Tryd.prog 23 #[v] w fun e w' => ∃ u o, e = .returned u ∧ OrdUp (pX l) (pY l) n o ∧ w'.ownsRow w.heap.size 3 1 u n ((natL o).map (Value.int .i64)) ∧ RowKit.Below w.heap.size w w' :=
  (skySortedT_any v n l w B hB h hn).mono fun e w' ⟨u, o, h1, h2, h3, h4⟩ => ⟨u, o, h1, h2.1, h3, h4⟩
end Go.Proofs.YtlojecajonhmhaaDoor
