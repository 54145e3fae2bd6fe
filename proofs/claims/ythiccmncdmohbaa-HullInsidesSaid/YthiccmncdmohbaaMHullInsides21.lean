/-
  Contract of hull.corners (with its two closures): the corners of points, in a row of its own. Conditions: the points can be read as data; they are 1 to 150; their coordinates are within 2^20 either way.
-/
import Derived.Test.YthiccmncdmohbaaMHullInsides09
import Derived.Test.YthiccmncdmohbaaMHullInsides16
import Derived.Test.YthiccmncdmohbaaMHullInsides18
import Derived.Test.YthiccmncdmohbaaMHullInsides20
import Derived.Deep.CutRange
set_option linter.unusedVariables false
set_option linter.unusedSimpArgs false
namespace Go.Dam.Hull
open Go Go.RowKit Go.Sort Go.Dam
theorem cmpH_neg (x y : Int) : Lib.compareInt x y < 0 ↔ x < y := by
  unfold Lib.compareInt
  by_cases h1 : x < y
  · simp [h1]
  · by_cases h2 : y < x <;> simp [h1, h2]
theorem cmpH_zero (x y : Int) : Lib.compareInt x y = 0 ↔ x = y := by
  unfold Lib.compareInt
  by_cases h1 : x < y
  · simp [h1]; omega
  · by_cases h2 : y < x
    · simp [h1, h2]; omega
    · simp [h1, h2]; omega
theorem or3H_neg (a b c d e f : Int) : or3 (Lib.compareInt a b) (Lib.compareInt c d) (Lib.compareInt e f) < 0 ↔ a < b ∨ (a = b ∧ (c < d ∨ (c = d ∧ e < f))) := by
  unfold or3
  by_cases h1 : a = b
  · rw [if_neg (by simp [cmpH_zero, h1])]
    by_cases h2 : c = d
    · rw [if_neg (by simp [cmpH_zero, h2]), cmpH_neg]; omega
    · rw [if_pos (by simp [cmpH_zero, h2]), cmpH_neg]; omega
  · rw [if_pos (by simp [cmpH_zero, h1]), cmpH_neg]; omega
/-- Points by X, Y and place. -/
def cmpH (l : List Int) (x y : Int) : Int := or3 (Lib.compareInt (l.getD (x.toNat * 3) 0) (l.getD (y.toNat * 3) 0)) (Lib.compareInt (l.getD (x.toNat * 3 + 1) 0) (l.getD (y.toNat * 3 + 1) 0)) (Lib.compareInt x y)
theorem swoH {α : Type} (k : α → Int) (l : List Int) : SWO (fun x y : α => decide (cmpH l (k x) (k y) < 0)) where
  irrefl x := by rw [decide_eq_false]; unfold cmpH; rw [or3H_neg]; omega
  trans x y z h1 h2 := by
    have h1 := of_decide_eq_true h1
    have h2 := of_decide_eq_true h2
    unfold cmpH at *
    rw [or3H_neg] at h1 h2
    exact decide_eq_true (by rw [or3H_neg]; omega)
  ntrans x y z h1 h2 := by
    have h1 := of_decide_eq_false h1
    have h2 := of_decide_eq_false h2
    unfold cmpH at *
    rw [or3H_neg] at h1 h2
    exact decide_eq_false (by rw [or3H_neg]; omega)
theorem idH_succ (n : Nat) : natH (List.range (n + 1)) = natH (List.range n) ++ [(n : Int)] := by rw [List.range_succ, natH_app]; rfl
/-- A number that is a place below n. -/
def OkH (n : Nat) (z : Int) : Prop := ∃ i : Nat, z = i ∧ i < n
theorem okH_mem {n : Nat} {r : List Nat} (h : ∀ u ∈ r, u < n) {z : Int} (hz : z ∈ natH r) : OkH n z := by
  unfold natH at hz
  obtain ⟨i, hi, rfl⟩ := List.mem_map.1 hz
  exact ⟨i, rfl, h i hi⟩
theorem natH_of {n : Nat} {r : List Int} (h : r.Perm (natH (List.range n))) : ∃ rn : List Nat, rn.Perm (List.range n) ∧ r = natH rn := by
  refine ⟨r.map Int.toNat, ?_, ?_⟩
  · have h1 := h.map Int.toNat
    have h2 : (natH (List.range n)).map Int.toNat = List.range n := by
      unfold natH; rw [List.map_map]
      conv => rhs; rw [← List.map_id (List.range n)]
      exact List.map_congr_left fun i _ => rfl
    rwa [h2] at h1
  · unfold natH
    rw [List.map_map]
    conv => lhs; rw [← List.map_id r]
    refine List.map_congr_left fun z hz => ?_
    obtain ⟨i, rfl, _⟩ := okH_mem (n := n) (r := List.range n) (fun u hu => List.mem_range.1 hu) (h.mem_iff.1 hz)
    rfl
theorem srtH_of {l : List Int} {n : Nat} {rn : List Nat} (hp : rn.Perm (List.range n)) (hs : ∀ u v, u < v → v < n → ¬ cmpH l ((rn.getD v 0 : Nat) : Int) ((rn.getD u 0 : Nat) : Int) < 0) : SrtH (ptF l) n rn := by
  refine ⟨hp, fun u v h1 h2 h3 => ?_⟩
  have := hs u v h1 h2
  unfold cmpH at this
  rw [or3H_neg] at this
  simp only [Int.toNat_natCast] at this
  unfold lx ptF at h3
  simp only [Prod.mk.injEq] at h3
  omega
end Go.Dam.Hull
namespace Go.Proofs.Ythiccmncdmohbaa
open Go Go.RowKit Go.Dam Go.Dam.Hull Go.Shelf
set_option linter.unusedVariables false
set_option maxHeartbeats 1000000 in
theorem hullCmp_any (n c bk off gb i j : Nat) (x0 y0 x1 y1 : Int) (w : World) (hi : i < n) (hj : j < n) (hn : n ≤ 1000000) (hb : w.cell? ⟨gb, 0, none⟩ = some (.slice (some ⟨bk, off, none⟩) n c))
    (hx : w.cell? ⟨bk, off + i * 3, none⟩ = some (.int .i64 x0)) (hy : w.cell? ⟨bk, off + i * 3 + 1, none⟩ = some (.int .i64 y0)) (hx1 : w.cell? ⟨bk, off + j * 3, none⟩ = some (.int .i64 x1)) (hy1 : w.cell? ⟨bk, off + j * 3 + 1, none⟩ = some (.int .i64 y1)) :
    Calls Try.prog 48 #[.int .i64 i, .int .i64 j, .pointer (some ⟨gb, 0, none⟩)] w fun e w' => e = .returned (.int .i64 (or3 (Lib.compareInt x0 x1) (Lib.compareInt y0 y1) (Lib.compareInt i j))) ∧ ∃ q os, w' = Sort.grow (w.drewN q) os := by
  have i1 : (i : Int) < (n : Int) := by omega
  have j1 : (j : Int) < (n : Int) := by omega
  have l0 := cell_lt hb
  have l1 : bk < w.heap.size := cell_lt hx
  have HC := Lib.hid cmpCompareI
  have HO := Lib.hid cmpOr_any
  go_enter Try.func48, Try.ntmps48
  go_wp2_with fail
  go_region_held3 (fun w' => w'.cell? ⟨gb, 0, none⟩ = some (.slice (some ⟨bk, off, none⟩) n c) ∧ w'.cell? ⟨bk, off + i * 3, none⟩ = some (.int .i64 x0) ∧ w'.cell? ⟨bk, off + i * 3 + 1, none⟩ = some (.int .i64 y0) ∧ w'.cell? ⟨bk, off + j * 3, none⟩ = some (.int .i64 x1) ∧ w'.cell? ⟨bk, off + j * 3 + 1, none⟩ = some (.int .i64 y1))
    (first
      | exact ⟨hb, hx, hy, hx1, hy1⟩
      | exact ⟨kept_alloc l0 hb, kept_alloc l1 hx, kept_alloc l1 hy, kept_alloc l1 hx1, kept_alloc l1 hy1⟩)
    (first
      | (go_at_call 50; refine (HC.out _ _ _).mono ?_; rintro e w' ⟨rfl, rfl⟩)
      | (go_at_call 49; refine (HO.out (Lib.compareInt x0 x1) (Lib.compareInt y0 y1) (Lib.compareInt i j) w.heap.size _ (((Blk.new w 3 #[.int .i64 (Lib.compareInt x0 x1), .int .i64 (Lib.compareInt y0 y1), .int .i64 (Lib.compareInt i j)]).drew.cell 0).trans rfl) (((Blk.new w 3 #[.int .i64 (Lib.compareInt x0 x1), .int .i64 (Lib.compareInt y0 y1), .int .i64 (Lib.compareInt i j)]).drew.cell 1).trans rfl) (((Blk.new w 3 #[.int .i64 (Lib.compareInt x0 x1), .int .i64 (Lib.compareInt y0 y1), .int .i64 (Lib.compareInt i j)]).drew.cell 2).trans rfl)).mono ?_; rintro e w' ⟨rfl, q, rfl⟩))
  all_goals go_wp2_with fail
  all_goals go_ret
  all_goals exact ⟨rfl, _, _, by rw [Sort.alloc_eq_grow]; rfl⟩
set_option maxHeartbeats 1000000 in
theorem hullEq_any (n c bk off gb i j : Nat) (x0 y0 x1 y1 : Int) (w : World) (hi : i < n) (hj : j < n) (hn : n ≤ 1000000) (hb : w.cell? ⟨gb, 0, none⟩ = some (.slice (some ⟨bk, off, none⟩) n c))
    (hx : w.cell? ⟨bk, off + i * 3, none⟩ = some (.int .i64 x0)) (hy : w.cell? ⟨bk, off + i * 3 + 1, none⟩ = some (.int .i64 y0)) (hx1 : w.cell? ⟨bk, off + j * 3, none⟩ = some (.int .i64 x1)) (hy1 : w.cell? ⟨bk, off + j * 3 + 1, none⟩ = some (.int .i64 y1)) :
    Calls Try.prog 52 #[.int .i64 i, .int .i64 j, .pointer (some ⟨gb, 0, none⟩)] w fun e w' => e = .returned (.bool (decide (x0 = x1) && decide (y0 = y1))) ∧ ∃ q, w' = w.drewN q := by
  have i1 : (i : Int) < (n : Int) := by omega
  have j1 : (j : Int) < (n : Int) := by omega
  by_cases h1 : x0 = x1
  · subst h1
    obtain ⟨b, hb1⟩ : ∃ b, (y0 == y1) = b := ⟨_, rfl⟩
    have HR : Hid ((decide (x0 = x0) && decide (y0 = y1)) = b) := Lib.hid (by rw [← hb1]; by_cases hyy : y0 = y1 <;> simp [hyy])
    rw [HR.out]
    go_enter Try.func52, Try.ntmps52
    go_wp2_with fail
    go_quiet (fail)
    go_wp2_with fail
    go_ret
    exact ⟨by first | rfl | exact ret_bool (by simp), _, rfl⟩
  · have t1 : (x0 == x1) = false := beq_eq_false_iff_ne.2 h1
    have HR : Hid ((decide (x0 = x1) && decide (y0 = y1)) = false) := Lib.hid (by simp [h1])
    rw [HR.out]
    go_enter Try.func52, Try.ntmps52
    go_wp2_with fail
    go_quiet (fail)
    go_wp2_with fail
    go_ret
    exact ⟨by first | rfl | exact ret_bool (by simp), _, rfl⟩
theorem ownS_baseH {w : World} {b b' : Nat} {e : TypeId} {size n : Nat} {v : Value} {xs : List Value} (h : w.ownsRow b e size v n xs) (hb : b' ≤ b) : w.ownsRow b' e size v n xs := by
  refine ⟨h.1, ?_⟩
  rcases h.2 with hn | ⟨g, cap, cur, hv, h1, h2⟩
  · exact .inl hn
  · exact .inr ⟨g, cap, cur, hv, by omega, h2⟩
set_option maxRecDepth 100000 in
set_option maxHeartbeats 8000000 in
theorem hullCorners_any (v : Value) (n : Nat) (l : List Int) (w : World) (B : Nat) (hB : B ≤ w.heap.size) (h : IsFlat 3 w B v n l) (hn0 : 0 < n) (hn150 : n ≤ 150) (hco : ∀ i, i < n → okC (l.getD (i * 3) 0) ∧ okC (l.getD (i * 3 + 1) 0)) :
    Calls Try.prog 22 #[v] w fun e w' => ∃ v' o, e = .returned v' ∧ OrdIs (ptF l) n o ∧ (corners (ptF l) o).length ≤ 400 ∧ w'.ownsRow w.heap.size 3 1 v' (corners (ptF l) o).length ((natH (corners (ptF l) o)).map (Value.int .i64)) ∧ Below w.heap.size w w' := by
  obtain ⟨A, c, rfl, hc, hm, hn, hl, hr, hw⟩ := h
  obtain ⟨bk, off, rfl, hbk, hcells⟩ := flat_cells hr hl hn0 (by omega)
  have e2 : Below w.heap.size w (w.alloc (.cells #[.slice (some ⟨bk, off, none⟩) n c] 35)) := (Below.refl _ _).alloc (Nat.le_refl _) _
  have p0 : (w.alloc (.cells #[.slice (some ⟨bk, off, none⟩) n c] 35)).cell? ⟨w.heap.size, 0, none⟩ = some (.slice (some ⟨bk, off, none⟩) n c) := by simp
  have hz1 : (w.alloc (.cells #[.slice (some ⟨bk, off, none⟩) n c] 35)).heap.size = w.heap.size + 1 := by simp
  have HCs : Hid (∀ j, j < n * 3 → w.cell? ⟨bk, off + j, none⟩ = some (.int .i64 (l.getD j 0))) := Lib.hid hcells
  have HCo := Lib.hid hco
  clear hr hl hw hcells hco
  go_enter Try.func22, Try.ntmps22
  go_wp2
  generalize w.alloc (.cells #[.slice (some ⟨bk, off, none⟩) n c] 35) = w1 at *
  have E2 := Lib.hid e2
  have P0 := Lib.hid p0
  clear e2
  go_loopw [3, 4, 9] (fun lv _ iv wr => ∃ i : Nat, i ≤ n ∧ iv = .int .i64 i ∧ Hid (wr.ownsRow w1.heap.size 3 1 lv i ((natH (List.range i)).map (Value.int .i64))) ∧ Hid (Below w1.heap.size w1 wr)) (fun _ _ iv _ => n - (intOf iv).toNat)
  case atStart => exact ⟨0, by omega, rfl, Lib.hid (World.ownsRow_nil _ _ _ _), Lib.hid (Below.refl _ _)⟩
  case round =>
    obtain ⟨i, hi, rfl, HO, HB⟩ := hrel
    have hz := HB.out.size
    obtain ⟨A2, c2, rfl⟩ := own_shape HO.out
    by_cases hlt : i < n
    · have t1 : decide ((i : Int) < (n : Int)) = true := decide_eq_true (by omega)
      go_wp2_with (at_builtin; refine wpList_pushD el_int rfl (.tmp 12) (.tmp 14) rfl w1.heap.size _ i _ (HO.out.alloc _) rfl wr.heap.size 1 _ rfl (new_cell rfl) rfl (by omega) (by omega) (by simp; omega) ?_; intro v2 w2 hown2 hg2 hl2)
      go_roundw
      case rel => exact ⟨i + 1, by omega, by go_num, Lib.hid (by rw [idH_succ, List.map_append]; exact hown2), Lib.hid (below_push (HB.out.alloc hz _) (HO.out.alloc _) (Nat.le_refl _) (by simp; omega) hg2)⟩
      case measure => simp [intOf]; omega
    · obtain rfl : n = i := by omega
      obtain ⟨g2, cap2, hv2, hbase2, hg2lt⟩ := HO.out.form (by omega)
      injection hv2 with hA2 _ hc2
      subst hA2 hc2
      have HW : Hid (Below w.heap.size w wr) := Lib.hid (E2.out.trans (HB.out.mono E2.out.size))
      have HCl : Hid (∀ W : World, wr.grownBy W (some g2) → W.cell? ⟨w.heap.size, 0, none⟩ = some (.slice (some ⟨bk, off, none⟩) n c) ∧ ∀ j, j < n * 3 → W.cell? ⟨bk, off + j, none⟩ = some (.int .i64 (l.getD j 0))) := Lib.hid fun W hg =>
        ⟨(hg.cell_far ⟨w.heap.size, 0, none⟩ (by show w.heap.size < _; omega) (fun e => by injection e with e; have := hbase2; simp only at e; omega)).trans ((HB.out.cell (p := ⟨w.heap.size, 0, none⟩) (by show w.heap.size < _; omega)).trans P0.out),
         fun j hj => (hg.cell_far ⟨bk, off + j, none⟩ (by show bk < _; omega) (fun e => by injection e with e; simp only at e; omega)).trans ((HW.out.cell (p := ⟨bk, off + j, none⟩) (by show bk < _; omega)).trans (HCs.out j hj))⟩
      have HSort := Lib.hid (sortFunc_own HO.out (by omega) (OkH n) (fun z hz => okH_mem (fun u hu => List.mem_range.1 hu) hz) (cmpH l) (swoH (fun x : OkF (OkH n) => x.1) l) 48 #[.pointer (some ⟨w.heap.size, 0, none⟩)]
        (enters_of Try.func48 (by kernel_rfl) rfl) (fun W l' _ _ _ hg x y hx hy => by
          obtain ⟨a1, rfl, ha1⟩ := hx
          obtain ⟨b1, rfl, hb1⟩ := hy
          have hc := HCl.out W hg
          exact hullCmp_any n c bk off w.heap.size a1 b1 _ _ _ _ W ha1 hb1 (by omega) hc.1 (hc.2 (a1 * 3) (by omega)) (hc.2 (a1 * 3 + 1) (by omega)) (hc.2 (b1 * 3) (by omega)) (hc.2 (b1 * 3 + 1) (by omega))))
      go_upto_region 8 with (go_at_call 47; refine (HSort.out).mono ?_; rintro e w5 ⟨rfl, r, hperm, hsorted, hown5, hg5⟩)
      obtain ⟨rn, hrn, rfl⟩ := natH_of hperm
      have hlen : rn.length = n := by have := hrn.length_eq; simpa using this
      have HSr : Hid (SrtH (ptF l) n rn) := Lib.hid (srtH_of hrn fun u v h1 h2 => by
        have := hsorted u v h1 (by rw [natH_len, hlen]; exact h2)
        rwa [natH_at, natH_at] at this)
      have hNr : ∀ i, i < n → nr (ptF l i) := fun i hi => (HCo.out i hi).2
      have HOrd : Hid (OrdIs (ptF l) n (compH (ptF l) rn n)) := Lib.hid (compH_ord hNr HSr.out)
      have hpos : 0 < (compH (ptF l) rn n).length := compH_pos hNr HSr.out hn0
      have hcle : (compH (ptF l) rn n).length ≤ n := compH_len _ _ _
      have HCl2 : Hid (∀ W : World, w5.grownBy W (some g2) → W.cell? ⟨w.heap.size, 0, none⟩ = some (.slice (some ⟨bk, off, none⟩) n c) ∧ ∀ j, j < n * 3 → W.cell? ⟨bk, off + j, none⟩ = some (.int .i64 (l.getD j 0))) := Lib.hid fun W hg =>
        ⟨(hg.cell_far ⟨w.heap.size, 0, none⟩ (by show w.heap.size < _; have := hg5.size; omega) (fun e => by injection e with e; simp only at e; omega)).trans (HCl.out w5 hg5).1,
         fun j hj => (hg.cell_far ⟨bk, off + j, none⟩ (by show bk < _; have := hg5.size; omega) (fun e => by injection e with e; simp only at e; omega)).trans ((HCl.out w5 hg5).2 j hj)⟩
      have HComp := Lib.hid (compactFunc_own hown5 (by omega) (OkH n) (fun z hz => okH_mem (fun u hu => List.mem_range.1 (hrn.mem_iff.1 hu)) hz) (sameP l) 52 #[.pointer (some ⟨w.heap.size, 0, none⟩)]
        (enters_of Try.func52 (by kernel_rfl) rfl) (fun W l' _ _ _ hg x y hx hy => by
          obtain ⟨a1, rfl, ha1⟩ := hx
          obtain ⟨b1, rfl, hb1⟩ := hy
          have hc := HCl2.out W hg
          exact hullEq_any n c bk off w.heap.size a1 b1 _ _ _ _ W ha1 hb1 (by omega) hc.1 (hc.2 (a1 * 3) (by omega)) (hc.2 (a1 * 3 + 1) (by omega)) (hc.2 (b1 * 3) (by omega)) (hc.2 (b1 * 3 + 1) (by omega))))
      have HW5 : Hid (Below w.heap.size w w5) := Lib.hid (HW.out.grown hg5 HW.out.size (fun k e => by injection e with e; have := hbase2; simp only at e; omega))
      clear hown5 hg5 hsorted hperm HSort hrn HSr HCl HO HB HW
      go_upto_region 9 with (go_at_call 51; refine (HComp.out).mono ?_; rintro e w6 ⟨m, rfl, hml, hown6, hg6⟩)
      rw [compL_compH, natH_len] at hml
      rw [compL_compH] at hown6
      obtain ⟨o, ho⟩ : ∃ o, o = compH (ptF l) rn n := ⟨_, rfl⟩
      rw [← ho] at hml hown6 hpos hcle HOrd
      have HO6 := Lib.hid hown6
      have HCl6 := Lib.hid (HCl2.out w6 hg6)
      have HW6 : Hid (Below w.heap.size w w6) := Lib.hid (HW5.out.grown hg6 HW5.out.size (fun k e => by injection e with e; have := hbase2; simp only at e; omega))
      have hz6 := HW6.out.size
      have hol : ∀ u, u < m → o.getD u 0 < n := fun u hu => by
        rw [gE _ _ (by omega)]
        exact (HOrd.out.rep _ (List.getElem_mem (by omega))).1
      have HOl := Lib.hid hol
      clear hown6 hg6 HCl2 HW5 HComp ho hNr hol
      by_cases h1 : m = 1
      · have t1 : ((m : Int) == 1) = true := beq_iff_eq.2 (by omega)
        have HE : Hid (corners (ptF l) o = o) := Lib.hid (by unfold corners; rw [if_pos (by omega)])
        go_wp2
        go_ret
        refine ⟨_, o, rfl, HOrd.out, ?_⟩
        rw [HE.out, hml]
        exact ⟨by omega, ownS_baseH HO6.out (by omega), HW6.out⟩
      · have t1 : ((m : Int) == 1) = false := beq_eq_false_iff_ne.2 (by omega)
        have HE : Hid (corners (ptF l) o = (chain (turns (ptF l)) o).reverse.dropLast ++ (chain (turns (ptF l)) o.reverse).reverse.dropLast) := Lib.hid (by unfold corners; rw [if_neg (by omega)])
        have HSide1 := Lib.hid (hullSide_any n c bk off l o m c2 g2 w6 hn150 (by omega) (by omega) hml HOl.out HCo.out HCl6.out.2 (fun u hu => own_atH HO6.out hml hu))
        have p6 := HCl6.out.1
        go_upto_region 12 with (go_at_call 53; refine (HSide1.out).mono ?_; rintro e w7 ⟨v7, rfl, hl7, ho7, hb7⟩)
        have HO67 := own_size HO6.out hb7
        have hRev := reverse_own HO67 (by omega)
        have hz7 := hb7.size
        have HB67 := Lib.hid hb7
        have HO7 := Lib.hid ho7
        have hg26 : g2 < w6.heap.size := (HO6.out.lt g2 rfl).2
        clear ho7 hb7 HSide1
        go_upto_region 13 with (go_at_call 54; refine hRev.mono ?_; rintro e w8 ⟨rfl, hown8, hg8⟩)
        have hz8 := hg8.size
        have HO8 : Hid (w8.ownsRow w1.heap.size 3 1 (.slice (some ⟨g2, 0, none⟩) m c2) m ((natH o.reverse).map (Value.int .i64))) := Lib.hid (by
          have : natH o.reverse = (natH o).reverse := by unfold natH; rw [List.map_reverse]
          rw [this]; exact hown8)
        have h8 : ∀ p : Addr, p.block < w6.heap.size → p.block ≠ g2 → w8.cell? p = w6.cell? p := fun p hp hne => (hg8.cell_far p (by omega) (fun e => by injection e with e; exact hne e)).trans (HB67.out.cell hp)
        have HC8 : Hid (∀ j, j < n * 3 → w8.cell? ⟨bk, off + j, none⟩ = some (.int .i64 (l.getD j 0))) := Lib.hid fun j hj => (h8 ⟨bk, off + j, none⟩ (by show bk < _; omega) (by show bk ≠ g2; omega)).trans (HCl6.out.2 j hj)
        have p8 : w8.cell? ⟨w.heap.size, 0, none⟩ = some (.slice (some ⟨bk, off, none⟩) n c) := (h8 ⟨w.heap.size, 0, none⟩ (by show w.heap.size < _; omega) (by show w.heap.size ≠ g2; omega)).trans HCl6.out.1
        have HW8 : Hid (Below w.heap.size w w8) := Lib.hid ((HW6.out.trans (HB67.out.mono (by omega))).grown hg8 (by omega) (fun k e => by injection e with e; simp only at e; omega))
        have HO78 : Hid (w8.ownsRow w6.heap.size 3 1 v7 (chain (turns (ptF l)) o).length ((natH (chain (turns (ptF l)) o).reverse).map (Value.int .i64))) := Lib.hid (HO7.out.kept hg8 (by
          cases hv : v7.ownBlock with
          | none => exact .inl rfl
          | some k =>
            refine .inr ?_
            intro e
            injection e with e
            have := (HO7.out.lt k hv).1
            simp only at e
            omega))
        have HOlr : Hid (∀ u, u < m → o.reverse.getD u 0 < n) := Lib.hid fun u hu => by
          rw [getD_rev _ _ (by omega)]; exact HOl.out _ (by omega)
        have HSide2 := Lib.hid (hullSide_any n c bk off l o.reverse m c2 g2 w8 hn150 (by omega) (by omega) (by rw [List.length_reverse]; exact hml) HOlr.out HCo.out HC8.out (fun u hu => own_atH HO8.out (by rw [List.length_reverse]; exact hml) hu))
        clear h8 hown8 hg8 hRev HO67
        obtain ⟨A7, c7, rfl⟩ := own_shape HO78.out
        go_upto_region 14 with (go_at_call 53; refine (HSide2.out).mono ?_; rintro e w9 ⟨v9, rfl, hl9, ho9, hb9⟩)
        have HO79 := Lib.hid (own_size HO78.out hb9)
        have HW9 := Lib.hid (HW8.out.trans (hb9.mono HW8.out.size))
        have hz9 := hb9.size
        have HO9 := Lib.hid ho9
        obtain ⟨a, ha⟩ : ∃ a, (chain (turns (ptF l)) o).length = a + 1 := ⟨(chain (turns (ptF l)) o).length - 1, by have := chain_pos (turns (ptF l)) (o := o) (by omega); omega⟩
        obtain ⟨b, hb⟩ : ∃ b, (chain (turns (ptF l)) o.reverse).length = b + 1 := ⟨(chain (turns (ptF l)) o.reverse).length - 1, by have := chain_pos (turns (ptF l)) (o := o.reverse) (by rw [List.length_reverse]; omega); omega⟩
        obtain ⟨g9, c9, rfl, hbase9, hlt9⟩ := ho9.form (by omega)
        rw [ha] at HO79 hl7
        rw [hb] at HO9 hl9
        clear ho9 hb9 HSide2 HO78 HO7 HO8
        rw [ha, hb]
        have hcap7 := own_cap HO79.out
        have hcap9 := own_cap HO9.out
        have HR7 : Hid (w9.ownsRow w6.heap.size 3 1 (.slice A7 a c7) a ((natH (chain (turns (ptF l)) o).reverse.dropLast).map (Value.int .i64))) := Lib.hid (by
          obtain ⟨x, hx⟩ := natH_last (r := (chain (turns (ptF l)) o).reverse) (a := a) (by rw [List.length_reverse]; exact ha)
          have h1 := HO79.out
          rw [hx, List.map_append] at h1
          exact own_pop h1)
        have HNews : Hid (∀ j u, ((natH (chain (turns (ptF l)) o.reverse).reverse.dropLast).map (Value.int .i64))[j]? = some u → w9.drew.cell? ((⟨g9, 0, none⟩ : Addr).add j) = some u) := Lib.hid fun j u hu => by
          have hj : j < b := by
            have := (List.getElem?_eq_some_iff.1 hu).1
            rw [List.length_map, natH_len, List.length_dropLast, List.length_reverse] at this
            omega
          rw [add_zero_addr, show w9.drew.cell? ⟨g9, j, none⟩ = w9.cell? ⟨g9, j, none⟩ from rfl, own_atH HO9.out (by rw [List.length_reverse]; exact hb) (show j < b + 1 by omega), ← hu]
          have h1 := natH_at (chain (turns (ptF l)) o.reverse).reverse.dropLast j
          rw [List.getD_eq_getElem?_getD, List.getElem?_eq_getElem (by rw [natH_len, List.length_dropLast, List.length_reverse]; omega)] at h1
          rw [List.getElem?_map, List.getElem?_eq_getElem (by rw [natH_len, List.length_dropLast, List.length_reverse]; omega)]
          simp only [Option.getD_some] at h1
          rw [h1, getD_dl _ _ (by rw [List.length_reverse]; omega)]
          rfl
        have HLn : Hid (((natH (chain (turns (ptF l)) o.reverse).reverse.dropLast).map (Value.int .i64)).length = b * 1) := Lib.hid (by rw [List.length_map, natH_len, List.length_dropLast, List.length_reverse]; omega)
        have HOne : Hid (∀ u ∈ (natH (chain (turns (ptF l)) o.reverse).reverse.dropLast).map (Value.int .i64), u.oneCell' = true) := Lib.hid fun u hu => by
          obtain ⟨z, _, rfl⟩ := List.mem_map.1 hu
          rfl
        have HCL : Hid ((corners (ptF l) o).length = a + b) := Lib.hid (by rw [HE.out, List.length_append, List.length_dropLast, List.length_dropLast, List.length_reverse, List.length_reverse]; omega)
        have HCM : Hid ((natH (corners (ptF l) o)).map (Value.int .i64) = (natH (chain (turns (ptF l)) o).reverse.dropLast).map (Value.int .i64) ++ (natH (chain (turns (ptF l)) o.reverse).reverse.dropLast).map (Value.int .i64)) := Lib.hid (by rw [HE.out, natH_app, List.map_append])
        have w1' : IntKind.i64.wrap (a : Int) = (a : Int) := by rw [IntKind.wrap_i64]; omega
        have w2' : IntKind.i64.wrap (b : Int) = (b : Int) := by rw [IntKind.wrap_i64]; omega
        have a1 : (a : Int) ≤ (c7 : Int) := by omega
        have a2 : (b : Int) ≤ (c9 : Int) := by omega
        have hz69 : w6.heap.size ≤ w9.heap.size := by omega
        clear HO79 HO9 HE ha hb
        generalize (natH (chain (turns (ptF l)) o).reverse.dropLast).map (Value.int .i64) = xs7 at *
        generalize (natH (chain (turns (ptF l)) o.reverse).reverse.dropLast).map (Value.int .i64) = xs9 at *
        go_wp2_with fail
        go_region_law (refine step_pushM el_int rfl (.tmp 39) (.tmp 44) rfl w6.heap.size (.slice A7 a c7) a xs7 (show w9.drew.ownsRow _ _ _ _ _ _ from HR7.out) (by simp [Act.eval, Act.put]) ⟨g9, 0, none⟩ b c9 xs9 (by simp [Act.eval, Act.put]) HLn.out HNews.out HOne.out (by omega) (by omega) (by show w6.heap.size ≤ w9.heap.size; omega) ?_; intro v' w10 hown10 hg10 hl10)
        all_goals try simp only [Act.put, List.getElem_toArray, List.getElem_cons_succ, List.getElem_cons_zero, Array.set!_eq_setIfInBounds, List.setIfInBounds_toArray, List.set_cons_succ, List.set_cons_zero]
        all_goals go_wp2
        all_goals go_ret
        all_goals
          refine ⟨_, o, rfl, HOrd.out, by rw [HCL.out]; omega, ?_, ?_⟩
          · rw [HCL.out, HCM.out]
            exact ownS_baseH hown10 (by omega)
          · exact Below.grown (show Below w.heap.size w w9.drew from HW9.out.drew) hg10 (by show w.heap.size ≤ w9.heap.size; omega) (fun k e => by have := (HR7.out.lt k e).1; omega)
end Go.Proofs.Ythiccmncdmohbaa
