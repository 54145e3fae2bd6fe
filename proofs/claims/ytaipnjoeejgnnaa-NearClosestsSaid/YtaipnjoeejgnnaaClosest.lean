/-
  Contract of near.Closest (with far and its comparing function): the closest pair, how far it is, or the code of what is refused. Conditions: the points can be read as data.
-/
import Derived.Test.YtaipnjoeejgnnaaRefClosest
import Derived.Test.YtaipnjoeejgnnaaSortFuncOwn
import Derived.Test.YtaipnjoeejgnnaaGridCheck
import Derived.Test.YtaipnjoeejgnnaaStepPush
import Derived.Deep.RegionHeld3
import Derived.Deep.CutRange
import Derived.BigQuiet
namespace Go.Dam
open Go Go.RowKit Go.Sort
/-- All places below n. -/
def idL (n : Nat) : List Int := (List.range n).map fun i : Nat => (i : Int)
theorem idL_0 : idL 0 = [] := rfl
theorem idL_succ (n : Nat) : idL (n + 1) = idL n ++ [(n : Int)] := by unfold idL; rw [List.range_succ, List.map_append]; rfl
theorem idL_len (n : Nat) : (idL n).length = n := by unfold idL; simp
theorem idL_mem {n : Nat} {z : Int} (h : z ∈ idL n) : ∃ i : Nat, z = i ∧ i < n := by
  unfold idL at h
  obtain ⟨i, hi, rfl⟩ := List.mem_map.1 h
  exact ⟨i, rfl, List.mem_range.1 hi⟩
/-- A number that is a place below n. -/
def OkId (n : Nat) (z : Int) : Prop := ∃ i : Nat, z = i ∧ i < n
/-- The places, as natural numbers. -/
theorem ids_nat {n : Nat} {r : List Int} (h : r.Perm (idL n)) : ∃ rn : List Nat, rn.Perm (List.range n) ∧ r = rn.map fun i : Nat => (i : Int) := by
  refine ⟨r.map Int.toNat, ?_, ?_⟩
  · have h1 := h.map Int.toNat
    have h2 : (idL n).map Int.toNat = List.range n := by
      unfold idL; rw [List.map_map]
      conv => rhs; rw [← List.map_id (List.range n)]
      exact List.map_congr_left fun i _ => rfl
    rwa [h2] at h1
  · rw [List.map_map]
    conv => lhs; rw [← List.map_id r]
    refine List.map_congr_left fun z hz => ?_
    obtain ⟨i, rfl, _⟩ := idL_mem (h.mem_iff.1 hz)
    rfl
theorem natI_at (rn : List Nat) (u : Nat) : (rn.map fun i : Nat => (i : Int)).getD u 0 = ((rn.getD u 0 : Nat) : Int) := by
  rw [List.getD_eq_getElem?_getD, List.getElem?_map, List.getD_eq_getElem?_getD]
  cases rn[u]? <;> rfl
theorem compare_lt (x y : Int) : (decide (Lib.compareInt x y < 0)) = decide (x < y) := by
  unfold Lib.compareInt
  by_cases h1 : x < y
  · simp [h1]
  · by_cases h2 : y < x <;> simp [h1, h2]
/-- A comparison by a number of each is a strict order by classes. -/
theorem swo_key {α : Type} (k : α → Int) : SWO (fun x y : α => decide (Lib.compareInt (k x) (k y) < 0)) where
  irrefl x := by rw [compare_lt]; simp
  trans x y z h1 h2 := by rw [compare_lt] at *; simp at *; omega
  ntrans x y z h1 h2 := by rw [compare_lt] at *; simp at *; omega
theorem perm_nodup_at {n : Nat} {r : List Nat} (h : r.Perm (List.range n)) : ∀ u v, u < n → v < n → r.getD u 0 = r.getD v 0 → u = v := by
  have hl : r.length = n := by have := h.length_eq; simpa using this
  have hn : r.Nodup := h.nodup_iff.2 List.nodup_range
  intro u v hu hv e
  rw [List.getD_eq_getElem?_getD, List.getD_eq_getElem?_getD, List.getElem?_eq_getElem (by omega), List.getElem?_eq_getElem (by omega)] at e
  simp only [Option.getD_some] at e
  have hp := List.pairwise_iff_getElem.1 hn
  rcases Nat.lt_trichotomy u v with g | g | g
  · exact absurd e (hp u v (by omega) (by omega) g)
  · exact g
  · exact absurd e.symm (hp v u (by omega) (by omega) g)
theorem byX_of {l : List Int} {n : Nat} {rn : List Nat} (h : rn.Perm (List.range n)) (hs : ∀ u v, u < v → v < n → l.getD (rn.getD u 0 * 3) 0 ≤ l.getD (rn.getD v 0 * 3) 0) : ByX l n rn := by
  have hl : rn.length = n := by have := h.length_eq; simpa using this
  refine ⟨hl, fun i hi => ?_, fun u hu => ?_, perm_nodup_at h, hs⟩
  · have := h.mem_iff.2 (List.mem_range.2 hi)
    obtain ⟨u, hu, e⟩ := List.mem_iff_getElem.1 this
    exact ⟨u, by omega, by rw [List.getD_eq_getElem?_getD, List.getElem?_eq_getElem hu]; exact e⟩
  · rw [List.getD_eq_getElem?_getD, List.getElem?_eq_getElem (by omega)]
    exact List.mem_range.1 (h.mem_iff.1 (List.getElem_mem (by omega)))
end Go.Dam
namespace Go.Proofs.Ytaipnjoeejgnnaa
open Go Go.RowKit Go.Dam Go.Shelf
set_option linter.unusedVariables false
theorem natmin_cast (a b : Nat) : ((min a b : Nat) : Int) = min (a : Int) (b : Int) := by omega
theorem natmax_cast (a b : Nat) : ((max a b : Nat) : Int) = max (a : Int) (b : Int) := by omega
theorem res2_belowB {w wr : World} {B K : Nat} {a b : Value} (h : Below B w wr) (hK : B ≤ K) : Below B w ((wr.setCell ⟨K, 0, none⟩ a).setCell ⟨K, 1, none⟩ b) :=
  (h.setCell (p := ⟨K, 0, none⟩) hK _).setCell (p := ⟨K, 1, none⟩) hK _
theorem kept_alloc {w : World} {g i : Nat} {v : Value} {o : Obj} (hp : g < w.heap.size) (h : w.cell? ⟨g, i, none⟩ = some v) : (w.alloc o).drew.cell? ⟨g, i, none⟩ = some v := (World.cell?_alloc_lt w o ⟨g, i, none⟩ hp).trans h
theorem kept_call {w w' : World} {p : Addr} {v : Value} (hb : Below w.heap.size w w') (hp : p.block < w.heap.size) (h : w.cell? p = some v) : w'.cell? p = some v := (hb.cell hp).trans h
theorem kept_calloc {w w' : World} {p : Addr} {v : Value} {o : Obj} (hb : Below w.heap.size w w') (hp : p.block < w.heap.size) (h : w.cell? p = some v) : (w'.alloc o).cell? p = some v :=
  (World.cell?_alloc_lt w' o p (by have := hb.size; omega)).trans ((hb.cell hp).trans h)
theorem kept_allocd {w w' : World} {p : Addr} {v : Value} {o : Obj} (hb : Below ((w.alloc o).drew).heap.size (w.alloc o).drew w') (hp : p.block < w.heap.size) (h : w.cell? p = some v) : w'.cell? p = some v :=
  (hb.cell (show p.block < (w.alloc o).heap.size by simp; omega)).trans ((World.cell?_alloc_lt w o p hp).trans h)
theorem kept_allocset {w w' : World} {p : Addr} {v a b : Value} {o : Obj} (hb : Below ((w.alloc o).drew).heap.size (w.alloc o).drew w') (hp : p.block < w.heap.size) (h : w.cell? p = some v) : ((w'.setCell ⟨w.heap.size, 0, none⟩ a).setCell ⟨w.heap.size, 1, none⟩ b).cell? p = some v := by
  rw [World.cell?_setCell_other _ _ _ _ (fun e => by rw [← e] at hp; exact absurd hp (Nat.lt_irrefl _)), World.cell?_setCell_other _ _ _ _ (fun e => by rw [← e] at hp; exact absurd hp (Nat.lt_irrefl _))]
  exact kept_allocd hb hp h
theorem new_pair {w w' : World} {t : TypeId} {a b : Value} (hb : Below ((w.alloc (.cells #[a, b] t)).drew).heap.size (w.alloc (.cells #[a, b] t)).drew w') : Blk w' w.heap.size t #[a, b] :=
  ((Blk.new w t #[a, b]).drew).below hb (by show w.heap.size < (w.alloc (.cells #[a, b] t)).heap.size; simp)
theorem kept_allocc {w w' : World} {p : Addr} {v : Value} {o : Obj} (hb : Below (w.alloc o).heap.size (w.alloc o) w') (hp : p.block < w.heap.size) (h : w.cell? p = some v) : w'.cell? p = some v :=
  (hb.cell (by simp; omega)).trans ((World.cell?_alloc_lt w o p hp).trans h)
set_option maxHeartbeats 1000000 in
theorem nearFar_any (x0 y0 z0 x1 y1 z1 : Int) (w : World) (hx0 : -1048576 ≤ x0 ∧ x0 ≤ 1048576) (hy0 : -1048576 ≤ y0 ∧ y0 ≤ 1048576) (hx1 : -1048576 ≤ x1 ∧ x1 ≤ 1048576) (hy1 : -1048576 ≤ y1 ∧ y1 ≤ 1048576) :
    Calls Try.prog 78 #[.agg #[.int .i64 x0, .int .i64 y0, .int .i64 z0], .agg #[.int .i64 x1, .int .i64 y1, .int .i64 z1]] w fun e w' => e = .returned (.int .i64 ((x0 - x1) * (x0 - x1) + (y0 - y1) * (y0 - y1))) ∧ Below w.heap.size w w' := by
  obtain ⟨dx, hdx⟩ : ∃ d, x0 - x1 = d := ⟨_, rfl⟩
  obtain ⟨dy, hdy⟩ : ∃ d, y0 - y1 = d := ⟨_, rfl⟩
  have bx : -2097152 ≤ dx ∧ dx ≤ 2097152 := by omega
  have by_ : -2097152 ≤ dy ∧ dy ≤ 2097152 := by omega
  have sx := sq_bd bx
  have sy := sq_bd by_
  have w1 : wrap64 (x0 - x1) = dx := by unfold wrap64; omega
  have w2 : wrap64 (y0 - y1) = dy := by unfold wrap64; omega
  have w3 : wrap64 (dx * dx) = dx * dx := by generalize dx * dx = p at *; unfold wrap64; omega
  have w4 : wrap64 (dy * dy) = dy * dy := by generalize dy * dy = p at *; unfold wrap64; omega
  have w5 : wrap64 (dx * dx + dy * dy) = dx * dx + dy * dy := by generalize dx * dx = p at *; generalize dy * dy = q at *; unfold wrap64; omega
  have HR : Hid ((x0 - x1) * (x0 - x1) + (y0 - y1) * (y0 - y1) = dx * dx + dy * dy) := Lib.hid (by rw [hdx, hdy])
  rw [HR.out]
  clear hdx hdy hx0 hy0 hx1 hy1 bx by_
  go_enter Try.func78, Try.ntmps78
  go_wp2_with fail
  go_ret
  refine ⟨ret_int (by simp), ?_⟩
  exact ((Below.refl _ _).alloc (Nat.le_refl _) _).alloc (by simp) _
theorem cmpCompare_any (x y : Int) (w : World) : Calls Try.prog 77 #[.int .i64 x, .int .i64 y] w fun e w' => e = .returned (.int .i64 (Lib.compareInt x y)) ∧ w = w' := by
  have h := AnyG.cmp_Compare_int Try.cmpInt x y w
  change Calls Try.prog 77 _ _ _ at h
  exact h.mono fun _ _ ⟨he, hw⟩ => ⟨he, hw.symm⟩
set_option maxHeartbeats 1000000 in
theorem nearCmp_any (n c bk off gb i j : Nat) (x y : Int) (w : World) (hi : i < n) (hj : j < n) (hb : w.cell? ⟨gb, 0, none⟩ = some (.slice (some ⟨bk, off, none⟩) n c)) (hx : w.cell? ⟨bk, off + i * 3, none⟩ = some (.int .i64 x)) (hy : w.cell? ⟨bk, off + j * 3, none⟩ = some (.int .i64 y)) (hn : n ≤ 1000000) :
    Calls Try.prog 76 #[.int .i64 i, .int .i64 j, .pointer (some ⟨gb, 0, none⟩)] w fun e w' => e = .returned (.int .i64 (Lib.compareInt x y)) ∧ ∃ q, w' = w.drewN q := by
  have i1 : (i : Int) < (n : Int) := by omega
  have j1 : (j : Int) < (n : Int) := by omega
  have HC := Lib.hid fun k => quiet_of_same (cmpCompare_any x y (w.drewN k))
  go_enter Try.func76, Try.ntmps76
  go_wp2_with fail
  go_quiet ((go_at_call 77; exact HC.out _))
  go_wp2_with fail
  go_ret
  exact ⟨rfl, _, rfl⟩
set_option maxRecDepth 100000 in
set_option maxHeartbeats 40000000 in
theorem nearClosest_any (v : Value) (n : Nat) (l : List Int) (a b f cc : Int) (w : World) (h : IsFlat 3 w w.heap.size v n l) (hR : ClosAns l n a b f cc) :
    Calls Try.prog 33 #[v] w fun e w' => e = .returned (.tuple #[.agg #[.int .i64 a, .int .i64 b], .int .i64 f, .int .i64 cc]) ∧ Below w.heap.size w w' := by
  have HC := Lib.hid fun w1 (hb : Below w.heap.size w w1) => gridCheck_any v n l w1 w.heap.size hb.size (h.below hb)
  obtain ⟨A, c, rfl, hc, hm, hn, hl, hr, hw⟩ := h
  have e2 : Below w.heap.size w ((w.alloc (.cells #[.slice A n c] 23)).alloc (.cells #[.int .i64 0, .int .i64 0] 60)) := ((Below.refl _ _).alloc (Nat.le_refl _) _).alloc (by simp) _
  have E2 := Lib.hid e2
  have B0 := Lib.hid ((Blk.new w 23 #[.slice A n c]).alloc (.cells #[.int .i64 0, .int .i64 0] 60))
  have B1 := Lib.hid (Blk.new_at (w.alloc (.cells #[.slice A n c] 23)) 60 #[.int .i64 0, .int .i64 0] (w.heap.size + 1) (by simp))
  rcases hR with ⟨h0, rfl, rfl, rfl, rfl⟩ | ⟨h0, h2, rfl, rfl, rfl, rfl⟩ | ⟨h0, h2, rfl, a0, b0, rfl, rfl, hcl⟩
  · generalize ptCode n l = cc at *
    have t0 : (cc != 0) = true := bne_iff_ne.2 h0
    clear h0 hl hr hw e2
    go_enter Try.func33, Try.ntmps33
    go_wp2_with (go_at_call 45; refine (HC.out _ E2.out).mono ?_; rintro e w1 ⟨rfl, hb1⟩; have HB1 := Lib.hid (E2.out.trans (hb1.mono (by simp; omega))); have HK0 := Lib.hid (B0.out.below hb1 (by simp; omega)); have HK1 := Lib.hid (B1.out.below hb1 (by simp)); have k0 := (HK1.out.cell 0).trans rfl; have k1 := (HK1.out.cell 1).trans rfl; have f0 := HK1.out.frozen 0; have f1 := HK1.out.frozen 1; have p0 := (HK0.out.cell 0).trans rfl; have hz1 := hb1.size; clear hb1)
    obtain ⟨q0, q1⟩ := res2_cells (a := .int .i64 0) (b := .int .i64 0) HK1.out
    exact bodyPost_ret (v := .tuple #[.agg #[.int .i64 0, .int .i64 0], .int .i64 0, .int .i64 cc]) (by simp [results, Try.results33, go_sem, q0, q1]) rfl ⟨rfl, res2_below HB1.out (by omega)⟩
  · rw [h0] at HC
    have t0 : decide ((n : Int) < 2) = true := decide_eq_true (by omega)
    clear h0 hl hr hw e2
    go_enter Try.func33, Try.ntmps33
    go_wp2_with (go_at_call 45; refine (HC.out _ E2.out).mono ?_; rintro e w1 ⟨rfl, hb1⟩; have HB1 := Lib.hid (E2.out.trans (hb1.mono (by simp; omega))); have HK0 := Lib.hid (B0.out.below hb1 (by simp; omega)); have HK1 := Lib.hid (B1.out.below hb1 (by simp)); have k0 := (HK1.out.cell 0).trans rfl; have k1 := (HK1.out.cell 1).trans rfl; have f0 := HK1.out.frozen 0; have f1 := HK1.out.frozen 1; have p0 := (HK0.out.cell 0).trans rfl; have hz1 := hb1.size; clear hb1)
    obtain ⟨q0, q1⟩ := res2_cells (a := .int .i64 0) (b := .int .i64 0) HK1.out
    exact bodyPost_ret (v := .tuple #[.agg #[.int .i64 0, .int .i64 0], .int .i64 0, .int .i64 7]) (by simp [results, Try.results33, go_sem, q0, q1]) rfl ⟨rfl, res2_below HB1.out (by omega)⟩
  · obtain ⟨hn150, hco⟩ := pt_coords h0
    rw [h0] at HC
    have t0 : decide ((n : Int) < 2) = false := decide_eq_false (by omega)
    obtain ⟨bk, off, rfl, hbk, hcells⟩ := flat_cells hr hl (by omega) (by omega)
    have HCs := Lib.hid hcells
    have HCo := Lib.hid hco
    have HCl := Lib.hid hcl
    clear h0 hl hr hw e2 hcells hco hcl
    go_enter Try.func33, Try.ntmps33
    go_wp2_with (go_at_call 45; refine (HC.out _ E2.out).mono ?_; rintro e w1 ⟨rfl, hb1⟩; have HB1 := Lib.hid (E2.out.trans (hb1.mono (by simp; omega))); have HK0 := Lib.hid (B0.out.below hb1 (by simp; omega)); have HK1 := Lib.hid (B1.out.below hb1 (by simp)); have k0 := (HK1.out.cell 0).trans rfl; have k1 := (HK1.out.cell 1).trans rfl; have f0 := HK1.out.frozen 0; have f1 := HK1.out.frozen 1; have p0 := (HK0.out.cell 0).trans rfl; have hz1 := hb1.size; clear hb1)
    go_loopw [6, 7, 31] (fun lv _ iv wr => ∃ i : Nat, i ≤ n ∧ iv = .int .i64 i ∧ wr.ownsRow w1.heap.size 3 1 lv i ((idL i).map (Value.int .i64)) ∧ Below w1.heap.size w1 wr) (fun _ _ iv _ => n - (intOf iv).toNat)
    case atStart => exact ⟨0, by omega, rfl, World.ownsRow_nil _ _ _ _, Below.refl _ _⟩
    case round =>
      obtain ⟨i, hi, rfl, hown, hb⟩ := hrel
      have hz := hb.size
      by_cases hlt : i < n
      · have t1 : decide ((i : Int) < (n : Int)) = true := decide_eq_true (by omega)
        obtain ⟨A2, c2, rfl⟩ := own_shape hown
        have HO := Lib.hid hown
        have HB := Lib.hid hb
        clear hown hb
        go_wp2_with (at_builtin; refine wpList_pushD el_int rfl (.tmp 34) (.tmp 36) rfl w1.heap.size _ i _ (HO.out.alloc _) rfl wr.heap.size 1 _ rfl (new_cell rfl) rfl (by omega) (by omega) (by simp; omega) ?_; intro v2 w2 hown2 hg2 hl2)
        go_roundw
        case rel => exact ⟨i + 1, by omega, by go_num, by rw [idL_succ, List.map_append]; exact hown2, below_push (HB.out.alloc hz _) (HO.out.alloc _) (Nat.le_refl _) (by simp; omega) hg2⟩
        case measure => simp [intOf]; omega
      · obtain rfl : n = i := by omega
        have i6 : ¬ (n : Int) < (n : Int) := by omega
        obtain ⟨A2, c2, rfl⟩ := own_shape hown
        have hl1 := own_shape hown
        obtain ⟨g2, cap2, hv2, hbase2, hg2lt⟩ := hown.form (by omega)
        injection hv2 with hA2 _ hc2
        subst hA2 hc2
        have HSort := Lib.hid (sortFunc_own hown (by omega) (OkId n) (fun z hz => idL_mem hz) (fun x y => Lib.compareInt (l.getD (x.toNat * 3) 0) (l.getD (y.toNat * 3) 0)) (swo_key fun x : OkF (OkId n) => l.getD (x.1.toNat * 3) 0) 76 #[.pointer (some ⟨w.heap.size, 0, none⟩)]
          (enters_of Try.func76 (by kernel_rfl) rfl) (fun W l' _ _ _ hg x y hx hy => by
            obtain ⟨a1, rfl, ha1⟩ := hx
            obtain ⟨b1, rfl, hb1⟩ := hy
            have hne : ∀ k, k < w1.heap.size → some k ≠ (Value.slice (some ⟨g2, 0, none⟩) n c2).ownBlock := fun k hk e => by simp only [Value.ownBlock, Option.some.injEq] at e; omega
            have cell : ∀ p : Addr, p.block < w1.heap.size → W.cell? p = w1.cell? p := fun p hp => (hg.cell_far p (by omega) (hne _ hp)).trans (hb.cell hp)
            refine (nearCmp_any n c bk off w.heap.size a1 b1 (l.getD (a1 * 3) 0) (l.getD (b1 * 3) 0) W ha1 hb1 ((cell ⟨w.heap.size, 0, none⟩ (by show w.heap.size < _; have := HB1.out.size; simp at hz1; omega)).trans p0) ?_ ?_ (by omega)).mono ?_
            · exact (cell ⟨bk, off + a1 * 3, none⟩ (by show bk < _; have := HB1.out.size; omega)).trans ((HB1.out.cell (p := ⟨bk, off + a1 * 3, none⟩) hbk).trans (HCs.out (a1 * 3) (by omega)))
            · exact (cell ⟨bk, off + b1 * 3, none⟩ (by show bk < _; have := HB1.out.size; omega)).trans ((HB1.out.cell (p := ⟨bk, off + b1 * 3, none⟩) hbk).trans (HCs.out (b1 * 3) (by omega)))
            · rintro e w' ⟨rfl, q, rfl⟩
              exact ⟨rfl, q, #[], by rw [Sort.grow_empty]⟩))
        have HO := Lib.hid hown
        have HB := Lib.hid hb
        clear hown hb
        go_wp2_with (go_at_call 75; refine (HSort.out).mono ?_; rintro e w5 ⟨rfl, r, hperm, hsorted, hown5, hg5⟩)
        have HBr := Lib.hid (HB1.out.trans (HB.out.mono HB1.out.size))
        have HB5 := Lib.hid (HBr.out.grown hg5 HBr.out.size (fun k e => by simp only [Value.ownBlock, Option.some.injEq] at e; have := HB1.out.size; omega))
        have HP0 := Lib.hid (Blk.grown (Blk.below HK0.out HB.out HK0.out.lt) hg5 (fun e => by simp only [Value.ownBlock, Option.some.injEq] at e; have := HK0.out.lt; omega))
        have HP1 := Lib.hid (Blk.grown (Blk.below HK1.out HB.out HK1.out.lt) hg5 (fun e => by simp only [Value.ownBlock, Option.some.injEq] at e; have := HK1.out.lt; omega))
        obtain ⟨rn, hrn, rfl⟩ := ids_nat hperm
        have hlen : rn.length = n := by have := hrn.length_eq; simpa using this
        have HX : Hid (ByX l n rn) := Lib.hid (byX_of hrn fun u v huv hv => by
          have h1 := hsorted u v huv (by rw [List.length_map, hlen]; exact hv)
          rw [natI_at, natI_at] at h1
          simp only [Int.toNat_natCast] at h1
          have h2 := compare_lt (l.getD (rn.getD v 0 * 3) 0) (l.getD (rn.getD u 0 * 3) 0)
          rw [decide_eq_false h1] at h2
          have := of_decide_eq_false h2.symm
          omega)
        have hrow : ∀ u, u < n → w5.cell? ⟨g2, u, none⟩ = some (.int .i64 ((rn.getD u 0 : Nat) : Int)) := fun u hu => by
          rw [hown5.cellAt u (by omega), List.getElem?_map, List.getElem?_map, List.getElem?_eq_getElem (by omega), List.getD_eq_getElem?_getD, List.getElem?_eq_getElem (by omega)]; rfl
        have HRow := Lib.hid hrow
        have hg25 : g2 < w5.heap.size := by have := hg5.size; omega
        have hcn : n ≤ c2 := own_cap HO.out
        have hz15 : w.heap.size + 1 < w5.heap.size := HP1.out.lt
        clear hperm hsorted hown5 hg5 hrn hrow HSort HO HB HBr HK0 HK1 k0 k1 f0 f1 p0 i6
        go_loopw [9, 10, 11, 13, 14, 15, 16, 45] (fun fv _ _ _ _ _ _ uv wr => ∃ (u a1 b1 : Nat) (f1 : Int), u ≤ n ∧ uv = .int .i64 u ∧ fv = .int .i64 f1 ∧ Hid (ProgClos l n rn u (u + 1) a1 b1 f1) ∧ Hid (Blk wr w5.heap.size 60 #[.int .i64 a1, .int .i64 b1]) ∧ Hid (Below w5.heap.size w5 wr)) (fun _ _ _ _ _ _ _ uv _ => n - (intOf uv).toNat)
        case atStart => exact ⟨0, 0, 0, -1, by omega, rfl, rfl, Lib.hid ProgClos.start, Lib.hid (Blk.new _ _ _), Lib.hid ((Below.refl _ _).alloc (Nat.le_refl _) _)⟩
        case round =>
          obtain ⟨wo, rfl⟩ : ∃ wo : World, wo = wr := ⟨_, rfl⟩
          obtain ⟨u, a1, b1, f1, hu, rfl, rfl, HPc, HBe, HBw⟩ := hrel
          by_cases hlt2 : u < n
          · have t2 : decide ((u : Int) < (n : Int)) = true := decide_eq_true (by omega)
            have k0 := (HBw.out.cell (p := ⟨g2, u, none⟩) (by show g2 < w5.heap.size; omega)).trans (HRow.out u hlt2)
            have hpl := HX.out.2.2.1 u hlt2
            obtain ⟨pu, hpu⟩ : ∃ p, rn.getD u 0 = p := ⟨_, rfl⟩
            rw [hpu] at k0 hpl
            have HPu := Lib.hid hpu
            clear hpu
            by_cases hu1 : u + 1 < n
            · have hcu : c2 ≠ u + 1 := by omega
              go_wp2_with fail
              go_loopw [9, 13, 14, 15, 16, 55] (fun fv _ _ _ _ tv w2 => ∃ (t a2 b2 : Nat) (f2 : Int), u + 1 + t ≤ n ∧ tv = .int .i64 t ∧ fv = .int .i64 f2 ∧ Hid (ProgClos l n rn u (u + 1 + t) a2 b2 f2) ∧ Hid (Blk w2 w5.heap.size 60 #[.int .i64 a2, .int .i64 b2]) ∧ Hid (Below w5.heap.size w5 w2)) (fun _ _ _ _ _ tv _ => n - (intOf tv).toNat)
              case atStart => exact ⟨0, a1, b1, f1, by omega, rfl, rfl, HPc, HBe, HBw⟩
              case round =>
                obtain ⟨wi, rfl⟩ : ∃ wi : World, wi = wr := ⟨_, rfl⟩
                obtain ⟨t, a2, b2, f2, ht, rfl, rfl, HPc2, HBe2, HBw2⟩ := hrel
                by_cases hlt3 : u + 1 + t < n
                · have t3 : decide ((t : Int) < ((n - (u + 1) : Nat) : Int)) = true := decide_eq_true (by omega)
                  have m0 := (HBw2.out.cell (p := ⟨g2, u + 1 + t, none⟩) (by show g2 < w5.heap.size; omega)).trans (HRow.out (u + 1 + t) hlt3)
                  have hvl := HX.out.2.2.1 (u + 1 + t) hlt3
                  have hne := HX.out.ne (u := u) (v := u + 1 + t) (by omega) hlt3
                  have HTk := Lib.hid fun h => HPc2.out.take HX.out (show u < u + 1 + t by omega) hlt3 h
                  have HLv := Lib.hid fun h0 h => HPc2.out.leave HX.out (show u < u + 1 + t by omega) hlt3 h0 h
                  have HSt := Lib.hid fun h0 h => HPc2.out.stop HX.out (show u < u + 1 + t by omega) hlt3 h0 h
                  rw [HPu.out] at hne HTk HLv HSt
                  generalize rn.getD (u + 1 + t) 0 = pv at *
                  have cell : ∀ j, j < n * 3 → wi.cell? ⟨bk, off + j, none⟩ = some (.int .i64 (l.getD j 0)) := fun j hj => (HBw2.out.cell (p := ⟨bk, off + j, none⟩) (by show bk < w5.heap.size; omega)).trans ((HB5.out.cell (p := ⟨bk, off + j, none⟩) (by show bk < w.heap.size; omega)).trans (HCs.out j hj))
                  have b0 := ((HP0.out.below HBw2.out (by omega)).cell 0).trans rfl
                  have y0 := cell (pu * 3) (by omega)
                  have y1 := cell (pu * 3 + 1) (by omega)
                  have y2 := cell (pu * 3 + 2) (by omega)
                  have z0 := cell (pv * 3) (by omega)
                  have z1 := cell (pv * 3 + 1) (by omega)
                  have z2 := cell (pv * 3 + 2) (by omega)
                  have HF := Lib.hid fun W => nearFar_any (l.getD (pu * 3) 0) (l.getD (pu * 3 + 1) 0) (l.getD (pu * 3 + 2) 0) (l.getD (pv * 3) 0) (l.getD (pv * 3 + 1) 0) (l.getD (pv * 3 + 2) 0) W (HCo.out _ (by omega)) (HCo.out _ (by omega)) (HCo.out _ (by omega)) (HCo.out _ (by omega))
                  have HDv : Hid (dist2 l pu pv = (l.getD (pu * 3) 0 - l.getD (pv * 3) 0) * (l.getD (pu * 3) 0 - l.getD (pv * 3) 0) + (l.getD (pu * 3 + 1) 0 - l.getD (pv * 3 + 1) 0) * (l.getD (pu * 3 + 1) 0 - l.getD (pv * 3 + 1) 0)) := Lib.hid (by unfold dist2; rfl)
                  rw [← HDv.out] at HF
                  have hx0 := HCo.out (pu * 3) (by omega)
                  have hx1 := HCo.out (pv * 3) (by omega)
                  clear HDv cell
                  generalize l.getD (pu * 3) 0 = x0 at *
                  generalize l.getD (pu * 3 + 1) 0 = x1 at *
                  generalize l.getD (pu * 3 + 2) 0 = x2 at *
                  generalize l.getD (pv * 3) 0 = x3 at *
                  generalize l.getD (pv * 3 + 1) 0 = x4 at *
                  generalize l.getD (pv * 3 + 2) 0 = x5 at *
                  obtain ⟨gap, hgap⟩ : ∃ g, x3 - x0 = g := ⟨_, rfl⟩
                  have hgb := sq_bd (a := gap) (by omega)
                  rw [hgap] at HSt
                  have hgw : IntKind.i64.wrap (x3 - x0) = gap := by rw [IntKind.wrap_i64]; omega
                  have hgw2 : wrap64 (x3 - x0) = gap := by unfold wrap64; omega
                  have n5 : (pu : Int) < (n : Int) := by omega
                  have n6 : (pv : Int) < (n : Int) := by omega
                  obtain ⟨gg, hg⟩ : ∃ g, gap * gap = g := ⟨_, rfl⟩
                  rw [hg] at HSt hgb
                  have hgg : wrap64 (gap * gap) = gg := by rw [hg]; unfold wrap64; omega
                  clear hx0 hx1 hg hgap
                  by_cases hbr : 0 ≤ f2 ∧ f2 < gg
                  · have u0 : decide ((0 : Int) ≤ f2) = true := decide_eq_true hbr.1
                    have u1 : decide (f2 < gg) = true := decide_eq_true hbr.2
                    have HN := Lib.hid (HSt.out hbr.1 hbr.2)
                    clear HTk HLv HSt
                    go_wp2_with fail
                    go_quiet (fail)
                    go_wp2_with fail
                    exact ⟨⟨u + 1, a2, b2, f2, by omega, by go_num, rfl, Lib.hid (HN.out.row h2), Lib.hid (HBe2.out.drewN _), Lib.hid (below_drewN HBw2.out _)⟩, by simp [intOf]; omega⟩
                  · have hpc : (pu < pv ∧ min pu pv = pu ∧ max pu pv = pv) ∨ (pv < pu ∧ min pu pv = pv ∧ max pu pv = pu) := by omega
                    have HF0 : Hid (0 ≤ f2 → ¬ f2 < gg) := Lib.hid fun h g => hbr ⟨h, g⟩
                    have ug : decide (f2 < gg) = false ∨ decide ((0 : Int) ≤ f2) = false := by
                      by_cases h : 0 ≤ f2
                      · exact .inl (decide_eq_false (HF0.out h))
                      · exact .inr (decide_eq_false h)
                    have hua : Hid ((decide ((0 : Int) ≤ f2) && decide (f2 < gg)) = false) := Lib.hid (by rcases ug with h | h <;> rw [h] <;> simp)
                    clear HSt hgb
                    go_wp2_with fail
                    go_quiet (fail)
                    go_upto_region 21 with fail
                    go_cut [78] from 70 to 78 (fun v wx => v = .bool false ∧ wx = wi.drewN nq)
                    case first =>
                      clear HTk HLv HF HBe2 HBw2 HPc2 HF0 hua
                      rcases ug with ug | ug
                      · go_wp2_with fail
                        all_goals (go_meet; case rel => first | exact ⟨rfl, rfl⟩ | exact ⟨vbool (by simp <;> omega), rfl⟩)
                      · go_wp2_with fail
                        all_goals (go_meet; case rel => first | exact ⟨rfl, rfl⟩ | exact ⟨vbool (by simp <;> omega), rfl⟩)
                    case rest =>
                      obtain ⟨rfl, rfl⟩ := hcut
                      clear ug hua
                      go_upto_region 22 with fail
                      have b0 : (wi.drewN nq).cell? ⟨w.heap.size, 0, none⟩ = some (.slice (some ⟨bk, off, none⟩) n c) := b0
                      have y0 : (wi.drewN nq).cell? ⟨bk, off + pu * 3, none⟩ = some (.int .i64 x0) := y0
                      have y1 : (wi.drewN nq).cell? ⟨bk, off + pu * 3 + 1, none⟩ = some (.int .i64 x1) := y1
                      have y2 : (wi.drewN nq).cell? ⟨bk, off + pu * 3 + 2, none⟩ = some (.int .i64 x2) := y2
                      have z0 : (wi.drewN nq).cell? ⟨bk, off + pv * 3, none⟩ = some (.int .i64 x3) := z0
                      have z1 : (wi.drewN nq).cell? ⟨bk, off + pv * 3 + 1, none⟩ = some (.int .i64 x4) := z1
                      have z2 : (wi.drewN nq).cell? ⟨bk, off + pv * 3 + 2, none⟩ = some (.int .i64 x5) := z2
                      have HBe3 := Lib.hid (HBe2.out.drewN nq)
                      have HBw3 := Lib.hid (below_drewN HBw2.out nq)
                      have hzd : w5.heap.size < (wi.drewN nq).heap.size := HBe3.out.lt
                      clear HBe2 HBw2 m0
                      generalize wi.drewN nq = wd at *
                      go_cut [15, 16] from 79 to 94 (fun qv fv wx => ∃ gp : Nat, qv = .pointer (some ⟨gp, 0, none⟩) ∧ fv = .int .i64 (dist2 l pu pv) ∧ w5.heap.size < gp ∧ Hid (Blk wx gp 60 #[.int .i64 (min pu pv : Nat), .int .i64 (max pu pv : Nat)]) ∧ Hid (Blk wx w5.heap.size 60 #[.int .i64 a2, .int .i64 b2]) ∧ Hid (Below w5.heap.size w5 wx))
                      case first =>
                        clear HTk HLv HPc2 HF0
                        clear hpc hne
                        go_region_held3 (fun w' => w'.cell? ⟨w.heap.size, 0, none⟩ = some (.slice (some ⟨bk, off, none⟩) n c) ∧ w'.cell? ⟨bk, off + pu * 3, none⟩ = some (.int .i64 x0) ∧ w'.cell? ⟨bk, off + pu * 3 + 1, none⟩ = some (.int .i64 x1) ∧ w'.cell? ⟨bk, off + pu * 3 + 2, none⟩ = some (.int .i64 x2) ∧ w'.cell? ⟨bk, off + pv * 3, none⟩ = some (.int .i64 x3) ∧ w'.cell? ⟨bk, off + pv * 3 + 1, none⟩ = some (.int .i64 x4) ∧ w'.cell? ⟨bk, off + pv * 3 + 2, none⟩ = some (.int .i64 x5))
                        (first
                          | exact ⟨b0, y0, y1, y2, z0, z1, z2⟩
                          | exact ⟨kept_alloc (show w.heap.size < wd.heap.size by omega) b0, kept_alloc (show bk < wd.heap.size by omega) y0, kept_alloc (show bk < wd.heap.size by omega) y1, kept_alloc (show bk < wd.heap.size by omega) y2, kept_alloc (show bk < wd.heap.size by omega) z0, kept_alloc (show bk < wd.heap.size by omega) z1, kept_alloc (show bk < wd.heap.size by omega) z2⟩
                          | exact ⟨kept_call hbf (by show w.heap.size < wd.heap.size; omega) b0, kept_call hbf (by show bk < wd.heap.size; omega) y0, kept_call hbf (by show bk < wd.heap.size; omega) y1, kept_call hbf (by show bk < wd.heap.size; omega) y2, kept_call hbf (by show bk < wd.heap.size; omega) z0, kept_call hbf (by show bk < wd.heap.size; omega) z1, kept_call hbf (by show bk < wd.heap.size; omega) z2⟩
                          | exact ⟨kept_calloc hbf (by show w.heap.size < wd.heap.size; omega) b0, kept_calloc hbf (by show bk < wd.heap.size; omega) y0, kept_calloc hbf (by show bk < wd.heap.size; omega) y1, kept_calloc hbf (by show bk < wd.heap.size; omega) y2, kept_calloc hbf (by show bk < wd.heap.size; omega) z0, kept_calloc hbf (by show bk < wd.heap.size; omega) z1, kept_calloc hbf (by show bk < wd.heap.size; omega) z2⟩
                          | exact ⟨kept_allocc hbf (by show w.heap.size < wd.heap.size; omega) b0, kept_allocc hbf (by show bk < wd.heap.size; omega) y0, kept_allocc hbf (by show bk < wd.heap.size; omega) y1, kept_allocc hbf (by show bk < wd.heap.size; omega) y2, kept_allocc hbf (by show bk < wd.heap.size; omega) z0, kept_allocc hbf (by show bk < wd.heap.size; omega) z1, kept_allocc hbf (by show bk < wd.heap.size; omega) z2⟩
                          | exact ⟨kept_allocd hbf (by show w.heap.size < wd.heap.size; omega) b0, kept_allocd hbf (by show bk < wd.heap.size; omega) y0, kept_allocd hbf (by show bk < wd.heap.size; omega) y1, kept_allocd hbf (by show bk < wd.heap.size; omega) y2, kept_allocd hbf (by show bk < wd.heap.size; omega) z0, kept_allocd hbf (by show bk < wd.heap.size; omega) z1, kept_allocd hbf (by show bk < wd.heap.size; omega) z2⟩
                          | exact ⟨kept_allocset hbf (by show w.heap.size < wd.heap.size; omega) b0, kept_allocset hbf (by show bk < wd.heap.size; omega) y0, kept_allocset hbf (by show bk < wd.heap.size; omega) y1, kept_allocset hbf (by show bk < wd.heap.size; omega) y2, kept_allocset hbf (by show bk < wd.heap.size; omega) z0, kept_allocset hbf (by show bk < wd.heap.size; omega) z1, kept_allocset hbf (by show bk < wd.heap.size; omega) z2⟩)
                        ((go_at_call 78; refine (HF.out _).mono ?_; rintro e wf ⟨rfl, hbf⟩; have hzf := hbf.size; first | (have hnp := new_pair hbf; have s0 := (hnp.cell 0).trans rfl; have s1 := (hnp.cell 1).trans rfl; have r0 := hnp.frozen 0; have r1 := hnp.frozen 1; have HNp := Lib.hid hnp; clear hnp) | (have HNp : Hid True := Lib.hid trivial)))
                        all_goals go_wp2_with fail
                        all_goals (have hdr : wd.drew.heap.size = wd.heap.size := rfl)
                        all_goals (have hda : ∀ o, (wd.alloc o).drew.heap.size = wd.heap.size + 1 := fun o => by show (wd.alloc o).heap.size = _; simp)
                        all_goals (go_meet; case rel => first
                          | exact ⟨_, rfl, rfl, by omega, Lib.hid (by rw [natmin_cast, natmax_cast]; exact Blk.new _ _ _), Lib.hid ((HBe3.out.drew.below (w' := wf) hbf hzd).alloc _), Lib.hid ((HBw3.out.drew.trans (hbf.mono (by omega))).alloc (by omega) _)⟩
                          | exact ⟨_, rfl, rfl, by omega, Lib.hid (by rw [natmin_cast, natmax_cast]; exact res2_blk (new_pair hbf)), Lib.hid (res2_far ((HBe3.out.alloc _).drew.below hbf (by rw [hda]; omega)) (by omega)), Lib.hid (res2_belowB (((HBw3.out.alloc (by omega) _).drew).trans (hbf.mono (by rw [hda]; omega))) (by omega))⟩
                          | exact ⟨_, rfl, rfl, by omega, Lib.hid (by rw [natmin_cast, natmax_cast]; exact new_pair hbf), Lib.hid ((HBe3.out.alloc _).drew.below hbf (by rw [hda]; omega)), Lib.hid (((HBw3.out.alloc (by omega) _).drew).trans (hbf.mono (by rw [hda]; omega)))⟩)
                      case rest =>
                        obtain ⟨gp, rfl, rfl, hgp, HPp, HBe4, HBw4⟩ := hcut
                        have r0 := (HPp.out.cell 0).trans rfl
                        have r1 := (HPp.out.cell 1).trans rfl
                        have s0 := (HBe4.out.cell 0).trans rfl
                        have s1 := (HBe4.out.cell 1).trans rfl
                        have w0 := HBe4.out.frozen 0
                        have w1' := HBe4.out.frozen 1
                        have HDn := dist2_nonneg l pu pv
                        generalize dist2 l pu pv = dd at *
                        obtain ⟨pa, hpa⟩ : ∃ p, min pu pv = p := ⟨_, rfl⟩
                        obtain ⟨pb, hpb⟩ : ∃ p, max pu pv = p := ⟨_, rfl⟩
                        rw [hpa, hpb] at HTk HLv HPp
                        rw [hpa] at r0
                        rw [hpb] at r1
                        clear hpa hpb hpc hne HF b0 y0 y1 y2 z0 z1 z2 hgg hgw hgw2 HBe3 HBw3
                        have HBN : Hid (Blk ((wc.setCell ⟨w5.heap.size, 0, none⟩ (.int .i64 (pa : Int))).setCell ⟨w5.heap.size, 1, none⟩ (.int .i64 (pb : Int))) w5.heap.size 60 #[.int .i64 (pa : Int), .int .i64 (pb : Int)]) := Lib.hid (res2_blk HBe4.out)
                        have HWN : Hid (Below w5.heap.size w5 ((wc.setCell ⟨w5.heap.size, 0, none⟩ (.int .i64 (pa : Int))).setCell ⟨w5.heap.size, 1, none⟩ (.int .i64 (pb : Int)))) := Lib.hid (res2_belowB HBw4.out (Nat.le_refl _))
                        by_cases hA : f2 < 0
                        · have HN := Lib.hid (HTk.out (.inl hA))
                          have t4 : decide (f2 < 0) = true := decide_eq_true hA
                          clear HTk HLv
                          go_wp2_with fail
                          go_roundw
                          case rel => exact ⟨t + 1, pa, pb, dd, by omega, by go_num, rfl, HN, HBN, HWN⟩
                          case measure => simp [intOf]; omega
                        have t4 : decide (f2 < 0) = false := decide_eq_false hA
                        by_cases hB1 : dd < f2
                        · have HN := Lib.hid (HTk.out (.inr (.inl hB1)))
                          have t5 : decide (dd < f2) = true := decide_eq_true hB1
                          clear HTk HLv
                          go_wp2_with fail
                          go_roundw
                          case rel => exact ⟨t + 1, pa, pb, dd, by omega, by go_num, rfl, HN, HBN, HWN⟩
                          case measure => simp [intOf]; omega
                        have t5 : decide (dd < f2) = false := decide_eq_false hB1
                        by_cases hE : dd = f2
                        rotate_left
                        · have HN := Lib.hid (HLv.out (by omega) (by omega))
                          have t6 : (dd == f2) = false := beq_eq_false_iff_ne.2 hE
                          clear HTk HLv
                          go_wp2_with fail
                          go_roundw
                          case rel => exact ⟨t + 1, a2, b2, f2, by omega, by go_num, rfl, HN, HBe4, HBw4⟩
                          case measure => simp [intOf]; omega
                        have t6 : (dd == f2) = true := beq_iff_eq.2 hE
                        by_cases hP : pa < a2
                        · have HN := Lib.hid (HTk.out (.inr (.inr ⟨hE, .inl hP⟩)))
                          have t7 : decide ((pa : Int) < (a2 : Int)) = true := decide_eq_true (by omega)
                          have hE' := Lib.hid hE
                          clear HTk HLv hE
                          go_wp2_with fail
                          go_roundw
                          case rel => exact ⟨t + 1, pa, pb, dd, by omega, by go_num, rfl, HN, HBN, HWN⟩
                          case measure => simp [intOf]; omega
                        have t7 : decide ((pa : Int) < (a2 : Int)) = false := decide_eq_false (by omega)
                        by_cases hQ : pa = a2
                        rotate_left
                        · have HN := Lib.hid (HLv.out (by omega) (by omega))
                          have t8 : ((pa : Int) == (a2 : Int)) = false := beq_eq_false_iff_ne.2 (by omega)
                          have hE' := Lib.hid hE
                          clear HTk HLv hE
                          go_wp2_with fail
                          go_roundw
                          case rel => exact ⟨t + 1, a2, b2, f2, by omega, by go_num, rfl, HN, HBe4, HBw4⟩
                          case measure => simp [intOf]; omega
                        have t8 : ((pa : Int) == (a2 : Int)) = true := beq_iff_eq.2 (by omega)
                        by_cases hS : pb < b2
                        · have HN := Lib.hid (HTk.out (.inr (.inr ⟨hE, .inr ⟨hQ, hS⟩⟩)))
                          have t9 : decide ((pb : Int) < (b2 : Int)) = true := decide_eq_true (by omega)
                          have hE' := Lib.hid hE
                          have hQ' := Lib.hid hQ
                          clear HTk HLv hE hQ
                          go_wp2_with fail
                          go_roundw
                          case rel => exact ⟨t + 1, pa, pb, dd, by omega, by go_num, rfl, HN, HBN, HWN⟩
                          case measure => simp [intOf]; omega
                        · have HN := Lib.hid (HLv.out (by omega) (by omega))
                          have t9 : decide ((pb : Int) < (b2 : Int)) = false := decide_eq_false (by omega)
                          have hE' := Lib.hid hE
                          have hQ' := Lib.hid hQ
                          clear HTk HLv hE hQ
                          go_wp2_with fail
                          go_roundw
                          case rel => exact ⟨t + 1, a2, b2, f2, by omega, by go_num, rfl, HN, HBe4, HBw4⟩
                          case measure => simp [intOf]; omega
                · obtain rfl : n = u + 1 + t := by omega
                  have i7 : ¬ (t : Int) < ((u + 1 + t - (u + 1) : Nat) : Int) := by omega
                  have i8 : decide ((t : Int) < ((u + 1 + t - (u + 1) : Nat) : Int)) = false := decide_eq_false i7
                  go_wp2_with fail
                  go_roundw
                  case rel => exact ⟨u + 1, a2, b2, f2, by omega, by go_num, rfl, Lib.hid (HPc2.out.row h2), HBe2, HBw2⟩
                  case measure => simp [intOf]; omega
            · have hz0 : ((n - (u + 1) : Nat) : Int) = 0 := by omega
              have i9 : ¬ (0 : Int) < ((n - (u + 1) : Nat) : Int) := by omega
              by_cases hcu : c2 = u + 1
              · subst hcu
                go_wp2_with fail
                go_loopw [9, 13, 14, 15, 16, 55] (fun fv _ _ _ _ tv w2 => tv = .int .i64 0 ∧ fv = .int .i64 f1 ∧ w2 = wo) (fun _ _ _ _ _ _ _ => 0)
                case atStart => exact ⟨rfl, rfl, rfl⟩
                case round =>
                  obtain ⟨rfl, rfl, rfl⟩ := hrel
                  go_wp2_with fail
                  go_roundw
                  case rel => exact ⟨u + 1, a1, b1, f1, by omega, by go_num, rfl, Lib.hid (ProgClos.row (by have := HPc.out; rwa [show u + 1 = n from by omega] at this) h2), HBe, HBw⟩
                  case measure => simp [intOf]; omega
              · go_wp2_with fail
                go_loopw [9, 13, 14, 15, 16, 55] (fun fv _ _ _ _ tv w2 => tv = .int .i64 0 ∧ fv = .int .i64 f1 ∧ w2 = wo) (fun _ _ _ _ _ _ _ => 0)
                case atStart => exact ⟨rfl, rfl, rfl⟩
                case round =>
                  obtain ⟨rfl, rfl, rfl⟩ := hrel
                  go_wp2_with fail
                  go_roundw
                  case rel => exact ⟨u + 1, a1, b1, f1, by omega, by go_num, rfl, Lib.hid (ProgClos.row (by have := HPc.out; rwa [show u + 1 = n from by omega] at this) h2), HBe, HBw⟩
                  case measure => simp [intOf]; omega
          · obtain rfl : n = u := by omega
            have i7 : ¬ (n : Int) < (n : Int) := by omega
            obtain ⟨rfl, rfl, rfl⟩ := (HPc.out.done HX.out (Nat.le_refl _) h2).uniq HCl.out
            have HK1 := Lib.hid (HP1.out.below HBw.out (by omega))
            have p0 := (HBe.out.cell 0).trans rfl
            have p1 := (HBe.out.cell 1).trans rfl
            have k0 := (HK1.out.cell 0).trans rfl
            have k1 := (HK1.out.cell 1).trans rfl
            have g0 := HK1.out.frozen 0
            have g1 := HK1.out.frozen 1
            go_wp2_with fail
            obtain ⟨q0, q1⟩ := res2_cells (a := .int .i64 (a1 : Int)) (b := .int .i64 (b1 : Int)) HK1.out
            exact bodyPost_ret (v := .tuple #[.agg #[.int .i64 (a1 : Int), .int .i64 (b1 : Int)], .int .i64 f1, .int .i64 0]) (by simp [results, Try.results33, go_sem, q0, q1]) rfl ⟨rfl, res2_below (HB5.out.trans (HBw.out.mono HB5.out.size)) (by omega)⟩
end Go.Proofs.Ytaipnjoeejgnnaa
