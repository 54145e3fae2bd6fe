/-
  Contracts of the methods of grid's heap of places: Len, Less, Swap, Pop; and of cmp.Or at two numbers. Conditions: the heap lies in memory, its places are places of points.
-/
import Derived.Test.YthiccmncdmohbaaGreatMGridTops39
import Derived.Test.YthiccmncdmohbaaGreatMGridTops13
import Derived.Test.YthiccmncdmohbaaGreatMGridTops40
import Derived.Test.YthiccmncdmohbaaGreatMGridTops41
import Derived.Deep.RegionHeld3
import Derived.BigQuiet
set_option linter.unusedVariables false
set_option linter.unusedSimpArgs false
namespace Go.Dam
open Go Go.RowKit
/-- A heap of places in memory: the struct lies in block hb, its places are the call's own row, the points can be read. -/
structure HeapAt (w : World) (base tH tI hb : Nat) (A : Option Addr) (m c : Nat) (pv : Value) (L : List Int) : Prop where
  box : Blk w hb tH #[.slice A m c, pv]
  own : w.ownsRow base tI 1 (.slice A m c) m (L.map (Value.int .i64))
end Go.Dam
namespace Go.Proofs.YthiccmncdmohbaaGreat
open Go Go.RowKit Go.Dam Go.Shelf Go.Dam.Stable
set_option linter.unusedVariables false
set_option maxHeartbeats 1000000 in
theorem cmpOr2_any (a b : Int) (g : Nat) (w : World) (h0 : w.cell? ⟨g, 0, none⟩ = some (.int .i64 a)) (h1 : w.cell? ⟨g, 1, none⟩ = some (.int .i64 b)) :
    Calls Tryz.prog 27 #[.slice (some ⟨g, 0, none⟩) 2 2] w fun e w' => e = .returned (.int .i64 (or2 a b)) ∧ ∃ q, w' = w.drewN q := by
  have hw := cell_lt h0
  have hcs : ∀ i, i < 2 → w.cell? ⟨g, i, none⟩ = some (.int .i64 (if i = 0 then a else b)) := fun i hi => by
    rcases (show i = 0 ∨ i = 1 by omega) with rfl | rfl
    · exact h0
    · exact h1
  have HCs := Lib.hid hcs
  clear hcs h0 h1
  go_enter Tryz.func27, Tryz.ntmps27
  go_wp2_with fail
  go_loopw [5, 8] (fun _ iv wr => ∃ i : Nat, i ≤ 2 ∧ iv = .int .i64 i ∧ (0 < i → a = 0) ∧ (1 < i → b = 0) ∧ ∃ q, wr = w.drewN q) (fun _ iv _ => 2 - (intOf iv).toNat)
  case atStart => exact ⟨0, by omega, rfl, by omega, by omega, 0, rfl⟩
  case round =>
    obtain ⟨i, hi, rfl, ha, hb, q, rfl⟩ := hrel
    by_cases hlt : i < 2
    · have i1 : (i : Int) < 2 := by omega
      have hci : (w.drewN q).cell? ⟨g, i, none⟩ = some (.int .i64 (if i = 0 then a else b)) := HCs.out i hlt
      obtain ⟨z, hz⟩ : ∃ z, (if i = 0 then a else b) = z := ⟨_, rfl⟩
      rw [hz] at hci
      by_cases h0 : z = 0
      · have t1 : (z != 0) = false := by simp [h0]
        have HZ : Hid ((0 < i + 1 → a = 0) ∧ (1 < i + 1 → b = 0)) := Lib.hid (by
          rcases (show i = 0 ∨ i = 1 by omega) with rfl | rfl
          · exact ⟨fun _ => by simp at hz; omega, by omega⟩
          · exact ⟨fun _ => ha (by omega), fun _ => by simp at hz; omega⟩)
        clear ha hb hz h0
        go_wp2_with fail
        go_roundw
        case rel => exact ⟨i + 1, by omega, by go_num, HZ.out.1, HZ.out.2, q, rfl⟩
        case measure => simp [intOf]; omega
      · have t1 : (z != 0) = true := bne_iff_ne.2 h0
        have HZ : Hid (or2 a b = z) := Lib.hid (by
          unfold or2
          rcases (show i = 0 ∨ i = 1 by omega) with rfl | rfl
          · simp at hz; rw [hz, if_pos h0]
          · simp at hz; rw [if_neg (by simp [ha (by omega)]), hz])
        clear ha hb hz h0
        go_wp2_with fail
        go_ret
        exact ⟨by rw [HZ.out]; rfl, q, rfl⟩
    · obtain rfl : i = 2 := by omega
      have HZ : Hid (or2 a b = 0) := Lib.hid (by unfold or2; rw [if_neg (by simp [ha (by omega)]), hb (by omega)])
      clear ha hb
      go_wp2_with fail
      go_ret
      exact ⟨by rw [HZ.out]; rfl, q, rfl⟩
set_option maxHeartbeats 1000000 in
theorem heapLen_any (hb m c : Nat) (A : Option Addr) (pv : Value) (w : World) (h : Blk w hb 34 #[.slice A m c, pv]) :
    Calls Tryz.prog 9 #[.pointer (some ⟨hb, 0, none⟩)] w fun e w' => e = .returned (.int .i64 m) ∧ w' = w := by
  have c0 : w.cell? ⟨hb, 0, none⟩ = some (.slice A m c) := h.cell 0
  go_enter Tryz.func9, Tryz.ntmps9
  go_wp2_with fail
  go_ret
  exact ⟨rfl, rfl⟩
set_option maxRecDepth 100000 in
set_option maxHeartbeats 4000000 in
theorem heapLess_any (hb g m c np cp bk off i j pi pj : Nat) (W0 W1 : Int) (w : World) (hm : m ≤ 1000) (hnp : np ≤ 1000) (hi : i < m) (hj : j < m) (hpi : pi < np) (hpj : pj < np)
    (h0 : w.cell? ⟨hb, 0, none⟩ = some (.slice (some ⟨g, 0, none⟩) m c)) (h1 : w.cell? ⟨hb, 1, none⟩ = some (.slice (some ⟨bk, off, none⟩) np cp))
    (o0 : w.cell? ⟨g, i, none⟩ = some (.int .i64 pi)) (o1 : w.cell? ⟨g, j, none⟩ = some (.int .i64 pj))
    (c0 : w.cell? ⟨bk, off + pi * 3 + 2, none⟩ = some (.int .i64 W0)) (c1 : w.cell? ⟨bk, off + pj * 3 + 2, none⟩ = some (.int .i64 W1)) :
    Calls Tryz.prog 114 #[.pointer (some ⟨hb, 0, none⟩), .int .i64 i, .int .i64 j] w fun e w' => e = .returned (.bool (decide (or2 (Lib.compareInt W1 W0) (Lib.compareInt pi pj) < 0))) ∧ Below w.heap.size w w' := by
  have i1 : (i : Int) < (m : Int) := by omega
  have j1 : (j : Int) < (m : Int) := by omega
  have i2 : (pi : Int) < (np : Int) := by omega
  have j2 : (pj : Int) < (np : Int) := by omega
  have l0 := cell_lt h0
  have l1 : g < w.heap.size := cell_lt o0
  have l2 : bk < w.heap.size := cell_lt c0
  have HC := Lib.hid cmpCompareI
  have HO := Lib.hid cmpOr2_any
  obtain ⟨x, hx⟩ : ∃ x, x = Lib.compareInt W1 W0 := ⟨_, rfl⟩
  obtain ⟨y, hy⟩ : ∃ x, x = Lib.compareInt (pi : Int) (pj : Int) := ⟨_, rfl⟩
  have HX := Lib.hid fun w => HC.out W1 W0 w
  have HY := Lib.hid fun w => HC.out pi pj w
  rw [← hx] at HX
  rw [← hy] at HY
  rw [← hx, ← hy]
  obtain ⟨z, hz⟩ : ∃ z, z = or2 x y := ⟨_, rfl⟩
  have HZ : Hid (∀ g w, w.cell? ⟨g, 0, none⟩ = some (.int .i64 x) → w.cell? ⟨g, 1, none⟩ = some (.int .i64 y) → Calls Tryz.prog 27 #[.slice (some ⟨g, 0, none⟩) 2 2] w fun e w' => e = .returned (.int .i64 z) ∧ ∃ q, w' = w.drewN q) := Lib.hid fun g w a b => by rw [hz]; exact HO.out x y g w a b
  rw [← hz]
  clear hx hy hz HC HO
  go_enter Tryz.func114, Tryz.ntmps114
  go_wp2_with fail
  go_quiet (fail)
  go_wp2_with fail
  obtain ⟨W2, hW2⟩ : ∃ W2, W2 = w.drewN nq := ⟨_, rfl⟩
  have HW2 := Lib.hid hW2
  have h1 : W2.cell? ⟨hb, 1, none⟩ = some (.slice (some ⟨bk, off, none⟩) np cp) := by rw [hW2]; exact h1
  have c0 : W2.cell? ⟨bk, off + pi * 3 + 2, none⟩ = some (.int .i64 W0) := by rw [hW2]; exact c0
  have c1 : W2.cell? ⟨bk, off + pj * 3 + 2, none⟩ = some (.int .i64 W1) := by rw [hW2]; exact c1
  have l0 := cell_lt h1
  have l2 : bk < W2.heap.size := cell_lt c0
  rw [← hW2]
  clear hW2
  go_region_held3 (fun w' => w'.cell? ⟨hb, 1, none⟩ = some (.slice (some ⟨bk, off, none⟩) np cp) ∧ w'.cell? ⟨bk, off + pi * 3 + 2, none⟩ = some (.int .i64 W0) ∧ w'.cell? ⟨bk, off + pj * 3 + 2, none⟩ = some (.int .i64 W1))
    (first
      | exact ⟨h1, c0, c1⟩
      | exact ⟨kept_alloc l0 h1, kept_alloc l2 c0, kept_alloc l2 c1⟩)
    (first
      | (go_at_call 28; (with_reducible refine (HX.out _).mono ?_); rintro e w' ⟨rfl, rfl⟩)
      | (go_at_call 28; (with_reducible refine (HY.out _).mono ?_); rintro e w' ⟨rfl, rfl⟩)
      | (go_at_call 27; refine (HZ.out _ _ (((Blk.new W2 3 #[.int .i64 x, .int .i64 y]).drew.cell 0).trans rfl) (((Blk.new W2 3 #[.int .i64 x, .int .i64 y]).drew.cell 1).trans rfl)).mono ?_; rintro e w' ⟨rfl, q, rfl⟩))
  all_goals go_wp2_with fail
  all_goals go_ret
  all_goals exact ⟨rfl, below_drewN (Below.alloc (show Below w.heap.size w W2 by rw [HW2.out]; exact below_drewN (Below.refl _ _) _) (by rw [HW2.out]; exact Nat.le_refl _) _) _⟩
theorem own_atI {w : World} {base g n c : Nat} {l : List Int} (h : w.ownsRow base 3 1 (.slice (some ⟨g, 0, none⟩) n c) n (l.map (Value.int .i64))) (hl : l.length = n) {i : Nat} (hi : i < n) : w.cell? ⟨g, i, none⟩ = some (.int .i64 (l.getD i 0)) := by
  rw [h.cellAt i (by omega), List.getElem?_map, List.getElem?_eq_getElem (by omega), List.getD_eq_getElem?_getD, List.getElem?_eq_getElem (by omega)]; rfl
set_option maxRecDepth 100000 in
set_option maxHeartbeats 4000000 in
theorem heapSwap_any (base hb g m c i j : Nat) (pv : Value) (L : List Int) (w : World) (hm : m ≤ 1000) (hi : i < m) (hj : j < m) (hL : L.length = m) (h : HeapAt w base 34 3 hb (some ⟨g, 0, none⟩) m c pv L) :
    Calls Tryz.prog 116 #[.pointer (some ⟨hb, 0, none⟩), .int .i64 i, .int .i64 j] w fun e w' => e = .returned (.tuple #[]) ∧ HeapAt w' base 34 3 hb (some ⟨g, 0, none⟩) m c pv (Heap.sw L i j) ∧ w.grownBy w' (some g) := by
  have h0 : w.cell? ⟨hb, 0, none⟩ = some (.slice (some ⟨g, 0, none⟩) m c) := h.box.cell 0
  have hc := own_cap h.own
  have oi := own_atI h.own hL hi
  have oj := own_atI h.own hL hj
  have fi := (own_cell0 h.own hi).2
  have fj := (own_cell0 h.own hj).2
  have i1 : (i : Int) < (m : Int) := by omega
  have j1 : (j : Int) < (m : Int) := by omega
  have H := Lib.hid h
  obtain ⟨x, hx⟩ : ∃ x, x = L.getD i 0 := ⟨_, rfl⟩
  obtain ⟨y, hy⟩ : ∃ x, x = L.getD j 0 := ⟨_, rfl⟩
  rw [← hx] at oi
  rw [← hy] at oj
  have hne : hb ≠ g := fun e => by
    have := own_ne_blk h.own h.box (by decide)
    rw [e] at this; exact this rfl
  obtain ⟨⟨u1, ui1⟩, fi1⟩ := own_cell0 (own_set h.own hi (.int .i64 y)) hj
  obtain ⟨⟨u2, ui2⟩, fi2⟩ := own_cell0 (own_set h.own hj (.int .i64 x)) hi
  have HE : Hid (Heap.sw L i j = (L.set i y).set j x) := Lib.hid (by unfold Heap.sw Heap.at_; rw [hx, hy]; rfl)
  clear h hx hy
  go_enter Tryz.func116, Tryz.ntmps116
  go_wp2_with fail
  go_region
  all_goals go_wp2_with fail
  all_goals go_end0
  refine ⟨rfl, ⟨((H.out.box.far (p := ⟨g, i, none⟩) hne _).far (p := ⟨g, j, none⟩) hne _).drew, ?_⟩, ⟨rfl, rfl, rfl, by simp [World.setCell], fun k hk hkg => ?_⟩⟩
  · have := own_set (own_set H.out.own hi (.int .i64 y)) hj (.int .i64 x)
    rw [HE.out, List.map_set, List.map_set]
    exact this
  · have hkg' : k ≠ g := fun e => hkg (by rw [e])
    exact (Below.heap_setCell _ ⟨g, j, none⟩ _ k hkg').trans (Below.heap_setCell _ ⟨g, i, none⟩ _ k hkg')
set_option maxHeartbeats 4000000 in
theorem heapPop1_any (base hb g m c : Nat) (pv : Value) (L : List Int) (w : World) (hm : m + 1 ≤ 1000) (hL : L.length = m + 1) (h : HeapAt w base 34 3 hb (some ⟨g, 0, none⟩) (m + 1) c pv L) :
    Calls Tryz.prog 115 #[.pointer (some ⟨hb, 0, none⟩)] w fun e w' => e = .returned (.iface 3 (.int .i64 (L.getD m 0))) ∧ HeapAt w' base 34 3 hb (some ⟨g, 0, none⟩) m c pv (L.take m) ∧ BelowBut w.heap.size hb w w' := by
  have h0 : w.cell? ⟨hb, 0, none⟩ = some (.slice (some ⟨g, 0, none⟩) (m + 1) c) := h.box.cell 0
  have f0 := h.box.frozen 0
  have hc := own_cap h.own
  have om := own_atI h.own hL (show m < m + 1 by omega)
  have e1 : ((m + 1 : Nat) : Int) - 1 = (m : Int) := by omega
  have i1 : (m : Int) < ((m + 1 : Nat) : Int) := by omega
  have i2 : (m : Int) ≤ (c : Int) := by omega
  have i3 : (m : Int) ≤ ((m + 1 : Nat) : Int) := by omega
  have w1 : IntKind.i64.wrap (m : Int) = (m : Int) := by rw [IntKind.wrap_i64]; omega
  have H := Lib.hid h
  obtain ⟨x, hx⟩ : ∃ x, x = L.getD m 0 := ⟨_, rfl⟩
  rw [← hx] at om ⊢
  have hne : hb ≠ g := fun e => by
    have := own_ne_blk h.own h.box (by decide)
    rw [e] at this; exact this rfl
  clear h hx
  go_enter Tryz.func115, Tryz.ntmps115
  go_wp2_with fail
  go_ret
  refine ⟨rfl, ⟨H.out.box.set_ 0 _, ?_⟩, (BelowBut.refl _ _ _).setCell _ _⟩
  have := own_take H.out.own (show m ≤ m + 1 by omega) (by omega)
  rw [← List.map_take] at this
  exact own_far this (p := ⟨hb, 0, none⟩) H.out.box (by decide) _
end Go.Proofs.YthiccmncdmohbaaGreat
