/-
  Contract of stab.Rooms, as far as the law asks: the code, and how many numbers it hands back. Conditions: the spans can be read as data.
-/
import Derived.Test.YtgfddolchachkaaMStabRefused18
import Derived.Test.YtgfddolchachkaaMStabRefused20
import Derived.Deep.CutRange
namespace Go.Proofs.Ytgfddolchachkaa
open Go Go.RowKit Go.Dam
set_option linter.unusedVariables false
theorem roomsFree_any (x y : Int) (n c bk off k1 k2 i : Nat) (w : World) (hi : i < n) (hn : n ≤ 100) (b1 : w.cell? ⟨k1, 0, none⟩ = some (.slice (some ⟨bk, off, none⟩) n c)) (b2 : w.cell? ⟨k2, 0, none⟩ = some (.int .i64 i)) (hx : w.cell? ⟨bk, off + i * 2, none⟩ = some (.int .i64 x)) :
    Calls Try.prog 60 #[.int .i64 y, .pointer (some ⟨k1, 0, none⟩), .pointer (some ⟨k2, 0, none⟩)] w fun e w' => e = .returned (.bool (decide (y < x))) ∧ w = w' := by
  have i1 : (i : Int) < (n : Int) := by omega
  go_enter Try.func60, Try.ntmps60
  go_wp2_with fail
  go_ret
  exact ⟨rfl, rfl⟩
set_option maxHeartbeats 1000000 in
theorem roomsIndex_any (A : Option Addr) (m cE base : Nat) (es : List Int) (x : Int) (n c bk off k1 k2 i : Nat) (w : World) (hO : w.ownsRow base 3 1 (.slice A m cE) m (es.map (Value.int .i64))) (hm : m ≤ 100) (hi : i < n) (hn : n ≤ 100) (b1 : w.cell? ⟨k1, 0, none⟩ = some (.slice (some ⟨bk, off, none⟩) n c)) (b2 : w.cell? ⟨k2, 0, none⟩ = some (.int .i64 i)) (hx : w.cell? ⟨bk, off + i * 2, none⟩ = some (.int .i64 x)) :
    Calls Try.prog 59 #[.slice A m cE, .func (.func 60) #[] #[.pointer (some ⟨k1, 0, none⟩), .pointer (some ⟨k2, 0, none⟩)]] w fun e w' => (∃ k : Int, e = .returned (.int .i64 k) ∧ -1 ≤ k ∧ k < m) ∧ w = w' := by
  have HF := Lib.hid fun y => roomsFree_any x y n c bk off k1 k2 i w hi hn b1 b2 hx
  have HO := Lib.hid hO
  have hes : es.length = m := by have := hO.1; simpa using this
  clear hO b1 b2 hx hi
  go_enter Try.func59, Try.ntmps59
  go_wp2
  go_loopw [5, 8] (fun _ iv wr => ∃ k : Nat, k ≤ m ∧ iv = .int .i64 k ∧ wr = w) (fun _ iv _ => m - (intOf iv).toNat)
  case atStart => exact ⟨0, by omega, rfl, rfl⟩
  case round =>
    obtain ⟨k, hk, rfl, rfl⟩ := hrel
    by_cases hlt : k < m
    · obtain ⟨ge, ce, hve, hbe, hlte⟩ := HO.out.form (by omega)
      injection hve with hA _ hc
      subst hA hc
      have d0 : wr.cell? ⟨ge, k, none⟩ = some (.int .i64 (es.getD k 0)) := by
        rw [HO.out.cellAt k (by omega), List.getElem?_map, List.getD_eq_getElem?_getD, List.getElem?_eq_getElem (by omega)]; rfl
      generalize es.getD k 0 = y at d0
      have hF := HF.out y
      by_cases hyx : y < x
      · rw [decide_eq_true hyx] at hF
        go_wp2_with (go_at_call 60; refine hF.mono ?_; rintro e w' ⟨rfl, rfl⟩)
        go_ret
        exact ⟨⟨k, rfl, by omega, by omega⟩, rfl⟩
      · rw [decide_eq_false hyx] at hF
        go_wp2_with (go_at_call 60; refine hF.mono ?_; rintro e w' ⟨rfl, rfl⟩)
        go_roundw
        case rel => exact ⟨k + 1, by omega, by go_num, by trivial⟩
        case measure => simp [intOf]; omega
    · obtain rfl : k = m := by omega
      go_wp2
      go_ret
      exact ⟨⟨-1, rfl, by omega, by omega⟩, by trivial⟩
/-- What lay in a world lies in another one, but for one block. -/
def KeptBut (w2 : World) (gO : Nat) (wr : World) : Prop := w2.heap.size ≤ wr.heap.size ∧ ∀ g i, g < w2.heap.size → g ≠ gO → wr.cell? ⟨g, i, none⟩ = w2.cell? ⟨g, i, none⟩
theorem KeptBut.refl (w : World) (gO : Nat) : KeptBut w gO w := ⟨Nat.le_refl _, fun _ _ _ _ => rfl⟩
theorem KeptBut.alloc {w2 wr : World} {gO : Nat} (h : KeptBut w2 gO wr) (o : Obj) : KeptBut w2 gO (wr.alloc o) := ⟨by have := h.1; simp; omega, fun g i h1 h2 => (World.cell?_alloc_lt wr o ⟨g, i, none⟩ (by show g < _; have := h.1; omega)).trans (h.2 g i h1 h2)⟩
theorem KeptBut.grown {w2 wr w' : World} {gO : Nat} {row : Option Nat} (h : KeptBut w2 gO wr) (hg : wr.grownBy w' row) (hr : ∀ k, row = some k → w2.heap.size ≤ k) : KeptBut w2 gO w' :=
  ⟨Nat.le_trans h.1 hg.size, fun g i h1 h2 => (hg.cell_far ⟨g, i, none⟩ (by show g < _; have := h.1; omega) (fun e => by have := hr g e.symm; omega)).trans (h.2 g i h1 h2)⟩
theorem KeptBut.set {w2 wr : World} {gO : Nat} (h : KeptBut w2 gO wr) {p : Addr} (hp : w2.heap.size ≤ p.block ∨ p.block = gO) (u : Value) : KeptBut w2 gO (wr.setCell p u) :=
  ⟨by simpa using h.1, fun g i h1 h2 => (World.cell?_setCell_other wr p ⟨g, i, none⟩ u (fun e => by rw [e] at hp; simp only at hp; omega)).trans (h.2 g i h1 h2)⟩
set_option maxRecDepth 100000 in
set_option maxHeartbeats 8000000 in
theorem stabRooms_any (v : Value) (n : Nat) (l : List Int) (w : World) (B : Nat) (hB : B ≤ w.heap.size) (h : IsFlat 2 w B v n l) :
    Calls Try.prog 25 #[v] w fun e w' => ∃ A m c, e = .returned (.tuple #[.slice A m c, .int .i64 (spCode n l)]) ∧ (spCode n l ≠ 0 → m = 0) ∧ (spCode n l = 0 → m = n) ∧ Below w.heap.size w w' := by
  have HC := Lib.hid fun W (hb : Below w.heap.size w W) => stabCheck_any v n l W B (Nat.le_trans hB hb.size) (h.below (hb.mono hB))
  have HF := Lib.hid h
  by_cases h0 : spCode n l = 0
  rotate_left
  · obtain ⟨A, c, rfl, hc, hm, hn, hl, hr, hw⟩ := h
    generalize spCode n l = cc at *
    have t0 : (cc != 0) = true := bne_iff_ne.2 h0
    have HBx := Lib.hid ((Below.refl w.heap.size w).alloc (Nat.le_refl _) (.cells #[.slice A n c] 38))
    have HK := Lib.hid (Blk.new w 38 #[.slice A n c])
    clear hl hr hw
    go_enter Try.func25, Try.ntmps25
    go_wp2_with (go_at_call 53; refine (HC.out _ HBx.out).mono ?_; rintro e w1 ⟨rfl, hb1⟩)
    go_ret2
    exact ⟨none, 0, 0, rfl, fun _ => rfl, fun h => absurd h h0, HBx.out.trans (hb1.mono (by simp))⟩
  · have hn100 := (spCode_ok h0).1
    have HP := Lib.hid fun W (hb : Below w.heap.size w W) => stabPlaces_any 56 _ keyLow v n l W B (Nat.le_trans hB hb.size) (h.below (hb.mono hB)) hn100
    obtain ⟨A, c, rfl, hc, hm, hn, hl, hr, hw⟩ := h
    rw [h0] at HC ⊢
    have HLn := Lib.hid hl
    have HRd := Lib.hid hr
    have HBx := Lib.hid ((Below.refl w.heap.size w).alloc (Nat.le_refl _) (.cells #[.slice A n c] 38))
    have HK := Lib.hid (Blk.new w 38 #[.slice A n c])
    have hmk := fun w' => run_make1 el_int rfl n n rfl (by omega) (by omega) w'
    rw [zerosV_eq] at hmk
    clear hl hr hw h0
    go_enter Try.func25, Try.ntmps25
    go_wp2_with (first
      | (go_at_call 53; refine (HC.out _ HBx.out).mono ?_; rintro e w1 ⟨rfl, hb1⟩; have HB1 := Lib.hid (HBx.out.trans (hb1.mono (by simp))); have HK1 := Lib.hid (HK.out.below hb1 (by simp)); have p0 : w1.cell? ⟨w.heap.size, 0, none⟩ = some (.slice A n c) := (HK1.out.cell 0).trans rfl; have p1 : ∀ o, (w1.alloc o).cell? ⟨w.heap.size, 0, none⟩ = some (.slice A n c) := fun o => ((HK1.out.alloc o).cell 0).trans rfl; have hz1 := hb1.size; clear hb1)
      | (go_at_call 54; with_reducible refine (HP.out _ (Below.alloc HB1.out HB1.out.size _)).mono ?_; rintro e w2 ⟨v2, rb, rfl, hka, hoa, hb2⟩; have HA := Lib.hid hka; have HOA := Lib.hid hoa; have HB2 := Lib.hid ((Below.alloc HB1.out HB1.out.size _).trans (hb2.mono (by simp; have := HB1.out.size; omega))); have HO2 := Lib.hid (IBlk.below (IBlk.zerosV_at 3 w1 n w1.heap.size rfl) hb2 (by simp)); have HK2 := Lib.hid (Blk.below (HK1.out.alloc _) hb2 (by simp; have := HK1.out.lt; omega)); have q0 := (HK2.out.cell 0).trans rfl; have hz2 := hb2.size; obtain ⟨A2, c2, rfl⟩ := own_shape hoa; clear hka hoa hb2))
    obtain ⟨gO, hgO⟩ : ∃ g, g = w1.heap.size := ⟨_, rfl⟩
    rw [← hgO] at HO2
    have hgw : w.heap.size < gO := by simp at hz1; omega
    have hgO2 : gO < w2.heap.size := HO2.out.lt
    have hbase : gO + 1 = (w1.alloc (.cells (zerosV n) 3)).heap.size := by simp; omega
    rw [← hbase] at HOA
    rw [← hgO]
    clear p0 p1 hz1 HK1 HB1 HK HBx HC HP hmk hbase hgO
    go_loopw [6, 8, 9, 21] (fun ov _ _ iv wr => ∃ (k m : Nat) (es : List Int), k ≤ n ∧ iv = .int .i64 k ∧ m ≤ k ∧ Hid (wr.ownsRow w2.heap.size 3 1 ov m (es.map (Value.int .i64))) ∧ Hid (∃ lo : List Int, lo.length = n ∧ IBlk .i64 3 wr gO lo) ∧ Hid (Below w.heap.size w wr ∧ KeptBut w2 gO wr)) (fun _ _ _ iv _ => n - (intOf iv).toNat)
    case atStart => exact ⟨0, 0, [], by omega, rfl, by omega, Lib.hid (World.ownsRow_nil _ _ _ _), Lib.hid ⟨_, by simp, HO2.out⟩, Lib.hid ⟨HB2.out, KeptBut.refl _ _⟩⟩
    case round =>
      obtain ⟨k, m, es, hk, rfl, hmk, HOw, HOut, HW⟩ := hrel
      obtain ⟨A4, c4, rfl⟩ := own_shape HOw.out
      by_cases hlt : k < n
      · obtain ⟨bk, off, rfl, hbk, hcells⟩ := flat_cells HRd.out HLn.out (by omega) (by omega)
        have hz := HW.out.2.1
        have hpl : rb.getD k 0 < n := HA.out.lt hlt
        obtain ⟨ga, ca, hva, hba, hlta⟩ := HOA.out.form (by omega)
        injection hva with hA2 _ hc2
        subst hA2 hc2
        have b0 : wr.cell? ⟨ga, k, none⟩ = some (.int .i64 ((rb.getD k 0 : Nat) : Int)) := by
          refine (HW.out.2.2 ga k hlta (by omega)).trans ?_
          rw [HOA.out.cellAt k (by omega), List.getElem?_map]
          have h1 := natS_at rb k
          rw [List.getD_eq_getElem?_getD, List.getElem?_eq_getElem (by rw [natS_len, HA.out.len]; exact hlt)] at h1
          rw [List.getElem?_eq_getElem (by rw [natS_len, HA.out.len]; exact hlt), ← h1]; rfl
        have HLc : Hid (∀ j, j < n * 2 → w2.cell? ⟨bk, off + j, none⟩ = some (.int .i64 (l.getD j 0))) := Lib.hid fun j hj => (HB2.out.cell (p := ⟨bk, off + j, none⟩) (by show bk < _; omega)).trans (hcells j hj)
        obtain ⟨i, hi⟩ : ∃ i, i = rb.getD k 0 := ⟨_, rfl⟩
        rw [← hi] at b0 hpl
        have HLx := Lib.hid (And.intro (HLc.out (i * 2) (by omega)) (HLc.out (i * 2 + 1) (by omega)))
        generalize l.getD (i * 2) 0 = x at HLx
        generalize l.getD (i * 2 + 1) 0 = y at HLx
        have pi : (i : Int) < (n : Int) := by omega
        have HQ := Lib.hid q0
        have kA := HW.out.2.alloc (.cells #[.int .i64 (i : Int)] 3)
        have HIdx := Lib.hid (roomsIndex_any A4 m c4 w2.heap.size es x n c bk off w.heap.size wr.heap.size i (wr.alloc (.cells #[.int .i64 (i : Int)] 3)) (HOw.out.alloc _) (by omega) hpl hn100 ((kA.2 w.heap.size 0 (by omega) (by omega)).trans q0) (by simp) ((kA.2 bk (off + i * 2) (by omega) (by omega)).trans HLx.out.1))
        clear hcells hi q0 kA
        have hz3 : wr.heap.size < (wr.alloc (.cells #[.int .i64 (i : Int)] 3)).heap.size := by simp
        have s1 : (wr.alloc (.cells #[.int .i64 (i : Int)] 3)).cell? ⟨wr.heap.size, 0, none⟩ = some (.int .i64 i) := by simp
        have HO4 : Hid ((wr.alloc (.cells #[.int .i64 (i : Int)] 3)).ownsRow w2.heap.size 3 1 (.slice A4 m c4) m (es.map (Value.int .i64))) := Lib.hid (HOw.out.alloc _)
        have HB4 : Hid (∃ lo : List Int, lo.length = n ∧ IBlk .i64 3 (wr.alloc (.cells #[.int .i64 (i : Int)] 3)) gO lo) := Lib.hid (by obtain ⟨lo, h1, h2⟩ := HOut.out; exact ⟨lo, h1, h2.alloc _⟩)
        have HK4 : Hid (KeptBut w2 gO (wr.alloc (.cells #[.int .i64 (i : Int)] 3))) := Lib.hid (HW.out.2.alloc _)
        have HW4 : Hid (Below w.heap.size w (wr.alloc (.cells #[.int .i64 (i : Int)] 3))) := Lib.hid (HW.out.1.alloc HW.out.1.size _)
        go_upto_region 10 with (go_at_call 59; refine HIdx.out.mono ?_; rintro e w5 ⟨⟨r, rfl, hr1, hr2⟩, rfl⟩)
        generalize wr.alloc (.cells #[.int .i64 (i : Int)] 3) = w6 at *
        by_cases hr0 : r < 0
        · have t1 : decide (r < 0) = true := decide_eq_true hr0
          go_upto_region 13 with (at_builtin; refine wpList_pushD el_int rfl (.tmp 32) (.tmp 33) rfl w2.heap.size _ m _ (HO4.out.alloc _) rfl w6.heap.size 1 _ rfl (new_cell rfl) rfl (by omega) (by omega) (by simp; omega) ?_; intro v7 w7 hown7 hg7 hl7)
          obtain ⟨A7, c7, rfl⟩ := own_shape hown7
          have HO7 : Hid (w7.ownsRow w2.heap.size 3 1 (.slice A7 (m + 1) c7) (m + 1) ((es ++ [0]).map (Value.int .i64))) := Lib.hid (by rw [List.map_append]; exact hown7)
          have hrow : ∀ q, (Value.slice A4 m c4).ownBlock = some q → w2.heap.size ≤ q := fun q e => (HO4.out.lt q e).1
          have hz4 : ∀ q, (Value.slice A4 m c4).ownBlock = some q → q < w6.heap.size := fun q e => (HO4.out.lt q e).2
          have HK7 : Hid (KeptBut w2 gO w7) := Lib.hid ((HK4.out.alloc _).grown hg7 hrow)
          have s1 : w7.cell? ⟨wr.heap.size, 0, none⟩ = some (.int .i64 i) := by
            have h1 := hg7.cell_far ⟨wr.heap.size, 0, none⟩ (by simp; omega) (fun e => by have := (HOw.out.lt wr.heap.size e.symm).2; omega)
            exact h1.trans ((World.cell?_alloc_lt w6 _ ⟨wr.heap.size, 0, none⟩ (by show wr.heap.size < _; omega)).trans s1)
          have hne : ∀ q, (Value.slice A7 (m + 1) c7).ownBlock = some q → q ≠ wr.heap.size := fun q e h => by
            subst h
            rcases hl7 wr.heap.size e with h1 | h1
            · have := (HOw.out.lt wr.heap.size h1).2; omega
            · simp at h1; omega
          have HB7 : Hid (∃ lo : List Int, lo.length = n ∧ IBlk .i64 3 w7 gO lo) := Lib.hid (by
            obtain ⟨lo, h1, h2⟩ := HB4.out
            exact ⟨lo, h1, (h2.alloc _).grown hg7 (fun e => by have := hrow gO e.symm; omega)⟩)
          have HW7 : Hid (Below w.heap.size w w7) := Lib.hid ((HW4.out.alloc HW4.out.size _).grown hg7 (by simp; have := HW4.out.size; omega) (fun q e => by have := hrow q e; omega))
          clear hown7 hg7 hl7
          obtain ⟨ge, ceX, hve, hbe, hlte⟩ := HO7.out.form (by omega)
          injection hve with hA4 _ hc4
          subst hA4 hc4
          have kw := HK7.out
          have s0 : w7.cell? ⟨w.heap.size, 0, none⟩ = some (.slice (some ⟨bk, off, none⟩) n c) := (kw.2 w.heap.size 0 (by omega) (by omega)).trans HQ.out
          have s2 : w7.cell? ⟨bk, off + i * 2 + 1, none⟩ = some (.int .i64 y) := (kw.2 bk (off + i * 2 + 1) (by omega) (by omega)).trans HLx.out.2
          obtain ⟨⟨ue, s3⟩, f3⟩ := own_cell0 HO7.out (show m < (m + 1) by omega)
          obtain ⟨lo, hlo, hbo⟩ := HB7.out
          have s4 : (w7.setCell ⟨ge, m, none⟩ (.int .i64 y)).cell? ⟨wr.heap.size, 0, none⟩ = some (.int .i64 i) := (World.cell?_setCell_other _ _ _ _ (ne_blk (hne ge rfl))).trans s1
          have hb2 := IBlk.far (p := ⟨ge, m, none⟩) hbo (by show gO ≠ ge; omega) (.int .i64 y)
          have s5 : (w7.setCell ⟨ge, m, none⟩ (.int .i64 y)).cell? ⟨gO, i, none⟩ = some (.int .i64 (lo.getD i 0)) := hb2.cell (by omega)
          have f5 := hb2.frozen i
          have HO9 := Lib.hid (ownsRow_setCell_below (a := ⟨gO, i, none⟩) (own_set HO7.out (show m < (m + 1) by omega) (.int .i64 y)) (by show gO < w2.heap.size; omega) (.int .i64 (m : Int)))
          have HB9 := Lib.hid (hb2.set i (m : Int))
          have HK9 := Lib.hid ((kw.set (p := ⟨ge, m, none⟩) (.inl (by show w2.heap.size ≤ ge; omega)) (.int .i64 y)).set (p := ⟨gO, i, none⟩) (.inr rfl) (.int .i64 (m : Int)))
          have HW9 := Lib.hid ((HW7.out.setCell (p := ⟨ge, m, none⟩) (by show w.heap.size ≤ ge; omega) (.int .i64 y)).setCell (p := ⟨gO, i, none⟩) (by show w.heap.size ≤ gO; omega) (.int .i64 (m : Int)))
          clear hb2 hbo kw
          go_wp2
          go_roundw
          case rel => exact ⟨k + 1, (m + 1), (es ++ [0]).set m y, by omega, by go_num, by omega, Lib.hid (by rw [List.map_set]; exact HO9.out), Lib.hid ⟨_, by rw [List.length_set]; exact hlo, HB9.out⟩, Lib.hid ⟨HW9.out, HK9.out⟩⟩
          case measure => simp [intOf]; omega
        · have t1 : decide (r < 0) = false := decide_eq_false hr0
          obtain ⟨rN, rfl⟩ : ∃ q : Nat, r = q := ⟨r.toNat, by omega⟩
          obtain ⟨ge, ceX, hve, hbe, hlte⟩ := HO4.out.form (by omega)
          injection hve with hA4 _ hc4
          subst hA4 hc4
          have kw := HK4.out
          have s0 : w6.cell? ⟨w.heap.size, 0, none⟩ = some (.slice (some ⟨bk, off, none⟩) n c) := (kw.2 w.heap.size 0 (by omega) (by omega)).trans HQ.out
          have s2 : w6.cell? ⟨bk, off + i * 2 + 1, none⟩ = some (.int .i64 y) := (kw.2 bk (off + i * 2 + 1) (by omega) (by omega)).trans HLx.out.2
          obtain ⟨⟨ue, s3⟩, f3⟩ := own_cell0 HO4.out (show rN < m by omega)
          obtain ⟨lo, hlo, hbo⟩ := HB4.out
          have s4 : (w6.setCell ⟨ge, rN, none⟩ (.int .i64 y)).cell? ⟨wr.heap.size, 0, none⟩ = some (.int .i64 i) := (World.cell?_setCell_other _ _ _ _ (ne_blk (by have := (HOw.out.lt ge rfl).2; omega))).trans s1
          have hb2 := IBlk.far (p := ⟨ge, rN, none⟩) hbo (by show gO ≠ ge; omega) (.int .i64 y)
          have s5 : (w6.setCell ⟨ge, rN, none⟩ (.int .i64 y)).cell? ⟨gO, i, none⟩ = some (.int .i64 (lo.getD i 0)) := hb2.cell (by omega)
          have f5 := hb2.frozen i
          have HO9 := Lib.hid (ownsRow_setCell_below (a := ⟨gO, i, none⟩) (own_set HO4.out (show rN < m by omega) (.int .i64 y)) (by show gO < w2.heap.size; omega) (.int .i64 (rN : Int)))
          have HB9 := Lib.hid (hb2.set i (rN : Int))
          have HK9 := Lib.hid ((kw.set (p := ⟨ge, rN, none⟩) (.inl (by show w2.heap.size ≤ ge; omega)) (.int .i64 y)).set (p := ⟨gO, i, none⟩) (.inr rfl) (.int .i64 (rN : Int)))
          have HW9 := Lib.hid ((HW4.out.setCell (p := ⟨ge, rN, none⟩) (by show w.heap.size ≤ ge; omega) (.int .i64 y)).setCell (p := ⟨gO, i, none⟩) (by show w.heap.size ≤ gO; omega) (.int .i64 (rN : Int)))
          clear hb2 hbo kw
          go_wp2
          go_roundw
          case rel => exact ⟨k + 1, m, es.set rN y, by omega, by go_num, by omega, Lib.hid (by rw [List.map_set]; exact HO9.out), Lib.hid ⟨_, by rw [List.length_set]; exact hlo, HB9.out⟩, Lib.hid ⟨HW9.out, HK9.out⟩⟩
          case measure => simp [intOf]; omega
      · obtain rfl : k = n := by omega
        go_wp2
        go_ret2
        exact ⟨_, _, _, rfl, fun h => absurd rfl h, fun _ => rfl, HW.out.1⟩
end Go.Proofs.Ytgfddolchachkaa
