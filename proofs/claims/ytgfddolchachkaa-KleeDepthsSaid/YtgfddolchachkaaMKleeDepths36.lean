/-
  Contracts of the reference's KleeArea and KleeDepth. Conditions: the rectangles can be read as data.
-/
import Derived.Test.YtgfddolchachkaaMKleeDepths34
import Derived.Test.YtgfddolchachkaaMKleeDepths35
namespace Go.Dam.Klee
open Go Go.RowKit Go.Dam
set_option linter.unusedVariables false
/-- The sum so far, at cell (i, k). -/
def sumAt (f : Int → Int → Int) (c d : List Int) (i k : Nat) : Int := gridS f c d i + (c.getD (i + 1) 0 - c.getD i 0) * rowS (f (c.getD i 0)) d k
theorem sumAt_0 (f : Int → Int → Int) (c d : List Int) (i : Nat) : sumAt f c d i 0 = gridS f c d i := by unfold sumAt; rw [rowS_0, Int.mul_zero, Int.add_zero]
theorem sumAt_next (f : Int → Int → Int) (c d : List Int) (i : Nat) : sumAt f c d (i + 1) 0 = sumAt f c d i (d.length - 1) := by rw [sumAt_0, gridS_s]; rfl
theorem sumAt_step (f : Int → Int → Int) (c d : List Int) (i k : Nat) : sumAt f c d i (k + 1) = sumAt f c d i k + ((c.getD (i + 1) 0 - c.getD i 0) * (d.getD (k + 1) 0 - d.getD k 0)) * ind (f (c.getD i 0) (d.getD k 0)) := by
  unfold sumAt; rw [rowS_s, Int.mul_add, Int.mul_assoc]; omega
/-- The depth so far. -/
def depAt (f : Int → Int → Int) (c d : List Int) (i k : Nat) : Int := if c.getD (i + 1) 0 = c.getD i 0 then depI f c d i else depK (depI f c d i) (f (c.getD i 0)) d k
theorem depAt_0 (f : Int → Int → Int) (c d : List Int) (i : Nat) : depAt f c d i 0 = depI f c d i := by unfold depAt; rw [depK_0]; split <;> rfl
theorem depAt_next (f : Int → Int → Int) (c d : List Int) (i : Nat) : depAt f c d (i + 1) 0 = depAt f c d i (d.length - 1) := by
  rw [depAt_0]
  unfold depAt
  split
  · rename_i h; exact depI_eq h
  · rename_i h; exact depI_ne h
theorem depAt_skip {f : Int → Int → Int} {c d : List Int} {i k : Nat} (h : (c.getD (i + 1) 0 - c.getD i 0) * (d.getD (k + 1) 0 - d.getD k 0) = 0) : depAt f c d i (k + 1) = depAt f c d i k := by
  unfold depAt
  split
  · rfl
  · rename_i h1
    rcases Int.mul_eq_zero.1 h with h2 | h2
    · omega
    · exact depK_eq (by omega)
theorem depAt_step {f : Int → Int → Int} {c d : List Int} {i k : Nat} (h : (c.getD (i + 1) 0 - c.getD i 0) * (d.getD (k + 1) 0 - d.getD k 0) ≠ 0) : depAt f c d i (k + 1) = max (depAt f c d i k) (f (c.getD i 0) (d.getD k 0)) := by
  have h1 : ¬ c.getD (i + 1) 0 = c.getD i 0 := fun e => h (by rw [e, Int.sub_self, Int.zero_mul])
  have h2 : ¬ d.getD (k + 1) 0 = d.getD k 0 := fun e => h (by rw [e, Int.sub_self, Int.mul_zero])
  unfold depAt
  rw [if_neg h1, if_neg h1, depK_ne h2]
theorem areaV_def (l : List Int) (n : Nat) : areaV l n = gridS (deepN l n) (sortI (xsOf l n)) (sortI (ysOf l n)) (2 * n - 1) := by
  have : areaV l n = gridS (deepN l n) (sortI (xsOf l n)) (sortI (ysOf l n)) ((sortI (xsOf l n)).length - 1) := by with_unfolding_all rfl
  rw [this, sortI_len, xs_len]
theorem depthV_def (l : List Int) (n : Nat) : depthV l n = depI (deepN l n) (sortI (xsOf l n)) (sortI (ysOf l n)) (2 * n - 1) := by
  have : depthV l n = depI (deepN l n) (sortI (xsOf l n)) (sortI (ysOf l n)) ((sortI (xsOf l n)).length - 1) := by with_unfolding_all rfl
  rw [this, sortI_len, xs_len]
theorem sort_nearX {l : List Int} {n : Nat} (h : ∀ i, i < n → badRc l i = false) : NearAll (sortI (xsOf l n)) := fun z hz => by
  obtain ⟨q, hq, e⟩ := xs_mem ((sortI_perm _).mem_iff.1 hz)
  have := badRc_fine (h q hq)
  omega
theorem sort_nearY {l : List Int} {n : Nat} (h : ∀ i, i < n → badRc l i = false) : NearAll (sortI (ysOf l n)) := fun z hz => by
  obtain ⟨q, hq, e⟩ := ys_mem ((sortI_perm _).mem_iff.1 hz)
  have := badRc_fine (h q hq)
  omega
theorem sumAt_bd {m m' c d : List Int} (h : CutRow m c) (h' : CutRow m' d) (hn : NearAll c) (hn' : NearAll d) (hc : c.length ≤ 80) (f : Int → Int → Int) {i k : Nat} (hi : i + 1 < c.length) (hk : k < d.length) : 0 ≤ sumAt f c d i k ∧ sumAt f c d i k ≤ 1125899906842624 := by
  have a := gridS_bd h h' hn hn' f i (by omega)
  have b := h.1 i hi
  have e1 := hn.at_ (k := i) (by omega)
  have e2 := hn.at_ hi
  have p := part_bd h' hn' (f (c.getD i 0)) hk (x := c.getD (i + 1) 0 - c.getD i 0) (by omega)
  unfold sumAt
  omega
end Go.Dam.Klee
namespace Go.Proofs.Ytgfddolchachkaa
open Go Go.RowKit Go.Dam Go.Dam.Klee
set_option linter.unusedVariables false
set_option maxHeartbeats 1000000 in
theorem refKleeArea1_any (p dd s : Int) (gB : Nat) (w : World) (hs : 0 ≤ s ∧ s ≤ 1125899906842624) (hp : 0 ≤ p ∧ p ≤ 4398054899716) (hB : Blk w gB 3 #[.int .i64 s]) :
    Calls Try.prog 84 #[.int .i64 p, .int .i64 dd, .pointer (some ⟨gB, 0, none⟩)] w fun e w' => e = .returned (.tuple #[]) ∧ Blk w' gB 3 #[.int .i64 (s + p * ind dd)] ∧ BelowBut w.heap.size gB w w' := by
  have g0 : w.cell? ⟨gB, 0, none⟩ = some (.int .i64 s) := (hB.cell 0).trans rfl
  have g1 := hB.frozen 0
  have HBk := Lib.hid hB
  have w1 : IntKind.i64.wrap (s + p) = s + p := by rw [IntKind.wrap_i64]; omega
  by_cases h : 0 < dd
  · have t1 : decide (0 < dd) = true := decide_eq_true h
    have HI := Lib.hid (ind_pos h)
    clear hB h
    go_enter Try.func84, Try.ntmps84
    go_wp2_with fail
    go_end0
    exact ⟨rfl, by rw [HI.out, Int.mul_one]; exact HBk.out.set_ 0 (.int .i64 (s + p)), (BelowBut.refl _ _ _).setCell _ _⟩
  · have t1 : decide (0 < dd) = false := decide_eq_false h
    have HI := Lib.hid (ind_neg h)
    clear hB h
    go_enter Try.func84, Try.ntmps84
    go_wp2_with fail
    go_end0
    exact ⟨rfl, by rw [HI.out, Int.mul_zero, Int.add_zero]; exact HBk.out, BelowBut.refl _ _ _⟩
set_option maxHeartbeats 1000000 in
theorem refKleeDepth1_any (p dd s : Int) (gB : Nat) (w : World) (hB : Blk w gB 3 #[.int .i64 s]) :
    Calls Try.prog 87 #[.int .i64 p, .int .i64 dd, .pointer (some ⟨gB, 0, none⟩)] w fun e w' => e = .returned (.tuple #[]) ∧ Blk w' gB 3 #[.int .i64 (max s dd)] ∧ BelowBut w.heap.size gB w w' := by
  have g0 : w.cell? ⟨gB, 0, none⟩ = some (.int .i64 s) := (hB.cell 0).trans rfl
  have g1 := hB.frozen 0
  have HBk := Lib.hid hB
  clear hB
  go_enter Try.func87, Try.ntmps87
  go_wp2_with fail
  go_end0
  exact ⟨rfl, HBk.out.set_ 0 (.int .i64 (max s dd)), (BelowBut.refl _ _ _).setCell _ _⟩
set_option maxHeartbeats 4000000 in
theorem refKleeArea_any (v : Value) (n : Nat) (l : List Int) (a cc : Int) (w : World) (B : Nat) (hB : B ≤ w.heap.size) (h : IsFlat 4 w B v n l) (hR : AreaR n l a cc) :
    Calls Try.prog 37 #[v] w fun e w' => e = .returned (.tuple #[.int .i64 a, .int .i64 cc]) ∧ Below w.heap.size w w' := by
  have HC := Lib.hid (rectsFault_any v n l w B hB h)
  obtain ⟨h1, h2⟩ := hR
  rw [← h1] at HC
  by_cases c0 : cc = 0
  rotate_left
  · obtain ⟨A, c, rfl, hc, hm, hn, hl, hr, hw⟩ := h
    rw [if_neg c0] at h2
    subst h2
    have t0 : (cc != 0) = true := bne_iff_ne.2 c0
    clear hr hl hw h1 c0
    go_enter Try.func37, Try.ntmps37
    go_wp2_with (go_at_call 82; refine (HC.out).mono ?_; rintro e w1 ⟨rfl, hb1⟩)
    go_ret2
    exact ⟨rfl, hb1⟩
  · subst c0
    rw [if_pos rfl] at h2
    subst h2
    obtain ⟨hn1, hf⟩ := rcCode_ok h1.symm
    have HV := Lib.hid (areaV_def l n)
    have HSw := Lib.hid fun W (hb : Below w.heap.size w W) => refCells_any v n l 84 #[.pointer (some ⟨W.heap.size, 0, none⟩)] W.heap.size (fun i k W' => BoxIs W W.heap.size 3 (sumAt (deepN l n) (sortI (xsOf l n)) (sortI (ysOf l n)) i k) W') (W.alloc (.cells #[.int .i64 0] 3)) B (Nat.le_trans hB hb.size)
      (h.below ((hb.mono hB).alloc (Nat.le_trans hB hb.size) _)) h1.symm
      { eg := enters_of Try.func84 (by kernel_rfl) rfl
        low := by simp
        grow := fun i k W' W'' h hb => h.grow (by simp) (by simp) hb
        skip := fun i k W' hi hk h0 h => by
          show BoxIs _ _ _ (sumAt (deepN l n) (sortI (xsOf l n)) (sortI (ysOf l n)) i (k + 1)) _
          rw [sumAt_step, h0, Int.zero_mul, Int.add_zero]; exact h
        next := fun i W' hi h => by
          show BoxIs _ _ _ (sumAt (deepN l n) (sortI (xsOf l n)) (sortI (ysOf l n)) (i + 1) 0) _
          rw [sumAt_next]; exact h
        zero := ⟨(Below.refl _ _).alloc (Nat.le_refl _) _, by rw [sumAt_0, gridS_0]; exact Blk.new _ _ _⟩
        call := fun i k W' hi hk hp hJ => by
          have hlx : (sortI (xsOf l n)).length ≤ 80 := by rw [sortI_len, xs_len]; omega
          have hs := sumAt_bd (cutRow_sort (xsOf l n)) (cutRow_sort (ysOf l n)) (sort_nearX hf) (sort_nearY hf) hlx (deepN l n) hi (k := k) (by omega)
          have hx := (cutRow_sort (xsOf l n)).1 i hi
          have e1 := (sort_nearX hf).at_ (k := i) (by omega)
          have e2 := (sort_nearX hf).at_ hi
          have hpb := cell_bd (cutRow_sort (ysOf l n)) (sort_nearY hf) hk (x := (sortI (xsOf l n)).getD (i + 1) 0 - (sortI (xsOf l n)).getD i 0) (by omega)
          refine (refKleeArea1_any _ _ _ W.heap.size W' hs hpb hJ.2).mono ?_
          rintro e W2 ⟨rfl, hk2, hb2⟩
          refine ⟨rfl, ⟨hJ.1.trans (hb2.below (by have := hJ.1.size; omega) (Nat.le_refl _)), ?_⟩, hb2⟩
          rw [sumAt_step]
          exact hk2 }
    obtain ⟨A, c, rfl, hc, hm, hn, hl, hr, hw⟩ := h
    clear hr hl hw h1 hf
    go_enter Try.func37, Try.ntmps37
    go_wp2_with (first
      | (go_at_call 82; refine (HC.out).mono ?_; rintro e w1 ⟨rfl, hb1⟩; have HB1 := Lib.hid hb1; clear hb1)
      | (go_at_call 83; refine (HSw.out _ HB1.out).mono ?_; rintro e w2 ⟨rfl, hJ⟩; have HJ := Lib.hid hJ; have k0 : w2.cell? ⟨w1.heap.size, 0, none⟩ = some (.int .i64 (areaV l n)) := ((hJ.2.cell 0).trans (by rw [sumAt_0, ← HV.out]; rfl)); clear hJ))
    go_ret2
    exact ⟨rfl, HB1.out.trans (HJ.out.1.mono HB1.out.size)⟩
set_option maxHeartbeats 4000000 in
theorem refKleeDepth_any (v : Value) (n : Nat) (l : List Int) (a cc : Int) (w : World) (B : Nat) (hB : B ≤ w.heap.size) (h : IsFlat 4 w B v n l) (hR : DepthR n l a cc) :
    Calls Try.prog 39 #[v] w fun e w' => e = .returned (.tuple #[.int .i64 a, .int .i64 cc]) ∧ Below w.heap.size w w' := by
  have HC := Lib.hid (rectsFault_any v n l w B hB h)
  obtain ⟨h1, h2⟩ := hR
  rw [← h1] at HC
  by_cases c0 : cc = 0
  rotate_left
  · obtain ⟨A, c, rfl, hc, hm, hn, hl, hr, hw⟩ := h
    rw [if_neg c0] at h2
    subst h2
    have t0 : (cc != 0) = true := bne_iff_ne.2 c0
    clear hr hl hw h1 c0
    go_enter Try.func39, Try.ntmps39
    go_wp2_with (go_at_call 82; refine (HC.out).mono ?_; rintro e w1 ⟨rfl, hb1⟩)
    go_ret2
    exact ⟨rfl, hb1⟩
  · subst c0
    rw [if_pos rfl] at h2
    subst h2
    obtain ⟨hn1, hf⟩ := rcCode_ok h1.symm
    have HV := Lib.hid (depthV_def l n)
    have HSw := Lib.hid fun W (hb : Below w.heap.size w W) => refCells_any v n l 87 #[.pointer (some ⟨W.heap.size, 0, none⟩)] W.heap.size (fun i k W' => BoxIs W W.heap.size 3 (depAt (deepN l n) (sortI (xsOf l n)) (sortI (ysOf l n)) i k) W') (W.alloc (.cells #[.int .i64 0] 3)) B (Nat.le_trans hB hb.size)
      (h.below ((hb.mono hB).alloc (Nat.le_trans hB hb.size) _)) h1.symm
      { eg := enters_of Try.func87 (by kernel_rfl) rfl
        low := by simp
        grow := fun i k W' W'' h hb => h.grow (by simp) (by simp) hb
        skip := fun i k W' hi hk h0 h => by
          show BoxIs _ _ _ (depAt (deepN l n) (sortI (xsOf l n)) (sortI (ysOf l n)) i (k + 1)) _
          rw [depAt_skip h0]; exact h
        next := fun i W' hi h => by
          show BoxIs _ _ _ (depAt (deepN l n) (sortI (xsOf l n)) (sortI (ysOf l n)) (i + 1) 0) _
          rw [depAt_next]; exact h
        zero := ⟨(Below.refl _ _).alloc (Nat.le_refl _) _, by rw [depAt_0, depI_0]; exact Blk.new _ _ _⟩
        call := fun i k W' hi hk hp hJ => by
          have hlx : (sortI (xsOf l n)).length ≤ 80 := by rw [sortI_len, xs_len]; omega
          refine (refKleeDepth1_any _ _ _ W.heap.size W' hJ.2).mono ?_
          rintro e W2 ⟨rfl, hk2, hb2⟩
          refine ⟨rfl, ⟨hJ.1.trans (hb2.below (by have := hJ.1.size; omega) (Nat.le_refl _)), ?_⟩, hb2⟩
          rw [depAt_step hp]
          exact hk2 }
    obtain ⟨A, c, rfl, hc, hm, hn, hl, hr, hw⟩ := h
    clear hr hl hw h1 hf
    go_enter Try.func39, Try.ntmps39
    go_wp2_with (first
      | (go_at_call 82; refine (HC.out).mono ?_; rintro e w1 ⟨rfl, hb1⟩; have HB1 := Lib.hid hb1; clear hb1)
      | (go_at_call 83; refine (HSw.out _ HB1.out).mono ?_; rintro e w2 ⟨rfl, hJ⟩; have HJ := Lib.hid hJ; have k0 : w2.cell? ⟨w1.heap.size, 0, none⟩ = some (.int .i64 (depthV l n)) := ((hJ.2.cell 0).trans (by rw [depAt_0, ← HV.out]; rfl)); clear hJ))
    go_ret2
    exact ⟨rfl, HB1.out.trans (HJ.out.1.mono HB1.out.size)⟩
end Go.Proofs.Ytgfddolchachkaa
