/-
  Contracts of hull.Hull and the reference's HullOf: the corners, or the code of what is refused. Conditions: the points can be read as data.
-/
import Derived.Test.YtgfddolchachkaaMHullHas20
import Derived.Test.YtgfddolchachkaaMHullHas30
import Derived.Test.YtgfddolchachkaaMHullHas31
import Derived.Test.YtgfddolchachkaaMHullHas32
import Derived.Test.YtgfddolchachkaaMHullHas03
namespace Go.Dam.Hull
open Go Go.RowKit Go.Dam
theorem pt_okC {n : Nat} {l : List Int} (h : ptCode n l = 0) : n ≤ 150 ∧ ∀ i, i < n → okC (l.getD (i * 3) 0) ∧ okC (l.getD (i * 3 + 1) 0) := by
  obtain ⟨h1, h2⟩ := pt_coords h
  exact ⟨h1, fun i hi => ⟨h2 (i * 3) (by omega), h2 (i * 3 + 1) (by omega)⟩⟩
theorem pt_nr {n : Nat} {l : List Int} (h : ∀ i, i < n → okC (l.getD (i * 3) 0) ∧ okC (l.getD (i * 3 + 1) 0)) : ∀ i, i < n → nr (ptF l i) := fun i hi => (h i hi).2
/-- The corners of points, where they are not refused. -/
def HullsR (n : Nat) (l : List Int) (c : Int) (H : List Nat) : Prop := c = hullCode n l ∧ H.length ≤ 300 ∧ (c ≠ 0 → H = []) ∧ (c = 0 → HullIs (ptF l) n H)
theorem HullsR.ex (n : Nat) (l : List Int) : ∃ c H, HullsR n l c H := by
  by_cases h : hullCode n l = 0
  · obtain ⟨h1, h2⟩ := hullCode_ok h
    obtain ⟨h3, h4⟩ := pt_okC h1
    obtain ⟨H, h5, h6⟩ := hull_ex2 h2 (pt_nr h4)
    exact ⟨0, H, h.symm, by omega, fun h => absurd rfl h, fun _ => h5⟩
  · exact ⟨_, [], rfl, by simp, fun _ => rfl, fun h0 => absurd h0 h⟩
theorem natH_wf {n : Nat} {H : List Nat} (h : ∀ j, j < H.length → H.getD j 0 < n) (hn : n ≤ 1000) : ∀ z ∈ natH H, (Lit.int .i64 z).wf = true := fun z hz => by
  unfold natH at hz
  obtain ⟨i, hi, rfl⟩ := List.mem_map.1 hz
  obtain ⟨u, hu, rfl⟩ := List.mem_iff_getElem.1 hi
  have := h u hu
  rw [gE _ _ hu] at this
  exact int_wf (by unfold I64; omega)
end Go.Dam.Hull
namespace Go.Proofs.Ytgfddolchachkaa
open Go Go.RowKit Go.Dam Go.Dam.Hull
set_option linter.unusedVariables false
set_option maxHeartbeats 1000000 in
theorem hullHull_any (v : Value) (n : Nat) (l : List Int) (H : List Nat) (cc : Int) (w : World) (B : Nat) (hB : B ≤ w.heap.size) (h : IsFlat 3 w B v n l) (hR : HullsR n l cc H) :
    Calls Try.prog 27 #[v] w (GivesInts (natH H) cc w) := by
  have HC := Lib.hid (hullfault_any v n l w B hB h)
  obtain ⟨h1, hHl, h2, h3⟩ := hR
  rw [← h1] at HC
  by_cases c0 : cc = 0
  rotate_left
  · obtain ⟨A, c, rfl, hc, hm, hn, hl, hr, hw⟩ := h
    obtain rfl := h2 c0
    have t0 : (cc != 0) = true := bne_iff_ne.2 c0
    clear hr hl hw h1 c0 h2 h3
    go_enter Try.func27, Try.ntmps27
    go_wp2_with (go_at_call 62; refine (HC.out).mono ?_; rintro e w1 ⟨rfl, hb1⟩)
    go_ret2
    exact ⟨_, rfl, isInts_nil _ _ _, hb1⟩
  · subst c0
    obtain ⟨g1, g2⟩ := hullCode_ok h1.symm
    obtain ⟨g3, g4⟩ := pt_okC g1
    have HH := Lib.hid (h3 rfl)
    have HP := Lib.hid fun W (hb : Below w.heap.size w W) => hullCorners_any v n l W B (Nat.le_trans hB hb.size) (h.below (hb.mono hB)) g2 g3 g4
    have HU : Hid (∀ o, OrdIs (ptF l) n o → corners (ptF l) o = H) := Lib.hid fun o ho => (corners_ok ho g2).uniq (pt_nr g4) (h3 rfl)
    have HWf : Hid (∀ z ∈ natH H, (Lit.int .i64 z).wf = true) := Lib.hid (natH_wf (n := n) (fun j hj => (h3 rfl).lt hj) (by omega))
    have HLn : Hid ((natH H).length = H.length) := Lib.hid (natH_len H)
    obtain ⟨A, c, rfl, hc, hm, hn, hl, hr, hw⟩ := h
    clear hr hl hw h1 h2 h3 g1 g4
    go_enter Try.func27, Try.ntmps27
    go_wp2_with (first
      | (go_at_call 62; refine (HC.out).mono ?_; rintro e w1 ⟨rfl, hb1⟩; have HB1 := Lib.hid hb1; clear hb1)
      | (go_at_call 64; refine (HP.out _ HB1.out).mono ?_; rintro e w2 ⟨v2, o, rfl, ho, hl2, hown2, hb2⟩; rw [HU.out o ho] at hown2; have HI := Lib.hid (own_ints hown2 (by rw [HLn.out]; omega) HWf.out); have HB2 := Lib.hid (HB1.out.trans (hb2.mono HB1.out.size)); clear hown2 hb2 ho hl2)
      | (go_at_call 63; refine (cloneInts_any _ (natH H) _ _ (Nat.le_refl _) HI.out (by rw [HLn.out]; omega)).mono ?_; rintro e w3 ⟨v3, rfl, hown3, hb3⟩; have HI3 := Lib.hid (own_ints hown3 (by rw [HLn.out]; omega) HWf.out); have HB3 := Lib.hid (HB2.out.trans (hb3.mono HB2.out.size)); clear hown3 hb3))
    go_ret2
    exact ⟨_, rfl, HI3.out, HB3.out⟩
set_option maxHeartbeats 1000000 in
theorem refHullOf_any (v : Value) (n : Nat) (l : List Int) (H : List Nat) (cc : Int) (w : World) (B : Nat) (hB : B ≤ w.heap.size) (h : IsFlat 3 w B v n l) (hR : HullsR n l cc H) :
    Calls Try.prog 28 #[v] w (GivesInts (natH H) cc w) := by
  have HC := Lib.hid (refHullFault_any v n l w B hB h)
  obtain ⟨h1, hHl, h2, h3⟩ := hR
  rw [← h1] at HC
  by_cases c0 : cc = 0
  rotate_left
  · obtain ⟨A, c, rfl, hc, hm, hn, hl, hr, hw⟩ := h
    obtain rfl := h2 c0
    have t0 : (cc != 0) = true := bne_iff_ne.2 c0
    clear hr hl hw h1 c0 h2 h3
    go_enter Try.func28, Try.ntmps28
    go_wp2_with (go_at_call 65; refine (HC.out).mono ?_; rintro e w1 ⟨rfl, hb1⟩)
    go_ret2
    exact ⟨_, rfl, isInts_nil _ _ _, hb1⟩
  · subst c0
    obtain ⟨g1, g2⟩ := hullCode_ok h1.symm
    obtain ⟨g3, g4⟩ := pt_okC g1
    have HWf : Hid (∀ z ∈ natH H, (Lit.int .i64 z).wf = true) := Lib.hid (natH_wf (n := n) (fun j hj => (h3 rfl).lt hj) (by omega))
    have HLn : Hid ((natH H).length = H.length) := Lib.hid (natH_len H)
    obtain ⟨A, c, rfl, hc, hm, hn, hl, hr, hw⟩ := h
    obtain ⟨bk, off, rfl, hbk, hcells⟩ := flat_cells hr hl g2 (by omega)
    have HP := Lib.hid fun W (hb : Below w.heap.size w W) => refWrap_any n c bk off l H W g2 (by omega) (by have := hb.size; omega) (h3 rfl) (by omega) g4 (fun j hj => (hb.cell (p := ⟨bk, off + j, none⟩) (by show bk < _; omega)).trans (hcells j hj))
    clear hr hl hw h1 h2 h3 g1 g4 hcells
    go_enter Try.func28, Try.ntmps28
    go_wp2_with (first
      | (go_at_call 65; refine (HC.out).mono ?_; rintro e w1 ⟨rfl, hb1⟩; have HB1 := Lib.hid hb1; clear hb1)
      | (go_at_call 66; refine (HP.out _ HB1.out).mono ?_; rintro e w2 ⟨v2, rfl, hown2, hb2⟩; have HI := Lib.hid (own_ints hown2 (by rw [HLn.out]; omega) HWf.out); have HB2 := Lib.hid (HB1.out.trans (hb2.mono HB1.out.size)); clear hown2 hb2))
    go_ret2
    exact ⟨_, rfl, HI.out, HB2.out⟩
end Go.Proofs.Ytgfddolchachkaa
