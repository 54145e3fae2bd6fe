/-
  The walk of the law SegPlays: seg.Play and the reference answer alike. Conditions: the arguments can be read as data.
-/
import Derived.Test.YtaipnjoeejgnnaaMSegPlays16
namespace Go.Proofs.Ytaipnjoeejgnnaa
open Go Go.RowKit Go.Dam
set_option linter.unusedVariables false
set_option maxHeartbeats 2000000 in
theorem segPlays_walk (v u : Value) (w : World) (h : ∃ l, IsInts .i64 w w.heap.size v l) (h' : ∃ n o, IsFlat 4 w w.heap.size u n o) :
    Calls Try.prog 4 #[v, u] w fun e w' => e = .returned (.bool true) ∧ Below w.heap.size w w' := by
  obtain ⟨l, h⟩ := h
  obtain ⟨m, o, h'⟩ := h'
  obtain ⟨r, nw, cc, hR⟩ := PlayR.ex l o m
  have H1 := Lib.hid (segPlay_any v u l o r nw m cc w _ (Nat.le_refl _) h h' hR)
  have H2 := Lib.hid fun W (hb : Below w.heap.size w W) => refSeg_any v u l o r nw m cc W _ hb.size (h.below hb) (h'.below hb) hR
  obtain ⟨A, c, rfl, hc, hm, hn0, hr, hw⟩ := h
  obtain ⟨A0, c0, rfl, hc0, hm0, hn00, hl0, hr0, hw0⟩ := h'
  clear hr hw hl0 hr0 hw0 hR
  go_enter Try.func4, Try.ntmps4
  go_wp2_with (first
    | (go_at_call 18; refine (H1.out).mono ?_; rintro e w1 ⟨v1, y1, k1, rfl, hk1, hi1, hj1, hb1⟩; have HB1 := Lib.hid hb1; have HI1 := Lib.hid hi1; have HJ1 := Lib.hid hj1; obtain ⟨A1, c1, rfl, hc1, hm1, hn1, hl1, hr1, hw1⟩ := hi1; obtain ⟨A3, c3, rfl, _⟩ := hj1; clear hr1 hw1 hb1)
    | (go_at_call 19; refine (H2.out _ HB1.out).mono ?_; rintro e w2 ⟨v2, y2, k2, rfl, hk2, hi2, hj2, hb2⟩; have HB2 := Lib.hid hb2; have HI2 := Lib.hid hi2; have HJ2 := Lib.hid hj2; obtain ⟨A2, c2, rfl, hc2, hm2, hn2, hl2, hr2, hw2⟩ := hi2; obtain ⟨A4, c4, rfl, _⟩ := hj2; clear hr2 hw2 hb2; obtain rfl : k1 = k2 := (by omega); clear hl1 hl2)
    | (go_at_call 20; refine (sameInts_any _ _ _ _ _ ((HJ1.out.below HB2.out).more HB2.out.size) HJ2.out).mono ?_; rintro e w3 ⟨rfl, hd3⟩; have HD3 := Lib.hid hd3; clear hd3))
  have hj1 := (HI1.out.below HB2.out).more HB2.out.size
  have hi2 := HI2.out
  have HBel := Lib.hid ((HB1.out.trans (HB2.out.mono HB1.out.size)).trans (HD3.out.below _))
  obtain ⟨A1', c1', e1, hc1, hm1, hn1, hl1, hr1, _⟩ := hj1
  obtain ⟨A2', c2', e2, hc2, hm2, hn2, hl2, hr2, _⟩ := hi2
  injection e1 with e1 e1' e1''
  injection e2 with e2 e2' e2''
  subst e1 e1'' e2 e2''
  go_loopw [11] (fun iv wr => ∃ i : Nat, i ≤ k1 ∧ iv = .int .i64 i ∧ Drawn w3 wr) (fun iv _ => k1 - (intOf iv).toNat)
  case atStart => exact ⟨0, by omega, rfl, Drawn.refl _⟩
  case round =>
    obtain ⟨i, hi, rfl, hd⟩ := hrel
    by_cases hlt : i < k1
    · obtain ⟨b, off, rfl, hb, hcells⟩ := flat_cells hr1 hl1 (by omega) (by omega)
      obtain ⟨b', off', rfl, hb', hcells'⟩ := flat_cells hr2 hl2 (by omega) (by omega)
      have c0 := ((HD3.out.trans hd).cell ⟨b, off + i * 2, none⟩).trans (hcells (i * 2) (by omega))
      have c1 := ((HD3.out.trans hd).cell ⟨b, off + i * 2 + 1, none⟩).trans (hcells (i * 2 + 1) (by omega))
      have d0 := ((HD3.out.trans hd).cell ⟨b', off' + i * 2, none⟩).trans (hcells' (i * 2) (by omega))
      have d1 := ((HD3.out.trans hd).cell ⟨b', off' + i * 2 + 1, none⟩).trans (hcells' (i * 2 + 1) (by omega))
      have HD := Lib.hid hd
      generalize r.getD (i * 2) 0 = x0 at *
      generalize r.getD (i * 2 + 1) 0 = x1 at *
      clear hcells hcells' hd hl1 hl2 hr1 hr2
      go_wp2_with fail
      go_quiet (fail)
      go_wp2
      go_roundw
      case rel => exact ⟨i + 1, by omega, by go_num, HD.out.drewN _⟩
      case measure => simp [intOf]; omega
    · obtain rfl : i = k1 := by omega
      go_wp2
      go_ret
      exact ⟨rfl, HBel.out.trans (hd.below _)⟩
end Go.Proofs.Ytaipnjoeejgnnaa
