/-
  The walk of the law damask/damasklaw.KleeCrosses: it returns true and changes no old memory. Conditions: the rectangles can be read as data.
-/
import Derived.Test.YtmcfdlijkcibbaaRefKleeCross
namespace Go.Proofs.Ytmcfdlijkcibbaa
open Go Go.RowKit Go.Dam
set_option linter.unusedVariables false
set_option maxHeartbeats 1000000 in
theorem kleeCrosses_walk (v : Value) (w : World) (h : ∃ n l, IsFlat 4 w w.heap.size v n l) :
    Calls Try.prog 13 #[v] w fun e w' => e = .returned (.bool true) ∧ Below w.heap.size w w' := by
  obtain ⟨n, l, h⟩ := h
  obtain ⟨r, cc, hR⟩ := CrossR.ex n l
  have H1 := Lib.hid (kleeCross_any v n l r cc w _ (Nat.le_refl _) h hR)
  have H2 := Lib.hid fun W (hb : Below w.heap.size w W) => refKleeCross_any v n l r cc W _ hb.size (h.below hb) hR
  obtain ⟨A, c, rfl, hc, hm, hn, hl, hr, hw⟩ := h
  clear hl hr hw hR
  go_enter Try.func13, Try.ntmps13
  go_wp2_with (first
    | (go_at_call 36; refine (H1.out).mono ?_; rintro e w1 ⟨v1, k1, rfl, hk1, hi1, hb1⟩; have hi1' := hi1; obtain ⟨A1, c1, rfl, hc1, hm1, hn1, hl1, hr1, hw1⟩ := hi1'; clear hr1 hw1)
    | (go_at_call 37; refine (H2.out _ hb1).mono ?_; rintro e w2 ⟨v2, k2, rfl, hk2, hi2, hb2⟩; have hi2' := hi2; obtain ⟨A2, c2, rfl, hc2, hm2, hn2, hl2, hr2, hw2⟩ := hi2'; clear hr2 hw2; obtain rfl : k1 = k2 := (by omega); clear hl1 hl2))
  have hj1 := (hi1.below hb2).more hb2.size
  have hBel := Lib.hid (hb1.trans (hb2.mono hb1.size))
  obtain ⟨A1, c1, e1, hc1, hm1, hn1, hl1, hr1, _⟩ := hj1
  obtain ⟨A2, c2, e2, hc2, hm2, hn2, hl2, hr2, _⟩ := hi2
  injection e1 with e1 e1' e1''
  injection e2 with e2 e2' e2''
  subst e1 e1'' e2 e2''
  clear hi1 hb1 hb2
  go_loopw [7] (fun iv wr => ∃ i : Nat, i ≤ k1 ∧ iv = .int .i64 i ∧ Drawn w2 wr) (fun iv _ => k1 - (intOf iv).toNat)
  case atStart => exact ⟨0, by omega, rfl, Drawn.refl _⟩
  case round =>
    obtain ⟨i, hi, rfl, hd⟩ := hrel
    by_cases hlt : i < k1
    · obtain ⟨b, off, rfl, hb, hcells⟩ := flat_cells hr1 hl1 (by omega) (by omega)
      obtain ⟨b', off', rfl, hb', hcells'⟩ := flat_cells hr2 hl2 (by omega) (by omega)
      have c0 := (hd.cell ⟨b, off + i * 2, none⟩).trans (hcells (i * 2) (by omega))
      have c1 := (hd.cell ⟨b, off + i * 2 + 1, none⟩).trans (hcells (i * 2 + 1) (by omega))
      have d0 := (hd.cell ⟨b', off' + i * 2, none⟩).trans (hcells' (i * 2) (by omega))
      have d1 := (hd.cell ⟨b', off' + i * 2 + 1, none⟩).trans (hcells' (i * 2 + 1) (by omega))
      have HD := Lib.hid hd
      generalize r.getD (i * 2) 0 = x0 at *
      generalize r.getD (i * 2 + 1) 0 = x1 at *
      clear hcells hcells' hd hl1 hl2 hr1 hr2
      go_wp2_with fail
      go_quiet (fail)
      go_wp2
      go_roundw
      case rel => exact ⟨i + 1, by omega, by go_num, HD.out.drewN _⟩
      case measure => simp [intOf]; omega
    · obtain rfl : i = k1 := by omega
      go_wp2
      go_ret
      exact ⟨rfl, hBel.out.trans (hd.below _)⟩
end Go.Proofs.Ytmcfdlijkcibbaa
