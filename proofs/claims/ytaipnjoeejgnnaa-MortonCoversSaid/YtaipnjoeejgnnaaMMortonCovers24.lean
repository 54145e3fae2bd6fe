/-
  The walk of the law MortonCovers: morton.Cover and the reference answer alike. Conditions: none.
-/
import Derived.Test.YtaipnjoeejgnnaaMMortonCovers21
import Derived.Test.YtaipnjoeejgnnaaMMortonCovers23
namespace Go.Proofs.Ytaipnjoeejgnnaa
open Go Go.RowKit Go.Dam
set_option linter.unusedVariables false
set_option maxHeartbeats 1000000 in
theorem mortonCovers_walk (rv : Value) (w : World) (hr : ∃ x0 y0 x1 y1 : Int, rv = .agg #[.int .i64 x0, .int .i64 y0, .int .i64 x1, .int .i64 y1]) :
    Calls Try.prog 11 #[rv] w fun e w' => e = .returned (.bool true) ∧ Below w.heap.size w w' := by
  obtain ⟨x0, y0, x1, y1, rfl⟩ := hr
  obtain ⟨r, cc, hR⟩ := CoverR.ex x0 y0 x1 y1
  have HB0 := Lib.hid ((Below.refl w.heap.size w).alloc (Nat.le_refl _) (.cells #[.int .i64 x0, .int .i64 y0, .int .i64 x1, .int .i64 y1] 65))
  have HK := Lib.hid (Blk.new w 65 #[.int .i64 x0, .int .i64 y0, .int .i64 x1, .int .i64 y1])
  have H1 := Lib.hid fun W => mortonCover_any x0 y0 x1 y1 r cc W hR
  have H2 := Lib.hid fun W => refCover_any x0 y0 x1 y1 r cc W hR
  clear hR
  go_enter Try.func11, Try.ntmps11
  go_wp2_with (first
    | (go_at_call 35; refine (H1.out _).mono ?_; rintro e w1 ⟨v1, k1, rfl, hk1, hi1, hb1⟩; have HB1 := Lib.hid (HB0.out.trans (hb1.mono HB0.out.size)); have HK1 := Lib.hid (HK.out.below hb1 (by simp)); have z0 := (HK1.out.cell 0).trans rfl; have z1 := (HK1.out.cell 1).trans rfl; have z2 := (HK1.out.cell 2).trans rfl; have z3 := (HK1.out.cell 3).trans rfl; have HI1 := Lib.hid hi1; obtain ⟨A1, c1, rfl, hc1, hm1, hn1, hl1, hr1, hw1⟩ := hi1; clear hr1 hw1 hb1)
    | (go_at_call 36; refine (H2.out _).mono ?_; rintro e w2 ⟨v2, k2, rfl, hk2, hi2, hb2⟩; have HB2 := Lib.hid hb2; have HI2 := Lib.hid hi2; obtain ⟨A2, c2, rfl, hc2, hm2, hn2, hl2, hr2, hw2⟩ := hi2; clear hr2 hw2 hb2; obtain rfl : k1 = k2 := (by omega); clear hl1 hl2 z0 z1 z2 z3))
  have hj1 := (HI1.out.below HB2.out).more HB2.out.size
  have hi2 := HI2.out
  have HBel := Lib.hid (HB1.out.trans (HB2.out.mono HB1.out.size))
  obtain ⟨A1', c1', e1, hc1, hm1, hn1, hl1, hr1, _⟩ := hj1
  obtain ⟨A2', c2', e2, hc2, hm2, hn2, hl2, hr2, _⟩ := hi2
  injection e1 with e1 e1' e1''
  injection e2 with e2 e2' e2''
  subst e1 e1'' e2 e2''
  go_loopw [7] (fun iv wr => ∃ i : Nat, i ≤ k1 ∧ iv = .int .i64 i ∧ Drawn w2 wr) (fun iv _ => k1 - (intOf iv).toNat)
  case atStart => exact ⟨0, by omega, rfl, Drawn.refl _⟩
  case round =>
    obtain ⟨i, hi, rfl, hd⟩ := hrel
    by_cases hlt : i < k1
    · obtain ⟨b, off, rfl, hb, hcells⟩ := flat_cells hr1 hl1 (by omega) (by omega)
      obtain ⟨b', off', rfl, hb', hcells'⟩ := flat_cells hr2 hl2 (by omega) (by omega)
      have c0 := (hd.cell ⟨b, off + i * 2, none⟩).trans (hcells (i * 2) (by omega))
      have c1 := (hd.cell ⟨b, off + i * 2 + 1, none⟩).trans (hcells (i * 2 + 1) (by omega))
      have d0 := (hd.cell ⟨b', off' + i * 2, none⟩).trans (hcells' (i * 2) (by omega))
      have d1 := (hd.cell ⟨b', off' + i * 2 + 1, none⟩).trans (hcells' (i * 2 + 1) (by omega))
      have HD := Lib.hid hd
      generalize r.getD (i * 2) 0 = x0 at *
      generalize r.getD (i * 2 + 1) 0 = x1 at *
      clear hcells hcells' hd hl1 hl2 hr1 hr2
      go_wp2_with fail
      go_quiet (fail)
      go_wp2
      go_roundw
      case rel => exact ⟨i + 1, by omega, by go_num, HD.out.drewN _⟩
      case measure => simp [intOf]; omega
    · obtain rfl : i = k1 := by omega
      go_wp2
      go_ret
      exact ⟨rfl, HBel.out.trans (hd.below _)⟩
end Go.Proofs.Ytaipnjoeejgnnaa
