/-
  The walk of the law GridReports: grid.Report and the reference answer alike. Conditions: the points can be read as data.
-/
import Derived.Test.YthbopbbpogddlaaMGridReports51
import Derived.Test.YthbopbbpogddlaaMGridReports52
import Derived.Test.YthbopbbpogddlaaMGridReports53
namespace Go.Proofs.Ythbopbbpogddlaa
open Go Go.RowKit Go.Dam Go.Dam.Stable
set_option linter.unusedVariables false
set_option maxHeartbeats 1000000 in
theorem gridReports_walk (v : Value) (rv : Value) (w : World) (h : ∃ n l, IsFlat 3 w w.heap.size v n l) (hr : ∃ x0 y0 x1 y1 : Int, rv = .agg #[.int .i64 x0, .int .i64 y0, .int .i64 x1, .int .i64 y1]) :
    Calls Try.prog 3 #[v, rv] w fun e w' => e = .returned (.bool true) ∧ Below w.heap.size w w' := by
  obtain ⟨n, l, h⟩ := h
  obtain ⟨x0, y0, x1, y1, rfl⟩ := hr
  have HB0 := Lib.hid ((Below.refl w.heap.size w).alloc (Nat.le_refl _) (.cells #[.int .i64 x0, .int .i64 y0, .int .i64 x1, .int .i64 y1] 24))
  have HK := Lib.hid (Blk.new w 24 #[.int .i64 x0, .int .i64 y0, .int .i64 x1, .int .i64 y1])
  have H1 := Lib.hid (gridReport_any x0 y0 x1 y1 v n l (w.alloc (.cells #[.int .i64 x0, .int .i64 y0, .int .i64 x1, .int .i64 y1] 24)) w.heap.size (by simp) (h.below HB0.out))
  have H2 := Lib.hid fun w1 (hb : Below w.heap.size w w1) => refReport_any x0 y0 x1 y1 v n l w1 w.heap.size hb.size (h.below hb)
  have HE : Hid (∀ r r', ((ptCode n l = 0 → ∃ rn, OrdXY l n rn ∧ r = natL (rn.filter (inP l x0 y0 x1 y1))) ∧ (ptCode n l ≠ 0 → r = [])) → ((ptCode n l = 0 → StabR (ltP l) (natL ((List.range n).filter (inQ l x0 y0 x1 y1))) r') ∧ (ptCode n l ≠ 0 → r' = [])) → r = r') := Lib.hid (by
    rintro r r' ⟨a1, a2⟩ ⟨b1, b2⟩
    by_cases h0 : ptCode n l = 0
    · obtain ⟨rn, hO, rfl⟩ := a1 h0
      exact (report_stab hO (inP l x0 y0 x1 y1)).uniq (ltP_weak l) (b1 h0)
    · rw [a2 h0, b2 h0])
  obtain ⟨A, c, rfl, hc, hm, hn, hl, hr, hw⟩ := h
  clear hr hl hw
  go_enter Try.func3, Try.ntmps3
  go_wp2_with (first
    | (go_at_call 6; refine (H1.out).mono ?_; rintro e w1 ⟨⟨u1, r, rfl, ha, ha', hu1⟩, hb1⟩; have HB1 := Lib.hid (HB0.out.trans (hb1.mono HB0.out.size)); have HK1 := Lib.hid (HK.out.below hb1 (by simp)); have k0 := (HK1.out.cell 0).trans rfl; have k1 := (HK1.out.cell 1).trans rfl; have k2 := (HK1.out.cell 2).trans rfl; have k3 := (HK1.out.cell 3).trans rfl; have HU1 := Lib.hid hu1; have HA := Lib.hid (And.intro ha ha'); obtain ⟨A1, c1, rfl, _⟩ := hu1; clear hb1 ha ha')
    | (go_at_call 7; refine (H2.out _ HB1.out).mono ?_; rintro e w2 ⟨⟨u2, r', rfl, hc', hc'', hu2⟩, hb2⟩; obtain rfl := HE.out _ _ HA.out ⟨hc', hc''⟩; have HB2 := Lib.hid hb2; have HU2 := Lib.hid hu2; obtain ⟨A2, c2, rfl, _⟩ := hu2; clear hb2 hc' hc'')
    | (go_at_call 8; refine (sameInts_any _ _ _ _ _ ((HU1.out.below HB2.out).more HB2.out.size) HU2.out).mono ?_; rintro e w3 ⟨rfl, hd3⟩; have HD3 := Lib.hid hd3; clear hd3))
  go_ret
  exact ⟨ret_bool (by simp), (HB1.out.trans (HB2.out.mono HB1.out.size)).trans (HD3.out.below _)⟩
end Go.Proofs.Ythbopbbpogddlaa
