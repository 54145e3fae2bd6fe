/-
  Contract of the reference's WaveAt, and the walk of the law WaveAts. Conditions: the arguments can be read as data.
-/
import Derived.Test.YteblkbgcnoepnaaRefWaveRead
import Derived.Test.YteblkbgcnoepnaaRefWaveMay
import Derived.Test.YteblkbgcnoepnaaWaveAt
namespace Go.Dam
open Go Go.RowKit
theorem box1 {w w1 : World} {a : Value} {T : TypeId} (hb : Below (w.alloc (.cells #[a] T)).heap.size (w.alloc (.cells #[a] T)) w1) : w1.cell? ⟨w.heap.size, 0, none⟩ = some a :=
  (hb.cell (p := ⟨w.heap.size, 0, none⟩) (by simp)).trans (by simp)
end Go.Dam
namespace Go.Proofs.Yteblkbgcnoepnaa
open Go Go.RowKit Go.Dam
set_option linter.unusedVariables false
set_option maxRecDepth 100000 in
set_option maxHeartbeats 1000000 in
theorem refWaveAt_any (v : Value) (rs : List (Int × List Nat)) (i r cc : Int) (w : World) (B : Nat) (hB : B ≤ w.heap.size) (h : IsWave w B v rs) (hi64 : I64 i) (hR : WAtR rs i r cc) :
    Calls Try.prog 39 #[v, .int .i64 i] w fun e w' => e = .returned (.tuple #[.int .i64 r, .int .i64 cc]) ∧ Below w.heap.size w w' := by
  unfold I64 at hi64
  have HMay := Lib.hid fun r hr W (hW : Below w.heap.size w W) => refWaveMay_any v rs r W B (Nat.le_trans hB hW.size) (h.below (hW.mono hB)) hr
  have HRd := Lib.hid fun n hm hn W (hW : Below w.heap.size w W) => refWaveRead_any v rs n W B (Nat.le_trans hB hW.size) (h.below (hW.mono hB)) hm hn
  obtain ⟨s, rfl, h⟩ := h
  obtain ⟨A, c, vs, rfl, hc, hm, hn, _, _⟩ := h
  have HA := Lib.hid ((Below.refl w.heap.size w).alloc (Nat.le_refl _) (.cells #[.slice A rs.length c] 56))
  rcases hR with ⟨hmw, rfl, rfl⟩ | ⟨hmw, hi, rfl, rfl⟩ | ⟨hmw, j, rfl, hj, hr, rfl⟩
  · have HM := Lib.hid (HMay.out false (mayW_no hmw).symm _ HA.out)
    clear hmw HMay HRd
    go_enter Try.func39, Try.ntmps39
    go_wp2_with (go_at_call 37; refine (HM.out).mono ?_; rintro e w1 ⟨rfl, hb⟩)
    go_ret2
    exact ⟨rfl, below_box hb⟩
  · have HM := Lib.hid (HMay.out true (mayW_yes hmw).symm _ HA.out)
    obtain ⟨n, hln, hn300, hn0, hm21, hrow⟩ := mayWave_len hmw
    have HR := Lib.hid (HRd.out n hmw hln)
    have HL : Hid ((toInts (tab (valW n (rowsW rs) rs.length) n)).length = n) := Lib.hid (tabI_len _ _)
    rw [hln] at hi
    clear hmw HMay HRd hrow hln hn0
    rcases hi with hi | ⟨hi, hi2⟩
    · go_enter Try.func39, Try.ntmps39
      go_wp2_with (first
        | (go_at_call 37; refine (HM.out).mono ?_; rintro e w1 ⟨rfl, hb⟩; have k0 := box1 hb; have HB1 := Lib.hid (below_box hb); clear hb)
        | (go_at_call 68; refine (HR.out _ HB1.out).mono ?_; rintro e w2 ⟨u, rfl, hu, hb2⟩; obtain ⟨Au, cu, hveq, _⟩ := hu; rw [HL.out] at hveq; subst hveq))
      go_ret2
      exact ⟨rfl, HB1.out.trans (hb2.mono HB1.out.size)⟩
    · have hi' : ¬ i < 0 := by omega
      go_enter Try.func39, Try.ntmps39
      go_wp2_with (first
        | (go_at_call 37; refine (HM.out).mono ?_; rintro e w1 ⟨rfl, hb⟩; have k0 := box1 hb; have HB1 := Lib.hid (below_box hb); clear hb)
        | (go_at_call 68; refine (HR.out _ HB1.out).mono ?_; rintro e w2 ⟨u, rfl, hu, hb2⟩; obtain ⟨Au, cu, hveq, _⟩ := hu; rw [HL.out] at hveq; subst hveq))
      go_ret2
      exact ⟨rfl, HB1.out.trans (hb2.mono HB1.out.size)⟩
  · have HM := Lib.hid (HMay.out true (mayW_yes hmw).symm _ HA.out)
    obtain ⟨n, hln, hn300, hn0, hm21, hrow⟩ := mayWave_len hmw
    have HR := Lib.hid (HRd.out n hmw hln)
    have HL : Hid ((toInts (tab (valW n (rowsW rs) rs.length) n)).length = n) := Lib.hid (tabI_len _ _)
    rw [hln] at hj
    have hjn : j < n := by omega
    have hj0 : ¬ (j : Int) < 0 := by omega
    have HV : Hid ((toInts (tab (valW n (rowsW rs) rs.length) n)).getD j 0 = r) := Lib.hid (by rw [tabI_at hjn, hr, numW_eq hln])
    clear hmw HMay HRd hrow hln hn0 hr
    go_enter Try.func39, Try.ntmps39
    go_wp2_with (first
      | (go_at_call 37; refine (HM.out).mono ?_; rintro e w1 ⟨rfl, hb⟩; have k0 := box1 hb; have HB1 := Lib.hid (below_box hb); clear hb)
      | (go_at_call 68; refine (HR.out _ HB1.out).mono ?_; rintro e w2 ⟨u, rfl, hu, hb2⟩; obtain ⟨Au, cu, hveq, _, _, _, hru, _⟩ := hu; rw [HL.out] at hveq; subst hveq; obtain ⟨bu, offu, rfl, _, hcu⟩ := ints_cells hru (by rw [HL.out]; omega); have ku := hcu j (by rw [HL.out]; exact hjn); rw [HV.out] at ku; clear hru hcu))
    go_ret2
    exact ⟨rfl, HB1.out.trans (hb2.mono HB1.out.size)⟩
theorem waveAts_walk (v u : Value) (w : World) (h : ∃ rs, IsWave w w.heap.size v rs) (h' : ∃ x : Int, u = .int .i64 x ∧ I64 x) :
    Calls Try.prog 13 #[v, u] w fun e w' => e = .returned (.bool true) ∧ Below w.heap.size w w' := by
  obtain ⟨rs, h⟩ := h
  obtain ⟨i, rfl, hi⟩ := h'
  obtain ⟨r, cc, hR⟩ := WAtR.ex rs i
  have C1 := Lib.hid fun W (hW : Below w.heap.size w W) => waveAt_any v rs i r cc W _ hW.size (h.below hW) hi hR
  have C2 := Lib.hid fun W (hW : Below w.heap.size w W) => refWaveAt_any v rs i r cc W _ hW.size (h.below hW) hi hR
  obtain ⟨s, rfl, h⟩ := h
  obtain ⟨A, c, vs, rfl, hc, hm, hn, _, _⟩ := h
  unfold I64 at hi
  clear hR
  go_enter Try.func13, Try.ntmps13
  go_wp2_with (first
    | (go_at_call 38; refine (C1.out _ ((Below.refl _ _).alloc (Nat.le_refl _) _)).mono ?_; rintro e w1 ⟨rfl, hb⟩; have k0 := box1 hb; have HB := Lib.hid (below_box hb); clear hb)
    | (go_at_call 39; refine (C2.out _ HB.out).mono ?_; rintro e w2 ⟨rfl, hb2⟩))
  all_goals (go_ret; exact ⟨ret_bool (by simp), HB.out.trans (hb2.mono HB.out.size)⟩)
end Go.Proofs.Yteblkbgcnoepnaa
