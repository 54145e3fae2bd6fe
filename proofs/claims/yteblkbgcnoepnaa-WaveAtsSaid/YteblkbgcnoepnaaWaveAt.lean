/-
  Contract of wave.At. Conditions: the wave can be read as data.
-/
import Derived.Test.YteblkbgcnoepnaaWaveFacts
import Derived.Test.YteblkbgcnoepnaaWaveDown
import Derived.Test.YteblkbgcnoepnaaBitsAt
namespace Go.Proofs.Yteblkbgcnoepnaa
open Go Go.RowKit Go.Dam
set_option linter.unusedVariables false
set_option maxRecDepth 100000 in
set_option maxHeartbeats 2000000 in
theorem waveAt_any (v : Value) (rs : List (Int × List Nat)) (i r cc : Int) (w : World) (B : Nat) (hB : B ≤ w.heap.size) (h : IsWave w B v rs) (hi64 : I64 i) (hR : WAtR rs i r cc) :
    Calls Try.prog 38 #[v, .int .i64 i] w fun e w' => e = .returned (.tuple #[.int .i64 r, .int .i64 cc]) ∧ Below w.heap.size w w' := by
  unfold I64 at hi64
  have HLen := Lib.hid fun W (hW : Below w.heap.size w W) => waveLen_any v rs W B (Nat.le_trans hB hW.size) (h.below (hW.mono hB))
  have HMay := Lib.hid fun r hr W (hW : Below w.heap.size w W) => waveMay_any v rs r W B (Nat.le_trans hB hW.size) (h.below (hW.mono hB)) hr
  obtain ⟨s, rfl, h⟩ := h
  have HI := Lib.hid h
  obtain ⟨A, c, vs, rfl, hc, hm, hn, _, _⟩ := h
  have HA := Lib.hid ((Below.refl w.heap.size w).alloc (Nat.le_refl _) (.cells #[.slice A rs.length c] 56))
  rcases hR with ⟨hmw, rfl, rfl⟩ | ⟨hmw, hi, rfl, rfl⟩ | ⟨hmw, j, rfl, hj, hr, rfl⟩
  · have HM := Lib.hid (HMay.out false (mayW_no hmw).symm _ HA.out)
    clear hmw HMay HLen HI
    go_enter Try.func38, Try.ntmps38
    go_wp2_with (go_at_call 36; refine (HM.out).mono ?_; rintro e w1 ⟨rfl, hb⟩)
    go_ret2
    exact ⟨rfl, below_box hb⟩
  · have HM := Lib.hid (HMay.out true (mayW_yes hmw).symm _ HA.out)
    clear hmw HMay HI
    rcases hi with hi | ⟨hi, hi2⟩
    · go_enter Try.func38, Try.ntmps38
      go_wp2_with (go_at_call 36; refine (HM.out).mono ?_; rintro e w1 ⟨rfl, hb⟩)
      go_ret2
      exact ⟨rfl, below_box hb⟩
    · have hi' : ¬ i < 0 := by omega
      go_enter Try.func38, Try.ntmps38
      go_wp2_with (first
        | (go_at_call 36; refine (HM.out).mono ?_; rintro e w1 ⟨rfl, hb⟩; have k0 : w1.cell? ⟨w.heap.size, 0, none⟩ = some (.slice A rs.length c) := (hb.cell (p := ⟨w.heap.size, 0, none⟩) (by simp)).trans (by simp); have HB1 := Lib.hid hb; clear hb)
        | (go_at_call 65; refine (HLen.out _ (below_box HB1.out)).mono ?_; rintro e w2 ⟨rfl, hb2⟩))
      go_ret2
      exact ⟨rfl, (below_box HB1.out).trans (hb2.mono (below_box HB1.out).size)⟩
  · have HM := Lib.hid (HMay.out true (mayW_yes hmw).symm _ HA.out)
    obtain ⟨n, hln, hn300, hn0, hm21, hrow⟩ := mayWave_len hmw
    have hj' : j < n := by omega
    have hj2 : ¬ (j : Int) < 0 := by omega
    have hj3 : ¬ lenW rs ≤ (j : Int) := by omega
    have HR : Hid (r = ((valW n (rowsW rs) rs.length j : Nat) : Int)) := Lib.hid (by rw [hr, numW_eq hln])
    have HRow := Lib.hid hrow
    clear hmw HMay hrow hr hln hn0
    go_enter Try.func38, Try.ntmps38
    go_wp2_with (first
      | (go_at_call 36; refine (HM.out).mono ?_; rintro e w1 ⟨rfl, hb⟩; have k0 : w1.cell? ⟨w.heap.size, 0, none⟩ = some (.slice A rs.length c) := (hb.cell (p := ⟨w.heap.size, 0, none⟩) (by simp)).trans (by simp); have HB1 := Lib.hid hb; clear hb)
      | (go_at_call 65; refine (HLen.out _ (below_box HB1.out)).mono ?_; rintro e w2 ⟨rfl, hb2⟩; have k1 : w2.cell? ⟨w.heap.size, 0, none⟩ = some (.slice A rs.length c) := (hb2.cell (p := ⟨w.heap.size, 0, none⟩) (size_box HB1.out)).trans k0; have HB2 := Lib.hid ((below_box HB1.out).trans (hb2.mono (below_box HB1.out).size)); clear hb2))
    go_loopw [1, 6, 27] (fun pv nv kv wr => ∃ k : Nat, k ≤ rs.length ∧ kv = .int .i64 k ∧ pv = .int .i64 ((posW n (rowsW rs) k j : Nat) : Int) ∧ nv = .int .i64 ((valW n (rowsW rs) k j : Nat) : Int) ∧ Below w.heap.size w wr) (fun _ _ kv _ => rs.length - (intOf kv).toNat)
    case atStart => exact ⟨0, by omega, rfl, by rw [posW_0], by rw [valW_0]; rfl, HB2.out⟩
    case round =>
      obtain ⟨k, hk, rfl, rfl, rfl, hbel⟩ := hrel
      have hz := hbel.size
      have HBe := Lib.hid hbel
      clear hbel
      by_cases hlt : k < rs.length
      · obtain ⟨_, b, off, rfl, hb, hrows⟩ := rows_at HI.out (by omega)
        obtain ⟨sv, c0, c1, hln64, hws⟩ := hrows k hlt
        obtain ⟨e1, hmk⟩ := HRow.out k hlt
        rw [← rowsW_at] at hws
        rw [e1] at c0 hln64
        have HPs := Lib.hid (posW_succ n (rowsW rs) k j)
        have HVs := Lib.hid (valW_succ n (rowsW rs) k j)
        have hpl := posW_lt (rows := rowsW rs) hj' k
        have hvl := valW_bound (n := n) (k := k) (j := j) (rows := rowsW rs) (by omega)
        generalize (rowsW rs).getD k [] = ws at *
        generalize posW n (rowsW rs) k j = p at *
        generalize valW n (rowsW rs) k j = x at *
        have hws2 := hws
        obtain ⟨As, cs, rfl, _⟩ := hws2
        have d0 := (HBe.out.cell (p := ⟨b, off + k * 2, none⟩) (by simp; omega)).trans c0
        have d1 := (HBe.out.cell (p := ⟨b, off + k * 2 + 1, none⟩) (by simp; omega)).trans c1
        have hA := HBe.out.alloc (by omega) (.cells #[.int .i64 n, .slice As ws.length cs] 24)
        have HAt := Lib.hid (at_any (.agg #[.int .i64 n, .slice As ws.length cs]) n p ws (bitAt ws p) 0 (wr.alloc (.cells #[.int .i64 n, .slice As ws.length cs] 24)) B (Nat.le_trans hB hA.size) ⟨_, rfl, hln64, hws.below (hA.mono hB)⟩ (by unfold I64; omega) (.inr (.inr ⟨hmk, by omega, by omega, by simp, rfl⟩)))
        have HDn := Lib.hid fun one W (hW : Below w.heap.size w W) => waveDown_any (.agg #[.int .i64 n, .slice As ws.length cs]) n p ws one W B (Nat.le_trans hB hW.size) ⟨_, rfl, hln64, hws.below (hW.mono hB)⟩ hmk (by omega)
        clear hrows c0 c1 hws hmk hA HI
        cases hbt : bitAt ws p
        all_goals
          rw [hbt] at HAt HPs HVs
          go_wp2_with (first
            | (go_at_call 66; refine (HAt.out).mono ?_; rintro e w3 ⟨rfl, hb3⟩; obtain ⟨q0, q1⟩ := box2 hb3; have HB3 := Lib.hid (HBe.out.trans ((below_box hb3).mono hz)); clear hb3)
            | (go_at_call 67; refine (HDn.out _ _ HB3.out).mono ?_; rintro e w4 ⟨rfl, hb4⟩))
          go_roundw
          case rel => exact ⟨k + 1, by omega, by go_num, by rw [HPs.out], by rw [HVs.out]; go_num, HB3.out.trans (hb4.mono HB3.out.size)⟩
          case measure => simp [intOf]; omega
      · obtain rfl : k = rs.length := by omega
        rw [← HR.out]
        go_wp2_with fail
        go_ret2
        exact ⟨rfl, HBe.out⟩
end Go.Proofs.Yteblkbgcnoepnaa
