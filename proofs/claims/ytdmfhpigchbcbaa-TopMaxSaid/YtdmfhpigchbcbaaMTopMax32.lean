/-
  Contract of wave.kth. Conditions: the wave may be, the range lies within it, and the range has a kth number.
-/
import Derived.Test.YtdmfhpigchbcbaaMTopMax31
namespace Go.Proofs.Ytdmfhpigchbcbaa
open Go Go.RowKit Go.Dam
set_option linter.unusedVariables false
set_option maxRecDepth 100000 in
set_option maxHeartbeats 4000000 in
theorem waveKth_any (v : Value) (rs : List (Int × List Nat)) (n a b k : Nat) (w : World) (B : Nat) (hB : B ≤ w.heap.size) (h : IsWave w B v rs) (hmw : MayWave rs) (hln : lenW rs = n) (hab : a ≤ b) (hbn : b ≤ n) (hk : k < b - a) :
    Calls Try.prog 26 #[v, .int .i64 a, .int .i64 b, .int .i64 k] w fun e w' => e = .returned (.int .i64 ((sW rs n a b).getD k 0)) ∧ Below w.heap.size w w' := by
  obtain ⟨n', hln', hn300, hn0, hm21, hrow⟩ := mayWave_len hmw
  obtain rfl : n = n' := by omega
  obtain ⟨s, rfl, h⟩ := h
  have HI := Lib.hid h
  obtain ⟨A, c, vs, rfl, hc, hm, hl, _, _⟩ := h
  have HA := Lib.hid ((Below.refl w.heap.size w).alloc (Nat.le_refl _) (.cells #[.slice A rs.length c] 34))
  have HEnd : Hid (∀ N a' b' K : Nat, Seg n (rowsW rs) (fun j => decide (a ≤ j ∧ j < b)) rs.length N a' b' → K + ltW n (rowsW rs) (fun j => decide (a ≤ j ∧ j < b)) rs.length N = k → K < b' - a' → (sW rs n a b).getD k 0 = (N : Int)) := Lib.hid fun N a' b' K hs h1 h2 => by
    refine sorted_at _ (sW_sorted rs n a b) k N ?_ ?_
    · rw [sW_lt rs N hab hbn]; omega
    · rw [sW_lt rs N hab hbn, sW_eq rs hab hbn hs]; omega
  have HRow := Lib.hid hrow
  generalize (sW rs n a b).getD k 0 = R at *
  clear hmw hrow hln hln' hn0
  go_enter Try.func26, Try.ntmps26
  go_wp2_with fail
  go_loopw [1, 2, 3, 9, 17] (fun av bv kv nv iv wr => ∃ L a' b' K N : Nat, L ≤ rs.length ∧ iv = .int .i64 L ∧ av = .int .i64 a' ∧ bv = .int .i64 b' ∧ kv = .int .i64 K ∧ nv = .int .i64 N ∧ N < 2 ^ L ∧ Seg n (rowsW rs) (fun q => decide (a ≤ q ∧ q < b)) L N a' b' ∧ K + ltW n (rowsW rs) (fun q => decide (a ≤ q ∧ q < b)) L N = k ∧ K < b' - a' ∧ Below w.heap.size w wr) (fun _ _ _ _ iv _ => rs.length - (intOf iv).toNat)
  case atStart => exact ⟨0, a, b, k, 0, by omega, rfl, rfl, rfl, rfl, rfl, by decide, Seg.start n _ hab hbn, by rw [ltW_0]; rfl, hk, HA.out⟩
  case round =>
    obtain ⟨L, a', b', K, N, hL, rfl, rfl, rfl, rfl, rfl, hN, hseg, hKl, hKb, hbel⟩ := hrel
    have HBe := Lib.hid hbel
    have hz := hbel.size
    have hbn' := hseg.1
    have hab' := hseg.2.1
    have HKl := Lib.hid hKl
    clear hbel hKl
    have hN2 : N < 2097152 := by
      have : 2 ^ L ≤ 2 ^ 21 := Nat.pow_le_pow_right (by decide) (by omega)
      omega
    by_cases hlt : L < rs.length
    · have HSeg := Lib.hid fun one => hseg.down one
      have HLf := Lib.hid (ltW_false n (rowsW rs) (fun j => decide (a ≤ j ∧ j < b)) L N)
      have HLt := Lib.hid (ltW_true hseg)
      have HNp : Hid (2 * N < 2 ^ (L + 1) ∧ 2 * N + 1 < 2 ^ (L + 1)) := Lib.hid (by rw [Nat.pow_succ]; omega)
      obtain ⟨_, bb, off, rfl, hbb, hrows⟩ := rows_at HI.out (by omega)
      obtain ⟨sv, c0, c1, hln64, hws⟩ := hrows L hlt
      obtain ⟨e1, hmk⟩ := HRow.out L hlt
      rw [← rowsW_at] at hws
      rw [e1] at c0 hln64
      generalize (rowsW rs).getD L [] = ws at *
      have hws2 := hws
      obtain ⟨As, cs, rfl, _⟩ := hws2
      have d0 := (HBe.out.cell (p := ⟨bb, off + L * 2, none⟩) (by simp; omega)).trans c0
      have d1 := (HBe.out.cell (p := ⟨bb, off + L * 2 + 1, none⟩) (by simp; omega)).trans c1
      have HDn := Lib.hid fun one p (hp : p ≤ n) W (hW : Below w.heap.size w W) => waveDown_any (.agg #[.int .i64 n, .slice As ws.length cs]) n p ws one W B (Nat.le_trans hB hW.size) ⟨_, rfl, hln64, hws.below (hW.mono hB)⟩ hmk hp
      have hdm := dnW_mono ws n false hab'
      have hdl := dnW_le ws n false hbn'
      have hds := dnW_sum ws n hab'
      clear hrows c0 c1 hws hmk HI hseg hN
      have HBWr := Lib.hid (HBe.out.alloc (by omega) (.cells #[.int .i64 n, .slice As ws.length cs] 73))
      have p0r : (wr.alloc (.cells #[.int .i64 n, .slice As ws.length cs] 73)).cell? ⟨wr.heap.size, 0, none⟩ = some (.int .i64 n) := by simp
      have p1r : (wr.alloc (.cells #[.int .i64 n, .slice As ws.length cs] 73)).cell? ⟨wr.heap.size, 1, none⟩ = some (.slice As ws.length cs) := by simp
      have wr1 : IntKind.i64.wrap (((dnW ws n false b' : Nat) : Int) - ((dnW ws n false a' : Nat) : Int)) = ((dnW ws n false b' : Nat) : Int) - ((dnW ws n false a' : Nat) : Int) := by rw [IntKind.wrap_i64]; omega
      have hKi : ((dnW ws n false b' : Nat) : Int) - ((dnW ws n false a' : Nat) : Int) ≤ (K : Int) ∨ (K : Int) < ((dnW ws n false b' : Nat) : Int) - ((dnW ws n false a' : Nat) : Int) := by omega
      go_wp2_with fail
      have HQx5 := Lib.hid fun d os => (HBWr.out.trans ((below_regrown (wr.alloc (.cells #[.int .i64 n, .slice As ws.length cs] 73)) d os).mono HBWr.out.size))
      have HDx5 := Lib.hid fun one p (hp : p ≤ n) d os => Calls.regrown_of (HDn.out one p hp (Sort.grow (redrawn (wr.alloc (.cells #[.int .i64 n, .slice As ws.length cs] 73)) d) os) (HQx5.out d os))
      have q0 := fun d os => cell_regrown p0r d os
      have q1 := fun d os => cell_regrown p1r d os
      refine wp_region_quiet_below (by kernel_rfl) (by kernel_rfl) ?_
      repeat (quiet_step ((go_at_call 44; exact HDx5.out _ _ (by omega) _ _)))
      refine wpQuiet_nil ?_
      intro _ hw'
      obtain ⟨⟨dq, osq⟩, hw''⟩ := hw'
      subst hw''
      have HBWx5 := Lib.hid (HQx5.out dq osq)
      have HGrx5 := Lib.hid (below_regrown (wr.alloc (.cells #[.int .i64 n, .slice As ws.length cs] 73)) dq osq)
      have p0x5 := cell_regrown p0r dq osq
      have p1x5 := cell_regrown p1r dq osq
      generalize Sort.grow (redrawn (wr.alloc (.cells #[.int .i64 n, .slice As ws.length cs] 73)) dq) osq = wx5 at *
      clear q0 q1 HDx5 HQx5 p0r p1r
      rcases hKi with hge | hge
      · have hlK : ltW n (rowsW rs) (fun q => decide (a ≤ q ∧ q < b)) (L + 1) (2 * N + 1) = ltW n (rowsW rs) (fun q => decide (a ≤ q ∧ q < b)) L N + (dnW ws n false b' - dnW ws n false a') := HLt.out
        have HK2 : Hid ((K - (dnW ws n false b' - dnW ws n false a')) + ltW n (rowsW rs) (fun q => decide (a ≤ q ∧ q < b)) (L + 1) (2 * N + 1) = k) := Lib.hid (by rw [hlK]; have := HKl.out; omega)
        have hKi2 : ((K - (dnW ws n false b' - dnW ws n false a') : Nat) : Int) = (K : Int) - (((dnW ws n false b' : Nat) : Int) - ((dnW ws n false a' : Nat) : Int)) := by omega
        have HKi := Lib.hid hKi2
        have HKb : Hid (K - (dnW ws n false b' - dnW ws n false a') < dnW ws n true b' - dnW ws n true a') := Lib.hid (by omega)
        clear hlK hKi2 hds HLf HLt
        go_wp2_with fail
        have HQx6 := Lib.hid fun d os => (HBWx5.out.trans ((below_regrown wx5 d os).mono HBWx5.out.size))
        have HDx6 := Lib.hid fun one p (hp : p ≤ n) d os => Calls.regrown_of (HDn.out one p hp (Sort.grow (redrawn wx5 d) os) (HQx6.out d os))
        have q0 := fun d os => cell_regrown p0x5 d os
        have q1 := fun d os => cell_regrown p1x5 d os
        refine wp_region_quiet_below (by kernel_rfl) (by kernel_rfl) ?_
        repeat (quiet_step ((go_at_call 44; exact HDx6.out _ _ (by omega) _ _)))
        refine wpQuiet_nil ?_
        intro _ hw'
        obtain ⟨⟨dq, osq⟩, hw''⟩ := hw'
        subst hw''
        have HBWx6 := Lib.hid (HQx6.out dq osq)
        have HGrx6 := Lib.hid (below_regrown wx5 dq osq)
        have p0x6 := cell_regrown p0x5 dq osq
        have p1x6 := cell_regrown p1x5 dq osq
        generalize Sort.grow (redrawn wx5 dq) osq = wx6 at *
        clear q0 q1 HDx6 HQx6 p0x5 p1x5
        go_wp2_with fail
        go_roundw
        case rel => exact ⟨L + 1, _, _, _, 2 * N + 1, by omega, by go_num, rfl, rfl, vint HKi.out.symm, by go_num, HNp.out.2, HSeg.out true, HK2.out, HKb.out, HBWx6.out⟩
        case measure => simp [intOf]; omega
      · have HK2 : Hid (K + ltW n (rowsW rs) (fun q => decide (a ≤ q ∧ q < b)) (L + 1) (2 * N) = k) := Lib.hid (by rw [HLf.out]; exact HKl.out)
        have HKb : Hid (K < dnW ws n false b' - dnW ws n false a') := Lib.hid (by omega)
        have hgd : decide (((dnW ws n false b' : Nat) : Int) - ((dnW ws n false a' : Nat) : Int) ≤ (K : Int)) = false := decide_eq_false (by omega)
        clear hds HLf HLt
        go_wp2_with fail
        have HQx6 := Lib.hid fun d os => (HBWx5.out.trans ((below_regrown wx5 d os).mono HBWx5.out.size))
        have HDx6 := Lib.hid fun one p (hp : p ≤ n) d os => Calls.regrown_of (HDn.out one p hp (Sort.grow (redrawn wx5 d) os) (HQx6.out d os))
        have q0 := fun d os => cell_regrown p0x5 d os
        have q1 := fun d os => cell_regrown p1x5 d os
        refine wp_region_quiet_below (by kernel_rfl) (by kernel_rfl) ?_
        repeat (quiet_step ((go_at_call 44; exact HDx6.out _ _ (by omega) _ _)))
        refine wpQuiet_nil ?_
        intro _ hw'
        obtain ⟨⟨dq, osq⟩, hw''⟩ := hw'
        subst hw''
        have HBWx6 := Lib.hid (HQx6.out dq osq)
        have HGrx6 := Lib.hid (below_regrown wx5 dq osq)
        have p0x6 := cell_regrown p0x5 dq osq
        have p1x6 := cell_regrown p1x5 dq osq
        generalize Sort.grow (redrawn wx5 dq) osq = wx6 at *
        clear q0 q1 HDx6 HQx6 p0x5 p1x5
        go_wp2_with fail
        go_roundw
        case rel => exact ⟨L + 1, _, _, K, 2 * N, by omega, by go_num, rfl, rfl, rfl, by go_num, HNp.out.1, HSeg.out false, HK2.out, HKb.out, HBWx6.out⟩
        case measure => simp [intOf]; omega
    · obtain rfl : L = rs.length := by omega
      have HE := Lib.hid (HEnd.out N a' b' K hseg HKl.out hKb)
      clear hseg
      go_wp2_with fail
      go_ret
      exact ⟨by rw [HE.out]; rfl, HBe.out⟩
end Go.Proofs.Ytdmfhpigchbcbaa
