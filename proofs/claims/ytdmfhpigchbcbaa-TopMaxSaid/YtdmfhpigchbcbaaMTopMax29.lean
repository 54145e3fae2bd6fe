/-
  Contracts of wave.rank and wave.down. Conditions: the row of bits may be, and the place lies within it.
-/
import Derived.Test.YtdmfhpigchbcbaaMTopMax21
import Derived.Test.YtdmfhpigchbcbaaMTopMax00
import Derived.Test.YtdmfhpigchbcbaaMTopMax28
namespace Go.Proofs.Ytdmfhpigchbcbaa
open Go Go.RowKit Go.Dam
set_option linter.unusedVariables false
set_option maxHeartbeats 400000 in
theorem waveRank1_any (v : Value) (n p : Nat) (ws : List Nat) (w : World) (B : Nat) (hB : B ≤ w.heap.size) (h : IsBits w B v n ws) (hm : mayBits n ws = true) (hp : p ≤ n) :
    Calls Try.prog 63 #[v, .int .i64 p] w fun e w' => e = .returned (.int .i64 ((cntB ws true p : Nat) : Int)) ∧ Below w.heap.size w w' := by
  have hn := (may_facts hm).2.1
  have h' := h
  obtain ⟨s, rfl, hi64, hws⟩ := h
  obtain ⟨A, c, rfl, _⟩ := hws
  have HR := Lib.hid (bitsRank_any (.agg #[.int .i64 n, .slice A ws.length c]) n p ws (cntB ws true p : Nat) 0 (w.alloc (.cells #[.int .i64 n, .slice A ws.length c] 73)) B (box_le hB) (h'.below ((Below.refl _ _).alloc hB _)) (by unfold I64; omega) (.inr (.inr ⟨hm, by omega, by omega, by simp, rfl⟩)))
  clear h' hm
  generalize cntB ws true p = q at *
  go_enter Try.func63, Try.ntmps63
  go_wp2_with (go_at_call 73; refine (HR.out).mono ?_; rintro e w1 ⟨rfl, hb⟩)
  go_ret
  exact ⟨rfl, below_box hb⟩
set_option maxRecDepth 100000 in
set_option maxHeartbeats 1000000 in
theorem waveDown_any (v : Value) (n p : Nat) (ws : List Nat) (one : Bool) (w : World) (B : Nat) (hB : B ≤ w.heap.size) (h : IsBits w B v n ws) (hm : mayBits n ws = true) (hp : p ≤ n) :
    Calls Try.prog 44 #[v, .int .i64 p, .bool one] w fun e w' => e = .returned (.int .i64 ((dnW ws n one p : Nat) : Int)) ∧ Below w.heap.size w w' := by
  have hn := (may_facts hm).2.1
  have h' := h
  obtain ⟨s, rfl, hi64, hws⟩ := h
  obtain ⟨A, c, rfl, _⟩ := hws
  have HR := Lib.hid fun W q (hq : q ≤ n) (hW : Below w.heap.size w W) => waveRank1_any (.agg #[.int .i64 n, .slice A ws.length c]) n q ws W B (Nat.le_trans hB hW.size) (h'.below (hW.mono hB)) hm hq
  have hc1 := cntB_both ws p
  have hc2 := cntB_both ws n
  have hc3 := cntB_upto ws true hp
  have HA := Lib.hid ((Below.refl w.heap.size w).alloc (Nat.le_refl _) (.cells #[.int .i64 n, .slice A ws.length c] 73))
  clear h' hm
  cases one with
  | false =>
    have hd : ((cntB ws false p : Nat) : Int) = (p : Int) - ((cntB ws true p : Nat) : Int) := by omega
    rw [dnW_false, hd]
    have HP := Lib.hid (HR.out _ p hp HA.out)
    generalize cntB ws true p = q at *
    clear hd hc2 hc3
    go_enter Try.func44, Try.ntmps44
    go_wp2_with (go_at_call 63; refine (HP.out).mono ?_; rintro e w1 ⟨rfl, hb⟩)
    go_ret
    exact ⟨rfl, below_box hb⟩
  | true =>
    have hd : ((cntB ws false n + cntB ws true p : Nat) : Int) = (n : Int) - ((cntB ws true n : Nat) : Int) + ((cntB ws true p : Nat) : Int) := by omega
    rw [dnW_true, hd]
    have HP := Lib.hid (HR.out _ p hp HA.out)
    have HN := Lib.hid fun W hW => HR.out W n (Nat.le_refl _) hW
    have hb1 := cntB_le ws true n
    have hb2 := cntB_le ws true p
    generalize cntB ws true p = q at *
    generalize cntB ws true n = m at *
    have w1' : IntKind.i64.wrap ((n : Int) - (m : Int)) = (n : Int) - (m : Int) := by rw [IntKind.wrap_i64]; omega
    have w2' : IntKind.i64.wrap ((n : Int) - (m : Int) + (q : Int)) = (n : Int) - (m : Int) + (q : Int) := by rw [IntKind.wrap_i64]; omega
    clear hd hc1 hc2
    go_enter Try.func44, Try.ntmps44
    go_wp2_with (go_at_call 63; refine (HP.out).mono ?_; rintro e w1 ⟨rfl, hb⟩)
    have HB := Lib.hid (below_box hb)
    obtain ⟨k0, k1⟩ := box2 hb
    have q0 := fun d os => cell_regrown k0 d os
    have q1 := fun d os => cell_regrown k1 d os
    have HN2 := Lib.hid fun d os => Calls.regrown_of (HN.out (Sort.grow (redrawn w1 d) os) (HB.out.trans ((below_regrown w1 d os).mono HB.out.size)))
    clear k0 k1 hb
    refine wp_region_quiet_below (by kernel_rfl) (by kernel_rfl) ?_
    repeat (quiet_step ((go_at_call 63; exact HN2.out _ _)))
    refine wpQuiet_nil ?_
    intro _ hw'
    obtain ⟨⟨dq, osq⟩, hw''⟩ := hw'
    subst hw''
    have HW := Lib.hid (below_regrown w1 dq osq)
    generalize Sort.grow (redrawn w1 dq) osq = w5 at *
    clear q0 q1
    go_wp2_with fail
    go_ret
    exact ⟨rfl, HB.out.trans (HW.out.mono HB.out.size)⟩
end Go.Proofs.Ytdmfhpigchbcbaa
