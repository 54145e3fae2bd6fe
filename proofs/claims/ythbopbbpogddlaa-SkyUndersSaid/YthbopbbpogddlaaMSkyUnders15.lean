/-
  Texts of one claim behind each other. Conditions: none of its own.
-/
import Derived.Test.YthbopbbpogddlaaMSkyUnders08
import Derived.Test.YthbopbbpogddlaaMSkyUnders00
import Derived.Test.YthbopbbpogddlaaMSkyUnders14
import Derived.Test.YthbopbbpogddlaaMSkyUnders12
/-
  Contracts of wave.rank and wave.down. Conditions: the row of bits may be, and the place lies within it.
-/
namespace Go.Proofs.Ythbopbbpogddlaa
open Go Go.RowKit Go.Dam
set_option linter.unusedVariables false
set_option maxHeartbeats 400000 in
theorem waveRank1_any (v : Value) (n p : Nat) (ws : List Nat) (w : World) (B : Nat) (hB : B ≤ w.heap.size) (h : IsBits w B v n ws) (hm : mayBits n ws = true) (hp : p ≤ n) :
    Calls Try.prog 135 #[v, .int .i64 p] w fun e w' => e = .returned (.int .i64 ((cntB ws true p : Nat) : Int)) ∧ Below w.heap.size w w' := by
  have hn := (may_facts hm).2.1
  have h' := h
  obtain ⟨s, rfl, hi64, hws⟩ := h
  obtain ⟨A, c, rfl, _⟩ := hws
  have HR := Lib.hid (bitsRank_any (.agg #[.int .i64 n, .slice A ws.length c]) n p ws (cntB ws true p : Nat) 0 (w.alloc (.cells #[.int .i64 n, .slice A ws.length c] 109)) B (box_le hB) (h'.below ((Below.refl _ _).alloc hB _)) (by unfold I64; omega) (.inr (.inr ⟨hm, by omega, by omega, by simp, rfl⟩)))
  clear h' hm
  generalize cntB ws true p = q at *
  go_enter Try.func135, Try.ntmps135
  go_wp2_with (go_at_call 139; refine (HR.out).mono ?_; rintro e w1 ⟨rfl, hb⟩)
  go_ret
  exact ⟨rfl, below_box hb⟩
set_option maxRecDepth 100000 in
set_option maxHeartbeats 1000000 in
theorem waveDown_any (v : Value) (n p : Nat) (ws : List Nat) (one : Bool) (w : World) (B : Nat) (hB : B ≤ w.heap.size) (h : IsBits w B v n ws) (hm : mayBits n ws = true) (hp : p ≤ n) :
    Calls Try.prog 121 #[v, .int .i64 p, .bool one] w fun e w' => e = .returned (.int .i64 ((dnW ws n one p : Nat) : Int)) ∧ Below w.heap.size w w' := by
  have hn := (may_facts hm).2.1
  have h' := h
  obtain ⟨s, rfl, hi64, hws⟩ := h
  obtain ⟨A, c, rfl, _⟩ := hws
  have HR := Lib.hid fun W q (hq : q ≤ n) (hW : Below w.heap.size w W) => waveRank1_any (.agg #[.int .i64 n, .slice A ws.length c]) n q ws W B (Nat.le_trans hB hW.size) (h'.below (hW.mono hB)) hm hq
  have hc1 := cntB_both ws p
  have hc2 := cntB_both ws n
  have hc3 := cntB_upto ws true hp
  have HA := Lib.hid ((Below.refl w.heap.size w).alloc (Nat.le_refl _) (.cells #[.int .i64 n, .slice A ws.length c] 109))
  clear h' hm
  cases one with
  | false =>
    have hd : ((cntB ws false p : Nat) : Int) = (p : Int) - ((cntB ws true p : Nat) : Int) := by omega
    rw [dnW_false, hd]
    have HP := Lib.hid (HR.out _ p hp HA.out)
    generalize cntB ws true p = q at *
    clear hd hc2 hc3
    go_enter Try.func121, Try.ntmps121
    go_wp2_with (go_at_call 135; refine (HP.out).mono ?_; rintro e w1 ⟨rfl, hb⟩)
    go_ret
    exact ⟨rfl, below_box hb⟩
  | true =>
    have hd : ((cntB ws false n + cntB ws true p : Nat) : Int) = (n : Int) - ((cntB ws true n : Nat) : Int) + ((cntB ws true p : Nat) : Int) := by omega
    rw [dnW_true, hd]
    have HP := Lib.hid (HR.out _ p hp HA.out)
    have HN := Lib.hid fun W hW => HR.out W n (Nat.le_refl _) hW
    have hb1 := cntB_le ws true n
    have hb2 := cntB_le ws true p
    generalize cntB ws true p = q at *
    generalize cntB ws true n = m at *
    have w1' : IntKind.i64.wrap ((n : Int) - (m : Int)) = (n : Int) - (m : Int) := by rw [IntKind.wrap_i64]; omega
    have w2' : IntKind.i64.wrap ((n : Int) - (m : Int) + (q : Int)) = (n : Int) - (m : Int) + (q : Int) := by rw [IntKind.wrap_i64]; omega
    clear hd hc1 hc2
    go_enter Try.func121, Try.ntmps121
    go_wp2_with (go_at_call 135; refine (HP.out).mono ?_; rintro e w1 ⟨rfl, hb⟩)
    have HB := Lib.hid (below_box hb)
    obtain ⟨k0, k1⟩ := box2 hb
    have q0 := fun d os => cell_regrown k0 d os
    have q1 := fun d os => cell_regrown k1 d os
    have HN2 := Lib.hid fun d os => Calls.regrown_of (HN.out (Sort.grow (redrawn w1 d) os) (HB.out.trans ((below_regrown w1 d os).mono HB.out.size)))
    clear k0 k1 hb
    refine wp_region_quiet_below (by kernel_rfl) (by kernel_rfl) ?_
    repeat (quiet_step ((go_at_call 135; exact HN2.out _ _)))
    refine wpQuiet_nil ?_
    intro _ hw'
    obtain ⟨⟨dq, osq⟩, hw''⟩ := hw'
    subst hw''
    have HW := Lib.hid (below_regrown w1 dq osq)
    generalize Sort.grow (redrawn w1 dq) osq = w5 at *
    clear q0 q1
    go_wp2_with fail
    go_ret
    exact ⟨rfl, HB.out.trans (HW.out.mono HB.out.size)⟩
end Go.Proofs.Ythbopbbpogddlaa

/-
  Contracts of wave.fits and wave.Rank. Conditions: the wave can be read as data.
-/
namespace Go.Dam
open Go Go.RowKit
theorem box1' {w w1 : World} {a : Value} {T : TypeId} (hb : Below (w.alloc (.cells #[a] T)).heap.size (w.alloc (.cells #[a] T)) w1) : w1.cell? ⟨w.heap.size, 0, none⟩ = some a :=
  (hb.cell (p := ⟨w.heap.size, 0, none⟩) (by simp)).trans (by simp)
end Go.Dam
namespace Go.Proofs.Ythbopbbpogddlaa
open Go Go.RowKit Go.Dam
set_option linter.unusedVariables false
/-- Has a number no more bits than there are levels? -/
def fitsW (m : Nat) (x : Int) (r : Bool) : Prop := (x < 0 ∧ r = false) ∨ ∃ y : Nat, x = y ∧ y < 9223372036854775808 ∧ r = decide (y / 2 ^ m = 0)
theorem fitsW.ex (m : Nat) {x : Int} (h : I64 x) : ∃ r, fitsW m x r := by
  unfold I64 at h
  by_cases hx : x < 0
  · exact ⟨_, .inl ⟨hx, rfl⟩⟩
  · exact ⟨_, .inr ⟨x.toNat, by omega, by omega, rfl⟩⟩
set_option maxRecDepth 100000 in
set_option maxHeartbeats 400000 in
theorem waveFits_any (v : Value) (rs : List (Int × List Nat)) (x : Int) (r : Bool) (w : World) (B : Nat) (hB : B ≤ w.heap.size) (h : IsWave w B v rs) (h64 : I64 x) (hl : rs.length ≤ 21) (hR : fitsW rs.length x r) :
    Calls Try.prog 120 #[v, .int .i64 x] w fun e w' => e = .returned (.bool r) ∧ Below w.heap.size w w' := by
  unfold I64 at h64
  obtain ⟨s, rfl, h⟩ := h
  obtain ⟨A, c, vs, rfl, hc, hm, hn, _, _⟩ := h
  rcases hR with ⟨hx, rfl⟩ | ⟨y, rfl, hy, hr⟩
  · go_enter Try.func120, Try.ntmps120
    go_wp2_with fail
    go_ret
    exact ⟨rfl, (Below.refl _ _).alloc (Nat.le_refl _) _⟩
  · have e : ((y : Int) / 2 ^ rs.length == 0) = r := by
      rw [hr]
      have : (y : Int) / 2 ^ rs.length = ((y / 2 ^ rs.length : Nat) : Int) := by simp
      rw [this]
      generalize y / 2 ^ rs.length = q
      by_cases h : q = 0
      · subst h; rfl
      · simp [h]
    have HE := Lib.hid hr
    clear hr
    cases r
    all_goals
      go_enter Try.func120, Try.ntmps120
      go_wp2_with fail
      go_ret
      exact ⟨rfl, (Below.refl _ _).alloc (Nat.le_refl _) _⟩
end Go.Proofs.Ythbopbbpogddlaa
