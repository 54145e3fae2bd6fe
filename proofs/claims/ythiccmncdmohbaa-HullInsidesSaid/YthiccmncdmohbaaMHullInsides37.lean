/-
  Contracts of hull.gcd and of the reference's steps: the greatest common divisor. Conditions: both numbers are within 2^22 either way.
-/
import Derived.Test.YthiccmncdmohbaaMHullInsides03
import Derived.Test.YthiccmncdmohbaaMHullInsides00
import Derived.BigQuiet
import Derived.Deep.CutRange
set_option linter.unusedVariables false
set_option linter.unusedSimpArgs false
namespace Go.Dam.Hull
theorem tmod_facts {x y r : Int} (hy : y ≠ 0) (h : x.tmod y = r) : Int.gcd y r = Int.gcd x y ∧ r.natAbs < y.natAbs := by
  have h1 : r.natAbs = x.natAbs % y.natAbs := by rw [← h, Int.natAbs_tmod]
  refine ⟨?_, by rw [h1]; exact Nat.mod_lt _ (by omega)⟩
  unfold Int.gcd
  rw [h1, Nat.gcd_comm y.natAbs, ← Nat.gcd_rec, Nat.gcd_comm]
end Go.Dam.Hull
namespace Go.Dam
open Go
theorem ret_int {k : IntKind} {a b : Int} (h : a = b) : Ending.returned (.int k a) = .returned (.int k b) := by rw [h]
end Go.Dam
namespace Go.Proofs.Ythiccmncdmohbaa
open Go Go.RowKit Go.Dam Go.Dam.Hull
set_option linter.unusedVariables false
set_option maxHeartbeats 1000000 in
theorem hullGcd_any (a b : Int) (w : World) (ha : -4194304 ≤ a ∧ a ≤ 4194304) (hb : -4194304 ≤ b ∧ b ≤ 4194304) :
    Calls Try.prog 25 #[.int .i64 a, .int .i64 b] w fun e w' => e = .returned (.int .i64 (Int.gcd a b)) ∧ ∃ q, w' = w.drewN q := by
  go_enter Try.func25, Try.ntmps25
  go_wp2_with fail
  go_loopw [0, 1] (fun av bv wr => ∃ x y : Int, av = .int .i64 x ∧ bv = .int .i64 y ∧ Hid (Int.gcd x y = Int.gcd a b) ∧ (-4194304 ≤ x ∧ x ≤ 4194304) ∧ (-4194304 ≤ y ∧ y ≤ 4194304) ∧ ∃ q, wr = w.drewN q) (fun _ bv _ => (intOf bv).natAbs)
  case atStart => exact ⟨a, b, rfl, rfl, Lib.hid rfl, ha, hb, 0, rfl⟩
  case round =>
    obtain ⟨x, y, rfl, rfl, HG, hx, hy, q, rfl⟩ := hrel
    by_cases h0 : y = 0
    · subst h0
      have HG2 : Hid ((Int.gcd a b : Int) = max x (-x)) := Lib.hid (by rw [← HG.out, Int.gcd_zero_right]; omega)
      have w1 : IntKind.i64.wrap (-x) = -x := by rw [IntKind.wrap_i64]; omega
      go_wp2_with fail
      all_goals go_ret
      all_goals exact ⟨ret_int (by rw [HG2.out]; omega), q, rfl⟩
    · obtain ⟨r, hr⟩ : ∃ r, x.tmod y = r := ⟨_, rfl⟩
      have HF := Lib.hid (tmod_facts h0 hr)
      have hrb := HF.out.2
      have w1 : IntKind.i64.wrap r = r := by rw [IntKind.wrap_i64]; omega
      have t0 : (y != 0) = true := bne_iff_ne.2 h0
      have t1 : (y == 0) = false := beq_eq_false_iff_ne.2 h0
      go_wp2_with fail
      go_quiet (fail)
      go_wp2_with fail
      go_roundw
      case rel => exact ⟨y, r, rfl, rfl, Lib.hid (by rw [HF.out.1, HG.out]), hy, by omega, q + nq, by rw [World.drewN_drewN]⟩
      case measure => simp [intOf]; omega
end Go.Proofs.Ythiccmncdmohbaa
