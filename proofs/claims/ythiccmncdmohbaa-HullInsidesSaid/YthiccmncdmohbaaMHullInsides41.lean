/-
  Contract of the reference's steps between two corners: the greatest common divisor of the ways along both sides. Conditions: coordinates within 2^20 either way.
-/
import Derived.Test.YthiccmncdmohbaaMHullInsides37
import Derived.Test.YthiccmncdmohbaaMHullInsides35
set_option linter.unusedVariables false
set_option linter.unusedSimpArgs false
namespace Go.Dam.Hull
theorem gcd_half {p q : Nat} : Nat.gcd p (q % p) = Nat.gcd p q := by
  rw [Nat.gcd_comm p (q % p), ← Nat.gcd_rec]
end Go.Dam.Hull
namespace Go.Proofs.Ythiccmncdmohbaa
open Go Go.RowKit Go.Dam Go.Dam.Hull
set_option linter.unusedVariables false
set_option maxHeartbeats 4000000 in
theorem refSteps_any (xa ya za xb yb zb : Int) (w : World) (h1 : okC xa) (h2 : okC ya) (h3 : okC xb) (h4 : okC yb) :
    Calls Try.prog 29 #[.agg #[.int .i64 xa, .int .i64 ya, .int .i64 za], .agg #[.int .i64 xb, .int .i64 yb, .int .i64 zb]] w fun e w' => e = .returned (.int .i64 (Int.gcd (xb - xa) (yb - ya))) ∧ Below w.heap.size w w' := by
  unfold okC at *
  have HB0 := Lib.hid (((Below.refl w.heap.size w).alloc (Nat.le_refl _) (.cells #[.int .i64 xa, .int .i64 ya, .int .i64 za] 63)).alloc (by simp) (.cells #[.int .i64 xb, .int .i64 yb, .int .i64 zb] 63))
  obtain ⟨d, hd⟩ : ∃ d, d = xb - xa := ⟨_, rfl⟩
  obtain ⟨f, hf⟩ : ∃ d, d = yb - ya := ⟨_, rfl⟩
  have w1 : IntKind.i64.wrap (xb - xa) = d := by rw [IntKind.wrap_i64]; omega
  have w2 : IntKind.i64.wrap (yb - ya) = f := by rw [IntKind.wrap_i64]; omega
  have w3 : IntKind.i64.wrap (-d) = -d := by rw [IntKind.wrap_i64]; omega
  have w4 : IntKind.i64.wrap (-f) = -f := by rw [IntKind.wrap_i64]; omega
  have bd : -2097152 ≤ d ∧ d ≤ 2097152 := by omega
  have bf : -2097152 ≤ f ∧ f ≤ 2097152 := by omega
  rw [← hd, ← hf]
  clear hd hf h1 h2 h3 h4
  obtain ⟨p, hp⟩ : ∃ p : Nat, p = d.natAbs := ⟨_, rfl⟩
  obtain ⟨q, hq⟩ : ∃ p : Nat, p = f.natAbs := ⟨_, rfl⟩
  have HG0 : Hid (Nat.gcd p q = Int.gcd d f) := Lib.hid (by subst hp hq; rfl)
  have e1 : (d < 0 ∧ -d = (p : Int)) ∨ (¬ d < 0 ∧ d = (p : Int)) := by omega
  have e2 : (f < 0 ∧ -f = (q : Int)) ∨ (¬ f < 0 ∧ f = (q : Int)) := by omega
  have bp : p ≤ 2097152 := by omega
  have bq : q ≤ 2097152 := by omega
  clear hp hq bd bf
  rcases e1 with ⟨s1, e1⟩ | ⟨s1, e1⟩ <;> rcases e2 with ⟨s2, e2⟩ | ⟨s2, e2⟩
  all_goals
    have t1 := decide_eq_true s1
    have t2 := decide_eq_true s2
    try rw [decide_not, Bool.not_eq_true'] at t1
    try rw [decide_not, Bool.not_eq_true'] at t2
    clear s1 s2
    have E1 := Lib.hid e1
    have E2 := Lib.hid e2
    clear e1 e2
    go_enter Try.func29, Try.ntmps29
    go_wp2_with fail
    rw [E1.out, E2.out]
    go_loopw [5, 6] (fun av bv wr => ∃ x y : Nat, av = .int .i64 x ∧ bv = .int .i64 y ∧ Hid (Nat.gcd x y = Int.gcd d f) ∧ x ≤ 2097152 ∧ y ≤ 2097152 ∧ Hid (Below w.heap.size w wr)) (fun av bv _ => (intOf av).toNat + (intOf bv).toNat)
    case atStart => exact ⟨p, q, rfl, rfl, HG0, bp, bq, HB0⟩
    case round =>
      obtain ⟨x, y, rfl, rfl, HG, hx, hy, HB⟩ := hrel
      by_cases h0 : 0 < x
      · have t3 : decide ((0 : Int) < (x : Int)) = true := decide_eq_true (by omega)
        by_cases h1 : 0 < y
        · have t4 : decide ((0 : Int) < (y : Int)) = true := decide_eq_true (by omega)
          have z1 : (x : Int) ≠ 0 := by omega
          have z2 : (y : Int) ≠ 0 := by omega
          by_cases h2 : y < x
          · have t5 : decide ((y : Int) < (x : Int)) = true := decide_eq_true (by omega)
            obtain ⟨r, hr⟩ : ∃ r, r = x % y := ⟨_, rfl⟩
            have hr1 : r < y := by rw [hr]; exact Nat.mod_lt _ h1
            have hr2 : ((x : Int)).tmod (y : Int) = (r : Int) := by rw [Int.tmod_eq_emod_of_nonneg (by omega), hr]; exact (Int.natCast_emod x y).symm
            have hr3 : IntKind.i64.wrap (r : Int) = (r : Int) := by rw [IntKind.wrap_i64]; omega
            have HN : Hid (Nat.gcd r y = Int.gcd d f) := Lib.hid (by rw [← HG.out, hr, Nat.gcd_comm, gcd_half, Nat.gcd_comm])
            clear hr
            go_wp2_with fail
            go_roundw
            case rel => exact ⟨r, y, rfl, rfl, HN, by omega, hy, HB⟩
            case measure => simp [intOf]; omega
          · have t5 : decide ((y : Int) < (x : Int)) = false := decide_eq_false (by omega)
            obtain ⟨r, hr⟩ : ∃ r, r = y % x := ⟨_, rfl⟩
            have hr1 : r < x := by rw [hr]; exact Nat.mod_lt _ h0
            have hr2 : ((y : Int)).tmod (x : Int) = (r : Int) := by rw [Int.tmod_eq_emod_of_nonneg (by omega), hr]; exact (Int.natCast_emod y x).symm
            have hr3 : IntKind.i64.wrap (r : Int) = (r : Int) := by rw [IntKind.wrap_i64]; omega
            have HN : Hid (Nat.gcd x r = Int.gcd d f) := Lib.hid (by rw [← HG.out, hr, gcd_half])
            clear hr
            go_wp2_with fail
            go_roundw
            case rel => exact ⟨x, r, rfl, rfl, HN, hx, by omega, HB⟩
            case measure => simp [intOf]; omega
        · obtain rfl : y = 0 := by omega
          have t4 : decide ((0 : Int) < ((0 : Nat) : Int)) = false := decide_eq_false (by omega)
          have HN : Hid (x = Int.gcd d f) := Lib.hid (by rw [← HG.out, Nat.gcd_zero_right])
          have w5 : IntKind.i64.wrap (x : Int) = (x : Int) := by rw [IntKind.wrap_i64]; omega
          go_wp2_with fail
          go_ret
          exact ⟨ret_int (by rw [← HN.out]), HB.out⟩
      · obtain rfl : x = 0 := by omega
        have t3 : decide ((0 : Int) < ((0 : Nat) : Int)) = false := decide_eq_false (by omega)
        have HN : Hid (y = Int.gcd d f) := Lib.hid (by rw [← HG.out, Nat.gcd_zero_left])
        have w5 : IntKind.i64.wrap (y : Int) = (y : Int) := by rw [IntKind.wrap_i64]; omega
        go_wp2_with fail
        go_ret
        exact ⟨ret_int (by rw [← HN.out]), HB.out⟩
end Go.Proofs.Ythiccmncdmohbaa
