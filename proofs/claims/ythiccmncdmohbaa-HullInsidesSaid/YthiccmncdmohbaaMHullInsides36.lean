/-
  What hull.Inside answers, no program in sight: by Pick, and by rows. Conditions: coordinates within 2^20 either way.
-/
import Derived.Test.YthiccmncdmohbaaMHullInsides00
import Derived.Test.YthiccmncdmohbaaMHullInsides35
set_option linter.unusedVariables false
set_option linter.unusedSimpArgs false
namespace Go.Dam.Hull
open Go Go.RowKit Go.Dam Go.Dam.Pick
set_option linter.unusedVariables false
theorem bord_0 (F : Nat → Pt) (H : List Nat) : bord F H 0 = 0 := rfl
theorem bord_s (F : Nat → Pt) (H : List Nat) (k : Nat) : bord F H (k + 1) = bord F H k + gg (vX F H) (vY F H) k := rfl
theorem gg_at {F : Nat → Pt} {H : List Nat} {j : Nat} (hj : j < H.length) : gg (vX F H) (vY F H) j = Int.gcd ((F (H.getD ((j + 1) % H.length) 0)).1 - (F (H.getD j 0)).1) ((F (H.getD ((j + 1) % H.length) 0)).2 - (F (H.getD j 0)).2) := by
  unfold gg dX dY vX vY
  rw [Nat.mod_eq_of_lt hj]
theorem gcd_bd {a b : Int} (ha : -2097152 ≤ a ∧ a ≤ 2097152) (hb : -2097152 ≤ b ∧ b ≤ 2097152) : Int.gcd a b ≤ 2097152 := by
  rcases Int.lt_trichotomy a 0 with c | c | c
  · have := Nat.gcd_le_left b.natAbs (show 0 < a.natAbs by omega); unfold Int.gcd; omega
  · rw [c, Int.gcd_zero_left]; omega
  · have := Nat.gcd_le_left b.natAbs (show 0 < a.natAbs by omega); unfold Int.gcd; omega
theorem bord_bd {F : Nat → Pt} {H : List Nat} (h : ∀ u, okC (F (H.getD u 0)).1 ∧ okC (F (H.getD u 0)).2) : ∀ k, k ≤ H.length → 0 ≤ bord F H k ∧ bord F H k ≤ 2097152 * (k : Int)
  | 0, _ => by rw [bord_0]; omega
  | k + 1, hk => by
    have ih := bord_bd h k (by omega)
    have a := h k
    have b := h ((k + 1) % H.length)
    have d := gcd_bd (a := (F (H.getD ((k + 1) % H.length) 0)).1 - (F (H.getD k 0)).1) (b := (F (H.getD ((k + 1) % H.length) 0)).2 - (F (H.getD k 0)).2) (by unfold okC at a b; omega) (by unfold okC at a b; omega)
    rw [bord_s, gg_at (by omega)]
    push_cast
    omega
/-- Within, and on the border. -/
def insA (F : Nat → Pt) (H : List Nat) : Int := if H.length ≤ 2 then 0 else allF F H (lowC F H H.length) ((highC F H H.length - lowC F H H.length).toNat + 1) - bord F H H.length
def insB (F : Nat → Pt) (H : List Nat) : Int := if H.length ≤ 1 then 1 else if H.length = 2 then (bord F H H.length).tdiv 2 + 1 else bord F H H.length
theorem insA_pick {F : Nat → Pt} {n : Nat} {H : List Nat} (hN : ∀ i, i < n → nr (F i)) (hX : ∀ i, i < n → -1048576 ≤ (F i).1 ∧ (F i).1 ≤ 1048576) (h : HullIs F n H) (h3 : 3 ≤ H.length) : (shoe F H H.length - bord F H H.length + 2).tdiv 2 = insA F H := by
  have := h.pick hN hX h3
  unfold insA
  rw [if_neg (by omega)]
  generalize allF F H (lowC F H H.length) ((highC F H H.length - lowC F H H.length).toNat + 1) = q at *
  have e : shoe F H H.length - bord F H H.length + 2 = 2 * (q - bord F H H.length) := by omega
  rw [e]
  exact Int.mul_tdiv_cancel_left _ (by omega)
end Go.Dam.Hull
