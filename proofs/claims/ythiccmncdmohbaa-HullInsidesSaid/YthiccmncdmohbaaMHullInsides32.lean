/-
  Contracts of hull.near, hull.fault and the reference's hullFault: what is refused of points. Conditions: the points can be read as data.
-/
import Derived.Test.YthiccmncdmohbaaMHullInsides19
import Derived.Test.YthiccmncdmohbaaMHullInsides23
import Derived.Test.YthiccmncdmohbaaMHullInsides22
set_option linter.unusedVariables false
set_option linter.unusedSimpArgs false
namespace Go.Dam
/-- The code of the refusal. -/
def hullCode (n : Nat) (l : List Int) : Int := if ptCode n l ≠ 0 then ptCode n l else if n = 0 then 7 else 0
theorem hullCode_ok {n : Nat} {l : List Int} (h : hullCode n l = 0) : ptCode n l = 0 ∧ 0 < n := by
  unfold hullCode at h
  split at h
  · rename_i h1; exact absurd h h1
  · rename_i h1
    split at h
    · cases h
    · exact ⟨by simpa using h1, by omega⟩
theorem hullCode_bad {n : Nat} {l : List Int} (h : ptCode n l ≠ 0) : hullCode n l = ptCode n l := by unfold hullCode; rw [if_pos h]
theorem hullCode_none {n : Nat} {l : List Int} (h : ptCode n l = 0) (hn : n = 0) : hullCode n l = 7 := by unfold hullCode; rw [if_neg (by simpa using h), if_pos hn]
theorem hullCode_some {n : Nat} {l : List Int} (h : ptCode n l = 0) (hn : 0 < n) : hullCode n l = 0 := by unfold hullCode; rw [if_neg (by simpa using h), if_neg (by omega)]
attribute [irreducible] hullCode
end Go.Dam
namespace Go.Proofs.Ythiccmncdmohbaa
open Go Go.RowKit Go.Dam
set_option linter.unusedVariables false
set_option maxHeartbeats 400000 in
theorem hullfault_any (v : Value) (n : Nat) (l : List Int) (w : World) (B : Nat) (hB : B ≤ w.heap.size) (h : IsFlat 3 w B v n l) :
    Calls Try.prog 21 #[v] w fun e w' => e = .returned (.int .i64 (hullCode n l)) ∧ Below w.heap.size w w' := by
  have HC := Lib.hid (gridCheck_any v n l w B hB h)
  obtain ⟨A, c, rfl, hc, hm, hn, hl, hr, hw⟩ := h
  clear hr hl hw
  by_cases c0 : ptCode n l = 0
  · rw [c0] at HC
    by_cases n0 : n = 0
    · rw [hullCode_none c0 n0]
      subst n0
      clear c0
      go_enter Try.func21, Try.ntmps21
      go_wp2_with (go_at_call 32; refine (HC.out).mono ?_; rintro e w1 ⟨rfl, hb1⟩)
      go_ret
      exact ⟨rfl, hb1⟩
    · rw [hullCode_some c0 (by omega)]
      have t0 : ((n : Int) == 0) = false := by simpa using n0
      clear c0 n0
      go_enter Try.func21, Try.ntmps21
      go_wp2_with (go_at_call 32; refine (HC.out).mono ?_; rintro e w1 ⟨rfl, hb1⟩)
      go_ret
      exact ⟨rfl, hb1⟩
  · rw [hullCode_bad c0]
    generalize ptCode n l = cc at *
    have t0 : (cc != 0) = true := by simpa using c0
    clear c0
    go_enter Try.func21, Try.ntmps21
    go_wp2_with (go_at_call 32; refine (HC.out).mono ?_; rintro e w1 ⟨rfl, hb1⟩)
    go_ret
    exact ⟨rfl, hb1⟩
set_option maxHeartbeats 400000 in
theorem refHullFault_any (v : Value) (n : Nat) (l : List Int) (w : World) (B : Nat) (hB : B ≤ w.heap.size) (h : IsFlat 3 w B v n l) :
    Calls Try.prog 27 #[v] w fun e w' => e = .returned (.int .i64 (hullCode n l)) ∧ Below w.heap.size w w' := by
  have HC := Lib.hid (pointsFault_any v n l w B hB h)
  obtain ⟨A, c, rfl, hc, hm, hn, hl, hr, hw⟩ := h
  clear hr hl hw
  by_cases c0 : ptCode n l = 0
  · rw [c0] at HC
    by_cases n0 : n = 0
    · rw [hullCode_none c0 n0]
      subst n0
      clear c0
      go_enter Try.func27, Try.ntmps27
      go_wp2_with (go_at_call 38; refine (HC.out).mono ?_; rintro e w1 ⟨rfl, hb1⟩)
      go_ret
      exact ⟨rfl, hb1⟩
    · rw [hullCode_some c0 (by omega)]
      have t0 : ((n : Int) == 0) = false := by simpa using n0
      clear c0 n0
      go_enter Try.func27, Try.ntmps27
      go_wp2_with (go_at_call 38; refine (HC.out).mono ?_; rintro e w1 ⟨rfl, hb1⟩)
      go_ret
      exact ⟨rfl, hb1⟩
  · rw [hullCode_bad c0]
    generalize ptCode n l = cc at *
    have t0 : (cc != 0) = true := by simpa using c0
    clear c0
    go_enter Try.func27, Try.ntmps27
    go_wp2_with (go_at_call 38; refine (HC.out).mono ?_; rintro e w1 ⟨rfl, hb1⟩)
    go_ret
    exact ⟨rfl, hb1⟩
end Go.Proofs.Ythiccmncdmohbaa
