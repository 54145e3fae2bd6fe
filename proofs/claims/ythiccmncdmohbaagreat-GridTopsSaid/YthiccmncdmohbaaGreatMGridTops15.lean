/-
  Contracts of sort.Search at the closures of package grid, and of these closures. Conditions: the index lies in memory.
-/
import Derived.Test.YthiccmncdmohbaaGreatMGridTops14
import Derived.BigQuiet
set_option linter.unusedVariables false
set_option linter.unusedSimpArgs false
namespace Go.Dam
/-- Is a number above another one (or at it, where 'a' says no)? -/
def isAb (x f : Int) (a : Bool) : Bool := decide (f < x) || (!a && decide (x = f))
theorem isAb_mono {x y f : Int} {a : Bool} (h : x ≤ y) (hx : isAb x f a = true) : isAb y f a = true := by
  unfold isAb at *
  cases a <;> simp at * <;> omega
end Go.Dam
namespace Go.Proofs.YthiccmncdmohbaaGreat
open Go Go.RowKit Go.Dam
set_option linter.unusedVariables false
set_option maxHeartbeats 1000000 in
theorem colPred_any (i k n c co bk off g ob oo a1 a2 a3 : Nat) (x f : Int) (a : Bool) (w : World) (hn : n ≤ 1000000) (hi : i < n) (hk : k < n) (k1 : w.cell? ⟨a1, 0, none⟩ = some (.pointer (some ⟨g, 0, none⟩))) (k2 : w.cell? ⟨a2, 0, none⟩ = some (.int .i64 f)) (k3 : w.cell? ⟨a3, 0, none⟩ = some (.bool a))
    (g0 : w.cell? ⟨g, 0, none⟩ = some (.slice (some ⟨bk, off, none⟩) n c)) (g1 : w.cell? ⟨g, 1, none⟩ = some (.slice (some ⟨ob, oo, none⟩) n co)) (o1 : w.cell? ⟨ob, oo + i, none⟩ = some (.int .i64 k)) (x1 : w.cell? ⟨bk, off + k * 3, none⟩ = some (.int .i64 x)) :
    Calls Tryz.prog 49 #[.int .i64 i, .pointer (some ⟨a1, 0, none⟩), .pointer (some ⟨a2, 0, none⟩), .pointer (some ⟨a3, 0, none⟩)] w fun e w' => e = .returned (.bool (isAb x f a)) ∧ Drawn w w' := by
  have i1 : (i : Int) < (n : Int) := by omega
  have j1 : (k : Int) < (n : Int) := by omega
  by_cases h1 : f < x
  · have t1 : decide (f < x) = true := decide_eq_true h1
    have HR : Hid (isAb x f a = true) := Lib.hid (by unfold isAb; simp [h1])
    rw [HR.out]
    go_enter Tryz.func49, Tryz.ntmps49
    go_wp2_with fail
    go_quiet (fail)
    go_wp2_with fail
    go_ret
    exact ⟨rfl, _, rfl⟩
  · have t1 : decide (f < x) = false := decide_eq_false h1
    cases a with
    | true =>
      have HR : Hid (isAb x f true = false) := Lib.hid (by unfold isAb; simp [h1])
      rw [HR.out]
      go_enter Tryz.func49, Tryz.ntmps49
      go_wp2_with fail
      go_quiet (fail)
      go_wp2_with fail
      go_ret
      exact ⟨rfl, _, rfl⟩
    | false =>
      have HR : Hid (isAb x f false = (x == f)) := Lib.hid (by unfold isAb; simp [h1]; rfl)
      rw [HR.out]
      go_enter Tryz.func49, Tryz.ntmps49
      go_wp2_with fail
      go_quiet (fail)
      go_wp2_with fail
      go_ret
      exact ⟨rfl, _, rfl⟩
set_option maxHeartbeats 1000000 in
theorem colSearch_any (n a1 a2 a3 : Nat) (P : Nat → Bool) (w : World) (hn : n ≤ 1099511627776) (hmono : ∀ i j, i ≤ j → j < n → P i = true → P j = true)
    (hF : ∀ h b, h < n → P h = b → ∀ W, Drawn w W → Calls Tryz.prog 49 #[.int .i64 h, .pointer (some ⟨a1, 0, none⟩), .pointer (some ⟨a2, 0, none⟩), .pointer (some ⟨a3, 0, none⟩)] W fun e w' => e = .returned (.bool b) ∧ Drawn W w') :
    Calls Tryz.prog 48 #[.int .i64 n, .func (.func 49) #[] #[.pointer (some ⟨a1, 0, none⟩), .pointer (some ⟨a2, 0, none⟩), .pointer (some ⟨a3, 0, none⟩)]] w fun e w' => ∃ k : Nat, e = .returned (.int .i64 k) ∧ BoundOf P n k ∧ Drawn w w' := by
  have HF := Lib.hid hF
  have HM := Lib.hid hmono
  clear hF hmono
  go_enter Tryz.func48, Tryz.ntmps48
  go_wp2_with fail
  go_loopw [5, 6] (fun iv jv wr => ∃ i j : Nat, i ≤ j ∧ j ≤ n ∧ iv = .int .i64 i ∧ jv = .int .i64 j ∧ (∀ h, h < i → P h = false) ∧ (∀ h, j ≤ h → h < n → P h = true) ∧ Drawn w wr) (fun iv jv _ => (intOf jv).toNat - (intOf iv).toNat)
  case atStart => exact ⟨0, n, by omega, by omega, rfl, rfl, fun h hh => absurd hh (by omega), fun h h1 h2 => absurd h2 (by omega), Drawn.refl _⟩
  case round =>
    obtain ⟨i, j, hi, hj, rfl, rfl, hlo, hhi, hd⟩ := hrel
    by_cases hlt : i < j
    · have EM : Hid (((i : Int) + (j : Int)) / 2 = (((i + j) / 2 : Nat) : Int)) := Lib.hid (by simp)
      have HLO := Lib.hid hlo
      have HHI := Lib.hid hhi
      have HD := Lib.hid hd
      have hC := fun b hb => HF.out ((i + j) / 2) b (by omega) hb
      clear hlo hhi hd
      cases hc : P ((i + j) / 2) with
      | true =>
        have HC := Lib.hid (hC true hc)
        have HX : Hid (∀ h, (i + j) / 2 ≤ h → h < n → P h = true) := Lib.hid fun h h1 h2 => HM.out _ _ h1 h2 hc
        clear hc hC
        go_wp2_with (rw [EM.out]; go_at_call 49; refine (HC.out _ HD.out).mono ?_; rintro e w1 ⟨rfl, hd1⟩)
        go_roundw
        case rel => exact ⟨i, (i + j) / 2, by omega, by omega, rfl, by go_num, HLO.out, HX.out, HD.out.trans hd1⟩
        case measure => simp [intOf]; omega
      | false =>
        have HC := Lib.hid (hC false hc)
        have HX : Hid (∀ h, h < (i + j) / 2 + 1 → P h = false) := Lib.hid fun h h1 => by
          cases hp : P h with
          | false => rfl
          | true => have := HM.out h ((i + j) / 2) (by omega) (by omega) hp; rw [hc] at this; cases this
        clear hc hC
        go_wp2_with (rw [EM.out]; go_at_call 49; refine (HC.out _ HD.out).mono ?_; rintro e w1 ⟨rfl, hd1⟩)
        go_roundw
        case rel => exact ⟨(i + j) / 2 + 1, j, by omega, by omega, by go_num, rfl, HX.out, HHI.out, HD.out.trans hd1⟩
        case measure => simp [intOf]; omega
    · obtain rfl : i = j := by omega
      have HR : Hid (BoundOf P n i) := Lib.hid ⟨hj, hlo, hhi⟩
      clear hlo hhi
      go_wp2
      go_ret
      exact ⟨i, rfl, HR.out, hd⟩
end Go.Proofs.YthiccmncdmohbaaGreat
