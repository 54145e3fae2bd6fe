/-
  Contracts of damaskkeep's Picked and Numbers. Conditions: the arguments can be read as data; the bound is above 0.
-/
import Derived.Test.YtnkflafkalmnmaaMTopUnits03
import Derived.Test.YtnkflafkalmnmaaMTopUnits00
import Derived.Test.YtnkflafkalmnmaaMTopUnits06
namespace Go.Dam
open Go Go.RowKit
set_option linter.unusedVariables false
theorem tmod_neg {a n : Int} (ha : a < 0) (hn : 0 < n) : (a.tmod n = 0 ∧ a % n = 0) ∨ (a.tmod n < 0 ∧ -n < a.tmod n ∧ a % n = a.tmod n + n) := by
  have h1 := Int.tmod_add_mul_tdiv a n
  have h2 := Int.emod_add_mul_ediv a n
  have h3 := Int.emod_nonneg a (show n ≠ 0 by omega)
  have h4 := Int.emod_lt_of_pos a hn
  have h5 : a.tmod n ≤ 0 := by
    have := Int.tmod_nonneg (a := -a) n (by omega)
    rw [Int.neg_tmod] at this
    omega
  have h6 : -n < a.tmod n := by
    have := Int.tmod_lt_of_pos (-a) hn
    rw [Int.neg_tmod] at this
    omega
  by_cases h0 : a.tmod n = 0
  · refine .inl ⟨h0, ?_⟩
    rw [h0, Int.zero_add] at h1
    rw [← h1]
    exact Int.mul_emod_right n _
  · refine .inr ⟨by omega, h6, ?_⟩
    have e : a = (a.tmod n + n) + n * (a.tdiv n - 1) := by rw [Int.mul_sub]; omega
    conv => lhs; rw [e]
    rw [Int.add_mul_emod_self_left]
    exact Int.emod_eq_of_lt (by omega) (by omega)
end Go.Dam
namespace Go.Proofs.Ytnkflafkalmnmaa
open Go Go.RowKit Go.Dam
set_option linter.unusedVariables false
set_option maxHeartbeats 1000000 in
theorem picked_any (a n : Int) (w : World) (ha : I64 a) (hn : 0 < n ∧ n ≤ 1099511627776) : Calls Try.prog 9 #[.int .i64 a, .int .i64 n] w fun e w' => e = .returned (.int .i64 (a % n)) ∧ w = w' := by
  unfold I64 at ha
  have hn0 : ¬ n = 0 := by omega
  have hn1 : (n == 0) = false := beq_eq_false_iff_ne.2 hn0
  by_cases h0 : 0 ≤ a
  · have h1 := Int.emod_nonneg a (show n ≠ 0 by omega)
    have h2 := Int.emod_lt_of_pos a hn.1
    have t1 : decide (a % n < 0) = false := decide_eq_false (by omega)
    have e1 : a.tmod n = a % n := Int.tmod_eq_emod_of_nonneg h0
    go_enter Try.func9, Try.ntmps9
    go_wp2_with fail
    go_ret
    exact ⟨ret_int (by first | rfl | omega), rfl⟩
  · have hE := Lib.hid (tmod_neg (a := a) (n := n) (by omega) hn.1)
    obtain ⟨q, hq⟩ : ∃ q, a.tmod n = q := ⟨_, rfl⟩
    rw [hq] at hE
    rcases hE.out with ⟨h1, h2⟩ | ⟨h1, h2, h3⟩
    · subst h1
      have t1 : decide ((0 : Int) < 0) = false := by decide
      have HQ := Lib.hid h2
      clear h2
      go_enter Try.func9, Try.ntmps9
      go_wp2_with fail
      go_ret
      exact ⟨ret_int (by rw [HQ.out]), rfl⟩
    · have t1 : decide (q < 0) = true := decide_eq_true h1
      have HQ := Lib.hid h3
      clear h3
      have hw1 : IntKind.i64.wrap q = q := IntWalk.i64_in _ (by omega)
      go_enter Try.func9, Try.ntmps9
      go_wp2_with fail
      go_ret
      exact ⟨ret_int (by rw [HQ.out]), rfl⟩
theorem wf_int {z : Int} (h : (Lit.int .i64 z).wf = true) : I64 z := by
  unfold I64
  have := wf_i64 h
  omega
/-- The numbers, picked. -/
def pickL (l : List Int) (m : Nat) (b : Int) : List Int := (l.take m).map fun x => x % b
theorem pickL_succ {l : List Int} {i : Nat} (h : i < l.length) (b : Int) : pickL l (i + 1) b = pickL l i b ++ [l.getD i 0 % b] := by
  unfold pickL
  rw [List.take_succ_eq_append_getElem h, List.map_append, List.getD_eq_getElem?_getD, List.getElem?_eq_getElem h]; rfl
theorem pickL_len {l : List Int} {i : Nat} (h : i ≤ l.length) (b : Int) : (pickL l i b).length = i := by unfold pickL; rw [List.length_map, List.length_take]; omega
end Go.Proofs.Ytnkflafkalmnmaa
