/-
  Contracts of the library's IndexFunc and ContainsFunc at []int with the test damask/seg.Play$1. Conditions: the list can be read as data; the test has a contract.
-/
import Derived.Test.YtnkflafkalmnmaaMTopUnits24
import Derived.Test.YtnkflafkalmnmaaMTopUnits03
import Derived.Test.YtnkflafkalmnmaaMTopUnits00
namespace Go.Proofs.Ytnkflafkalmnmaa
open Go Go.RowKit Go.Dam
set_option linter.unusedVariables false
set_option maxHeartbeats 400000 in
theorem segBadIndex_any (p : Int → Bool) (hF : ∀ x W, I64 x → Calls Try.prog 43 #[.int .i64 x] W fun e w' => e = .returned (.bool (p x)) ∧ W = w') (v : Value) (l : List Int) (k : Int) (w : World) (B : Nat) (h : IsInts .i64 w B v l) (hk : FirstR (fun i => p (l.getD i 0)) l.length k) :
    Calls Try.prog 67 #[v, .func (.func 43) #[] #[]] w fun e w' => e = .returned (.int .i64 k) ∧ w = w' := by
  obtain ⟨A, c, rfl, hc, hm, hn, hr, hw⟩ := h
  have HK := Lib.hid hk
  have HF := fun i b (hb : p (l.getD i 0) = b) W => hb ▸ hF (l.getD i 0) W (flat_wf hw i)
  have HF := Lib.hid HF
  clear hk hF hw
  go_enter Try.func67, Try.ntmps67
  go_wp2_with fail
  go_loop [8] (fun iv => ∃ i : Nat, i ≤ l.length ∧ iv = .int .i64 i ∧ (∀ j, j < i → p (l.getD j 0) = false)) (fun iv => l.length - (intOf iv).toNat)
  case atStart => exact ⟨0, by omega, rfl, fun j hj => absurd hj (by omega)⟩
  case round =>
    obtain ⟨i, hi, rfl, hno⟩ := hrel
    by_cases hlt : i < l.length
    · obtain ⟨b, off, rfl, hb, hcells⟩ := ints_cells hr (by omega)
      have c0 := hcells i hlt
      cases hp : p (l.getD i 0) with
      | true =>
        have HC := Lib.hid (HF.out i _ hp)
        have HE : Hid (k = i) := Lib.hid (HK.out.is hlt hp hno)
        generalize l.getD i 0 = x at *
        clear hcells hno hp
        go_wp2_with (go_at_call 43; refine (HC.out _).mono ?_; rintro e w1 ⟨rfl, rfl⟩)
        go_ret
        exact ⟨ret_int HE.out.symm, rfl⟩
      | false =>
        have HC := Lib.hid (HF.out i _ hp)
        have HN := Lib.hid (no_step hno hp)
        generalize l.getD i 0 = x at *
        clear hcells hno hp
        go_wp2_with (go_at_call 43; refine (HC.out _).mono ?_; rintro e w1 ⟨rfl, rfl⟩)
        go_round
        case rel => exact ⟨i + 1, by omega, by go_num, HN.out⟩
        case measure => simp [intOf]; omega
    · obtain rfl : i = l.length := by omega
      have HE : Hid (k = -1) := Lib.hid (HK.out.none_ hno)
      clear hno
      go_wp2
      go_ret
      exact ⟨ret_int HE.out.symm, rfl⟩
set_option maxHeartbeats 400000 in
theorem segBadContains_any (p : Int → Bool) (hF : ∀ x W, I64 x → Calls Try.prog 43 #[.int .i64 x] W fun e w' => e = .returned (.bool (p x)) ∧ W = w') (v : Value) (l : List Int) (b : Bool) (w : World) (B : Nat) (h : IsInts .i64 w B v l) (hb : anyN (fun i => p (l.getD i 0)) l.length = b) :
    Calls Try.prog 42 #[v, .func (.func 43) #[] #[]] w fun e w' => e = .returned (.bool b) ∧ w = w' := by
  obtain ⟨k, hk⟩ := FirstR.ex (fun i => p (l.getD i 0)) l.length
  have HC := Lib.hid (segBadIndex_any p hF v l k w B h hk)
  have HK := Lib.hid (hk.any.trans hb)
  obtain ⟨A, c, rfl, hc, hm, hn, hr, hw⟩ := h
  clear hk hr hw hb hF
  go_enter Try.func42, Try.ntmps42
  go_wp2_with (go_at_call 67; refine (HC.out).mono ?_; rintro e w1 ⟨rfl, rfl⟩)
  go_ret
  exact ⟨ret_bool (by rw [← HK.out]), rfl⟩
end Go.Proofs.Ytnkflafkalmnmaa
