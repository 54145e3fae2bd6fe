/-
  Contract of the reference's PackMay: it says whether packed numbers are well formed. Conditions: the numbers can be read as data.
-/
import Derived.Test.YteblkbgcnoepnaaPackMay
namespace Go.Proofs.Yteblkbgcnoepnaa
open Go Go.RowKit Go.Dam
set_option linter.unusedVariables false
set_option maxHeartbeats 1000000 in
theorem refPackMay_any (v : Value) (n m : Int) (ws : List Nat) (w : World) (B : Nat) (hB : B ≤ w.heap.size) (h : IsPacked w B v n m ws) :
    Calls Try.prog 60 #[v] w fun e w' => e = .returned (.bool (mayPacked n m ws)) ∧ Below w.heap.size w w' := by
  obtain ⟨s, rfl, hi, hi', A, c, rfl, hc, hm, hl, hr, hw⟩ := h
  unfold I64 at hi hi'
  have HR := Lib.hid (mayPacked_ref (n := n) (m := m) hw)
  have HBX : Hid (Below w.heap.size w (w.alloc (.cells #[.int .i64 n, .int .i64 m, .slice A ws.length c] 43))) := Lib.hid ((Below.refl _ _).alloc (Nat.le_refl _) _)
  by_cases c1 : n < 0 ∨ 300 < n ∨ m < 0 ∨ 62 < m
  · have HM : Hid (mayPacked n m ws = false) := Lib.hid (mayPacked_false.2 fun h => (HR.out.1 h).1 c1)
    go_enter Try.func60, Try.ntmps60
    go_wp2_with fail
    all_goals first
      | (go_ret; exact ⟨ret_bool HM.out.symm, HBX.out⟩)
      | (exfalso; omega)
  obtain ⟨p0, p1⟩ := prod_bd (n := n) (m := m) (by omega) (by omega) (by omega) (by omega)
  obtain ⟨t, ht⟩ : ∃ t : Nat, (t : Int) = n * m := ⟨(n * m).toNat, by omega⟩
  have e1 : n * m = (t : Int) := ht.symm
  have n0 : ¬ n < 0 := by omega
  have n1 : n ≤ 300 := by omega
  have n2 : ¬ m < 0 := by omega
  have n3 : m ≤ 62 := by omega
  have HC := Lib.hid c1
  have HT := Lib.hid ht
  clear c1 ht
  by_cases c2 : 64 * (ws.length : Int) < t ∨ (t : Int) + 64 ≤ 64 * (ws.length : Int)
  · have HM : Hid (mayPacked n m ws = false) := Lib.hid (mayPacked_false.2 fun h => by
      have := (HR.out.1 h).2.1; rw [e1] at this; exact this c2)
    have d1 : (t : Int) ≤ 18600 := by omega
    go_enter Try.func60, Try.ntmps60
    go_wp2_with fail
    all_goals first
      | (go_ret; exact ⟨ret_bool HM.out.symm, HBX.out⟩)
      | (exfalso; omega)
  have d1 : (t : Int) ≤ 18600 := by omega
  have d2 : (t : Int) ≤ 64 * (ws.length : Int) := by omega
  have d3 : 64 * (ws.length : Int) < (t : Int) + 64 := by omega
  have HC2 := Lib.hid c2
  clear c2 p0 p1
  go_enter Try.func60, Try.ntmps60
  go_wp2_with fail
  go_loop [4] (fun iv => ∃ i : Nat, t ≤ i ∧ i ≤ 64 * ws.length ∧ iv = .int .i64 i ∧ ∀ j : Nat, t ≤ j → j < i → bitAt ws j = false) (fun iv => 64 * ws.length - (intOf iv).toNat)
  case atStart => exact ⟨t, Nat.le_refl _, by omega, rfl, fun j h1 h2 => absurd h2 (by omega)⟩
  case round =>
    obtain ⟨i, h1, h2, rfl, h3⟩ := hrel
    by_cases hlt : i < 64 * ws.length
    · obtain ⟨b, off, rfl, hb, hcells⟩ := word_at hr (by omega)
      have hcell := hcells (i / 64) (by omega)
      have hx := word_lt hw (i / 64)
      have hbit := bit_of_word' ws i
      generalize ws.getD (i / 64) 0 = x at *
      have hbw : b < w.heap.size := by omega
      have H3 := Lib.hid h3
      clear hcells h3
      have hb6 := fun W => bitOf_any x (i % 64) W hx (by omega)
      rw [hbit] at hb6
      cases ht : bitAt ws i with
      | true =>
        rw [ht] at hb6
        have HM : Hid (mayPacked n m ws = false) := Lib.hid (mayPacked_false.2 fun h => by
          have := (HR.out.1 h).2.2 i (by omega) hlt
          rw [ht] at this; cases this)
        have HB := Lib.hid hb6
        clear hb6 hbit ht
        go_wp2_with (go_at_call 71; refine (HB.out _).mono ?_; rintro e w' ⟨rfl, rfl⟩)
        go_ret
        exact ⟨ret_bool HM.out.symm, HBX.out⟩
      | false =>
        rw [ht] at hb6
        have HB := Lib.hid hb6
        have HT := Lib.hid ht
        clear hb6 hbit ht
        go_wp2_with (go_at_call 71; refine (HB.out _).mono ?_; rintro e w' ⟨rfl, rfl⟩)
        go_round
        case rel => exact ⟨i + 1, by omega, by omega, by go_num, fun j h4 h5 => by
          rcases Nat.lt_or_ge j i with h6 | h6
          · exact H3.out j h4 h6
          · rw [show j = i from by omega]; exact HT.out⟩
        case measure => simp [intOf]; omega
    · have hi' : i = 64 * ws.length := by omega
      have HM : Hid (mayPacked n m ws = true) := Lib.hid (mayPacked_iff.2 (HR.out.2 ⟨HC.out, by rw [e1]; exact HC2.out, fun j h4 h5 => h3 j (by omega) (by omega)⟩))
      clear h3 hi'
      go_wp2
      go_ret
      exact ⟨ret_bool HM.out.symm, HBX.out⟩
end Go.Proofs.Yteblkbgcnoepnaa
