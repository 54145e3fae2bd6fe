/-
  The walk of the law PopSelects: pop.Select and the reference answer the same place and the same code. Conditions: the arguments are a uint64 and an int.
-/
import Derived.Test.YtihiiabibcogjaaRefPopSelect
namespace Go.Proofs.Ytihiiabibcogjaa
open Go Go.RowKit Go.Dam
set_option linter.unusedVariables false
set_option maxHeartbeats 400000 in
theorem popSelects_walk (v u : Value) (w : World) (h : ∃ n : Nat, v = .int .u64 n ∧ n < 18446744073709551616) (h' : ∃ x : Int, u = .int .i64 x ∧ (-9223372036854775808 ≤ x ∧ x ≤ 9223372036854775807)) :
    Calls Try.prog 14 #[v, u] w fun e w' => e = .returned (.bool true) ∧ Below w.heap.size w w' := by
  obtain ⟨n, rfl, hn⟩ := h
  obtain ⟨i, rfl, hi⟩ := h'
  by_cases h0 : i < 0
  · go_enter Try.func14, Try.ntmps14
    go_wp2_with (first
      | (go_at_call 37; refine (refSelect_neg _ _ _ hn h0).mono ?_; rintro e w' ⟨rfl, rfl⟩)
      | (go_at_call 36; refine (select_neg _ _ _ hn h0).mono ?_; rintro e w' ⟨rfl, rfl⟩))
    go_ret
    exact ⟨ret_bool (by simp), Below.refl _ _⟩
  · obtain ⟨k, rfl⟩ := Int.eq_ofNat_of_zero_le (by omega : 0 ≤ i)
    by_cases hk : k < cnt n 64
    · obtain ⟨p, hp, hb, hc⟩ := sel_ex n k 64 hk
      have hs : RefSel n k p p 0 := .inl ⟨hp, hb, hc, rfl, rfl⟩
      have c1 := fun W => refSelect_any n k p p 0 W hn (by omega) hs
      have c2 := fun W => select_some n k p W hn hp hb hc
      have C1 := Lib.hid c1
      have C2 := Lib.hid c2
      clear c1 c2 hb hc hs
      go_enter Try.func14, Try.ntmps14
      go_wp2_with (first
        | (go_at_call 37; refine (C1.out _).mono ?_; rintro e w' ⟨rfl, rfl⟩)
        | (go_at_call 36; refine (C2.out _).mono ?_; rintro e w' ⟨rfl, hd⟩))
      go_ret
      exact ⟨ret_bool (by simp), hd.below _⟩
    · have hs : RefSel n k 64 0 7 := .inr ⟨rfl, by omega, rfl, rfl⟩
      have c1 := fun W => refSelect_any n k 64 0 7 W hn (by omega) hs
      have c2 := fun W => select_none n k W hn (by omega) (by omega)
      have C1 := Lib.hid c1
      have C2 := Lib.hid c2
      clear c1 c2 hs
      go_enter Try.func14, Try.ntmps14
      go_wp2_with (first
        | (go_at_call 37; refine (C1.out _).mono ?_; rintro e w' ⟨rfl, rfl⟩)
        | (go_at_call 36; refine (C2.out _).mono ?_; rintro e w' ⟨rfl, rfl⟩))
      go_ret
      exact ⟨ret_bool (by simp), Below.refl _ _⟩
end Go.Proofs.Ytihiiabibcogjaa
