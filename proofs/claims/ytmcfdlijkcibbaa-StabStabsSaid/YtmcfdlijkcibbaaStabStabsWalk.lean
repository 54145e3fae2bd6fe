/-
  The walk of the law StabStabs: stab.Stab and the reference answer one list and one code. Conditions: the arguments can be read as data.
-/
import Derived.Test.YtmcfdlijkcibbaaStabStab
namespace Go.Proofs.Ytmcfdlijkcibbaa
open Go Go.RowKit Go.Dam
set_option linter.unusedVariables false
set_option maxHeartbeats 400000 in
theorem stabStabs_walk (v u : Value) (w : World) (h : ∃ n l, IsFlat 2 w w.heap.size v n l) (h' : ∃ x : Int, u = .int .i64 x ∧ I64 x) :
    Calls Try.prog 12 #[v, u] w fun e w' => e = .returned (.bool true) ∧ Below w.heap.size w w' := by
  obtain ⟨n, l, h⟩ := h
  obtain ⟨x, rfl, hx⟩ := h'
  obtain ⟨r, cc, hR⟩ := StabR.ex n l x
  have H1 := Lib.hid (stabStab_any v n l x r cc w _ (Nat.le_refl _) h hR)
  have H2 := Lib.hid fun W (hb : Below w.heap.size w W) => stabOf_any v n l x r cc W _ hb.size (h.below hb) hR
  obtain ⟨A, c, rfl, hc, hm, hn, hl, hr, hw⟩ := h
  clear hr hl hw hR
  go_enter Try.func12, Try.ntmps12
  go_wp2_with (first
    | (go_at_call 34; refine (H1.out).mono ?_; rintro e w1 ⟨v1, rfl, hi1, hb1⟩)
    | (go_at_call 35; refine (H2.out _ hb1).mono ?_; rintro e w2 ⟨v2, rfl, hi2, hb2⟩)
    | (go_at_call 31; refine (sameInts_any v1 v2 r _ _ ((hi1.below hb2).more hb2.size) hi2).mono ?_; rintro e w3 ⟨rfl, hd⟩))
  go_ret
  exact ⟨ret_bool (by simp), (hb1.trans (hb2.mono hb1.size)).trans (hd.below _)⟩
end Go.Proofs.Ytmcfdlijkcibbaa
