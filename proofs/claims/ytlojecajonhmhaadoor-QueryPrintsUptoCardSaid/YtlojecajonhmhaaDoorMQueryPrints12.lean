/-
  Contracts of the reference's exprFault at what is wrong with an expression's kind and form. Conditions: none.
-/
import Derived.Test.YtlojecajonhmhaaDoorMQueryPrints04
import Derived.Test.YtlojecajonhmhaaDoorMQueryPrints11
set_option linter.unusedVariables false
set_option linter.unusedSimpArgs false
namespace Go.Proofs.YtlojecajonhmhaaDoor
open Go Go.RowKit Go.Dam Go.Dam.Q
set_option linter.unusedVariables false
theorem coord_near (z : Int) : coordOk z = nearQ z := by
  unfold nearQ
  cases h : coordOk z
  · have := coordOk_no h
    symm
    rw [Bool.and_eq_false_iff, decide_eq_false_iff_not, decide_eq_false_iff_not]; omega
  · obtain ⟨h1, h2⟩ := coordOk_yes h
    symm
    rw [Bool.and_eq_true, decide_eq_true_eq, decide_eq_true_eq]; omega
set_option maxRecDepth 100000 in
set_option maxHeartbeats 4000000 in
theorem refFault_deep (x : Ex) (v : Value) (w : World) (B : Nat) (h : IsEx w B 0 v x) :
    Calls Tryd.prog 19 #[v, .int .i64 8] w fun e w' => e = .returned (.int .i64 (faultN 0 x)) ∧ Below w.heap.size w w' := by
  obtain ⟨k, x0, y0, x1, y1, ww, ps⟩ := x
  obtain ⟨A, c, rfl, hn⟩ := h.val
  rw [faultN_0]
  unfold exV
  generalize ps.length = n at *
  clear h
  go_enter Tryd.func19, Tryd.ntmps19
  go_wp2_with fail
  go_ret
  exact ⟨rfl, (Below.refl _ _).alloc (Nat.le_refl _) _⟩
set_option maxRecDepth 100000 in
set_option maxHeartbeats 4000000 in
theorem refFault_head (k x0 y0 x1 y1 ww : Int) (A : Option Addr) (n c : Nat) (d : Int) (w : World) (hn : n ≤ 140737488355328) (hd : d < 8) (hh : k < 1 ∨ 5 < k ∨ FormBadP k x0 y0 x1 y1 ww n) :
    Calls Tryd.prog 19 #[exV k x0 y0 x1 y1 ww A n c, .int .i64 d] w fun e w' => e = .returned (.int .i64 (headCode k x0 y0 x1 y1 ww n)) ∧ Below w.heap.size w w' := by
  have hd1 : (d == 8) = false := beq_eq_false_iff_ne.2 (by omega)
  obtain ⟨hc, hcE⟩ : ∃ hc, hc = headCode k x0 y0 x1 y1 ww n := ⟨_, rfl⟩
  rw [← hcE]
  have HC := Lib.hid hcE
  have HH := Lib.hid hh
  clear hcE hh
  unfold exV
  go_enter Tryd.func19, Tryd.ntmps19
  go_upto_region 14 with fail
  all_goals try simp only [bne_iff_ne, ne_eq, bne_eq_false_iff_eq, Bool.not_eq_true', Bool.not_eq_false', beq_iff_eq, beq_eq_false_iff_ne] at *
  all_goals first
    | (go_ret; exact ⟨by rw [HC.out, head3 (by omega)]; rfl, (Below.refl _ _).alloc (Nat.le_refl _) _⟩)
    | (go_ret; exact ⟨by rw [HC.out, head4 (by omega) (by unfold FormBadP; omega)]; rfl, ((Below.refl _ _).alloc (Nat.le_refl _) _).alloc (by simp) _⟩)
    | (exfalso; have h := HH.out; unfold FormBadP at h; omega)
end Go.Proofs.YtlojecajonhmhaaDoor
