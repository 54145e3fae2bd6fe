/-
  Contracts of query.near, and of query.fault at what is wrong with an expression's own numbers. Conditions: the expression can be read eight levels down.
-/
import Derived.Test.YtlojecajonhmhaaGreatDoorMQueryEvals03
import Derived.Deep.CutRange
set_option linter.unusedVariables false
set_option linter.unusedSimpArgs false
namespace Go.Proofs.YtlojecajonhmhaaGreatDoor
open Go Go.RowKit Go.Dam Go.Dam.Q
set_option linter.unusedVariables false
theorem queryNear_any (n : Int) (w : World) : Calls Tryz.prog 23 #[.int .i64 n] w fun e w' => e = .returned (.bool (nearQ n)) ∧ w' = w := by
  unfold nearQ
  go_enter Tryz.func23, Tryz.ntmps23
  go_wp2_with fail
  all_goals go_ret
  · refine ⟨?_, rfl⟩
    rename_i h
    rw [decide_eq_true h, Bool.true_and]; rfl
  · refine ⟨?_, rfl⟩
    rename_i h
    rw [decide_eq_false (by omega), Bool.false_and]; rfl
set_option maxRecDepth 100000 in
set_option maxHeartbeats 4000000 in
theorem queryFault_deep (x : Ex) (v : Value) (w : World) (B : Nat) (h : IsEx w B 0 v x) :
    Calls Tryz.prog 13 #[v, .int .i64 8] w fun e w' => e = .returned (.int .i64 (faultN 0 x)) ∧ Below w.heap.size w w' := by
  obtain ⟨k, x0, y0, x1, y1, ww, ps⟩ := x
  obtain ⟨A, c, rfl, hn⟩ := h.val
  rw [faultN_0]
  unfold exV
  generalize ps.length = n at *
  clear h
  go_enter Tryz.func13, Tryz.ntmps13
  go_wp2_with fail
  go_ret
  exact ⟨rfl, ((Below.refl _ _).alloc (Nat.le_refl _) _).alloc (by simp) _⟩
set_option maxRecDepth 100000 in
set_option maxHeartbeats 4000000 in
theorem queryFault_head (k x0 y0 x1 y1 ww : Int) (A : Option Addr) (n c : Nat) (d : Int) (w : World) (hn : n ≤ 140737488355328) (hd : d < 8) (hh : headCode k x0 y0 x1 y1 ww n ≠ 0) :
    Calls Tryz.prog 13 #[exV k x0 y0 x1 y1 ww A n c, .int .i64 d] w fun e w' => e = .returned (.int .i64 (headCode k x0 y0 x1 y1 ww n)) ∧ Below w.heap.size w w' := by
  have hd1 : ¬ (8 : Int) ≤ d := by omega
  have HN := Lib.hid queryNear_any
  obtain ⟨hc, hcE⟩ : ∃ hc, hc = headCode k x0 y0 x1 y1 ww n := ⟨_, rfl⟩
  rw [← hcE] at hh ⊢
  have HC := Lib.hid hcE
  clear hcE
  unfold exV
  go_enter Tryz.func13, Tryz.ntmps13
  go_upto_region 16 with (go_at_call 23; refine (HN.out _ _).mono ?_; rintro e w1 ⟨rfl, rfl⟩)
  all_goals have n0 : nearQ 0 = true := rfl
  all_goals try simp only [bne_iff_ne, ne_eq, bne_eq_false_iff_eq, Bool.not_eq_true', Bool.not_eq_false'] at *
  all_goals first
    | (go_ret; exact ⟨by rw [HC.out, head3 (by omega)]; rfl, ((Below.refl _ _).alloc (Nat.le_refl _) _).alloc (by simp) _⟩)
    | (go_ret; exact ⟨by rw [HC.out, head4 (by omega) (by unfold FormBadP; omega)]; rfl, ((Below.refl _ _).alloc (Nat.le_refl _) _).alloc (by simp) _⟩)
    | (exfalso; clear HN HC hh; simp_all; done)
    | (go_ret; exact ⟨by rw [HC.out, head2 (by omega) (by unfold FormBadP; omega) (by simp [*])]; rfl, ((Below.refl _ _).alloc (Nat.le_refl _) _).alloc (by simp) _⟩)
    | (exfalso; exact hh (HC.out.trans (head0 (by omega) (by unfold FormBadP; omega) (by simp [*]))))
end Go.Proofs.YtlojecajonhmhaaGreatDoor
