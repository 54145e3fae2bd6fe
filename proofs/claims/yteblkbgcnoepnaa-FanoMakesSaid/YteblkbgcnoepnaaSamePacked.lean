/-
  Contract of the law's own helper samePacked: packed numbers that read alike are found alike. Conditions: both have the same length and width and read as the same words.
-/
import Derived.Test.YteblkbgcnoepnaaSameWords
namespace Go.Proofs.Yteblkbgcnoepnaa
open Go Go.RowKit Go.Dam
set_option linter.unusedVariables false

set_option maxHeartbeats 400000 in
theorem samePacked_any (s t : Value) (n m : Int) (ws : List Nat) (w : World) (B : Nat) (hB : B ≤ w.heap.size) (h : IsWords w B s ws) (h' : IsWords w B t ws) :
    Calls Try.prog 29 #[.agg #[.int .i64 n, .int .i64 m, s], .agg #[.int .i64 n, .int .i64 m, t]] w fun e w' => e = .returned (.bool true) ∧ Below w.heap.size w w' := by
  have HB : Hid (Below w.heap.size w ((w.alloc (.cells #[.int .i64 n, .int .i64 m, s] 43)).alloc (.cells #[.int .i64 n, .int .i64 m, t] 43))) := Lib.hid (((Below.refl _ _).alloc (Nat.le_refl _) _).alloc (by simp) _)
  have H1 := Lib.hid (h.below (HB.out.mono hB))
  have H2 := Lib.hid (h'.below (HB.out.mono hB))
  clear h h'
  go_enter Try.func29, Try.ntmps29
  go_wp2_with (go_at_call 53; refine (sameWords_any _ _ ws _ B H1.out H2.out).mono ?_; rintro e w1 ⟨rfl, hd⟩)
  go_ret
  exact ⟨rfl, HB.out.trans (hd.below _)⟩
end Go.Proofs.Yteblkbgcnoepnaa
