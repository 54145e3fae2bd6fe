/-
  Contract of the law's own helper sameRow: two rows that read alike are found alike. Conditions: both have the same length and read as the same words.
-/
import Derived.Test.YtjnndbllaplkcaaSameWords
namespace Go.Proofs.Ytjnndbllaplkcaa
open Go Go.RowKit Go.Dam
set_option linter.unusedVariables false

set_option maxHeartbeats 400000 in
theorem sameRow_any (s t : Value) (n : Int) (ws : List Nat) (w : World) (B : Nat) (hB : B ≤ w.heap.size) (h : IsWords w B s ws) (h' : IsWords w B t ws) :
    Calls Try.prog 17 #[.agg #[.int .i64 n, s], .agg #[.int .i64 n, t]] w fun e w' => e = .returned (.bool true) ∧ Below w.heap.size w w' := by
  have HB : Hid (Below w.heap.size w ((w.alloc (.cells #[.int .i64 n, s] 32)).alloc (.cells #[.int .i64 n, t] 32))) := Lib.hid (((Below.refl _ _).alloc (Nat.le_refl _) _).alloc (by simp) _)
  have H1 := Lib.hid (h.below (HB.out.mono hB))
  have H2 := Lib.hid (h'.below (HB.out.mono hB))
  clear h h'
  go_enter Try.func17, Try.ntmps17
  go_wp2_with (go_at_call 46; refine (sameWords_any _ _ ws _ B H1.out H2.out).mono ?_; rintro e w1 ⟨rfl, hd⟩)
  go_ret
  exact ⟨rfl, HB.out.trans (hd.below _)⟩
end Go.Proofs.Ytjnndbllaplkcaa
