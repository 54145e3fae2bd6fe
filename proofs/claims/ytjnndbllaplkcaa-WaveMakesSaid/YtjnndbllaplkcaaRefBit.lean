/-
  The contract of the reference's bitOf: bit i of a word. Conditions: the word is below 2 to the 64th, i is below 64.
-/
import Derived.Test.YtjnndbllaplkcaaBase
namespace Go.Proofs.Ytjnndbllaplkcaa
open Go Go.RowKit Go.Dam
set_option linter.unusedVariables false

set_option maxHeartbeats 400000 in
theorem bitOf_any (n i : Nat) (w : World) (h : n < 18446744073709551616) (hi : i < 64) : Calls Try.prog 99 #[.int .u64 n, .int .i64 i] w fun e w' => e = .returned (.bool (n.testBit i)) ∧ w = w' := by
  have hb := bit_u64 n i h
  have hc := bit_test n i
  go_enter Try.func99, Try.ntmps99
  go_wp2
  go_ret
  exact ⟨ret_bool hc, rfl⟩

end Go.Proofs.Ytjnndbllaplkcaa
