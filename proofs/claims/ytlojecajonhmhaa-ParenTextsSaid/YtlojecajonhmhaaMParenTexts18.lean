/-
  Contract of paren.Tree: of each node its parent. Conditions: none beyond a text that can be read.
-/
import Derived.Test.YtlojecajonhmhaaMParenTexts10
import Derived.Test.YtlojecajonhmhaaMParenTexts04
import Derived.Test.YtlojecajonhmhaaMParenTexts14
set_option linter.unusedVariables false
set_option linter.unusedSimpArgs false
namespace Go.Dam
open Go Go.RowKit
set_option linter.unusedVariables false
/-- The nodes of open places. -/
def nodesV (f : Nat → Nat) (st : List Nat) : List Value := st.map fun k => Value.int .i64 ((opn f k : Nat) : Int)
theorem nodesV_len (f : Nat → Nat) (st : List Nat) : (nodesV f st).length = st.length := by simp [nodesV]
theorem nodesV_push (f : Nat → Nat) (st : List Nat) (k : Nat) : nodesV f (st ++ [k]) = nodesV f st ++ [Value.int .i64 ((opn f k : Nat) : Int)] := by simp [nodesV]
theorem nodesV_nil (f : Nat → Nat) : nodesV f [] = [] := rfl
attribute [irreducible] nodesV
end Go.Dam
namespace Go.Proofs.Ytlojecajonhmhaa
open Go Go.RowKit Go.Dam
set_option linter.unusedVariables false
end Go.Proofs.Ytlojecajonhmhaa
