/-
  No cell of these rows narrows 'for every input' (looked for: loops, veiled, ifaces, maps, wideKeys, modest, calm, conditions, laid).
  DERIVED. THE GIVEN ROWS OF THIS SEAT. 12 by the template 'for every input the law returns true; each argument reads behind the call as it read before'; 0 by the template 'total and deterministic' (their statements: YtiflelifkjfpdaaTotals.lean).
  GIVEN WITH THE SEED: the statements are not yours to turn. If you find one false, say at which input.
  Laid BY PROGRAM, IN A SANDBOX (cutbox-rows.mjs): the forced cells as the released guide's own fill.sh prints them over the translation cae821841051c50f… (all of the seat's roots in one cut). By AI agents, Wed Nov 11 2026. No macro, syntax, notation, axiom, sorry.
-/
import Derived.Test.YtiflelifkjfpdaaChecked
import GoSem.Claim
import GoSem.ClaimJoined
import GoSem.ClaimMapViews
import Derived.JoinedTies
import Derived.KernelRfl
namespace Go.Proofs.Ytiflelifkjfpdaa
/- THE CELL 'sum', in the pinned program and in every row, IS THE sha256 OF THE DUMP (.gsa) THAT YtiflelifkjfpdaaProg.lean LOADS. Nothing in Lean hashes anything: it is a label: what it is worth is what the hold of that sum in a sandbox is worth. -/
noncomputable def Try.pinned : Pinned := { name := "ytiflelifkjfpdaa", sum := "cae821841051c50fb775d0bc59bc9e40ae1ec305c578e347e1c89eb92246829b", checked := Try.checked }
namespace Rows
def none {H : Type} : Left H := { results := [], args := [] }

/-- 'damasklaw.RmqMakes': WHATEVER THE INPUT: true; the input reads as it did. -/
def rmqMakesSpec : ChangeSpec := { name := "rmqMakes", fn := fun _ => fun
  | [d] => { results := [.lit (.bool true)], args := [d] }
  | _ => none }
def rmqMakesRow : OpenClaim := { program := "ytiflelifkjfpdaa", sum := "cae821841051c50fb775d0bc59bc9e40ae1ec305c578e347e1c89eb92246829b", func := "damask/damasklaw.RmqMakes", spec := "rmqMakes", apart := false }
def RmqMakesSaid : Prop := rmqMakesRow.holds Try.pinned (OpenSpec.ofChange rmqMakesSpec)

/-- ITS FALSE NEIGHBOUR: 'it returns false'. Refute it at one input. -/
def rmqMakesWrong : ChangeSpec := { name := "rmqMakes", fn := fun _ => fun
  | [d] => { results := [.lit (.bool false)], args := [d] }
  | _ => none }
def RmqMakesWrongFalsely : Prop := rmqMakesRow.holds Try.pinned (OpenSpec.ofChange rmqMakesWrong)

/-- 'damasklaw.RmqTrees': WHATEVER THE INPUT: true; the input reads as it did. -/
def rmqTreesSpec : ChangeSpec := { name := "rmqTrees", fn := fun _ => fun
  | [d] => { results := [.lit (.bool true)], args := [d] }
  | _ => none }
def rmqTreesRow : OpenClaim := { program := "ytiflelifkjfpdaa", sum := "cae821841051c50fb775d0bc59bc9e40ae1ec305c578e347e1c89eb92246829b", func := "damask/damasklaw.RmqTrees", spec := "rmqTrees", unfollowed := true, recurses := true, apart := false }
def RmqTreesSaid : Prop := rmqTreesRow.holds Try.pinned (OpenSpec.ofChange rmqTreesSpec)

/-- ITS FALSE NEIGHBOUR: 'it returns false'. Refute it at one input. -/
def rmqTreesWrong : ChangeSpec := { name := "rmqTrees", fn := fun _ => fun
  | [d] => { results := [.lit (.bool false)], args := [d] }
  | _ => none }
def RmqTreesWrongFalsely : Prop := rmqTreesRow.holds Try.pinned (OpenSpec.ofChange rmqTreesWrong)

/-- 'damasklaw.RmqTops': WHATEVER THE INPUT: true; the input reads as it did. -/
def rmqTopsSpec : ChangeSpec := { name := "rmqTops", fn := fun _ => fun
  | [d1, d2, d3, d4] => { results := [.lit (.bool true)], args := [d1, d2, d3, d4] }
  | _ => none }
def rmqTopsRow : OpenClaim := { program := "ytiflelifkjfpdaa", sum := "cae821841051c50fb775d0bc59bc9e40ae1ec305c578e347e1c89eb92246829b", func := "damask/damasklaw.RmqTops", spec := "rmqTops", unfollowed := true, recurses := true, apart := false }
def RmqTopsSaid : Prop := rmqTopsRow.holds Try.pinned (OpenSpec.ofChange rmqTopsSpec)

/-- ITS FALSE NEIGHBOUR: 'it returns false'. Refute it at one input. -/
def rmqTopsWrong : ChangeSpec := { name := "rmqTops", fn := fun _ => fun
  | [d1, d2, d3, d4] => { results := [.lit (.bool false)], args := [d1, d2, d3, d4] }
  | _ => none }
def RmqTopsWrongFalsely : Prop := rmqTopsRow.holds Try.pinned (OpenSpec.ofChange rmqTopsWrong)

/-- 'damasklaw.FenMakes': WHATEVER THE INPUT: true; the input reads as it did. -/
def fenMakesSpec : ChangeSpec := { name := "fenMakes", fn := fun _ => fun
  | [d] => { results := [.lit (.bool true)], args := [d] }
  | _ => none }
def fenMakesRow : OpenClaim := { program := "ytiflelifkjfpdaa", sum := "cae821841051c50fb775d0bc59bc9e40ae1ec305c578e347e1c89eb92246829b", func := "damask/damasklaw.FenMakes", spec := "fenMakes", unfollowed := true, recurses := true, apart := false }
def FenMakesSaid : Prop := fenMakesRow.holds Try.pinned (OpenSpec.ofChange fenMakesSpec)

/-- ITS FALSE NEIGHBOUR: 'it returns false'. Refute it at one input. -/
def fenMakesWrong : ChangeSpec := { name := "fenMakes", fn := fun _ => fun
  | [d] => { results := [.lit (.bool false)], args := [d] }
  | _ => none }
def FenMakesWrongFalsely : Prop := fenMakesRow.holds Try.pinned (OpenSpec.ofChange fenMakesWrong)

/-- 'damasklaw.FenAdds': WHATEVER THE INPUT: true; the input reads as it did. -/
def fenAddsSpec : ChangeSpec := { name := "fenAdds", fn := fun _ => fun
  | [d1, d2, d3] => { results := [.lit (.bool true)], args := [d1, d2, d3] }
  | _ => none }
def fenAddsRow : OpenClaim := { program := "ytiflelifkjfpdaa", sum := "cae821841051c50fb775d0bc59bc9e40ae1ec305c578e347e1c89eb92246829b", func := "damask/damasklaw.FenAdds", spec := "fenAdds", unfollowed := true, recurses := true, apart := false }
def FenAddsSaid : Prop := fenAddsRow.holds Try.pinned (OpenSpec.ofChange fenAddsSpec)

/-- ITS FALSE NEIGHBOUR: 'it returns false'. Refute it at one input. -/
def fenAddsWrong : ChangeSpec := { name := "fenAdds", fn := fun _ => fun
  | [d1, d2, d3] => { results := [.lit (.bool false)], args := [d1, d2, d3] }
  | _ => none }
def FenAddsWrongFalsely : Prop := fenAddsRow.holds Try.pinned (OpenSpec.ofChange fenAddsWrong)

/-- 'damasklaw.FenSums': WHATEVER THE INPUT: true; the input reads as it did. -/
def fenSumsSpec : ChangeSpec := { name := "fenSums", fn := fun _ => fun
  | [d1, d2] => { results := [.lit (.bool true)], args := [d1, d2] }
  | _ => none }
def fenSumsRow : OpenClaim := { program := "ytiflelifkjfpdaa", sum := "cae821841051c50fb775d0bc59bc9e40ae1ec305c578e347e1c89eb92246829b", func := "damask/damasklaw.FenSums", spec := "fenSums", unfollowed := true, recurses := true, apart := false }
def FenSumsSaid : Prop := fenSumsRow.holds Try.pinned (OpenSpec.ofChange fenSumsSpec)

/-- ITS FALSE NEIGHBOUR: 'it returns false'. Refute it at one input. -/
def fenSumsWrong : ChangeSpec := { name := "fenSums", fn := fun _ => fun
  | [d1, d2] => { results := [.lit (.bool false)], args := [d1, d2] }
  | _ => none }
def FenSumsWrongFalsely : Prop := fenSumsRow.holds Try.pinned (OpenSpec.ofChange fenSumsWrong)

/-- 'damasklaw.FenFinds': WHATEVER THE INPUT: true; the input reads as it did. -/
def fenFindsSpec : ChangeSpec := { name := "fenFinds", fn := fun _ => fun
  | [d1, d2] => { results := [.lit (.bool true)], args := [d1, d2] }
  | _ => none }
def fenFindsRow : OpenClaim := { program := "ytiflelifkjfpdaa", sum := "cae821841051c50fb775d0bc59bc9e40ae1ec305c578e347e1c89eb92246829b", func := "damask/damasklaw.FenFinds", spec := "fenFinds", unfollowed := true, recurses := true, apart := false }
def FenFindsSaid : Prop := fenFindsRow.holds Try.pinned (OpenSpec.ofChange fenFindsSpec)

/-- ITS FALSE NEIGHBOUR: 'it returns false'. Refute it at one input. -/
def fenFindsWrong : ChangeSpec := { name := "fenFinds", fn := fun _ => fun
  | [d1, d2] => { results := [.lit (.bool false)], args := [d1, d2] }
  | _ => none }
def FenFindsWrongFalsely : Prop := fenFindsRow.holds Try.pinned (OpenSpec.ofChange fenFindsWrong)

/-- 'damasklaw.ParenChecks': WHATEVER THE INPUT: true; the input reads as it did. -/
def parenChecksSpec : ChangeSpec := { name := "parenChecks", fn := fun _ => fun
  | [d] => { results := [.lit (.bool true)], args := [d] }
  | _ => none }
def parenChecksRow : OpenClaim := { program := "ytiflelifkjfpdaa", sum := "cae821841051c50fb775d0bc59bc9e40ae1ec305c578e347e1c89eb92246829b", func := "damask/damasklaw.ParenChecks", spec := "parenChecks", apart := false }
def ParenChecksSaid : Prop := parenChecksRow.holds Try.pinned (OpenSpec.ofChange parenChecksSpec)

/-- ITS FALSE NEIGHBOUR: 'it returns false'. Refute it at one input. -/
def parenChecksWrong : ChangeSpec := { name := "parenChecks", fn := fun _ => fun
  | [d] => { results := [.lit (.bool false)], args := [d] }
  | _ => none }
def ParenChecksWrongFalsely : Prop := parenChecksRow.holds Try.pinned (OpenSpec.ofChange parenChecksWrong)

/-- 'damasklaw.ParenMatches': WHATEVER THE INPUT: true; the input reads as it did. -/
def parenMatchesSpec : ChangeSpec := { name := "parenMatches", fn := fun _ => fun
  | [d1, d2] => { results := [.lit (.bool true)], args := [d1, d2] }
  | _ => none }
def parenMatchesRow : OpenClaim := { program := "ytiflelifkjfpdaa", sum := "cae821841051c50fb775d0bc59bc9e40ae1ec305c578e347e1c89eb92246829b", func := "damask/damasklaw.ParenMatches", spec := "parenMatches", apart := false }
def ParenMatchesSaid : Prop := parenMatchesRow.holds Try.pinned (OpenSpec.ofChange parenMatchesSpec)

/-- ITS FALSE NEIGHBOUR: 'it returns false'. Refute it at one input. -/
def parenMatchesWrong : ChangeSpec := { name := "parenMatches", fn := fun _ => fun
  | [d1, d2] => { results := [.lit (.bool false)], args := [d1, d2] }
  | _ => none }
def ParenMatchesWrongFalsely : Prop := parenMatchesRow.holds Try.pinned (OpenSpec.ofChange parenMatchesWrong)

/-- 'damasklaw.ParenEncloses': WHATEVER THE INPUT: true; the input reads as it did. -/
def parenEnclosesSpec : ChangeSpec := { name := "parenEncloses", fn := fun _ => fun
  | [d1, d2] => { results := [.lit (.bool true)], args := [d1, d2] }
  | _ => none }
def parenEnclosesRow : OpenClaim := { program := "ytiflelifkjfpdaa", sum := "cae821841051c50fb775d0bc59bc9e40ae1ec305c578e347e1c89eb92246829b", func := "damask/damasklaw.ParenEncloses", spec := "parenEncloses", apart := false }
def ParenEnclosesSaid : Prop := parenEnclosesRow.holds Try.pinned (OpenSpec.ofChange parenEnclosesSpec)

/-- ITS FALSE NEIGHBOUR: 'it returns false'. Refute it at one input. -/
def parenEnclosesWrong : ChangeSpec := { name := "parenEncloses", fn := fun _ => fun
  | [d1, d2] => { results := [.lit (.bool false)], args := [d1, d2] }
  | _ => none }
def ParenEnclosesWrongFalsely : Prop := parenEnclosesRow.holds Try.pinned (OpenSpec.ofChange parenEnclosesWrong)

/-- 'damasklaw.ParenTrees': WHATEVER THE INPUT: true; the input reads as it did. -/
def parenTreesSpec : ChangeSpec := { name := "parenTrees", fn := fun _ => fun
  | [d] => { results := [.lit (.bool true)], args := [d] }
  | _ => none }
def parenTreesRow : OpenClaim := { program := "ytiflelifkjfpdaa", sum := "cae821841051c50fb775d0bc59bc9e40ae1ec305c578e347e1c89eb92246829b", func := "damask/damasklaw.ParenTrees", spec := "parenTrees", apart := false }
def ParenTreesSaid : Prop := parenTreesRow.holds Try.pinned (OpenSpec.ofChange parenTreesSpec)

/-- ITS FALSE NEIGHBOUR: 'it returns false'. Refute it at one input. -/
def parenTreesWrong : ChangeSpec := { name := "parenTrees", fn := fun _ => fun
  | [d] => { results := [.lit (.bool false)], args := [d] }
  | _ => none }
def ParenTreesWrongFalsely : Prop := parenTreesRow.holds Try.pinned (OpenSpec.ofChange parenTreesWrong)

/-- 'damasklaw.ParenTexts': WHATEVER THE INPUT: true; the input reads as it did. -/
def parenTextsSpec : ChangeSpec := { name := "parenTexts", fn := fun _ => fun
  | [d] => { results := [.lit (.bool true)], args := [d] }
  | _ => none }
def parenTextsRow : OpenClaim := { program := "ytiflelifkjfpdaa", sum := "cae821841051c50fb775d0bc59bc9e40ae1ec305c578e347e1c89eb92246829b", func := "damask/damasklaw.ParenTexts", spec := "parenTexts", inPlace := ["internal/abi.NoEscape", "internal/bytealg.MakeNoZero"], apart := false }
def ParenTextsSaid : Prop := parenTextsRow.holds Try.pinned (OpenSpec.ofChange parenTextsSpec)

/-- ITS FALSE NEIGHBOUR: 'it returns false'. Refute it at one input. -/
def parenTextsWrong : ChangeSpec := { name := "parenTexts", fn := fun _ => fun
  | [d] => { results := [.lit (.bool false)], args := [d] }
  | _ => none }
def ParenTextsWrongFalsely : Prop := parenTextsRow.holds Try.pinned (OpenSpec.ofChange parenTextsWrong)

/- THE SECOND FORM. 'bulk': how many values and letters a reading holds, each counted each time it is reached (what is shared counts as often as it is met; a slice's spare places count too). A statement '..UptoSaid' is the law's where the arguments, and the package variables that the reading takes, are together of bulk at most 1048576: NARROWER than '..Said'. Prove '..Said' where nothing that the law and all that it calls make is longer than what came in: it says more and counts as full. Else prove '..UptoSaid'. A law counts once. -/
mutual
def uptoBulk {H : Type} : DataW H → Nat
  | .lit (.string bytes) => bytes.length + 1
  | .lit _ => 1
  | .nil => 1
  | .ptr d => uptoBulk d + 1
  | .slice elems spare => uptoBulkAll elems + uptoBulkAll spare + 1
  | .agg parts => uptoBulkAll parts + 1
  | .iface _ d => uptoBulk d + 1
  | .map entries => uptoBulkEntries entries + 1
  | .held _ => 1
def uptoBulkAll {H : Type} : List (DataW H) → Nat
  | [] => 0
  | d :: r => uptoBulk d + uptoBulkAll r
def uptoBulkEntries {H : Type} : List (Lit × DataW H) → Nat
  | [] => 0
  | x :: r => uptoBulkEntry x + uptoBulkEntries r
def uptoBulkEntry {H : Type} : Lit × DataW H → Nat
  | (.string bytes, d) => bytes.length + uptoBulk d + 1
  | (_, d) => uptoBulk d + 1
 end
def uptoSmall : (H : Type) → List (DataW H) → Bool := fun _ ds => decide (uptoBulkAll ds ≤ 1048576)
def OpenSpec.upto (s : _root_.Go.ChangeSpec) : _root_.Go.OpenSpec := { _root_.Go.OpenSpec.ofChange s with cond := some uptoSmall }

/-- 'damasklaw.RmqMakes', WHERE WHAT IT READS IS OF BULK AT MOST 1048576: true; the input reads as it did. -/
def rmqMakesUptoRow : OpenClaim := { program := "ytiflelifkjfpdaa", sum := "cae821841051c50fb775d0bc59bc9e40ae1ec305c578e347e1c89eb92246829b", func := "damask/damasklaw.RmqMakes", spec := "rmqMakes", apart := false, narrowed := true }
def RmqMakesUptoSaid : Prop := rmqMakesUptoRow.holds Try.pinned (OpenSpec.upto rmqMakesSpec)

/-- 'damasklaw.RmqTrees', WHERE WHAT IT READS IS OF BULK AT MOST 1048576: true; the input reads as it did. -/
def rmqTreesUptoRow : OpenClaim := { program := "ytiflelifkjfpdaa", sum := "cae821841051c50fb775d0bc59bc9e40ae1ec305c578e347e1c89eb92246829b", func := "damask/damasklaw.RmqTrees", spec := "rmqTrees", unfollowed := true, recurses := true, apart := false, narrowed := true }
def RmqTreesUptoSaid : Prop := rmqTreesUptoRow.holds Try.pinned (OpenSpec.upto rmqTreesSpec)

/-- 'damasklaw.RmqTops', WHERE WHAT IT READS IS OF BULK AT MOST 1048576: true; the input reads as it did. -/
def rmqTopsUptoRow : OpenClaim := { program := "ytiflelifkjfpdaa", sum := "cae821841051c50fb775d0bc59bc9e40ae1ec305c578e347e1c89eb92246829b", func := "damask/damasklaw.RmqTops", spec := "rmqTops", unfollowed := true, recurses := true, apart := false, narrowed := true }
def RmqTopsUptoSaid : Prop := rmqTopsUptoRow.holds Try.pinned (OpenSpec.upto rmqTopsSpec)

/-- 'damasklaw.FenMakes', WHERE WHAT IT READS IS OF BULK AT MOST 1048576: true; the input reads as it did. -/
def fenMakesUptoRow : OpenClaim := { program := "ytiflelifkjfpdaa", sum := "cae821841051c50fb775d0bc59bc9e40ae1ec305c578e347e1c89eb92246829b", func := "damask/damasklaw.FenMakes", spec := "fenMakes", unfollowed := true, recurses := true, apart := false, narrowed := true }
def FenMakesUptoSaid : Prop := fenMakesUptoRow.holds Try.pinned (OpenSpec.upto fenMakesSpec)

/-- 'damasklaw.FenAdds', WHERE WHAT IT READS IS OF BULK AT MOST 1048576: true; the input reads as it did. -/
def fenAddsUptoRow : OpenClaim := { program := "ytiflelifkjfpdaa", sum := "cae821841051c50fb775d0bc59bc9e40ae1ec305c578e347e1c89eb92246829b", func := "damask/damasklaw.FenAdds", spec := "fenAdds", unfollowed := true, recurses := true, apart := false, narrowed := true }
def FenAddsUptoSaid : Prop := fenAddsUptoRow.holds Try.pinned (OpenSpec.upto fenAddsSpec)

/-- 'damasklaw.FenSums', WHERE WHAT IT READS IS OF BULK AT MOST 1048576: true; the input reads as it did. -/
def fenSumsUptoRow : OpenClaim := { program := "ytiflelifkjfpdaa", sum := "cae821841051c50fb775d0bc59bc9e40ae1ec305c578e347e1c89eb92246829b", func := "damask/damasklaw.FenSums", spec := "fenSums", unfollowed := true, recurses := true, apart := false, narrowed := true }
def FenSumsUptoSaid : Prop := fenSumsUptoRow.holds Try.pinned (OpenSpec.upto fenSumsSpec)

/-- 'damasklaw.FenFinds', WHERE WHAT IT READS IS OF BULK AT MOST 1048576: true; the input reads as it did. -/
def fenFindsUptoRow : OpenClaim := { program := "ytiflelifkjfpdaa", sum := "cae821841051c50fb775d0bc59bc9e40ae1ec305c578e347e1c89eb92246829b", func := "damask/damasklaw.FenFinds", spec := "fenFinds", unfollowed := true, recurses := true, apart := false, narrowed := true }
def FenFindsUptoSaid : Prop := fenFindsUptoRow.holds Try.pinned (OpenSpec.upto fenFindsSpec)

/-- 'damasklaw.ParenChecks', WHERE WHAT IT READS IS OF BULK AT MOST 1048576: true; the input reads as it did. -/
def parenChecksUptoRow : OpenClaim := { program := "ytiflelifkjfpdaa", sum := "cae821841051c50fb775d0bc59bc9e40ae1ec305c578e347e1c89eb92246829b", func := "damask/damasklaw.ParenChecks", spec := "parenChecks", apart := false, narrowed := true }
def ParenChecksUptoSaid : Prop := parenChecksUptoRow.holds Try.pinned (OpenSpec.upto parenChecksSpec)

/-- 'damasklaw.ParenMatches', WHERE WHAT IT READS IS OF BULK AT MOST 1048576: true; the input reads as it did. -/
def parenMatchesUptoRow : OpenClaim := { program := "ytiflelifkjfpdaa", sum := "cae821841051c50fb775d0bc59bc9e40ae1ec305c578e347e1c89eb92246829b", func := "damask/damasklaw.ParenMatches", spec := "parenMatches", apart := false, narrowed := true }
def ParenMatchesUptoSaid : Prop := parenMatchesUptoRow.holds Try.pinned (OpenSpec.upto parenMatchesSpec)

/-- 'damasklaw.ParenEncloses', WHERE WHAT IT READS IS OF BULK AT MOST 1048576: true; the input reads as it did. -/
def parenEnclosesUptoRow : OpenClaim := { program := "ytiflelifkjfpdaa", sum := "cae821841051c50fb775d0bc59bc9e40ae1ec305c578e347e1c89eb92246829b", func := "damask/damasklaw.ParenEncloses", spec := "parenEncloses", apart := false, narrowed := true }
def ParenEnclosesUptoSaid : Prop := parenEnclosesUptoRow.holds Try.pinned (OpenSpec.upto parenEnclosesSpec)

/-- 'damasklaw.ParenTrees', WHERE WHAT IT READS IS OF BULK AT MOST 1048576: true; the input reads as it did. -/
def parenTreesUptoRow : OpenClaim := { program := "ytiflelifkjfpdaa", sum := "cae821841051c50fb775d0bc59bc9e40ae1ec305c578e347e1c89eb92246829b", func := "damask/damasklaw.ParenTrees", spec := "parenTrees", apart := false, narrowed := true }
def ParenTreesUptoSaid : Prop := parenTreesUptoRow.holds Try.pinned (OpenSpec.upto parenTreesSpec)

/-- 'damasklaw.ParenTexts', WHERE WHAT IT READS IS OF BULK AT MOST 1048576: true; the input reads as it did. -/
def parenTextsUptoRow : OpenClaim := { program := "ytiflelifkjfpdaa", sum := "cae821841051c50fb775d0bc59bc9e40ae1ec305c578e347e1c89eb92246829b", func := "damask/damasklaw.ParenTexts", spec := "parenTexts", inPlace := ["internal/abi.NoEscape", "internal/bytealg.MakeNoZero"], apart := false, narrowed := true }
def ParenTextsUptoSaid : Prop := parenTextsUptoRow.holds Try.pinned (OpenSpec.upto parenTextsSpec)

end Rows
end Go.Proofs.Ytiflelifkjfpdaa
