/-
  No cell of these rows narrows 'for every input' (looked for: loops, veiled, ifaces, maps, wideKeys, modest, calm, conditions, laid).
  DERIVED. THE GIVEN ROWS OF THIS SEAT. 3 by the template 'for every input the law returns true; each argument reads behind the call as it read before'; 0 by the template 'total and deterministic' (their statements: YtlojecajonhmhaaTotals.lean).
  GIVEN WITH THE SEED: the statements are not yours to turn. If you find one false, say at which input.
  Laid BY PROGRAM, IN A SANDBOX (cutbox-rows.mjs): the forced cells as the released guide's own fill.sh prints them over the translation d11181c7990202d1… (all of the seat's roots in one cut). By AI agents, Wed Nov 11 2026. No macro, syntax, notation, axiom, sorry.
-/
import Derived.Test.YtlojecajonhmhaaChecked
import GoSem.Claim
import GoSem.ClaimJoined
import GoSem.ClaimMapViews
import Derived.JoinedTies
import Derived.KernelRfl
namespace Go.Proofs.Ytlojecajonhmhaa
/- THE CELL 'sum', in the pinned program and in every row, IS THE sha256 OF THE DUMP (.gsa) THAT YtlojecajonhmhaaProg.lean LOADS. Nothing in Lean hashes anything: it is a label: what it is worth is what the hold of that sum in a sandbox is worth. -/
noncomputable def Try.pinned : Pinned := { name := "ytlojecajonhmhaa", sum := "d11181c7990202d1bc8117b3e19584d78398789ce26dbcd9acc106d081c5b7dd", checked := Try.checked }
namespace Rows
def none {H : Type} : Left H := { results := [], args := [] }

/-- 'damasklaw.PersPlays': WHATEVER THE INPUT: true; the input reads as it did. -/
def persPlaysSpec : ChangeSpec := { name := "persPlays", fn := fun _ => fun
  | [d1, d2] => { results := [.lit (.bool true)], args := [d1, d2] }
  | _ => none }
def persPlaysRow : OpenClaim := { program := "ytlojecajonhmhaa", sum := "d11181c7990202d1bc8117b3e19584d78398789ce26dbcd9acc106d081c5b7dd", func := "damask/damasklaw.PersPlays", spec := "persPlays", unfollowed := true, recurses := true, plainKeys := false, apart := false }
def PersPlaysSaid : Prop := persPlaysRow.holds Try.pinned (OpenSpec.ofChange persPlaysSpec)

/-- ITS FALSE NEIGHBOUR: 'it returns false'. Refute it at one input. -/
def persPlaysWrong : ChangeSpec := { name := "persPlays", fn := fun _ => fun
  | [d1, d2] => { results := [.lit (.bool false)], args := [d1, d2] }
  | _ => none }
def PersPlaysWrongFalsely : Prop := persPlaysRow.holds Try.pinned (OpenSpec.ofChange persPlaysWrong)

/-- 'damasklaw.PersShares': WHATEVER THE INPUT: true; the input reads as it did. -/
def persSharesSpec : ChangeSpec := { name := "persShares", fn := fun _ => fun
  | [d1, d2] => { results := [.lit (.bool true)], args := [d1, d2] }
  | _ => none }
def persSharesRow : OpenClaim := { program := "ytlojecajonhmhaa", sum := "d11181c7990202d1bc8117b3e19584d78398789ce26dbcd9acc106d081c5b7dd", func := "damask/damasklaw.PersShares", spec := "persShares", unfollowed := true, recurses := true, plainKeys := false, apart := false }
def PersSharesSaid : Prop := persSharesRow.holds Try.pinned (OpenSpec.ofChange persSharesSpec)

/-- ITS FALSE NEIGHBOUR: 'it returns false'. Refute it at one input. -/
def persSharesWrong : ChangeSpec := { name := "persShares", fn := fun _ => fun
  | [d1, d2] => { results := [.lit (.bool false)], args := [d1, d2] }
  | _ => none }
def PersSharesWrongFalsely : Prop := persSharesRow.holds Try.pinned (OpenSpec.ofChange persSharesWrong)

/-- 'damasklaw.ParenTexts': WHATEVER THE INPUT: true; the input reads as it did. -/
def parenTextsSpec : ChangeSpec := { name := "parenTexts", fn := fun _ => fun
  | [d] => { results := [.lit (.bool true)], args := [d] }
  | _ => none }
def parenTextsRow : OpenClaim := { program := "ytlojecajonhmhaa", sum := "d11181c7990202d1bc8117b3e19584d78398789ce26dbcd9acc106d081c5b7dd", func := "damask/damasklaw.ParenTexts", spec := "parenTexts", inPlace := ["internal/abi.NoEscape", "internal/bytealg.MakeNoZero"], plainKeys := false, apart := false }
def ParenTextsSaid : Prop := parenTextsRow.holds Try.pinned (OpenSpec.ofChange parenTextsSpec)

/-- ITS FALSE NEIGHBOUR: 'it returns false'. Refute it at one input. -/
def parenTextsWrong : ChangeSpec := { name := "parenTexts", fn := fun _ => fun
  | [d] => { results := [.lit (.bool false)], args := [d] }
  | _ => none }
def ParenTextsWrongFalsely : Prop := parenTextsRow.holds Try.pinned (OpenSpec.ofChange parenTextsWrong)

/- THE SECOND FORM. 'bulk': how many values and letters a reading holds, each counted each time it is reached (what is shared counts as often as it is met; a slice's spare places count too). A statement '..UptoSaid' is the law's where the arguments, and the package variables that the reading takes, are together of bulk at most 1048576: NARROWER than '..Said'. Prove '..Said' where nothing that the law and all that it calls make is longer than what came in: it says more and counts as full. Else prove '..UptoSaid'. A law counts once. -/
mutual
def uptoBulk {H : Type} : DataW H → Nat
  | .lit (.string bytes) => bytes.length + 1
  | .lit _ => 1
  | .nil => 1
  | .ptr d => uptoBulk d + 1
  | .slice elems spare => uptoBulkAll elems + uptoBulkAll spare + 1
  | .agg parts => uptoBulkAll parts + 1
  | .iface _ d => uptoBulk d + 1
  | .map entries => uptoBulkEntries entries + 1
  | .held _ => 1
def uptoBulkAll {H : Type} : List (DataW H) → Nat
  | [] => 0
  | d :: r => uptoBulk d + uptoBulkAll r
def uptoBulkEntries {H : Type} : List (Lit × DataW H) → Nat
  | [] => 0
  | x :: r => uptoBulkEntry x + uptoBulkEntries r
def uptoBulkEntry {H : Type} : Lit × DataW H → Nat
  | (.string bytes, d) => bytes.length + uptoBulk d + 1
  | (_, d) => uptoBulk d + 1
 end
def uptoSmall : (H : Type) → List (DataW H) → Bool := fun _ ds => decide (uptoBulkAll ds ≤ 1048576)
def OpenSpec.upto (s : _root_.Go.ChangeSpec) : _root_.Go.OpenSpec := { _root_.Go.OpenSpec.ofChange s with cond := some uptoSmall }

/-- 'damasklaw.PersPlays', WHERE WHAT IT READS IS OF BULK AT MOST 1048576: true; the input reads as it did. -/
def persPlaysUptoRow : OpenClaim := { program := "ytlojecajonhmhaa", sum := "d11181c7990202d1bc8117b3e19584d78398789ce26dbcd9acc106d081c5b7dd", func := "damask/damasklaw.PersPlays", spec := "persPlays", unfollowed := true, recurses := true, plainKeys := false, apart := false, narrowed := true }
def PersPlaysUptoSaid : Prop := persPlaysUptoRow.holds Try.pinned (OpenSpec.upto persPlaysSpec)

/-- 'damasklaw.PersShares', WHERE WHAT IT READS IS OF BULK AT MOST 1048576: true; the input reads as it did. -/
def persSharesUptoRow : OpenClaim := { program := "ytlojecajonhmhaa", sum := "d11181c7990202d1bc8117b3e19584d78398789ce26dbcd9acc106d081c5b7dd", func := "damask/damasklaw.PersShares", spec := "persShares", unfollowed := true, recurses := true, plainKeys := false, apart := false, narrowed := true }
def PersSharesUptoSaid : Prop := persSharesUptoRow.holds Try.pinned (OpenSpec.upto persSharesSpec)

/-- 'damasklaw.ParenTexts', WHERE WHAT IT READS IS OF BULK AT MOST 1048576: true; the input reads as it did. -/
def parenTextsUptoRow : OpenClaim := { program := "ytlojecajonhmhaa", sum := "d11181c7990202d1bc8117b3e19584d78398789ce26dbcd9acc106d081c5b7dd", func := "damask/damasklaw.ParenTexts", spec := "parenTexts", inPlace := ["internal/abi.NoEscape", "internal/bytealg.MakeNoZero"], plainKeys := false, apart := false, narrowed := true }
def ParenTextsUptoSaid : Prop := parenTextsUptoRow.holds Try.pinned (OpenSpec.upto parenTextsSpec)

end Rows
end Go.Proofs.Ytlojecajonhmhaa
