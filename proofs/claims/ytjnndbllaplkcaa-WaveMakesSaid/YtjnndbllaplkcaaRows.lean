/-
  No cell of these rows narrows 'for every input' (looked for: loops, veiled, ifaces, maps, wideKeys, modest, calm, conditions, laid).
  DERIVED. THE GIVEN ROWS OF THIS SEAT. 12 by the template 'for every input the law returns true; each argument reads behind the call as it read before'; 0 by the template 'total and deterministic' (their statements: YtjnndbllaplkcaaTotals.lean).
  GIVEN WITH THE SEED: the statements are not yours to turn. If you find one false, say at which input.
  Laid BY PROGRAM, IN A SANDBOX (cutbox-rows.mjs): the forced cells as the released guide's own fill.sh prints them over the translation 3c6928d2909cb0c8… (all of the seat's roots in one cut). By AI agents, Wed Nov 11 2026. No macro, syntax, notation, axiom, sorry.
-/
import Derived.Test.YtjnndbllaplkcaaChecked
import GoSem.Claim
import GoSem.ClaimJoined
import GoSem.ClaimMapViews
import Derived.JoinedTies
import Derived.KernelRfl
namespace Go.Proofs.Ytjnndbllaplkcaa
/- THE CELL 'sum', in the pinned program and in every row, IS THE sha256 OF THE DUMP (.gsa) THAT YtjnndbllaplkcaaProg.lean LOADS. Nothing in Lean hashes anything: it is a label: what it is worth is what the hold of that sum in a sandbox is worth. -/
noncomputable def Try.pinned : Pinned := { name := "ytjnndbllaplkcaa", sum := "3c6928d2909cb0c83678dcc60ad9722e2aee92ce06db5c5f7576aa42fefd7c3c", checked := Try.checked }
namespace Rows
def none {H : Type} : Left H := { results := [], args := [] }

/-- 'damasklaw.WaveMakes': WHATEVER THE INPUT: true; the input reads as it did. -/
def waveMakesSpec : ChangeSpec := { name := "waveMakes", fn := fun _ => fun
  | [d1, d2] => { results := [.lit (.bool true)], args := [d1, d2] }
  | _ => none }
def waveMakesRow : OpenClaim := { program := "ytjnndbllaplkcaa", sum := "3c6928d2909cb0c83678dcc60ad9722e2aee92ce06db5c5f7576aa42fefd7c3c", func := "damask/damasklaw.WaveMakes", spec := "waveMakes", inPlace := ["internal/reflectlite.ValueOf", "internal/reflectlite.Swapper", "(internal/reflectlite.Value).Len"], unfollowed := true, recurses := true, apart := false }
def WaveMakesSaid : Prop := waveMakesRow.holds Try.pinned (OpenSpec.ofChange waveMakesSpec)

/-- ITS FALSE NEIGHBOUR: 'it returns false'. Refute it at one input. -/
def waveMakesWrong : ChangeSpec := { name := "waveMakes", fn := fun _ => fun
  | [d1, d2] => { results := [.lit (.bool false)], args := [d1, d2] }
  | _ => none }
def WaveMakesWrongFalsely : Prop := waveMakesRow.holds Try.pinned (OpenSpec.ofChange waveMakesWrong)

/-- 'damasklaw.WaveBelows': WHATEVER THE INPUT: true; the input reads as it did. -/
def waveBelowsSpec : ChangeSpec := { name := "waveBelows", fn := fun _ => fun
  | [d1, d2, d3, d4] => { results := [.lit (.bool true)], args := [d1, d2, d3, d4] }
  | _ => none }
def waveBelowsRow : OpenClaim := { program := "ytjnndbllaplkcaa", sum := "3c6928d2909cb0c83678dcc60ad9722e2aee92ce06db5c5f7576aa42fefd7c3c", func := "damask/damasklaw.WaveBelows", spec := "waveBelows", recurses := true, apart := false }
def WaveBelowsSaid : Prop := waveBelowsRow.holds Try.pinned (OpenSpec.ofChange waveBelowsSpec)

/-- ITS FALSE NEIGHBOUR: 'it returns false'. Refute it at one input. -/
def waveBelowsWrong : ChangeSpec := { name := "waveBelows", fn := fun _ => fun
  | [d1, d2, d3, d4] => { results := [.lit (.bool false)], args := [d1, d2, d3, d4] }
  | _ => none }
def WaveBelowsWrongFalsely : Prop := waveBelowsRow.holds Try.pinned (OpenSpec.ofChange waveBelowsWrong)

/-- 'damasklaw.WaveKths': WHATEVER THE INPUT: true; the input reads as it did. -/
def waveKthsSpec : ChangeSpec := { name := "waveKths", fn := fun _ => fun
  | [d1, d2, d3, d4] => { results := [.lit (.bool true)], args := [d1, d2, d3, d4] }
  | _ => none }
def waveKthsRow : OpenClaim := { program := "ytjnndbllaplkcaa", sum := "3c6928d2909cb0c83678dcc60ad9722e2aee92ce06db5c5f7576aa42fefd7c3c", func := "damask/damasklaw.WaveKths", spec := "waveKths", recurses := true, apart := false }
def WaveKthsSaid : Prop := waveKthsRow.holds Try.pinned (OpenSpec.ofChange waveKthsSpec)

/-- ITS FALSE NEIGHBOUR: 'it returns false'. Refute it at one input. -/
def waveKthsWrong : ChangeSpec := { name := "waveKths", fn := fun _ => fun
  | [d1, d2, d3, d4] => { results := [.lit (.bool false)], args := [d1, d2, d3, d4] }
  | _ => none }
def WaveKthsWrongFalsely : Prop := waveKthsRow.holds Try.pinned (OpenSpec.ofChange waveKthsWrong)

/-- 'damasklaw.WaveNexts': WHATEVER THE INPUT: true; the input reads as it did. -/
def waveNextsSpec : ChangeSpec := { name := "waveNexts", fn := fun _ => fun
  | [d1, d2, d3, d4] => { results := [.lit (.bool true)], args := [d1, d2, d3, d4] }
  | _ => none }
def waveNextsRow : OpenClaim := { program := "ytjnndbllaplkcaa", sum := "3c6928d2909cb0c83678dcc60ad9722e2aee92ce06db5c5f7576aa42fefd7c3c", func := "damask/damasklaw.WaveNexts", spec := "waveNexts", recurses := true, apart := false }
def WaveNextsSaid : Prop := waveNextsRow.holds Try.pinned (OpenSpec.ofChange waveNextsSpec)

/-- ITS FALSE NEIGHBOUR: 'it returns false'. Refute it at one input. -/
def waveNextsWrong : ChangeSpec := { name := "waveNexts", fn := fun _ => fun
  | [d1, d2, d3, d4] => { results := [.lit (.bool false)], args := [d1, d2, d3, d4] }
  | _ => none }
def WaveNextsWrongFalsely : Prop := waveNextsRow.holds Try.pinned (OpenSpec.ofChange waveNextsWrong)

/-- 'damasklaw.PermChecks': WHATEVER THE INPUT: true; the input reads as it did. -/
def permChecksSpec : ChangeSpec := { name := "permChecks", fn := fun _ => fun
  | [d] => { results := [.lit (.bool true)], args := [d] }
  | _ => none }
def permChecksRow : OpenClaim := { program := "ytjnndbllaplkcaa", sum := "3c6928d2909cb0c83678dcc60ad9722e2aee92ce06db5c5f7576aa42fefd7c3c", func := "damask/damasklaw.PermChecks", spec := "permChecks", recurses := true, apart := false }
def PermChecksSaid : Prop := permChecksRow.holds Try.pinned (OpenSpec.ofChange permChecksSpec)

/-- ITS FALSE NEIGHBOUR: 'it returns false'. Refute it at one input. -/
def permChecksWrong : ChangeSpec := { name := "permChecks", fn := fun _ => fun
  | [d] => { results := [.lit (.bool false)], args := [d] }
  | _ => none }
def PermChecksWrongFalsely : Prop := permChecksRow.holds Try.pinned (OpenSpec.ofChange permChecksWrong)

/-- 'damasklaw.PermInverses': WHATEVER THE INPUT: true; the input reads as it did. -/
def permInversesSpec : ChangeSpec := { name := "permInverses", fn := fun _ => fun
  | [d] => { results := [.lit (.bool true)], args := [d] }
  | _ => none }
def permInversesRow : OpenClaim := { program := "ytjnndbllaplkcaa", sum := "3c6928d2909cb0c83678dcc60ad9722e2aee92ce06db5c5f7576aa42fefd7c3c", func := "damask/damasklaw.PermInverses", spec := "permInverses", recurses := true, apart := false }
def PermInversesSaid : Prop := permInversesRow.holds Try.pinned (OpenSpec.ofChange permInversesSpec)

/-- ITS FALSE NEIGHBOUR: 'it returns false'. Refute it at one input. -/
def permInversesWrong : ChangeSpec := { name := "permInverses", fn := fun _ => fun
  | [d] => { results := [.lit (.bool false)], args := [d] }
  | _ => none }
def PermInversesWrongFalsely : Prop := permInversesRow.holds Try.pinned (OpenSpec.ofChange permInversesWrong)

/-- 'damasklaw.PermThens': WHATEVER THE INPUT: true; the input reads as it did. -/
def permThensSpec : ChangeSpec := { name := "permThens", fn := fun _ => fun
  | [d1, d2] => { results := [.lit (.bool true)], args := [d1, d2] }
  | _ => none }
def permThensRow : OpenClaim := { program := "ytjnndbllaplkcaa", sum := "3c6928d2909cb0c83678dcc60ad9722e2aee92ce06db5c5f7576aa42fefd7c3c", func := "damask/damasklaw.PermThens", spec := "permThens", recurses := true, apart := false }
def PermThensSaid : Prop := permThensRow.holds Try.pinned (OpenSpec.ofChange permThensSpec)

/-- ITS FALSE NEIGHBOUR: 'it returns false'. Refute it at one input. -/
def permThensWrong : ChangeSpec := { name := "permThens", fn := fun _ => fun
  | [d1, d2] => { results := [.lit (.bool false)], args := [d1, d2] }
  | _ => none }
def PermThensWrongFalsely : Prop := permThensRow.holds Try.pinned (OpenSpec.ofChange permThensWrong)

/-- 'damasklaw.PermCycles': WHATEVER THE INPUT: true; the input reads as it did. -/
def permCyclesSpec : ChangeSpec := { name := "permCycles", fn := fun _ => fun
  | [d] => { results := [.lit (.bool true)], args := [d] }
  | _ => none }
def permCyclesRow : OpenClaim := { program := "ytjnndbllaplkcaa", sum := "3c6928d2909cb0c83678dcc60ad9722e2aee92ce06db5c5f7576aa42fefd7c3c", func := "damask/damasklaw.PermCycles", spec := "permCycles", recurses := true, apart := false }
def PermCyclesSaid : Prop := permCyclesRow.holds Try.pinned (OpenSpec.ofChange permCyclesSpec)

/-- ITS FALSE NEIGHBOUR: 'it returns false'. Refute it at one input. -/
def permCyclesWrong : ChangeSpec := { name := "permCycles", fn := fun _ => fun
  | [d] => { results := [.lit (.bool false)], args := [d] }
  | _ => none }
def PermCyclesWrongFalsely : Prop := permCyclesRow.holds Try.pinned (OpenSpec.ofChange permCyclesWrong)

/-- 'damasklaw.PermNumbers': WHATEVER THE INPUT: true; the input reads as it did. -/
def permNumbersSpec : ChangeSpec := { name := "permNumbers", fn := fun _ => fun
  | [d] => { results := [.lit (.bool true)], args := [d] }
  | _ => none }
def permNumbersRow : OpenClaim := { program := "ytjnndbllaplkcaa", sum := "3c6928d2909cb0c83678dcc60ad9722e2aee92ce06db5c5f7576aa42fefd7c3c", func := "damask/damasklaw.PermNumbers", spec := "permNumbers", recurses := true, apart := false }
def PermNumbersSaid : Prop := permNumbersRow.holds Try.pinned (OpenSpec.ofChange permNumbersSpec)

/-- ITS FALSE NEIGHBOUR: 'it returns false'. Refute it at one input. -/
def permNumbersWrong : ChangeSpec := { name := "permNumbers", fn := fun _ => fun
  | [d] => { results := [.lit (.bool false)], args := [d] }
  | _ => none }
def PermNumbersWrongFalsely : Prop := permNumbersRow.holds Try.pinned (OpenSpec.ofChange permNumbersWrong)

/-- 'damasklaw.PermSwaps': WHATEVER THE INPUT: true; the input reads as it did. -/
def permSwapsSpec : ChangeSpec := { name := "permSwaps", fn := fun _ => fun
  | [d] => { results := [.lit (.bool true)], args := [d] }
  | _ => none }
def permSwapsRow : OpenClaim := { program := "ytjnndbllaplkcaa", sum := "3c6928d2909cb0c83678dcc60ad9722e2aee92ce06db5c5f7576aa42fefd7c3c", func := "damask/damasklaw.PermSwaps", spec := "permSwaps", recurses := true, apart := false }
def PermSwapsSaid : Prop := permSwapsRow.holds Try.pinned (OpenSpec.ofChange permSwapsSpec)

/-- ITS FALSE NEIGHBOUR: 'it returns false'. Refute it at one input. -/
def permSwapsWrong : ChangeSpec := { name := "permSwaps", fn := fun _ => fun
  | [d] => { results := [.lit (.bool false)], args := [d] }
  | _ => none }
def PermSwapsWrongFalsely : Prop := permSwapsRow.holds Try.pinned (OpenSpec.ofChange permSwapsWrong)

/-- 'damasklaw.RanksMakes': WHATEVER THE INPUT: true; the input reads as it did. -/
def ranksMakesSpec : ChangeSpec := { name := "ranksMakes", fn := fun _ => fun
  | [d] => { results := [.lit (.bool true)], args := [d] }
  | _ => none }
def ranksMakesRow : OpenClaim := { program := "ytjnndbllaplkcaa", sum := "3c6928d2909cb0c83678dcc60ad9722e2aee92ce06db5c5f7576aa42fefd7c3c", func := "damask/damasklaw.RanksMakes", spec := "ranksMakes", unfollowed := true, recurses := true, apart := false }
def RanksMakesSaid : Prop := ranksMakesRow.holds Try.pinned (OpenSpec.ofChange ranksMakesSpec)

/-- ITS FALSE NEIGHBOUR: 'it returns false'. Refute it at one input. -/
def ranksMakesWrong : ChangeSpec := { name := "ranksMakes", fn := fun _ => fun
  | [d] => { results := [.lit (.bool false)], args := [d] }
  | _ => none }
def RanksMakesWrongFalsely : Prop := ranksMakesRow.holds Try.pinned (OpenSpec.ofChange ranksMakesWrong)

/-- 'damasklaw.MortonCovers': WHATEVER THE INPUT: true; the input reads as it did. -/
def mortonCoversSpec : ChangeSpec := { name := "mortonCovers", fn := fun _ => fun
  | [d] => { results := [.lit (.bool true)], args := [d] }
  | _ => none }
def mortonCoversRow : OpenClaim := { program := "ytjnndbllaplkcaa", sum := "3c6928d2909cb0c83678dcc60ad9722e2aee92ce06db5c5f7576aa42fefd7c3c", func := "damask/damasklaw.MortonCovers", spec := "mortonCovers", recurses := true, apart := false }
def MortonCoversSaid : Prop := mortonCoversRow.holds Try.pinned (OpenSpec.ofChange mortonCoversSpec)

/-- ITS FALSE NEIGHBOUR: 'it returns false'. Refute it at one input. -/
def mortonCoversWrong : ChangeSpec := { name := "mortonCovers", fn := fun _ => fun
  | [d] => { results := [.lit (.bool false)], args := [d] }
  | _ => none }
def MortonCoversWrongFalsely : Prop := mortonCoversRow.holds Try.pinned (OpenSpec.ofChange mortonCoversWrong)

/- THE SECOND FORM. 'bulk': how many values and letters a reading holds, each counted each time it is reached (what is shared counts as often as it is met; a slice's spare places count too). A statement '..UptoSaid' is the law's where the arguments, and the package variables that the reading takes, are together of bulk at most 1048576: NARROWER than '..Said'. Prove '..Said' where nothing that the law and all that it calls make is longer than what came in: it says more and counts as full. Else prove '..UptoSaid'. A law counts once. -/
mutual
def uptoBulk {H : Type} : DataW H → Nat
  | .lit (.string bytes) => bytes.length + 1
  | .lit _ => 1
  | .nil => 1
  | .ptr d => uptoBulk d + 1
  | .slice elems spare => uptoBulkAll elems + uptoBulkAll spare + 1
  | .agg parts => uptoBulkAll parts + 1
  | .iface _ d => uptoBulk d + 1
  | .map entries => uptoBulkEntries entries + 1
  | .held _ => 1
def uptoBulkAll {H : Type} : List (DataW H) → Nat
  | [] => 0
  | d :: r => uptoBulk d + uptoBulkAll r
def uptoBulkEntries {H : Type} : List (Lit × DataW H) → Nat
  | [] => 0
  | x :: r => uptoBulkEntry x + uptoBulkEntries r
def uptoBulkEntry {H : Type} : Lit × DataW H → Nat
  | (.string bytes, d) => bytes.length + uptoBulk d + 1
  | (_, d) => uptoBulk d + 1
 end
def uptoSmall : (H : Type) → List (DataW H) → Bool := fun _ ds => decide (uptoBulkAll ds ≤ 1048576)
def OpenSpec.upto (s : _root_.Go.ChangeSpec) : _root_.Go.OpenSpec := { _root_.Go.OpenSpec.ofChange s with cond := some uptoSmall }

/-- 'damasklaw.WaveMakes', WHERE WHAT IT READS IS OF BULK AT MOST 1048576: true; the input reads as it did. -/
def waveMakesUptoRow : OpenClaim := { program := "ytjnndbllaplkcaa", sum := "3c6928d2909cb0c83678dcc60ad9722e2aee92ce06db5c5f7576aa42fefd7c3c", func := "damask/damasklaw.WaveMakes", spec := "waveMakes", inPlace := ["internal/reflectlite.ValueOf", "internal/reflectlite.Swapper", "(internal/reflectlite.Value).Len"], unfollowed := true, recurses := true, apart := false, narrowed := true }
def WaveMakesUptoSaid : Prop := waveMakesUptoRow.holds Try.pinned (OpenSpec.upto waveMakesSpec)

/-- 'damasklaw.WaveBelows', WHERE WHAT IT READS IS OF BULK AT MOST 1048576: true; the input reads as it did. -/
def waveBelowsUptoRow : OpenClaim := { program := "ytjnndbllaplkcaa", sum := "3c6928d2909cb0c83678dcc60ad9722e2aee92ce06db5c5f7576aa42fefd7c3c", func := "damask/damasklaw.WaveBelows", spec := "waveBelows", recurses := true, apart := false, narrowed := true }
def WaveBelowsUptoSaid : Prop := waveBelowsUptoRow.holds Try.pinned (OpenSpec.upto waveBelowsSpec)

/-- 'damasklaw.WaveKths', WHERE WHAT IT READS IS OF BULK AT MOST 1048576: true; the input reads as it did. -/
def waveKthsUptoRow : OpenClaim := { program := "ytjnndbllaplkcaa", sum := "3c6928d2909cb0c83678dcc60ad9722e2aee92ce06db5c5f7576aa42fefd7c3c", func := "damask/damasklaw.WaveKths", spec := "waveKths", recurses := true, apart := false, narrowed := true }
def WaveKthsUptoSaid : Prop := waveKthsUptoRow.holds Try.pinned (OpenSpec.upto waveKthsSpec)

/-- 'damasklaw.WaveNexts', WHERE WHAT IT READS IS OF BULK AT MOST 1048576: true; the input reads as it did. -/
def waveNextsUptoRow : OpenClaim := { program := "ytjnndbllaplkcaa", sum := "3c6928d2909cb0c83678dcc60ad9722e2aee92ce06db5c5f7576aa42fefd7c3c", func := "damask/damasklaw.WaveNexts", spec := "waveNexts", recurses := true, apart := false, narrowed := true }
def WaveNextsUptoSaid : Prop := waveNextsUptoRow.holds Try.pinned (OpenSpec.upto waveNextsSpec)

/-- 'damasklaw.PermChecks', WHERE WHAT IT READS IS OF BULK AT MOST 1048576: true; the input reads as it did. -/
def permChecksUptoRow : OpenClaim := { program := "ytjnndbllaplkcaa", sum := "3c6928d2909cb0c83678dcc60ad9722e2aee92ce06db5c5f7576aa42fefd7c3c", func := "damask/damasklaw.PermChecks", spec := "permChecks", recurses := true, apart := false, narrowed := true }
def PermChecksUptoSaid : Prop := permChecksUptoRow.holds Try.pinned (OpenSpec.upto permChecksSpec)

/-- 'damasklaw.PermInverses', WHERE WHAT IT READS IS OF BULK AT MOST 1048576: true; the input reads as it did. -/
def permInversesUptoRow : OpenClaim := { program := "ytjnndbllaplkcaa", sum := "3c6928d2909cb0c83678dcc60ad9722e2aee92ce06db5c5f7576aa42fefd7c3c", func := "damask/damasklaw.PermInverses", spec := "permInverses", recurses := true, apart := false, narrowed := true }
def PermInversesUptoSaid : Prop := permInversesUptoRow.holds Try.pinned (OpenSpec.upto permInversesSpec)

/-- 'damasklaw.PermThens', WHERE WHAT IT READS IS OF BULK AT MOST 1048576: true; the input reads as it did. -/
def permThensUptoRow : OpenClaim := { program := "ytjnndbllaplkcaa", sum := "3c6928d2909cb0c83678dcc60ad9722e2aee92ce06db5c5f7576aa42fefd7c3c", func := "damask/damasklaw.PermThens", spec := "permThens", recurses := true, apart := false, narrowed := true }
def PermThensUptoSaid : Prop := permThensUptoRow.holds Try.pinned (OpenSpec.upto permThensSpec)

/-- 'damasklaw.PermCycles', WHERE WHAT IT READS IS OF BULK AT MOST 1048576: true; the input reads as it did. -/
def permCyclesUptoRow : OpenClaim := { program := "ytjnndbllaplkcaa", sum := "3c6928d2909cb0c83678dcc60ad9722e2aee92ce06db5c5f7576aa42fefd7c3c", func := "damask/damasklaw.PermCycles", spec := "permCycles", recurses := true, apart := false, narrowed := true }
def PermCyclesUptoSaid : Prop := permCyclesUptoRow.holds Try.pinned (OpenSpec.upto permCyclesSpec)

/-- 'damasklaw.PermNumbers', WHERE WHAT IT READS IS OF BULK AT MOST 1048576: true; the input reads as it did. -/
def permNumbersUptoRow : OpenClaim := { program := "ytjnndbllaplkcaa", sum := "3c6928d2909cb0c83678dcc60ad9722e2aee92ce06db5c5f7576aa42fefd7c3c", func := "damask/damasklaw.PermNumbers", spec := "permNumbers", recurses := true, apart := false, narrowed := true }
def PermNumbersUptoSaid : Prop := permNumbersUptoRow.holds Try.pinned (OpenSpec.upto permNumbersSpec)

/-- 'damasklaw.PermSwaps', WHERE WHAT IT READS IS OF BULK AT MOST 1048576: true; the input reads as it did. -/
def permSwapsUptoRow : OpenClaim := { program := "ytjnndbllaplkcaa", sum := "3c6928d2909cb0c83678dcc60ad9722e2aee92ce06db5c5f7576aa42fefd7c3c", func := "damask/damasklaw.PermSwaps", spec := "permSwaps", recurses := true, apart := false, narrowed := true }
def PermSwapsUptoSaid : Prop := permSwapsUptoRow.holds Try.pinned (OpenSpec.upto permSwapsSpec)

/-- 'damasklaw.RanksMakes', WHERE WHAT IT READS IS OF BULK AT MOST 1048576: true; the input reads as it did. -/
def ranksMakesUptoRow : OpenClaim := { program := "ytjnndbllaplkcaa", sum := "3c6928d2909cb0c83678dcc60ad9722e2aee92ce06db5c5f7576aa42fefd7c3c", func := "damask/damasklaw.RanksMakes", spec := "ranksMakes", unfollowed := true, recurses := true, apart := false, narrowed := true }
def RanksMakesUptoSaid : Prop := ranksMakesUptoRow.holds Try.pinned (OpenSpec.upto ranksMakesSpec)

/-- 'damasklaw.MortonCovers', WHERE WHAT IT READS IS OF BULK AT MOST 1048576: true; the input reads as it did. -/
def mortonCoversUptoRow : OpenClaim := { program := "ytjnndbllaplkcaa", sum := "3c6928d2909cb0c83678dcc60ad9722e2aee92ce06db5c5f7576aa42fefd7c3c", func := "damask/damasklaw.MortonCovers", spec := "mortonCovers", recurses := true, apart := false, narrowed := true }
def MortonCoversUptoSaid : Prop := mortonCoversUptoRow.holds Try.pinned (OpenSpec.upto mortonCoversSpec)

end Rows
end Go.Proofs.Ytjnndbllaplkcaa
