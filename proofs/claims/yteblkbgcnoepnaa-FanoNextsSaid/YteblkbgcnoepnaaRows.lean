/-
  No cell of these rows narrows 'for every input' (looked for: loops, veiled, ifaces, maps, wideKeys, modest, calm, conditions, laid).
  DERIVED. THE GIVEN ROWS OF THIS SEAT. 12 by the template 'for every input the law returns true; each argument reads behind the call as it read before'; 0 by the template 'total and deterministic' (their statements: YteblkbgcnoepnaaTotals.lean).
  GIVEN WITH THE SEED: the statements are not yours to turn. If you find one false, say at which input.
  Laid BY PROGRAM, IN A SANDBOX (cutbox-rows.mjs): the forced cells as the released guide's own fill.sh prints them over the translation 6a238dcb22ab23b2… (all of the seat's roots in one cut). By AI agents, Wed Nov 11 2026. No macro, syntax, notation, axiom, sorry.
-/
import Derived.Test.YteblkbgcnoepnaaChecked
import GoSem.Claim
import GoSem.ClaimJoined
import GoSem.ClaimMapViews
import Derived.JoinedTies
import Derived.KernelRfl
namespace Go.Proofs.Yteblkbgcnoepnaa
/- THE CELL 'sum', in the pinned program and in every row, IS THE sha256 OF THE DUMP (.gsa) THAT YteblkbgcnoepnaaProg.lean LOADS. Nothing in Lean hashes anything: it is a label: what it is worth is what the hold of that sum in a sandbox is worth. -/
noncomputable def Try.pinned : Pinned := { name := "yteblkbgcnoepnaa", sum := "6a238dcb22ab23b2de93590fc20b25e0bd1d0f63db540915adb91c7363e6da0d", checked := Try.checked }
namespace Rows
def none {H : Type} : Left H := { results := [], args := [] }

/-- 'damasklaw.BitsRanks': WHATEVER THE INPUT: true; the input reads as it did. -/
def bitsRanksSpec : ChangeSpec := { name := "bitsRanks", fn := fun _ => fun
  | [d1, d2] => { results := [.lit (.bool true)], args := [d1, d2] }
  | _ => none }
def bitsRanksRow : OpenClaim := { program := "yteblkbgcnoepnaa", sum := "6a238dcb22ab23b2de93590fc20b25e0bd1d0f63db540915adb91c7363e6da0d", func := "damask/damasklaw.BitsRanks", spec := "bitsRanks", apart := false }
def BitsRanksSaid : Prop := bitsRanksRow.holds Try.pinned (OpenSpec.ofChange bitsRanksSpec)

/-- ITS FALSE NEIGHBOUR: 'it returns false'. Refute it at one input. -/
def bitsRanksWrong : ChangeSpec := { name := "bitsRanks", fn := fun _ => fun
  | [d1, d2] => { results := [.lit (.bool false)], args := [d1, d2] }
  | _ => none }
def BitsRanksWrongFalsely : Prop := bitsRanksRow.holds Try.pinned (OpenSpec.ofChange bitsRanksWrong)

/-- 'damasklaw.BitsSelects': WHATEVER THE INPUT: true; the input reads as it did. -/
def bitsSelectsSpec : ChangeSpec := { name := "bitsSelects", fn := fun _ => fun
  | [d1, d2, d3] => { results := [.lit (.bool true)], args := [d1, d2, d3] }
  | _ => none }
def bitsSelectsRow : OpenClaim := { program := "yteblkbgcnoepnaa", sum := "6a238dcb22ab23b2de93590fc20b25e0bd1d0f63db540915adb91c7363e6da0d", func := "damask/damasklaw.BitsSelects", spec := "bitsSelects", apart := false }
def BitsSelectsSaid : Prop := bitsSelectsRow.holds Try.pinned (OpenSpec.ofChange bitsSelectsSpec)

/-- ITS FALSE NEIGHBOUR: 'it returns false'. Refute it at one input. -/
def bitsSelectsWrong : ChangeSpec := { name := "bitsSelects", fn := fun _ => fun
  | [d1, d2, d3] => { results := [.lit (.bool false)], args := [d1, d2, d3] }
  | _ => none }
def BitsSelectsWrongFalsely : Prop := bitsSelectsRow.holds Try.pinned (OpenSpec.ofChange bitsSelectsWrong)

/-- 'damasklaw.GamCosts': WHATEVER THE INPUT: true; the input reads as it did. -/
def gamCostsSpec : ChangeSpec := { name := "gamCosts", fn := fun _ => fun
  | [d1, d2] => { results := [.lit (.bool true)], args := [d1, d2] }
  | _ => none }
def gamCostsRow : OpenClaim := { program := "yteblkbgcnoepnaa", sum := "6a238dcb22ab23b2de93590fc20b25e0bd1d0f63db540915adb91c7363e6da0d", func := "damask/damasklaw.GamCosts", spec := "gamCosts", recurses := true, apart := false }
def GamCostsSaid : Prop := gamCostsRow.holds Try.pinned (OpenSpec.ofChange gamCostsSpec)

/-- ITS FALSE NEIGHBOUR: 'it returns false'. Refute it at one input. -/
def gamCostsWrong : ChangeSpec := { name := "gamCosts", fn := fun _ => fun
  | [d1, d2] => { results := [.lit (.bool false)], args := [d1, d2] }
  | _ => none }
def GamCostsWrongFalsely : Prop := gamCostsRow.holds Try.pinned (OpenSpec.ofChange gamCostsWrong)

/-- 'damasklaw.GamEncodes': WHATEVER THE INPUT: true; the input reads as it did. -/
def gamEncodesSpec : ChangeSpec := { name := "gamEncodes", fn := fun _ => fun
  | [d1, d2] => { results := [.lit (.bool true)], args := [d1, d2] }
  | _ => none }
def gamEncodesRow : OpenClaim := { program := "yteblkbgcnoepnaa", sum := "6a238dcb22ab23b2de93590fc20b25e0bd1d0f63db540915adb91c7363e6da0d", func := "damask/damasklaw.GamEncodes", spec := "gamEncodes", recurses := true, apart := false }
def GamEncodesSaid : Prop := gamEncodesRow.holds Try.pinned (OpenSpec.ofChange gamEncodesSpec)

/-- ITS FALSE NEIGHBOUR: 'it returns false'. Refute it at one input. -/
def gamEncodesWrong : ChangeSpec := { name := "gamEncodes", fn := fun _ => fun
  | [d1, d2] => { results := [.lit (.bool false)], args := [d1, d2] }
  | _ => none }
def GamEncodesWrongFalsely : Prop := gamEncodesRow.holds Try.pinned (OpenSpec.ofChange gamEncodesWrong)

/-- 'damasklaw.GamDecodes': WHATEVER THE INPUT: true; the input reads as it did. -/
def gamDecodesSpec : ChangeSpec := { name := "gamDecodes", fn := fun _ => fun
  | [d1, d2] => { results := [.lit (.bool true)], args := [d1, d2] }
  | _ => none }
def gamDecodesRow : OpenClaim := { program := "yteblkbgcnoepnaa", sum := "6a238dcb22ab23b2de93590fc20b25e0bd1d0f63db540915adb91c7363e6da0d", func := "damask/damasklaw.GamDecodes", spec := "gamDecodes", recurses := true, apart := false }
def GamDecodesSaid : Prop := gamDecodesRow.holds Try.pinned (OpenSpec.ofChange gamDecodesSpec)

/-- ITS FALSE NEIGHBOUR: 'it returns false'. Refute it at one input. -/
def gamDecodesWrong : ChangeSpec := { name := "gamDecodes", fn := fun _ => fun
  | [d1, d2] => { results := [.lit (.bool false)], args := [d1, d2] }
  | _ => none }
def GamDecodesWrongFalsely : Prop := gamDecodesRow.holds Try.pinned (OpenSpec.ofChange gamDecodesWrong)

/-- 'damasklaw.FanoMakes': WHATEVER THE INPUT: true; the input reads as it did. -/
def fanoMakesSpec : ChangeSpec := { name := "fanoMakes", fn := fun _ => fun
  | [d1, d2] => { results := [.lit (.bool true)], args := [d1, d2] }
  | _ => none }
def fanoMakesRow : OpenClaim := { program := "yteblkbgcnoepnaa", sum := "6a238dcb22ab23b2de93590fc20b25e0bd1d0f63db540915adb91c7363e6da0d", func := "damask/damasklaw.FanoMakes", spec := "fanoMakes", apart := false }
def FanoMakesSaid : Prop := fanoMakesRow.holds Try.pinned (OpenSpec.ofChange fanoMakesSpec)

/-- ITS FALSE NEIGHBOUR: 'it returns false'. Refute it at one input. -/
def fanoMakesWrong : ChangeSpec := { name := "fanoMakes", fn := fun _ => fun
  | [d1, d2] => { results := [.lit (.bool false)], args := [d1, d2] }
  | _ => none }
def FanoMakesWrongFalsely : Prop := fanoMakesRow.holds Try.pinned (OpenSpec.ofChange fanoMakesWrong)

/-- 'damasklaw.FanoMays': WHATEVER THE INPUT: true; the input reads as it did. -/
def fanoMaysSpec : ChangeSpec := { name := "fanoMays", fn := fun _ => fun
  | [d] => { results := [.lit (.bool true)], args := [d] }
  | _ => none }
def fanoMaysRow : OpenClaim := { program := "yteblkbgcnoepnaa", sum := "6a238dcb22ab23b2de93590fc20b25e0bd1d0f63db540915adb91c7363e6da0d", func := "damask/damasklaw.FanoMays", spec := "fanoMays", apart := false }
def FanoMaysSaid : Prop := fanoMaysRow.holds Try.pinned (OpenSpec.ofChange fanoMaysSpec)

/-- ITS FALSE NEIGHBOUR: 'it returns false'. Refute it at one input. -/
def fanoMaysWrong : ChangeSpec := { name := "fanoMays", fn := fun _ => fun
  | [d] => { results := [.lit (.bool false)], args := [d] }
  | _ => none }
def FanoMaysWrongFalsely : Prop := fanoMaysRow.holds Try.pinned (OpenSpec.ofChange fanoMaysWrong)

/-- 'damasklaw.FanoAts': WHATEVER THE INPUT: true; the input reads as it did. -/
def fanoAtsSpec : ChangeSpec := { name := "fanoAts", fn := fun _ => fun
  | [d1, d2] => { results := [.lit (.bool true)], args := [d1, d2] }
  | _ => none }
def fanoAtsRow : OpenClaim := { program := "yteblkbgcnoepnaa", sum := "6a238dcb22ab23b2de93590fc20b25e0bd1d0f63db540915adb91c7363e6da0d", func := "damask/damasklaw.FanoAts", spec := "fanoAts", apart := false }
def FanoAtsSaid : Prop := fanoAtsRow.holds Try.pinned (OpenSpec.ofChange fanoAtsSpec)

/-- ITS FALSE NEIGHBOUR: 'it returns false'. Refute it at one input. -/
def fanoAtsWrong : ChangeSpec := { name := "fanoAts", fn := fun _ => fun
  | [d1, d2] => { results := [.lit (.bool false)], args := [d1, d2] }
  | _ => none }
def FanoAtsWrongFalsely : Prop := fanoAtsRow.holds Try.pinned (OpenSpec.ofChange fanoAtsWrong)

/-- 'damasklaw.FanoNexts': WHATEVER THE INPUT: true; the input reads as it did. -/
def fanoNextsSpec : ChangeSpec := { name := "fanoNexts", fn := fun _ => fun
  | [d1, d2] => { results := [.lit (.bool true)], args := [d1, d2] }
  | _ => none }
def fanoNextsRow : OpenClaim := { program := "yteblkbgcnoepnaa", sum := "6a238dcb22ab23b2de93590fc20b25e0bd1d0f63db540915adb91c7363e6da0d", func := "damask/damasklaw.FanoNexts", spec := "fanoNexts", unfollowed := true, recurses := true, apart := false }
def FanoNextsSaid : Prop := fanoNextsRow.holds Try.pinned (OpenSpec.ofChange fanoNextsSpec)

/-- ITS FALSE NEIGHBOUR: 'it returns false'. Refute it at one input. -/
def fanoNextsWrong : ChangeSpec := { name := "fanoNexts", fn := fun _ => fun
  | [d1, d2] => { results := [.lit (.bool false)], args := [d1, d2] }
  | _ => none }
def FanoNextsWrongFalsely : Prop := fanoNextsRow.holds Try.pinned (OpenSpec.ofChange fanoNextsWrong)

/-- 'damasklaw.WaveMays': WHATEVER THE INPUT: true; the input reads as it did. -/
def waveMaysSpec : ChangeSpec := { name := "waveMays", fn := fun _ => fun
  | [d] => { results := [.lit (.bool true)], args := [d] }
  | _ => none }
def waveMaysRow : OpenClaim := { program := "yteblkbgcnoepnaa", sum := "6a238dcb22ab23b2de93590fc20b25e0bd1d0f63db540915adb91c7363e6da0d", func := "damask/damasklaw.WaveMays", spec := "waveMays", apart := false }
def WaveMaysSaid : Prop := waveMaysRow.holds Try.pinned (OpenSpec.ofChange waveMaysSpec)

/-- ITS FALSE NEIGHBOUR: 'it returns false'. Refute it at one input. -/
def waveMaysWrong : ChangeSpec := { name := "waveMays", fn := fun _ => fun
  | [d] => { results := [.lit (.bool false)], args := [d] }
  | _ => none }
def WaveMaysWrongFalsely : Prop := waveMaysRow.holds Try.pinned (OpenSpec.ofChange waveMaysWrong)

/-- 'damasklaw.WaveAts': WHATEVER THE INPUT: true; the input reads as it did. -/
def waveAtsSpec : ChangeSpec := { name := "waveAts", fn := fun _ => fun
  | [d1, d2] => { results := [.lit (.bool true)], args := [d1, d2] }
  | _ => none }
def waveAtsRow : OpenClaim := { program := "yteblkbgcnoepnaa", sum := "6a238dcb22ab23b2de93590fc20b25e0bd1d0f63db540915adb91c7363e6da0d", func := "damask/damasklaw.WaveAts", spec := "waveAts", apart := false }
def WaveAtsSaid : Prop := waveAtsRow.holds Try.pinned (OpenSpec.ofChange waveAtsSpec)

/-- ITS FALSE NEIGHBOUR: 'it returns false'. Refute it at one input. -/
def waveAtsWrong : ChangeSpec := { name := "waveAts", fn := fun _ => fun
  | [d1, d2] => { results := [.lit (.bool false)], args := [d1, d2] }
  | _ => none }
def WaveAtsWrongFalsely : Prop := waveAtsRow.holds Try.pinned (OpenSpec.ofChange waveAtsWrong)

/-- 'damasklaw.WaveRanks': WHATEVER THE INPUT: true; the input reads as it did. -/
def waveRanksSpec : ChangeSpec := { name := "waveRanks", fn := fun _ => fun
  | [d1, d2, d3] => { results := [.lit (.bool true)], args := [d1, d2, d3] }
  | _ => none }
def waveRanksRow : OpenClaim := { program := "yteblkbgcnoepnaa", sum := "6a238dcb22ab23b2de93590fc20b25e0bd1d0f63db540915adb91c7363e6da0d", func := "damask/damasklaw.WaveRanks", spec := "waveRanks", apart := false }
def WaveRanksSaid : Prop := waveRanksRow.holds Try.pinned (OpenSpec.ofChange waveRanksSpec)

/-- ITS FALSE NEIGHBOUR: 'it returns false'. Refute it at one input. -/
def waveRanksWrong : ChangeSpec := { name := "waveRanks", fn := fun _ => fun
  | [d1, d2, d3] => { results := [.lit (.bool false)], args := [d1, d2, d3] }
  | _ => none }
def WaveRanksWrongFalsely : Prop := waveRanksRow.holds Try.pinned (OpenSpec.ofChange waveRanksWrong)

/- THE SECOND FORM. 'bulk': how many values and letters a reading holds, each counted each time it is reached (what is shared counts as often as it is met; a slice's spare places count too). A statement '..UptoSaid' is the law's where the arguments, and the package variables that the reading takes, are together of bulk at most 1048576: NARROWER than '..Said'. Prove '..Said' where nothing that the law and all that it calls make is longer than what came in: it says more and counts as full. Else prove '..UptoSaid'. A law counts once. -/
mutual
def uptoBulk {H : Type} : DataW H → Nat
  | .lit (.string bytes) => bytes.length + 1
  | .lit _ => 1
  | .nil => 1
  | .ptr d => uptoBulk d + 1
  | .slice elems spare => uptoBulkAll elems + uptoBulkAll spare + 1
  | .agg parts => uptoBulkAll parts + 1
  | .iface _ d => uptoBulk d + 1
  | .map entries => uptoBulkEntries entries + 1
  | .held _ => 1
def uptoBulkAll {H : Type} : List (DataW H) → Nat
  | [] => 0
  | d :: r => uptoBulk d + uptoBulkAll r
def uptoBulkEntries {H : Type} : List (Lit × DataW H) → Nat
  | [] => 0
  | x :: r => uptoBulkEntry x + uptoBulkEntries r
def uptoBulkEntry {H : Type} : Lit × DataW H → Nat
  | (.string bytes, d) => bytes.length + uptoBulk d + 1
  | (_, d) => uptoBulk d + 1
 end
def uptoSmall : (H : Type) → List (DataW H) → Bool := fun _ ds => decide (uptoBulkAll ds ≤ 1048576)
def OpenSpec.upto (s : _root_.Go.ChangeSpec) : _root_.Go.OpenSpec := { _root_.Go.OpenSpec.ofChange s with cond := some uptoSmall }

/-- 'damasklaw.BitsRanks', WHERE WHAT IT READS IS OF BULK AT MOST 1048576: true; the input reads as it did. -/
def bitsRanksUptoRow : OpenClaim := { program := "yteblkbgcnoepnaa", sum := "6a238dcb22ab23b2de93590fc20b25e0bd1d0f63db540915adb91c7363e6da0d", func := "damask/damasklaw.BitsRanks", spec := "bitsRanks", apart := false, narrowed := true }
def BitsRanksUptoSaid : Prop := bitsRanksUptoRow.holds Try.pinned (OpenSpec.upto bitsRanksSpec)

/-- 'damasklaw.BitsSelects', WHERE WHAT IT READS IS OF BULK AT MOST 1048576: true; the input reads as it did. -/
def bitsSelectsUptoRow : OpenClaim := { program := "yteblkbgcnoepnaa", sum := "6a238dcb22ab23b2de93590fc20b25e0bd1d0f63db540915adb91c7363e6da0d", func := "damask/damasklaw.BitsSelects", spec := "bitsSelects", apart := false, narrowed := true }
def BitsSelectsUptoSaid : Prop := bitsSelectsUptoRow.holds Try.pinned (OpenSpec.upto bitsSelectsSpec)

/-- 'damasklaw.GamCosts', WHERE WHAT IT READS IS OF BULK AT MOST 1048576: true; the input reads as it did. -/
def gamCostsUptoRow : OpenClaim := { program := "yteblkbgcnoepnaa", sum := "6a238dcb22ab23b2de93590fc20b25e0bd1d0f63db540915adb91c7363e6da0d", func := "damask/damasklaw.GamCosts", spec := "gamCosts", recurses := true, apart := false, narrowed := true }
def GamCostsUptoSaid : Prop := gamCostsUptoRow.holds Try.pinned (OpenSpec.upto gamCostsSpec)

/-- 'damasklaw.GamEncodes', WHERE WHAT IT READS IS OF BULK AT MOST 1048576: true; the input reads as it did. -/
def gamEncodesUptoRow : OpenClaim := { program := "yteblkbgcnoepnaa", sum := "6a238dcb22ab23b2de93590fc20b25e0bd1d0f63db540915adb91c7363e6da0d", func := "damask/damasklaw.GamEncodes", spec := "gamEncodes", recurses := true, apart := false, narrowed := true }
def GamEncodesUptoSaid : Prop := gamEncodesUptoRow.holds Try.pinned (OpenSpec.upto gamEncodesSpec)

/-- 'damasklaw.GamDecodes', WHERE WHAT IT READS IS OF BULK AT MOST 1048576: true; the input reads as it did. -/
def gamDecodesUptoRow : OpenClaim := { program := "yteblkbgcnoepnaa", sum := "6a238dcb22ab23b2de93590fc20b25e0bd1d0f63db540915adb91c7363e6da0d", func := "damask/damasklaw.GamDecodes", spec := "gamDecodes", recurses := true, apart := false, narrowed := true }
def GamDecodesUptoSaid : Prop := gamDecodesUptoRow.holds Try.pinned (OpenSpec.upto gamDecodesSpec)

/-- 'damasklaw.FanoMakes', WHERE WHAT IT READS IS OF BULK AT MOST 1048576: true; the input reads as it did. -/
def fanoMakesUptoRow : OpenClaim := { program := "yteblkbgcnoepnaa", sum := "6a238dcb22ab23b2de93590fc20b25e0bd1d0f63db540915adb91c7363e6da0d", func := "damask/damasklaw.FanoMakes", spec := "fanoMakes", apart := false, narrowed := true }
def FanoMakesUptoSaid : Prop := fanoMakesUptoRow.holds Try.pinned (OpenSpec.upto fanoMakesSpec)

/-- 'damasklaw.FanoMays', WHERE WHAT IT READS IS OF BULK AT MOST 1048576: true; the input reads as it did. -/
def fanoMaysUptoRow : OpenClaim := { program := "yteblkbgcnoepnaa", sum := "6a238dcb22ab23b2de93590fc20b25e0bd1d0f63db540915adb91c7363e6da0d", func := "damask/damasklaw.FanoMays", spec := "fanoMays", apart := false, narrowed := true }
def FanoMaysUptoSaid : Prop := fanoMaysUptoRow.holds Try.pinned (OpenSpec.upto fanoMaysSpec)

/-- 'damasklaw.FanoAts', WHERE WHAT IT READS IS OF BULK AT MOST 1048576: true; the input reads as it did. -/
def fanoAtsUptoRow : OpenClaim := { program := "yteblkbgcnoepnaa", sum := "6a238dcb22ab23b2de93590fc20b25e0bd1d0f63db540915adb91c7363e6da0d", func := "damask/damasklaw.FanoAts", spec := "fanoAts", apart := false, narrowed := true }
def FanoAtsUptoSaid : Prop := fanoAtsUptoRow.holds Try.pinned (OpenSpec.upto fanoAtsSpec)

/-- 'damasklaw.FanoNexts', WHERE WHAT IT READS IS OF BULK AT MOST 1048576: true; the input reads as it did. -/
def fanoNextsUptoRow : OpenClaim := { program := "yteblkbgcnoepnaa", sum := "6a238dcb22ab23b2de93590fc20b25e0bd1d0f63db540915adb91c7363e6da0d", func := "damask/damasklaw.FanoNexts", spec := "fanoNexts", unfollowed := true, recurses := true, apart := false, narrowed := true }
def FanoNextsUptoSaid : Prop := fanoNextsUptoRow.holds Try.pinned (OpenSpec.upto fanoNextsSpec)

/-- 'damasklaw.WaveMays', WHERE WHAT IT READS IS OF BULK AT MOST 1048576: true; the input reads as it did. -/
def waveMaysUptoRow : OpenClaim := { program := "yteblkbgcnoepnaa", sum := "6a238dcb22ab23b2de93590fc20b25e0bd1d0f63db540915adb91c7363e6da0d", func := "damask/damasklaw.WaveMays", spec := "waveMays", apart := false, narrowed := true }
def WaveMaysUptoSaid : Prop := waveMaysUptoRow.holds Try.pinned (OpenSpec.upto waveMaysSpec)

/-- 'damasklaw.WaveAts', WHERE WHAT IT READS IS OF BULK AT MOST 1048576: true; the input reads as it did. -/
def waveAtsUptoRow : OpenClaim := { program := "yteblkbgcnoepnaa", sum := "6a238dcb22ab23b2de93590fc20b25e0bd1d0f63db540915adb91c7363e6da0d", func := "damask/damasklaw.WaveAts", spec := "waveAts", apart := false, narrowed := true }
def WaveAtsUptoSaid : Prop := waveAtsUptoRow.holds Try.pinned (OpenSpec.upto waveAtsSpec)

/-- 'damasklaw.WaveRanks', WHERE WHAT IT READS IS OF BULK AT MOST 1048576: true; the input reads as it did. -/
def waveRanksUptoRow : OpenClaim := { program := "yteblkbgcnoepnaa", sum := "6a238dcb22ab23b2de93590fc20b25e0bd1d0f63db540915adb91c7363e6da0d", func := "damask/damasklaw.WaveRanks", spec := "waveRanks", apart := false, narrowed := true }
def WaveRanksUptoSaid : Prop := waveRanksUptoRow.holds Try.pinned (OpenSpec.upto waveRanksSpec)

end Rows
end Go.Proofs.Yteblkbgcnoepnaa
