/-
  No cell of these rows narrows 'for every input' (looked for: loops, veiled, ifaces, maps, wideKeys, modest, calm, conditions, laid).
  DERIVED. THE GIVEN ROWS OF THIS SEAT. 12 by the template 'for every input the law returns true; each argument reads behind the call as it read before'; 0 by the template 'total and deterministic' (their statements: YtihiiabibcogjaaTotals.lean).
  GIVEN WITH THE SEED: the statements are not yours to turn. If you find one false, say at which input.
  Laid BY PROGRAM, IN A SANDBOX (cutbox-rows.mjs): the forced cells as the released guide's own fill.sh prints them over the translation f000b3c417166bb3… (all of the seat's roots in one cut). By AI agents, Wed Nov 11 2026. No macro, syntax, notation, axiom, sorry.
-/
import Derived.Test.YtihiiabibcogjaaChecked
import GoSem.Claim
import GoSem.ClaimJoined
import GoSem.ClaimMapViews
import Derived.JoinedTies
import Derived.KernelRfl
namespace Go.Proofs.Ytihiiabibcogjaa
/- THE CELL 'sum', in the pinned program and in every row, IS THE sha256 OF THE DUMP (.gsa) THAT YtihiiabibcogjaaProg.lean LOADS. Nothing in Lean hashes anything: it is a label: what it is worth is what the hold of that sum in a sandbox is worth. -/
noncomputable def Try.pinned : Pinned := { name := "ytihiiabibcogjaa", sum := "f000b3c417166bb3ba09cc538967239b536d159fc4c2a10ec5f605437dc8abfd", checked := Try.checked }
namespace Rows
def none {H : Type} : Left H := { results := [], args := [] }

/-- 'damasklaw.Names': WHATEVER THE INPUT: true; the input reads as it did. -/
def namesSpec : ChangeSpec := { name := "names", fn := fun _ => fun
  | [] => { results := [.lit (.bool true)], args := [] }
  | _ => none }
def namesRow : OpenClaim := { program := "ytihiiabibcogjaa", sum := "f000b3c417166bb3ba09cc538967239b536d159fc4c2a10ec5f605437dc8abfd", func := "damask/damasklaw.Names", spec := "names", apart := false }
def NamesSaid : Prop := namesRow.holds Try.pinned (OpenSpec.ofChange namesSpec)

/-- ITS FALSE NEIGHBOUR: 'it returns false'. Refute it at one input. -/
def namesWrong : ChangeSpec := { name := "names", fn := fun _ => fun
  | [] => { results := [.lit (.bool false)], args := [] }
  | _ => none }
def NamesWrongFalsely : Prop := namesRow.holds Try.pinned (OpenSpec.ofChange namesWrong)

/-- 'damasklaw.BitsMays': WHATEVER THE INPUT: true; the input reads as it did. -/
def bitsMaysSpec : ChangeSpec := { name := "bitsMays", fn := fun _ => fun
  | [d] => { results := [.lit (.bool true)], args := [d] }
  | _ => none }
def bitsMaysRow : OpenClaim := { program := "ytihiiabibcogjaa", sum := "f000b3c417166bb3ba09cc538967239b536d159fc4c2a10ec5f605437dc8abfd", func := "damask/damasklaw.BitsMays", spec := "bitsMays", apart := false }
def BitsMaysSaid : Prop := bitsMaysRow.holds Try.pinned (OpenSpec.ofChange bitsMaysSpec)

/-- ITS FALSE NEIGHBOUR: 'it returns false'. Refute it at one input. -/
def bitsMaysWrong : ChangeSpec := { name := "bitsMays", fn := fun _ => fun
  | [d] => { results := [.lit (.bool false)], args := [d] }
  | _ => none }
def BitsMaysWrongFalsely : Prop := bitsMaysRow.holds Try.pinned (OpenSpec.ofChange bitsMaysWrong)

/-- 'damasklaw.PackMays': WHATEVER THE INPUT: true; the input reads as it did. -/
def packMaysSpec : ChangeSpec := { name := "packMays", fn := fun _ => fun
  | [d] => { results := [.lit (.bool true)], args := [d] }
  | _ => none }
def packMaysRow : OpenClaim := { program := "ytihiiabibcogjaa", sum := "f000b3c417166bb3ba09cc538967239b536d159fc4c2a10ec5f605437dc8abfd", func := "damask/damasklaw.PackMays", spec := "packMays", apart := false }
def PackMaysSaid : Prop := packMaysRow.holds Try.pinned (OpenSpec.ofChange packMaysSpec)

/-- ITS FALSE NEIGHBOUR: 'it returns false'. Refute it at one input. -/
def packMaysWrong : ChangeSpec := { name := "packMays", fn := fun _ => fun
  | [d] => { results := [.lit (.bool false)], args := [d] }
  | _ => none }
def PackMaysWrongFalsely : Prop := packMaysRow.holds Try.pinned (OpenSpec.ofChange packMaysWrong)

/-- 'damasklaw.BitsMakes': WHATEVER THE INPUT: true; the input reads as it did. -/
def bitsMakesSpec : ChangeSpec := { name := "bitsMakes", fn := fun _ => fun
  | [d] => { results := [.lit (.bool true)], args := [d] }
  | _ => none }
def bitsMakesRow : OpenClaim := { program := "ytihiiabibcogjaa", sum := "f000b3c417166bb3ba09cc538967239b536d159fc4c2a10ec5f605437dc8abfd", func := "damask/damasklaw.BitsMakes", spec := "bitsMakes", apart := false }
def BitsMakesSaid : Prop := bitsMakesRow.holds Try.pinned (OpenSpec.ofChange bitsMakesSpec)

/-- ITS FALSE NEIGHBOUR: 'it returns false'. Refute it at one input. -/
def bitsMakesWrong : ChangeSpec := { name := "bitsMakes", fn := fun _ => fun
  | [d] => { results := [.lit (.bool false)], args := [d] }
  | _ => none }
def BitsMakesWrongFalsely : Prop := bitsMakesRow.holds Try.pinned (OpenSpec.ofChange bitsMakesWrong)

/-- 'damasklaw.PopTurns': WHATEVER THE INPUT: true; the input reads as it did. -/
def popTurnsSpec : ChangeSpec := { name := "popTurns", fn := fun _ => fun
  | [d] => { results := [.lit (.bool true)], args := [d] }
  | _ => none }
def popTurnsRow : OpenClaim := { program := "ytihiiabibcogjaa", sum := "f000b3c417166bb3ba09cc538967239b536d159fc4c2a10ec5f605437dc8abfd", func := "damask/damasklaw.PopTurns", spec := "popTurns", apart := false }
def PopTurnsSaid : Prop := popTurnsRow.holds Try.pinned (OpenSpec.ofChange popTurnsSpec)

/-- ITS FALSE NEIGHBOUR: 'it returns false'. Refute it at one input. -/
def popTurnsWrong : ChangeSpec := { name := "popTurns", fn := fun _ => fun
  | [d] => { results := [.lit (.bool false)], args := [d] }
  | _ => none }
def PopTurnsWrongFalsely : Prop := popTurnsRow.holds Try.pinned (OpenSpec.ofChange popTurnsWrong)

/-- 'damasklaw.BitsAts': WHATEVER THE INPUT: true; the input reads as it did. -/
def bitsAtsSpec : ChangeSpec := { name := "bitsAts", fn := fun _ => fun
  | [d1, d2] => { results := [.lit (.bool true)], args := [d1, d2] }
  | _ => none }
def bitsAtsRow : OpenClaim := { program := "ytihiiabibcogjaa", sum := "f000b3c417166bb3ba09cc538967239b536d159fc4c2a10ec5f605437dc8abfd", func := "damask/damasklaw.BitsAts", spec := "bitsAts", apart := false }
def BitsAtsSaid : Prop := bitsAtsRow.holds Try.pinned (OpenSpec.ofChange bitsAtsSpec)

/-- ITS FALSE NEIGHBOUR: 'it returns false'. Refute it at one input. -/
def bitsAtsWrong : ChangeSpec := { name := "bitsAts", fn := fun _ => fun
  | [d1, d2] => { results := [.lit (.bool false)], args := [d1, d2] }
  | _ => none }
def BitsAtsWrongFalsely : Prop := bitsAtsRow.holds Try.pinned (OpenSpec.ofChange bitsAtsWrong)

/-- 'damasklaw.PackMakes': WHATEVER THE INPUT: true; the input reads as it did. -/
def packMakesSpec : ChangeSpec := { name := "packMakes", fn := fun _ => fun
  | [d1, d2] => { results := [.lit (.bool true)], args := [d1, d2] }
  | _ => none }
def packMakesRow : OpenClaim := { program := "ytihiiabibcogjaa", sum := "f000b3c417166bb3ba09cc538967239b536d159fc4c2a10ec5f605437dc8abfd", func := "damask/damasklaw.PackMakes", spec := "packMakes", apart := false }
def PackMakesSaid : Prop := packMakesRow.holds Try.pinned (OpenSpec.ofChange packMakesSpec)

/-- ITS FALSE NEIGHBOUR: 'it returns false'. Refute it at one input. -/
def packMakesWrong : ChangeSpec := { name := "packMakes", fn := fun _ => fun
  | [d1, d2] => { results := [.lit (.bool false)], args := [d1, d2] }
  | _ => none }
def PackMakesWrongFalsely : Prop := packMakesRow.holds Try.pinned (OpenSpec.ofChange packMakesWrong)

/-- 'damasklaw.PackAts': WHATEVER THE INPUT: true; the input reads as it did. -/
def packAtsSpec : ChangeSpec := { name := "packAts", fn := fun _ => fun
  | [d1, d2] => { results := [.lit (.bool true)], args := [d1, d2] }
  | _ => none }
def packAtsRow : OpenClaim := { program := "ytihiiabibcogjaa", sum := "f000b3c417166bb3ba09cc538967239b536d159fc4c2a10ec5f605437dc8abfd", func := "damask/damasklaw.PackAts", spec := "packAts", apart := false }
def PackAtsSaid : Prop := packAtsRow.holds Try.pinned (OpenSpec.ofChange packAtsSpec)

/-- ITS FALSE NEIGHBOUR: 'it returns false'. Refute it at one input. -/
def packAtsWrong : ChangeSpec := { name := "packAts", fn := fun _ => fun
  | [d1, d2] => { results := [.lit (.bool false)], args := [d1, d2] }
  | _ => none }
def PackAtsWrongFalsely : Prop := packAtsRow.holds Try.pinned (OpenSpec.ofChange packAtsWrong)

/-- 'damasklaw.PopOnes': WHATEVER THE INPUT: true; the input reads as it did. -/
def popOnesSpec : ChangeSpec := { name := "popOnes", fn := fun _ => fun
  | [d] => { results := [.lit (.bool true)], args := [d] }
  | _ => none }
def popOnesRow : OpenClaim := { program := "ytihiiabibcogjaa", sum := "f000b3c417166bb3ba09cc538967239b536d159fc4c2a10ec5f605437dc8abfd", func := "damask/damasklaw.PopOnes", spec := "popOnes", apart := false }
def PopOnesSaid : Prop := popOnesRow.holds Try.pinned (OpenSpec.ofChange popOnesSpec)

/-- ITS FALSE NEIGHBOUR: 'it returns false'. Refute it at one input. -/
def popOnesWrong : ChangeSpec := { name := "popOnes", fn := fun _ => fun
  | [d] => { results := [.lit (.bool false)], args := [d] }
  | _ => none }
def PopOnesWrongFalsely : Prop := popOnesRow.holds Try.pinned (OpenSpec.ofChange popOnesWrong)

/-- 'damasklaw.PopRanks': WHATEVER THE INPUT: true; the input reads as it did. -/
def popRanksSpec : ChangeSpec := { name := "popRanks", fn := fun _ => fun
  | [d1, d2] => { results := [.lit (.bool true)], args := [d1, d2] }
  | _ => none }
def popRanksRow : OpenClaim := { program := "ytihiiabibcogjaa", sum := "f000b3c417166bb3ba09cc538967239b536d159fc4c2a10ec5f605437dc8abfd", func := "damask/damasklaw.PopRanks", spec := "popRanks", apart := false }
def PopRanksSaid : Prop := popRanksRow.holds Try.pinned (OpenSpec.ofChange popRanksSpec)

/-- ITS FALSE NEIGHBOUR: 'it returns false'. Refute it at one input. -/
def popRanksWrong : ChangeSpec := { name := "popRanks", fn := fun _ => fun
  | [d1, d2] => { results := [.lit (.bool false)], args := [d1, d2] }
  | _ => none }
def PopRanksWrongFalsely : Prop := popRanksRow.holds Try.pinned (OpenSpec.ofChange popRanksWrong)

/-- 'damasklaw.PackWides': WHATEVER THE INPUT: true; the input reads as it did. -/
def packWidesSpec : ChangeSpec := { name := "packWides", fn := fun _ => fun
  | [d] => { results := [.lit (.bool true)], args := [d] }
  | _ => none }
def packWidesRow : OpenClaim := { program := "ytihiiabibcogjaa", sum := "f000b3c417166bb3ba09cc538967239b536d159fc4c2a10ec5f605437dc8abfd", func := "damask/damasklaw.PackWides", spec := "packWides", apart := false }
def PackWidesSaid : Prop := packWidesRow.holds Try.pinned (OpenSpec.ofChange packWidesSpec)

/-- ITS FALSE NEIGHBOUR: 'it returns false'. Refute it at one input. -/
def packWidesWrong : ChangeSpec := { name := "packWides", fn := fun _ => fun
  | [d] => { results := [.lit (.bool false)], args := [d] }
  | _ => none }
def PackWidesWrongFalsely : Prop := packWidesRow.holds Try.pinned (OpenSpec.ofChange packWidesWrong)

/-- 'damasklaw.PopSelects': WHATEVER THE INPUT: true; the input reads as it did. -/
def popSelectsSpec : ChangeSpec := { name := "popSelects", fn := fun _ => fun
  | [d1, d2] => { results := [.lit (.bool true)], args := [d1, d2] }
  | _ => none }
def popSelectsRow : OpenClaim := { program := "ytihiiabibcogjaa", sum := "f000b3c417166bb3ba09cc538967239b536d159fc4c2a10ec5f605437dc8abfd", func := "damask/damasklaw.PopSelects", spec := "popSelects", apart := false }
def PopSelectsSaid : Prop := popSelectsRow.holds Try.pinned (OpenSpec.ofChange popSelectsSpec)

/-- ITS FALSE NEIGHBOUR: 'it returns false'. Refute it at one input. -/
def popSelectsWrong : ChangeSpec := { name := "popSelects", fn := fun _ => fun
  | [d1, d2] => { results := [.lit (.bool false)], args := [d1, d2] }
  | _ => none }
def PopSelectsWrongFalsely : Prop := popSelectsRow.holds Try.pinned (OpenSpec.ofChange popSelectsWrong)

/- THE SECOND FORM. 'bulk': how many values and letters a reading holds, each counted each time it is reached (what is shared counts as often as it is met; a slice's spare places count too). A statement '..UptoSaid' is the law's where the arguments, and the package variables that the reading takes, are together of bulk at most 1048576: NARROWER than '..Said'. Prove '..Said' where nothing that the law and all that it calls make is longer than what came in: it says more and counts as full. Else prove '..UptoSaid'. A law counts once. -/
mutual
def uptoBulk {H : Type} : DataW H → Nat
  | .lit (.string bytes) => bytes.length + 1
  | .lit _ => 1
  | .nil => 1
  | .ptr d => uptoBulk d + 1
  | .slice elems spare => uptoBulkAll elems + uptoBulkAll spare + 1
  | .agg parts => uptoBulkAll parts + 1
  | .iface _ d => uptoBulk d + 1
  | .map entries => uptoBulkEntries entries + 1
  | .held _ => 1
def uptoBulkAll {H : Type} : List (DataW H) → Nat
  | [] => 0
  | d :: r => uptoBulk d + uptoBulkAll r
def uptoBulkEntries {H : Type} : List (Lit × DataW H) → Nat
  | [] => 0
  | x :: r => uptoBulkEntry x + uptoBulkEntries r
def uptoBulkEntry {H : Type} : Lit × DataW H → Nat
  | (.string bytes, d) => bytes.length + uptoBulk d + 1
  | (_, d) => uptoBulk d + 1
 end
def uptoSmall : (H : Type) → List (DataW H) → Bool := fun _ ds => decide (uptoBulkAll ds ≤ 1048576)
def OpenSpec.upto (s : _root_.Go.ChangeSpec) : _root_.Go.OpenSpec := { _root_.Go.OpenSpec.ofChange s with cond := some uptoSmall }

/-- 'damasklaw.Names', WHERE WHAT IT READS IS OF BULK AT MOST 1048576: true; the input reads as it did. -/
def namesUptoRow : OpenClaim := { program := "ytihiiabibcogjaa", sum := "f000b3c417166bb3ba09cc538967239b536d159fc4c2a10ec5f605437dc8abfd", func := "damask/damasklaw.Names", spec := "names", apart := false, narrowed := true }
def NamesUptoSaid : Prop := namesUptoRow.holds Try.pinned (OpenSpec.upto namesSpec)

/-- 'damasklaw.BitsMays', WHERE WHAT IT READS IS OF BULK AT MOST 1048576: true; the input reads as it did. -/
def bitsMaysUptoRow : OpenClaim := { program := "ytihiiabibcogjaa", sum := "f000b3c417166bb3ba09cc538967239b536d159fc4c2a10ec5f605437dc8abfd", func := "damask/damasklaw.BitsMays", spec := "bitsMays", apart := false, narrowed := true }
def BitsMaysUptoSaid : Prop := bitsMaysUptoRow.holds Try.pinned (OpenSpec.upto bitsMaysSpec)

/-- 'damasklaw.PackMays', WHERE WHAT IT READS IS OF BULK AT MOST 1048576: true; the input reads as it did. -/
def packMaysUptoRow : OpenClaim := { program := "ytihiiabibcogjaa", sum := "f000b3c417166bb3ba09cc538967239b536d159fc4c2a10ec5f605437dc8abfd", func := "damask/damasklaw.PackMays", spec := "packMays", apart := false, narrowed := true }
def PackMaysUptoSaid : Prop := packMaysUptoRow.holds Try.pinned (OpenSpec.upto packMaysSpec)

/-- 'damasklaw.BitsMakes', WHERE WHAT IT READS IS OF BULK AT MOST 1048576: true; the input reads as it did. -/
def bitsMakesUptoRow : OpenClaim := { program := "ytihiiabibcogjaa", sum := "f000b3c417166bb3ba09cc538967239b536d159fc4c2a10ec5f605437dc8abfd", func := "damask/damasklaw.BitsMakes", spec := "bitsMakes", apart := false, narrowed := true }
def BitsMakesUptoSaid : Prop := bitsMakesUptoRow.holds Try.pinned (OpenSpec.upto bitsMakesSpec)

/-- 'damasklaw.PopTurns', WHERE WHAT IT READS IS OF BULK AT MOST 1048576: true; the input reads as it did. -/
def popTurnsUptoRow : OpenClaim := { program := "ytihiiabibcogjaa", sum := "f000b3c417166bb3ba09cc538967239b536d159fc4c2a10ec5f605437dc8abfd", func := "damask/damasklaw.PopTurns", spec := "popTurns", apart := false, narrowed := true }
def PopTurnsUptoSaid : Prop := popTurnsUptoRow.holds Try.pinned (OpenSpec.upto popTurnsSpec)

/-- 'damasklaw.BitsAts', WHERE WHAT IT READS IS OF BULK AT MOST 1048576: true; the input reads as it did. -/
def bitsAtsUptoRow : OpenClaim := { program := "ytihiiabibcogjaa", sum := "f000b3c417166bb3ba09cc538967239b536d159fc4c2a10ec5f605437dc8abfd", func := "damask/damasklaw.BitsAts", spec := "bitsAts", apart := false, narrowed := true }
def BitsAtsUptoSaid : Prop := bitsAtsUptoRow.holds Try.pinned (OpenSpec.upto bitsAtsSpec)

/-- 'damasklaw.PackMakes', WHERE WHAT IT READS IS OF BULK AT MOST 1048576: true; the input reads as it did. -/
def packMakesUptoRow : OpenClaim := { program := "ytihiiabibcogjaa", sum := "f000b3c417166bb3ba09cc538967239b536d159fc4c2a10ec5f605437dc8abfd", func := "damask/damasklaw.PackMakes", spec := "packMakes", apart := false, narrowed := true }
def PackMakesUptoSaid : Prop := packMakesUptoRow.holds Try.pinned (OpenSpec.upto packMakesSpec)

/-- 'damasklaw.PackAts', WHERE WHAT IT READS IS OF BULK AT MOST 1048576: true; the input reads as it did. -/
def packAtsUptoRow : OpenClaim := { program := "ytihiiabibcogjaa", sum := "f000b3c417166bb3ba09cc538967239b536d159fc4c2a10ec5f605437dc8abfd", func := "damask/damasklaw.PackAts", spec := "packAts", apart := false, narrowed := true }
def PackAtsUptoSaid : Prop := packAtsUptoRow.holds Try.pinned (OpenSpec.upto packAtsSpec)

/-- 'damasklaw.PopOnes', WHERE WHAT IT READS IS OF BULK AT MOST 1048576: true; the input reads as it did. -/
def popOnesUptoRow : OpenClaim := { program := "ytihiiabibcogjaa", sum := "f000b3c417166bb3ba09cc538967239b536d159fc4c2a10ec5f605437dc8abfd", func := "damask/damasklaw.PopOnes", spec := "popOnes", apart := false, narrowed := true }
def PopOnesUptoSaid : Prop := popOnesUptoRow.holds Try.pinned (OpenSpec.upto popOnesSpec)

/-- 'damasklaw.PopRanks', WHERE WHAT IT READS IS OF BULK AT MOST 1048576: true; the input reads as it did. -/
def popRanksUptoRow : OpenClaim := { program := "ytihiiabibcogjaa", sum := "f000b3c417166bb3ba09cc538967239b536d159fc4c2a10ec5f605437dc8abfd", func := "damask/damasklaw.PopRanks", spec := "popRanks", apart := false, narrowed := true }
def PopRanksUptoSaid : Prop := popRanksUptoRow.holds Try.pinned (OpenSpec.upto popRanksSpec)

/-- 'damasklaw.PackWides', WHERE WHAT IT READS IS OF BULK AT MOST 1048576: true; the input reads as it did. -/
def packWidesUptoRow : OpenClaim := { program := "ytihiiabibcogjaa", sum := "f000b3c417166bb3ba09cc538967239b536d159fc4c2a10ec5f605437dc8abfd", func := "damask/damasklaw.PackWides", spec := "packWides", apart := false, narrowed := true }
def PackWidesUptoSaid : Prop := packWidesUptoRow.holds Try.pinned (OpenSpec.upto packWidesSpec)

/-- 'damasklaw.PopSelects', WHERE WHAT IT READS IS OF BULK AT MOST 1048576: true; the input reads as it did. -/
def popSelectsUptoRow : OpenClaim := { program := "ytihiiabibcogjaa", sum := "f000b3c417166bb3ba09cc538967239b536d159fc4c2a10ec5f605437dc8abfd", func := "damask/damasklaw.PopSelects", spec := "popSelects", apart := false, narrowed := true }
def PopSelectsUptoSaid : Prop := popSelectsUptoRow.holds Try.pinned (OpenSpec.upto popSelectsSpec)

end Rows
end Go.Proofs.Ytihiiabibcogjaa
