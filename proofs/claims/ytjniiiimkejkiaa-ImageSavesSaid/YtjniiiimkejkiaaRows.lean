/-
  No cell of these rows narrows 'for every input' (looked for: loops, veiled, ifaces, maps, wideKeys, modest, calm, conditions, laid).
  DERIVED. THE GIVEN ROWS OF THIS SEAT. 12 by the template 'for every input the law returns true; each argument reads behind the call as it read before'; 0 by the template 'total and deterministic' (their statements: YtjniiiimkejkiaaTotals.lean).
  GIVEN WITH THE SEED: the statements are not yours to turn. If you find one false, say at which input.
  Laid BY PROGRAM, IN A SANDBOX (cutbox-rows.mjs): the forced cells as the released guide's own fill.sh prints them over the translation c3cb0b0a809d1b95… (all of the seat's roots in one cut). By AI agents, Wed Nov 11 2026. No macro, syntax, notation, axiom, sorry.
-/
import Derived.Test.YtjniiiimkejkiaaChecked
import GoSem.Claim
import GoSem.ClaimJoined
import GoSem.ClaimMapViews
import Derived.JoinedTies
import Derived.KernelRfl
namespace Go.Proofs.Ytjniiiimkejkiaa
/- THE CELL 'sum', in the pinned program and in every row, IS THE sha256 OF THE DUMP (.gsa) THAT YtjniiiimkejkiaaProg.lean LOADS. Nothing in Lean hashes anything: it is a label: what it is worth is what the hold of that sum in a sandbox is worth. -/
noncomputable def Try.pinned : Pinned := { name := "ytjniiiimkejkiaa", sum := "c3cb0b0a809d1b9551bbcc8f3a1ec7bab7ea3dabf7679db0a76d929aaa68a5d0", checked := Try.checked }
namespace Rows
def none {H : Type} : Left H := { results := [], args := [] }

/-- 'damasklaw.SktMakes': WHATEVER THE INPUT: true; the input reads as it did. -/
def sktMakesSpec : ChangeSpec := { name := "sktMakes", fn := fun _ => fun
  | [d1, d2] => { results := [.lit (.bool true)], args := [d1, d2] }
  | _ => none }
def sktMakesRow : OpenClaim := { program := "ytjniiiimkejkiaa", sum := "c3cb0b0a809d1b9551bbcc8f3a1ec7bab7ea3dabf7679db0a76d929aaa68a5d0", func := "damask/damasklaw.SktMakes", spec := "sktMakes", unfollowed := true, recurses := true, plainKeys := false, leaving := true, apart := false }
def SktMakesSaid : Prop := sktMakesRow.holds Try.pinned (OpenSpec.ofChange sktMakesSpec)

/-- ITS FALSE NEIGHBOUR: 'it returns false'. Refute it at one input. -/
def sktMakesWrong : ChangeSpec := { name := "sktMakes", fn := fun _ => fun
  | [d1, d2] => { results := [.lit (.bool false)], args := [d1, d2] }
  | _ => none }
def SktMakesWrongFalsely : Prop := sktMakesRow.holds Try.pinned (OpenSpec.ofChange sktMakesWrong)

/-- 'damasklaw.SktAsks': WHATEVER THE INPUT: true; the input reads as it did. -/
def sktAsksSpec : ChangeSpec := { name := "sktAsks", fn := fun _ => fun
  | [d1, d2] => { results := [.lit (.bool true)], args := [d1, d2] }
  | _ => none }
def sktAsksRow : OpenClaim := { program := "ytjniiiimkejkiaa", sum := "c3cb0b0a809d1b9551bbcc8f3a1ec7bab7ea3dabf7679db0a76d929aaa68a5d0", func := "damask/damasklaw.SktAsks", spec := "sktAsks", unfollowed := true, recurses := true, plainKeys := false, leaving := true, apart := false }
def SktAsksSaid : Prop := sktAsksRow.holds Try.pinned (OpenSpec.ofChange sktAsksSpec)

/-- ITS FALSE NEIGHBOUR: 'it returns false'. Refute it at one input. -/
def sktAsksWrong : ChangeSpec := { name := "sktAsks", fn := fun _ => fun
  | [d1, d2] => { results := [.lit (.bool false)], args := [d1, d2] }
  | _ => none }
def SktAsksWrongFalsely : Prop := sktAsksRow.holds Try.pinned (OpenSpec.ofChange sktAsksWrong)

/-- 'damasklaw.SktBoths': WHATEVER THE INPUT: true; the input reads as it did. -/
def sktBothsSpec : ChangeSpec := { name := "sktBoths", fn := fun _ => fun
  | [d1, d2] => { results := [.lit (.bool true)], args := [d1, d2] }
  | _ => none }
def sktBothsRow : OpenClaim := { program := "ytjniiiimkejkiaa", sum := "c3cb0b0a809d1b9551bbcc8f3a1ec7bab7ea3dabf7679db0a76d929aaa68a5d0", func := "damask/damasklaw.SktBoths", spec := "sktBoths", unfollowed := true, recurses := true, plainKeys := false, leaving := true, apart := false }
def SktBothsSaid : Prop := sktBothsRow.holds Try.pinned (OpenSpec.ofChange sktBothsSpec)

/-- ITS FALSE NEIGHBOUR: 'it returns false'. Refute it at one input. -/
def sktBothsWrong : ChangeSpec := { name := "sktBoths", fn := fun _ => fun
  | [d1, d2] => { results := [.lit (.bool false)], args := [d1, d2] }
  | _ => none }
def SktBothsWrongFalsely : Prop := sktBothsRow.holds Try.pinned (OpenSpec.ofChange sktBothsWrong)

/-- 'damasklaw.LisLengths': WHATEVER THE INPUT: true; the input reads as it did. -/
def lisLengthsSpec : ChangeSpec := { name := "lisLengths", fn := fun _ => fun
  | [d] => { results := [.lit (.bool true)], args := [d] }
  | _ => none }
def lisLengthsRow : OpenClaim := { program := "ytjniiiimkejkiaa", sum := "c3cb0b0a809d1b9551bbcc8f3a1ec7bab7ea3dabf7679db0a76d929aaa68a5d0", func := "damask/damasklaw.LisLengths", spec := "lisLengths", unfollowed := true, recurses := true, plainKeys := false, leaving := true, apart := false }
def LisLengthsSaid : Prop := lisLengthsRow.holds Try.pinned (OpenSpec.ofChange lisLengthsSpec)

/-- ITS FALSE NEIGHBOUR: 'it returns false'. Refute it at one input. -/
def lisLengthsWrong : ChangeSpec := { name := "lisLengths", fn := fun _ => fun
  | [d] => { results := [.lit (.bool false)], args := [d] }
  | _ => none }
def LisLengthsWrongFalsely : Prop := lisLengthsRow.holds Try.pinned (OpenSpec.ofChange lisLengthsWrong)

/-- 'damasklaw.LisFalls': WHATEVER THE INPUT: true; the input reads as it did. -/
def lisFallsSpec : ChangeSpec := { name := "lisFalls", fn := fun _ => fun
  | [d] => { results := [.lit (.bool true)], args := [d] }
  | _ => none }
def lisFallsRow : OpenClaim := { program := "ytjniiiimkejkiaa", sum := "c3cb0b0a809d1b9551bbcc8f3a1ec7bab7ea3dabf7679db0a76d929aaa68a5d0", func := "damask/damasklaw.LisFalls", spec := "lisFalls", unfollowed := true, recurses := true, plainKeys := false, leaving := true, apart := false }
def LisFallsSaid : Prop := lisFallsRow.holds Try.pinned (OpenSpec.ofChange lisFallsSpec)

/-- ITS FALSE NEIGHBOUR: 'it returns false'. Refute it at one input. -/
def lisFallsWrong : ChangeSpec := { name := "lisFalls", fn := fun _ => fun
  | [d] => { results := [.lit (.bool false)], args := [d] }
  | _ => none }
def LisFallsWrongFalsely : Prop := lisFallsRow.holds Try.pinned (OpenSpec.ofChange lisFallsWrong)

/-- 'damasklaw.LisRises': WHATEVER THE INPUT: true; the input reads as it did. -/
def lisRisesSpec : ChangeSpec := { name := "lisRises", fn := fun _ => fun
  | [d] => { results := [.lit (.bool true)], args := [d] }
  | _ => none }
def lisRisesRow : OpenClaim := { program := "ytjniiiimkejkiaa", sum := "c3cb0b0a809d1b9551bbcc8f3a1ec7bab7ea3dabf7679db0a76d929aaa68a5d0", func := "damask/damasklaw.LisRises", spec := "lisRises", unfollowed := true, recurses := true, plainKeys := false, leaving := true, apart := false }
def LisRisesSaid : Prop := lisRisesRow.holds Try.pinned (OpenSpec.ofChange lisRisesSpec)

/-- ITS FALSE NEIGHBOUR: 'it returns false'. Refute it at one input. -/
def lisRisesWrong : ChangeSpec := { name := "lisRises", fn := fun _ => fun
  | [d] => { results := [.lit (.bool false)], args := [d] }
  | _ => none }
def LisRisesWrongFalsely : Prop := lisRisesRow.holds Try.pinned (OpenSpec.ofChange lisRisesWrong)

/-- 'damasklaw.CrewRises': WHATEVER THE INPUT: true; the input reads as it did. -/
def crewRisesSpec : ChangeSpec := { name := "crewRises", fn := fun _ => fun
  | [d] => { results := [.lit (.bool true)], args := [d] }
  | _ => none }
def crewRisesRow : OpenClaim := { program := "ytjniiiimkejkiaa", sum := "c3cb0b0a809d1b9551bbcc8f3a1ec7bab7ea3dabf7679db0a76d929aaa68a5d0", func := "damask/damasklaw.CrewRises", spec := "crewRises", inPlace := ["(*sync.WaitGroup).Add", "internal/race.ReleaseMerge", "internal/race.Disable", "internal/race.Enable", "internal/synctest.IsInBubble", "internal/synctest.Associate[sync.WaitGroup]", "sync.fatal", "sync/atomic.OrUint64", "sync/atomic.AddUint64", "internal/race.Read", "sync/atomic.LoadUint64", "sync/atomic.StoreUint64", "internal/synctest.Disassociate[sync.WaitGroup]", "sync.runtime_Semrelease", "(*sync.WaitGroup).Done", "(*sync.WaitGroup).Wait", "internal/race.Acquire", "internal/synctest.IsAssociated[sync.WaitGroup]", "sync/atomic.CompareAndSwapUint64", "internal/race.Write", "sync.runtime_SemacquireWaitGroup"], unfollowed := true, recurses := true, plainKeys := false, leaving := true, apart := false }
def CrewRisesSaid : Prop := crewRisesRow.holds Try.pinned (OpenSpec.ofChange crewRisesSpec)

/-- ITS FALSE NEIGHBOUR: 'it returns false'. Refute it at one input. -/
def crewRisesWrong : ChangeSpec := { name := "crewRises", fn := fun _ => fun
  | [d] => { results := [.lit (.bool false)], args := [d] }
  | _ => none }
def CrewRisesWrongFalsely : Prop := crewRisesRow.holds Try.pinned (OpenSpec.ofChange crewRisesWrong)

/-- 'damasklaw.ImageSaves': WHATEVER THE INPUT: true; the input reads as it did. -/
def imageSavesSpec : ChangeSpec := { name := "imageSaves", fn := fun _ => fun
  | [d] => { results := [.lit (.bool true)], args := [d] }
  | _ => none }
def imageSavesRow : OpenClaim := { program := "ytjniiiimkejkiaa", sum := "c3cb0b0a809d1b9551bbcc8f3a1ec7bab7ea3dabf7679db0a76d929aaa68a5d0", func := "damask/damasklaw.ImageSaves", spec := "imageSaves", unfollowed := true, recurses := true, plainKeys := false, leaving := true, apart := false }
def ImageSavesSaid : Prop := imageSavesRow.holds Try.pinned (OpenSpec.ofChange imageSavesSpec)

/-- ITS FALSE NEIGHBOUR: 'it returns false'. Refute it at one input. -/
def imageSavesWrong : ChangeSpec := { name := "imageSaves", fn := fun _ => fun
  | [d] => { results := [.lit (.bool false)], args := [d] }
  | _ => none }
def ImageSavesWrongFalsely : Prop := imageSavesRow.holds Try.pinned (OpenSpec.ofChange imageSavesWrong)

/-- 'damasklaw.ImageLoads': WHATEVER THE INPUT: true; the input reads as it did. -/
def imageLoadsSpec : ChangeSpec := { name := "imageLoads", fn := fun _ => fun
  | [d] => { results := [.lit (.bool true)], args := [d] }
  | _ => none }
def imageLoadsRow : OpenClaim := { program := "ytjniiiimkejkiaa", sum := "c3cb0b0a809d1b9551bbcc8f3a1ec7bab7ea3dabf7679db0a76d929aaa68a5d0", func := "damask/damasklaw.ImageLoads", spec := "imageLoads", unfollowed := true, recurses := true, plainKeys := false, leaving := true, apart := false }
def ImageLoadsSaid : Prop := imageLoadsRow.holds Try.pinned (OpenSpec.ofChange imageLoadsSpec)

/-- ITS FALSE NEIGHBOUR: 'it returns false'. Refute it at one input. -/
def imageLoadsWrong : ChangeSpec := { name := "imageLoads", fn := fun _ => fun
  | [d] => { results := [.lit (.bool false)], args := [d] }
  | _ => none }
def ImageLoadsWrongFalsely : Prop := imageLoadsRow.holds Try.pinned (OpenSpec.ofChange imageLoadsWrong)

/-- 'damasklaw.PersPlays': WHATEVER THE INPUT: true; the input reads as it did. -/
def persPlaysSpec : ChangeSpec := { name := "persPlays", fn := fun _ => fun
  | [d1, d2] => { results := [.lit (.bool true)], args := [d1, d2] }
  | _ => none }
def persPlaysRow : OpenClaim := { program := "ytjniiiimkejkiaa", sum := "c3cb0b0a809d1b9551bbcc8f3a1ec7bab7ea3dabf7679db0a76d929aaa68a5d0", func := "damask/damasklaw.PersPlays", spec := "persPlays", unfollowed := true, recurses := true, plainKeys := false, leaving := true, apart := false }
def PersPlaysSaid : Prop := persPlaysRow.holds Try.pinned (OpenSpec.ofChange persPlaysSpec)

/-- ITS FALSE NEIGHBOUR: 'it returns false'. Refute it at one input. -/
def persPlaysWrong : ChangeSpec := { name := "persPlays", fn := fun _ => fun
  | [d1, d2] => { results := [.lit (.bool false)], args := [d1, d2] }
  | _ => none }
def PersPlaysWrongFalsely : Prop := persPlaysRow.holds Try.pinned (OpenSpec.ofChange persPlaysWrong)

/-- 'damasklaw.PersShares': WHATEVER THE INPUT: true; the input reads as it did. -/
def persSharesSpec : ChangeSpec := { name := "persShares", fn := fun _ => fun
  | [d1, d2] => { results := [.lit (.bool true)], args := [d1, d2] }
  | _ => none }
def persSharesRow : OpenClaim := { program := "ytjniiiimkejkiaa", sum := "c3cb0b0a809d1b9551bbcc8f3a1ec7bab7ea3dabf7679db0a76d929aaa68a5d0", func := "damask/damasklaw.PersShares", spec := "persShares", unfollowed := true, recurses := true, plainKeys := false, leaving := true, apart := false }
def PersSharesSaid : Prop := persSharesRow.holds Try.pinned (OpenSpec.ofChange persSharesSpec)

/-- ITS FALSE NEIGHBOUR: 'it returns false'. Refute it at one input. -/
def persSharesWrong : ChangeSpec := { name := "persShares", fn := fun _ => fun
  | [d1, d2] => { results := [.lit (.bool false)], args := [d1, d2] }
  | _ => none }
def PersSharesWrongFalsely : Prop := persSharesRow.holds Try.pinned (OpenSpec.ofChange persSharesWrong)

/-- 'damasklaw.SegPlays': WHATEVER THE INPUT: true; the input reads as it did. -/
def segPlaysSpec : ChangeSpec := { name := "segPlays", fn := fun _ => fun
  | [d1, d2] => { results := [.lit (.bool true)], args := [d1, d2] }
  | _ => none }
def segPlaysRow : OpenClaim := { program := "ytjniiiimkejkiaa", sum := "c3cb0b0a809d1b9551bbcc8f3a1ec7bab7ea3dabf7679db0a76d929aaa68a5d0", func := "damask/damasklaw.SegPlays", spec := "segPlays", unfollowed := true, recurses := true, plainKeys := false, leaving := true, apart := false }
def SegPlaysSaid : Prop := segPlaysRow.holds Try.pinned (OpenSpec.ofChange segPlaysSpec)

/-- ITS FALSE NEIGHBOUR: 'it returns false'. Refute it at one input. -/
def segPlaysWrong : ChangeSpec := { name := "segPlays", fn := fun _ => fun
  | [d1, d2] => { results := [.lit (.bool false)], args := [d1, d2] }
  | _ => none }
def SegPlaysWrongFalsely : Prop := segPlaysRow.holds Try.pinned (OpenSpec.ofChange segPlaysWrong)

/- THE SECOND FORM. 'bulk': how many values and letters a reading holds, each counted each time it is reached (what is shared counts as often as it is met; a slice's spare places count too). A statement '..UptoSaid' is the law's where the arguments, and the package variables that the reading takes, are together of bulk at most 1048576: NARROWER than '..Said'. Prove '..Said' where nothing that the law and all that it calls make is longer than what came in: it says more and counts as full. Else prove '..UptoSaid'. A law counts once. -/
mutual
def uptoBulk {H : Type} : DataW H → Nat
  | .lit (.string bytes) => bytes.length + 1
  | .lit _ => 1
  | .nil => 1
  | .ptr d => uptoBulk d + 1
  | .slice elems spare => uptoBulkAll elems + uptoBulkAll spare + 1
  | .agg parts => uptoBulkAll parts + 1
  | .iface _ d => uptoBulk d + 1
  | .map entries => uptoBulkEntries entries + 1
  | .held _ => 1
def uptoBulkAll {H : Type} : List (DataW H) → Nat
  | [] => 0
  | d :: r => uptoBulk d + uptoBulkAll r
def uptoBulkEntries {H : Type} : List (Lit × DataW H) → Nat
  | [] => 0
  | x :: r => uptoBulkEntry x + uptoBulkEntries r
def uptoBulkEntry {H : Type} : Lit × DataW H → Nat
  | (.string bytes, d) => bytes.length + uptoBulk d + 1
  | (_, d) => uptoBulk d + 1
 end
def uptoSmall : (H : Type) → List (DataW H) → Bool := fun _ ds => decide (uptoBulkAll ds ≤ 1048576)
def OpenSpec.upto (s : _root_.Go.ChangeSpec) : _root_.Go.OpenSpec := { _root_.Go.OpenSpec.ofChange s with cond := some uptoSmall }

/-- 'damasklaw.SktMakes', WHERE WHAT IT READS IS OF BULK AT MOST 1048576: true; the input reads as it did. -/
def sktMakesUptoRow : OpenClaim := { program := "ytjniiiimkejkiaa", sum := "c3cb0b0a809d1b9551bbcc8f3a1ec7bab7ea3dabf7679db0a76d929aaa68a5d0", func := "damask/damasklaw.SktMakes", spec := "sktMakes", unfollowed := true, recurses := true, plainKeys := false, leaving := true, apart := false, narrowed := true }
def SktMakesUptoSaid : Prop := sktMakesUptoRow.holds Try.pinned (OpenSpec.upto sktMakesSpec)

/-- 'damasklaw.SktAsks', WHERE WHAT IT READS IS OF BULK AT MOST 1048576: true; the input reads as it did. -/
def sktAsksUptoRow : OpenClaim := { program := "ytjniiiimkejkiaa", sum := "c3cb0b0a809d1b9551bbcc8f3a1ec7bab7ea3dabf7679db0a76d929aaa68a5d0", func := "damask/damasklaw.SktAsks", spec := "sktAsks", unfollowed := true, recurses := true, plainKeys := false, leaving := true, apart := false, narrowed := true }
def SktAsksUptoSaid : Prop := sktAsksUptoRow.holds Try.pinned (OpenSpec.upto sktAsksSpec)

/-- 'damasklaw.SktBoths', WHERE WHAT IT READS IS OF BULK AT MOST 1048576: true; the input reads as it did. -/
def sktBothsUptoRow : OpenClaim := { program := "ytjniiiimkejkiaa", sum := "c3cb0b0a809d1b9551bbcc8f3a1ec7bab7ea3dabf7679db0a76d929aaa68a5d0", func := "damask/damasklaw.SktBoths", spec := "sktBoths", unfollowed := true, recurses := true, plainKeys := false, leaving := true, apart := false, narrowed := true }
def SktBothsUptoSaid : Prop := sktBothsUptoRow.holds Try.pinned (OpenSpec.upto sktBothsSpec)

/-- 'damasklaw.LisLengths', WHERE WHAT IT READS IS OF BULK AT MOST 1048576: true; the input reads as it did. -/
def lisLengthsUptoRow : OpenClaim := { program := "ytjniiiimkejkiaa", sum := "c3cb0b0a809d1b9551bbcc8f3a1ec7bab7ea3dabf7679db0a76d929aaa68a5d0", func := "damask/damasklaw.LisLengths", spec := "lisLengths", unfollowed := true, recurses := true, plainKeys := false, leaving := true, apart := false, narrowed := true }
def LisLengthsUptoSaid : Prop := lisLengthsUptoRow.holds Try.pinned (OpenSpec.upto lisLengthsSpec)

/-- 'damasklaw.LisFalls', WHERE WHAT IT READS IS OF BULK AT MOST 1048576: true; the input reads as it did. -/
def lisFallsUptoRow : OpenClaim := { program := "ytjniiiimkejkiaa", sum := "c3cb0b0a809d1b9551bbcc8f3a1ec7bab7ea3dabf7679db0a76d929aaa68a5d0", func := "damask/damasklaw.LisFalls", spec := "lisFalls", unfollowed := true, recurses := true, plainKeys := false, leaving := true, apart := false, narrowed := true }
def LisFallsUptoSaid : Prop := lisFallsUptoRow.holds Try.pinned (OpenSpec.upto lisFallsSpec)

/-- 'damasklaw.LisRises', WHERE WHAT IT READS IS OF BULK AT MOST 1048576: true; the input reads as it did. -/
def lisRisesUptoRow : OpenClaim := { program := "ytjniiiimkejkiaa", sum := "c3cb0b0a809d1b9551bbcc8f3a1ec7bab7ea3dabf7679db0a76d929aaa68a5d0", func := "damask/damasklaw.LisRises", spec := "lisRises", unfollowed := true, recurses := true, plainKeys := false, leaving := true, apart := false, narrowed := true }
def LisRisesUptoSaid : Prop := lisRisesUptoRow.holds Try.pinned (OpenSpec.upto lisRisesSpec)

/-- 'damasklaw.CrewRises', WHERE WHAT IT READS IS OF BULK AT MOST 1048576: true; the input reads as it did. -/
def crewRisesUptoRow : OpenClaim := { program := "ytjniiiimkejkiaa", sum := "c3cb0b0a809d1b9551bbcc8f3a1ec7bab7ea3dabf7679db0a76d929aaa68a5d0", func := "damask/damasklaw.CrewRises", spec := "crewRises", inPlace := ["(*sync.WaitGroup).Add", "internal/race.ReleaseMerge", "internal/race.Disable", "internal/race.Enable", "internal/synctest.IsInBubble", "internal/synctest.Associate[sync.WaitGroup]", "sync.fatal", "sync/atomic.OrUint64", "sync/atomic.AddUint64", "internal/race.Read", "sync/atomic.LoadUint64", "sync/atomic.StoreUint64", "internal/synctest.Disassociate[sync.WaitGroup]", "sync.runtime_Semrelease", "(*sync.WaitGroup).Done", "(*sync.WaitGroup).Wait", "internal/race.Acquire", "internal/synctest.IsAssociated[sync.WaitGroup]", "sync/atomic.CompareAndSwapUint64", "internal/race.Write", "sync.runtime_SemacquireWaitGroup"], unfollowed := true, recurses := true, plainKeys := false, leaving := true, apart := false, narrowed := true }
def CrewRisesUptoSaid : Prop := crewRisesUptoRow.holds Try.pinned (OpenSpec.upto crewRisesSpec)

/-- 'damasklaw.ImageSaves', WHERE WHAT IT READS IS OF BULK AT MOST 1048576: true; the input reads as it did. -/
def imageSavesUptoRow : OpenClaim := { program := "ytjniiiimkejkiaa", sum := "c3cb0b0a809d1b9551bbcc8f3a1ec7bab7ea3dabf7679db0a76d929aaa68a5d0", func := "damask/damasklaw.ImageSaves", spec := "imageSaves", unfollowed := true, recurses := true, plainKeys := false, leaving := true, apart := false, narrowed := true }
def ImageSavesUptoSaid : Prop := imageSavesUptoRow.holds Try.pinned (OpenSpec.upto imageSavesSpec)

/-- 'damasklaw.ImageLoads', WHERE WHAT IT READS IS OF BULK AT MOST 1048576: true; the input reads as it did. -/
def imageLoadsUptoRow : OpenClaim := { program := "ytjniiiimkejkiaa", sum := "c3cb0b0a809d1b9551bbcc8f3a1ec7bab7ea3dabf7679db0a76d929aaa68a5d0", func := "damask/damasklaw.ImageLoads", spec := "imageLoads", unfollowed := true, recurses := true, plainKeys := false, leaving := true, apart := false, narrowed := true }
def ImageLoadsUptoSaid : Prop := imageLoadsUptoRow.holds Try.pinned (OpenSpec.upto imageLoadsSpec)

/-- 'damasklaw.PersPlays', WHERE WHAT IT READS IS OF BULK AT MOST 1048576: true; the input reads as it did. -/
def persPlaysUptoRow : OpenClaim := { program := "ytjniiiimkejkiaa", sum := "c3cb0b0a809d1b9551bbcc8f3a1ec7bab7ea3dabf7679db0a76d929aaa68a5d0", func := "damask/damasklaw.PersPlays", spec := "persPlays", unfollowed := true, recurses := true, plainKeys := false, leaving := true, apart := false, narrowed := true }
def PersPlaysUptoSaid : Prop := persPlaysUptoRow.holds Try.pinned (OpenSpec.upto persPlaysSpec)

/-- 'damasklaw.PersShares', WHERE WHAT IT READS IS OF BULK AT MOST 1048576: true; the input reads as it did. -/
def persSharesUptoRow : OpenClaim := { program := "ytjniiiimkejkiaa", sum := "c3cb0b0a809d1b9551bbcc8f3a1ec7bab7ea3dabf7679db0a76d929aaa68a5d0", func := "damask/damasklaw.PersShares", spec := "persShares", unfollowed := true, recurses := true, plainKeys := false, leaving := true, apart := false, narrowed := true }
def PersSharesUptoSaid : Prop := persSharesUptoRow.holds Try.pinned (OpenSpec.upto persSharesSpec)

/-- 'damasklaw.SegPlays', WHERE WHAT IT READS IS OF BULK AT MOST 1048576: true; the input reads as it did. -/
def segPlaysUptoRow : OpenClaim := { program := "ytjniiiimkejkiaa", sum := "c3cb0b0a809d1b9551bbcc8f3a1ec7bab7ea3dabf7679db0a76d929aaa68a5d0", func := "damask/damasklaw.SegPlays", spec := "segPlays", unfollowed := true, recurses := true, plainKeys := false, leaving := true, apart := false, narrowed := true }
def SegPlaysUptoSaid : Prop := segPlaysUptoRow.holds Try.pinned (OpenSpec.upto segPlaysSpec)

end Rows
end Go.Proofs.Ytjniiiimkejkiaa
