/-
  No cell of these rows narrows 'for every input' (looked for: loops, veiled, ifaces, maps, wideKeys, modest, calm, conditions, laid).
  DERIVED. THE GIVEN ROWS OF THIS SEAT. 12 by the template 'for every input the law returns true; each argument reads behind the call as it read before'; 0 by the template 'total and deterministic' (their statements: YtaipnjoeejgnnaaTotals.lean).
  GIVEN WITH THE SEED: the statements are not yours to turn. If you find one false, say at which input.
  Laid BY PROGRAM, IN A SANDBOX (cutbox-rows.mjs): the forced cells as the released guide's own fill.sh prints them over the translation a576e68ecf9d9305… (all of the seat's roots in one cut). By AI agents, Wed Nov 11 2026. No macro, syntax, notation, axiom, sorry.
-/
import Derived.Test.YtaipnjoeejgnnaaChecked
import GoSem.Claim
import GoSem.ClaimJoined
import GoSem.ClaimMapViews
import Derived.JoinedTies
import Derived.KernelRfl
namespace Go.Proofs.Ytaipnjoeejgnnaa
/- THE CELL 'sum', in the pinned program and in every row, IS THE sha256 OF THE DUMP (.gsa) THAT YtaipnjoeejgnnaaProg.lean LOADS. Nothing in Lean hashes anything: it is a label: what it is worth is what the hold of that sum in a sandbox is worth. -/
noncomputable def Try.pinned : Pinned := { name := "ytaipnjoeejgnnaa", sum := "a576e68ecf9d9305852bef58c80570449446a6385d4f2aa8d3aa54f3533fc872", checked := Try.checked }
namespace Rows
def none {H : Type} : Left H := { results := [], args := [] }

/-- 'damasklaw.ImageLoads': WHATEVER THE INPUT: true; the input reads as it did. -/
def imageLoadsSpec : ChangeSpec := { name := "imageLoads", fn := fun _ => fun
  | [d] => { results := [.lit (.bool true)], args := [d] }
  | _ => none }
def imageLoadsRow : OpenClaim := { program := "ytaipnjoeejgnnaa", sum := "a576e68ecf9d9305852bef58c80570449446a6385d4f2aa8d3aa54f3533fc872", func := "damask/damasklaw.ImageLoads", spec := "imageLoads", unfollowed := true, recurses := true, plainKeys := false, apart := false }
def ImageLoadsSaid : Prop := imageLoadsRow.holds Try.pinned (OpenSpec.ofChange imageLoadsSpec)

/-- ITS FALSE NEIGHBOUR: 'it returns false'. Refute it at one input. -/
def imageLoadsWrong : ChangeSpec := { name := "imageLoads", fn := fun _ => fun
  | [d] => { results := [.lit (.bool false)], args := [d] }
  | _ => none }
def ImageLoadsWrongFalsely : Prop := imageLoadsRow.holds Try.pinned (OpenSpec.ofChange imageLoadsWrong)

/-- 'damasklaw.SegPlays': WHATEVER THE INPUT: true; the input reads as it did. -/
def segPlaysSpec : ChangeSpec := { name := "segPlays", fn := fun _ => fun
  | [d1, d2] => { results := [.lit (.bool true)], args := [d1, d2] }
  | _ => none }
def segPlaysRow : OpenClaim := { program := "ytaipnjoeejgnnaa", sum := "a576e68ecf9d9305852bef58c80570449446a6385d4f2aa8d3aa54f3533fc872", func := "damask/damasklaw.SegPlays", spec := "segPlays", unfollowed := true, recurses := true, plainKeys := false, apart := false }
def SegPlaysSaid : Prop := segPlaysRow.holds Try.pinned (OpenSpec.ofChange segPlaysSpec)

/-- ITS FALSE NEIGHBOUR: 'it returns false'. Refute it at one input. -/
def segPlaysWrong : ChangeSpec := { name := "segPlays", fn := fun _ => fun
  | [d1, d2] => { results := [.lit (.bool false)], args := [d1, d2] }
  | _ => none }
def SegPlaysWrongFalsely : Prop := segPlaysRow.holds Try.pinned (OpenSpec.ofChange segPlaysWrong)

/-- 'damasklaw.PersPlays': WHATEVER THE INPUT: true; the input reads as it did. -/
def persPlaysSpec : ChangeSpec := { name := "persPlays", fn := fun _ => fun
  | [d1, d2] => { results := [.lit (.bool true)], args := [d1, d2] }
  | _ => none }
def persPlaysRow : OpenClaim := { program := "ytaipnjoeejgnnaa", sum := "a576e68ecf9d9305852bef58c80570449446a6385d4f2aa8d3aa54f3533fc872", func := "damask/damasklaw.PersPlays", spec := "persPlays", unfollowed := true, recurses := true, plainKeys := false, apart := false }
def PersPlaysSaid : Prop := persPlaysRow.holds Try.pinned (OpenSpec.ofChange persPlaysSpec)

/-- ITS FALSE NEIGHBOUR: 'it returns false'. Refute it at one input. -/
def persPlaysWrong : ChangeSpec := { name := "persPlays", fn := fun _ => fun
  | [d1, d2] => { results := [.lit (.bool false)], args := [d1, d2] }
  | _ => none }
def PersPlaysWrongFalsely : Prop := persPlaysRow.holds Try.pinned (OpenSpec.ofChange persPlaysWrong)

/-- 'damasklaw.PersShares': WHATEVER THE INPUT: true; the input reads as it did. -/
def persSharesSpec : ChangeSpec := { name := "persShares", fn := fun _ => fun
  | [d1, d2] => { results := [.lit (.bool true)], args := [d1, d2] }
  | _ => none }
def persSharesRow : OpenClaim := { program := "ytaipnjoeejgnnaa", sum := "a576e68ecf9d9305852bef58c80570449446a6385d4f2aa8d3aa54f3533fc872", func := "damask/damasklaw.PersShares", spec := "persShares", unfollowed := true, recurses := true, plainKeys := false, apart := false }
def PersSharesSaid : Prop := persSharesRow.holds Try.pinned (OpenSpec.ofChange persSharesSpec)

/-- ITS FALSE NEIGHBOUR: 'it returns false'. Refute it at one input. -/
def persSharesWrong : ChangeSpec := { name := "persShares", fn := fun _ => fun
  | [d1, d2] => { results := [.lit (.bool false)], args := [d1, d2] }
  | _ => none }
def PersSharesWrongFalsely : Prop := persSharesRow.holds Try.pinned (OpenSpec.ofChange persSharesWrong)

/-- 'damasklaw.ParenTexts': WHATEVER THE INPUT: true; the input reads as it did. -/
def parenTextsSpec : ChangeSpec := { name := "parenTexts", fn := fun _ => fun
  | [d] => { results := [.lit (.bool true)], args := [d] }
  | _ => none }
def parenTextsRow : OpenClaim := { program := "ytaipnjoeejgnnaa", sum := "a576e68ecf9d9305852bef58c80570449446a6385d4f2aa8d3aa54f3533fc872", func := "damask/damasklaw.ParenTexts", spec := "parenTexts", inPlace := ["internal/abi.NoEscape", "internal/bytealg.MakeNoZero"], plainKeys := false, apart := false }
def ParenTextsSaid : Prop := parenTextsRow.holds Try.pinned (OpenSpec.ofChange parenTextsSpec)

/-- ITS FALSE NEIGHBOUR: 'it returns false'. Refute it at one input. -/
def parenTextsWrong : ChangeSpec := { name := "parenTexts", fn := fun _ => fun
  | [d] => { results := [.lit (.bool false)], args := [d] }
  | _ => none }
def ParenTextsWrongFalsely : Prop := parenTextsRow.holds Try.pinned (OpenSpec.ofChange parenTextsWrong)

/-- 'damasklaw.StabMosts': WHATEVER THE INPUT: true; the input reads as it did. -/
def stabMostsSpec : ChangeSpec := { name := "stabMosts", fn := fun _ => fun
  | [d] => { results := [.lit (.bool true)], args := [d] }
  | _ => none }
def stabMostsRow : OpenClaim := { program := "ytaipnjoeejgnnaa", sum := "a576e68ecf9d9305852bef58c80570449446a6385d4f2aa8d3aa54f3533fc872", func := "damask/damasklaw.StabMosts", spec := "stabMosts", unfollowed := true, recurses := true, plainKeys := false, apart := false }
def StabMostsSaid : Prop := stabMostsRow.holds Try.pinned (OpenSpec.ofChange stabMostsSpec)

/-- ITS FALSE NEIGHBOUR: 'it returns false'. Refute it at one input. -/
def stabMostsWrong : ChangeSpec := { name := "stabMosts", fn := fun _ => fun
  | [d] => { results := [.lit (.bool false)], args := [d] }
  | _ => none }
def StabMostsWrongFalsely : Prop := stabMostsRow.holds Try.pinned (OpenSpec.ofChange stabMostsWrong)

/-- 'damasklaw.StabRefused': WHATEVER THE INPUT: true; the input reads as it did. -/
def stabRefusedSpec : ChangeSpec := { name := "stabRefused", fn := fun _ => fun
  | [d] => { results := [.lit (.bool true)], args := [d] }
  | _ => none }
def stabRefusedRow : OpenClaim := { program := "ytaipnjoeejgnnaa", sum := "a576e68ecf9d9305852bef58c80570449446a6385d4f2aa8d3aa54f3533fc872", func := "damask/damasklaw.StabRefused", spec := "stabRefused", unfollowed := true, recurses := true, plainKeys := false, apart := false }
def StabRefusedSaid : Prop := stabRefusedRow.holds Try.pinned (OpenSpec.ofChange stabRefusedSpec)

/-- ITS FALSE NEIGHBOUR: 'it returns false'. Refute it at one input. -/
def stabRefusedWrong : ChangeSpec := { name := "stabRefused", fn := fun _ => fun
  | [d] => { results := [.lit (.bool false)], args := [d] }
  | _ => none }
def StabRefusedWrongFalsely : Prop := stabRefusedRow.holds Try.pinned (OpenSpec.ofChange stabRefusedWrong)

/-- 'damasklaw.NearClosests': WHATEVER THE INPUT: true; the input reads as it did. -/
def nearClosestsSpec : ChangeSpec := { name := "nearClosests", fn := fun _ => fun
  | [d] => { results := [.lit (.bool true)], args := [d] }
  | _ => none }
def nearClosestsRow : OpenClaim := { program := "ytaipnjoeejgnnaa", sum := "a576e68ecf9d9305852bef58c80570449446a6385d4f2aa8d3aa54f3533fc872", func := "damask/damasklaw.NearClosests", spec := "nearClosests", unfollowed := true, recurses := true, plainKeys := false, apart := false }
def NearClosestsSaid : Prop := nearClosestsRow.holds Try.pinned (OpenSpec.ofChange nearClosestsSpec)

/-- ITS FALSE NEIGHBOUR: 'it returns false'. Refute it at one input. -/
def nearClosestsWrong : ChangeSpec := { name := "nearClosests", fn := fun _ => fun
  | [d] => { results := [.lit (.bool false)], args := [d] }
  | _ => none }
def NearClosestsWrongFalsely : Prop := nearClosestsRow.holds Try.pinned (OpenSpec.ofChange nearClosestsWrong)

/-- 'damasklaw.MortonCovers': WHATEVER THE INPUT: true; the input reads as it did. -/
def mortonCoversSpec : ChangeSpec := { name := "mortonCovers", fn := fun _ => fun
  | [d] => { results := [.lit (.bool true)], args := [d] }
  | _ => none }
def mortonCoversRow : OpenClaim := { program := "ytaipnjoeejgnnaa", sum := "a576e68ecf9d9305852bef58c80570449446a6385d4f2aa8d3aa54f3533fc872", func := "damask/damasklaw.MortonCovers", spec := "mortonCovers", recurses := true, plainKeys := false, apart := false }
def MortonCoversSaid : Prop := mortonCoversRow.holds Try.pinned (OpenSpec.ofChange mortonCoversSpec)

/-- ITS FALSE NEIGHBOUR: 'it returns false'. Refute it at one input. -/
def mortonCoversWrong : ChangeSpec := { name := "mortonCovers", fn := fun _ => fun
  | [d] => { results := [.lit (.bool false)], args := [d] }
  | _ => none }
def MortonCoversWrongFalsely : Prop := mortonCoversRow.holds Try.pinned (OpenSpec.ofChange mortonCoversWrong)

/-- 'damasklaw.RanksMakes': WHATEVER THE INPUT: true; the input reads as it did. -/
def ranksMakesSpec : ChangeSpec := { name := "ranksMakes", fn := fun _ => fun
  | [d] => { results := [.lit (.bool true)], args := [d] }
  | _ => none }
def ranksMakesRow : OpenClaim := { program := "ytaipnjoeejgnnaa", sum := "a576e68ecf9d9305852bef58c80570449446a6385d4f2aa8d3aa54f3533fc872", func := "damask/damasklaw.RanksMakes", spec := "ranksMakes", unfollowed := true, recurses := true, plainKeys := false, apart := false }
def RanksMakesSaid : Prop := ranksMakesRow.holds Try.pinned (OpenSpec.ofChange ranksMakesSpec)

/-- ITS FALSE NEIGHBOUR: 'it returns false'. Refute it at one input. -/
def ranksMakesWrong : ChangeSpec := { name := "ranksMakes", fn := fun _ => fun
  | [d] => { results := [.lit (.bool false)], args := [d] }
  | _ => none }
def RanksMakesWrongFalsely : Prop := ranksMakesRow.holds Try.pinned (OpenSpec.ofChange ranksMakesWrong)

/-- 'damasklaw.HullHulls': WHATEVER THE INPUT: true; the input reads as it did. -/
def hullHullsSpec : ChangeSpec := { name := "hullHulls", fn := fun _ => fun
  | [d] => { results := [.lit (.bool true)], args := [d] }
  | _ => none }
def hullHullsRow : OpenClaim := { program := "ytaipnjoeejgnnaa", sum := "a576e68ecf9d9305852bef58c80570449446a6385d4f2aa8d3aa54f3533fc872", func := "damask/damasklaw.HullHulls", spec := "hullHulls", unfollowed := true, recurses := true, plainKeys := false, apart := false }
def HullHullsSaid : Prop := hullHullsRow.holds Try.pinned (OpenSpec.ofChange hullHullsSpec)

/-- ITS FALSE NEIGHBOUR: 'it returns false'. Refute it at one input. -/
def hullHullsWrong : ChangeSpec := { name := "hullHulls", fn := fun _ => fun
  | [d] => { results := [.lit (.bool false)], args := [d] }
  | _ => none }
def HullHullsWrongFalsely : Prop := hullHullsRow.holds Try.pinned (OpenSpec.ofChange hullHullsWrong)

/-- 'damasklaw.HullAreas': WHATEVER THE INPUT: true; the input reads as it did. -/
def hullAreasSpec : ChangeSpec := { name := "hullAreas", fn := fun _ => fun
  | [d] => { results := [.lit (.bool true)], args := [d] }
  | _ => none }
def hullAreasRow : OpenClaim := { program := "ytaipnjoeejgnnaa", sum := "a576e68ecf9d9305852bef58c80570449446a6385d4f2aa8d3aa54f3533fc872", func := "damask/damasklaw.HullAreas", spec := "hullAreas", unfollowed := true, recurses := true, plainKeys := false, apart := false }
def HullAreasSaid : Prop := hullAreasRow.holds Try.pinned (OpenSpec.ofChange hullAreasSpec)

/-- ITS FALSE NEIGHBOUR: 'it returns false'. Refute it at one input. -/
def hullAreasWrong : ChangeSpec := { name := "hullAreas", fn := fun _ => fun
  | [d] => { results := [.lit (.bool false)], args := [d] }
  | _ => none }
def HullAreasWrongFalsely : Prop := hullAreasRow.holds Try.pinned (OpenSpec.ofChange hullAreasWrong)

/- THE SECOND FORM. 'bulk': how many values and letters a reading holds, each counted each time it is reached (what is shared counts as often as it is met; a slice's spare places count too). A statement '..UptoSaid' is the law's where the arguments, and the package variables that the reading takes, are together of bulk at most 1048576: NARROWER than '..Said'. Prove '..Said' where nothing that the law and all that it calls make is longer than what came in: it says more and counts as full. Else prove '..UptoSaid'. A law counts once. -/
mutual
def uptoBulk {H : Type} : DataW H → Nat
  | .lit (.string bytes) => bytes.length + 1
  | .lit _ => 1
  | .nil => 1
  | .ptr d => uptoBulk d + 1
  | .slice elems spare => uptoBulkAll elems + uptoBulkAll spare + 1
  | .agg parts => uptoBulkAll parts + 1
  | .iface _ d => uptoBulk d + 1
  | .map entries => uptoBulkEntries entries + 1
  | .held _ => 1
def uptoBulkAll {H : Type} : List (DataW H) → Nat
  | [] => 0
  | d :: r => uptoBulk d + uptoBulkAll r
def uptoBulkEntries {H : Type} : List (Lit × DataW H) → Nat
  | [] => 0
  | x :: r => uptoBulkEntry x + uptoBulkEntries r
def uptoBulkEntry {H : Type} : Lit × DataW H → Nat
  | (.string bytes, d) => bytes.length + uptoBulk d + 1
  | (_, d) => uptoBulk d + 1
 end
def uptoSmall : (H : Type) → List (DataW H) → Bool := fun _ ds => decide (uptoBulkAll ds ≤ 1048576)
def OpenSpec.upto (s : _root_.Go.ChangeSpec) : _root_.Go.OpenSpec := { _root_.Go.OpenSpec.ofChange s with cond := some uptoSmall }

/-- 'damasklaw.ImageLoads', WHERE WHAT IT READS IS OF BULK AT MOST 1048576: true; the input reads as it did. -/
def imageLoadsUptoRow : OpenClaim := { program := "ytaipnjoeejgnnaa", sum := "a576e68ecf9d9305852bef58c80570449446a6385d4f2aa8d3aa54f3533fc872", func := "damask/damasklaw.ImageLoads", spec := "imageLoads", unfollowed := true, recurses := true, plainKeys := false, apart := false, narrowed := true }
def ImageLoadsUptoSaid : Prop := imageLoadsUptoRow.holds Try.pinned (OpenSpec.upto imageLoadsSpec)

/-- 'damasklaw.SegPlays', WHERE WHAT IT READS IS OF BULK AT MOST 1048576: true; the input reads as it did. -/
def segPlaysUptoRow : OpenClaim := { program := "ytaipnjoeejgnnaa", sum := "a576e68ecf9d9305852bef58c80570449446a6385d4f2aa8d3aa54f3533fc872", func := "damask/damasklaw.SegPlays", spec := "segPlays", unfollowed := true, recurses := true, plainKeys := false, apart := false, narrowed := true }
def SegPlaysUptoSaid : Prop := segPlaysUptoRow.holds Try.pinned (OpenSpec.upto segPlaysSpec)

/-- 'damasklaw.PersPlays', WHERE WHAT IT READS IS OF BULK AT MOST 1048576: true; the input reads as it did. -/
def persPlaysUptoRow : OpenClaim := { program := "ytaipnjoeejgnnaa", sum := "a576e68ecf9d9305852bef58c80570449446a6385d4f2aa8d3aa54f3533fc872", func := "damask/damasklaw.PersPlays", spec := "persPlays", unfollowed := true, recurses := true, plainKeys := false, apart := false, narrowed := true }
def PersPlaysUptoSaid : Prop := persPlaysUptoRow.holds Try.pinned (OpenSpec.upto persPlaysSpec)

/-- 'damasklaw.PersShares', WHERE WHAT IT READS IS OF BULK AT MOST 1048576: true; the input reads as it did. -/
def persSharesUptoRow : OpenClaim := { program := "ytaipnjoeejgnnaa", sum := "a576e68ecf9d9305852bef58c80570449446a6385d4f2aa8d3aa54f3533fc872", func := "damask/damasklaw.PersShares", spec := "persShares", unfollowed := true, recurses := true, plainKeys := false, apart := false, narrowed := true }
def PersSharesUptoSaid : Prop := persSharesUptoRow.holds Try.pinned (OpenSpec.upto persSharesSpec)

/-- 'damasklaw.ParenTexts', WHERE WHAT IT READS IS OF BULK AT MOST 1048576: true; the input reads as it did. -/
def parenTextsUptoRow : OpenClaim := { program := "ytaipnjoeejgnnaa", sum := "a576e68ecf9d9305852bef58c80570449446a6385d4f2aa8d3aa54f3533fc872", func := "damask/damasklaw.ParenTexts", spec := "parenTexts", inPlace := ["internal/abi.NoEscape", "internal/bytealg.MakeNoZero"], plainKeys := false, apart := false, narrowed := true }
def ParenTextsUptoSaid : Prop := parenTextsUptoRow.holds Try.pinned (OpenSpec.upto parenTextsSpec)

/-- 'damasklaw.StabMosts', WHERE WHAT IT READS IS OF BULK AT MOST 1048576: true; the input reads as it did. -/
def stabMostsUptoRow : OpenClaim := { program := "ytaipnjoeejgnnaa", sum := "a576e68ecf9d9305852bef58c80570449446a6385d4f2aa8d3aa54f3533fc872", func := "damask/damasklaw.StabMosts", spec := "stabMosts", unfollowed := true, recurses := true, plainKeys := false, apart := false, narrowed := true }
def StabMostsUptoSaid : Prop := stabMostsUptoRow.holds Try.pinned (OpenSpec.upto stabMostsSpec)

/-- 'damasklaw.StabRefused', WHERE WHAT IT READS IS OF BULK AT MOST 1048576: true; the input reads as it did. -/
def stabRefusedUptoRow : OpenClaim := { program := "ytaipnjoeejgnnaa", sum := "a576e68ecf9d9305852bef58c80570449446a6385d4f2aa8d3aa54f3533fc872", func := "damask/damasklaw.StabRefused", spec := "stabRefused", unfollowed := true, recurses := true, plainKeys := false, apart := false, narrowed := true }
def StabRefusedUptoSaid : Prop := stabRefusedUptoRow.holds Try.pinned (OpenSpec.upto stabRefusedSpec)

/-- 'damasklaw.NearClosests', WHERE WHAT IT READS IS OF BULK AT MOST 1048576: true; the input reads as it did. -/
def nearClosestsUptoRow : OpenClaim := { program := "ytaipnjoeejgnnaa", sum := "a576e68ecf9d9305852bef58c80570449446a6385d4f2aa8d3aa54f3533fc872", func := "damask/damasklaw.NearClosests", spec := "nearClosests", unfollowed := true, recurses := true, plainKeys := false, apart := false, narrowed := true }
def NearClosestsUptoSaid : Prop := nearClosestsUptoRow.holds Try.pinned (OpenSpec.upto nearClosestsSpec)

/-- 'damasklaw.MortonCovers', WHERE WHAT IT READS IS OF BULK AT MOST 1048576: true; the input reads as it did. -/
def mortonCoversUptoRow : OpenClaim := { program := "ytaipnjoeejgnnaa", sum := "a576e68ecf9d9305852bef58c80570449446a6385d4f2aa8d3aa54f3533fc872", func := "damask/damasklaw.MortonCovers", spec := "mortonCovers", recurses := true, plainKeys := false, apart := false, narrowed := true }
def MortonCoversUptoSaid : Prop := mortonCoversUptoRow.holds Try.pinned (OpenSpec.upto mortonCoversSpec)

/-- 'damasklaw.RanksMakes', WHERE WHAT IT READS IS OF BULK AT MOST 1048576: true; the input reads as it did. -/
def ranksMakesUptoRow : OpenClaim := { program := "ytaipnjoeejgnnaa", sum := "a576e68ecf9d9305852bef58c80570449446a6385d4f2aa8d3aa54f3533fc872", func := "damask/damasklaw.RanksMakes", spec := "ranksMakes", unfollowed := true, recurses := true, plainKeys := false, apart := false, narrowed := true }
def RanksMakesUptoSaid : Prop := ranksMakesUptoRow.holds Try.pinned (OpenSpec.upto ranksMakesSpec)

/-- 'damasklaw.HullHulls', WHERE WHAT IT READS IS OF BULK AT MOST 1048576: true; the input reads as it did. -/
def hullHullsUptoRow : OpenClaim := { program := "ytaipnjoeejgnnaa", sum := "a576e68ecf9d9305852bef58c80570449446a6385d4f2aa8d3aa54f3533fc872", func := "damask/damasklaw.HullHulls", spec := "hullHulls", unfollowed := true, recurses := true, plainKeys := false, apart := false, narrowed := true }
def HullHullsUptoSaid : Prop := hullHullsUptoRow.holds Try.pinned (OpenSpec.upto hullHullsSpec)

/-- 'damasklaw.HullAreas', WHERE WHAT IT READS IS OF BULK AT MOST 1048576: true; the input reads as it did. -/
def hullAreasUptoRow : OpenClaim := { program := "ytaipnjoeejgnnaa", sum := "a576e68ecf9d9305852bef58c80570449446a6385d4f2aa8d3aa54f3533fc872", func := "damask/damasklaw.HullAreas", spec := "hullAreas", unfollowed := true, recurses := true, plainKeys := false, apart := false, narrowed := true }
def HullAreasUptoSaid : Prop := hullAreasUptoRow.holds Try.pinned (OpenSpec.upto hullAreasSpec)

end Rows
end Go.Proofs.Ytaipnjoeejgnnaa
