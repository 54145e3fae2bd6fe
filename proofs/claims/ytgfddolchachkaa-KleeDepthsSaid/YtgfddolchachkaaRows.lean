/-
  No cell of these rows narrows 'for every input' (looked for: loops, veiled, ifaces, maps, wideKeys, modest, calm, conditions, laid).
  DERIVED. THE GIVEN ROWS OF THIS SEAT. 12 by the template 'for every input the law returns true; each argument reads behind the call as it read before'; 0 by the template 'total and deterministic' (their statements: YtgfddolchachkaaTotals.lean).
  GIVEN WITH THE SEED: the statements are not yours to turn. If you find one false, say at which input.
  Laid BY PROGRAM, IN A SANDBOX (cutbox-rows.mjs): the forced cells as the released guide's own fill.sh prints them over the translation 6ea6c1294bf28100… (all of the seat's roots in one cut). By AI agents, Wed Nov 11 2026. No macro, syntax, notation, axiom, sorry.
-/
import Derived.Test.YtgfddolchachkaaChecked
import GoSem.Claim
import GoSem.ClaimJoined
import GoSem.ClaimMapViews
import Derived.JoinedTies
import Derived.KernelRfl
namespace Go.Proofs.Ytgfddolchachkaa
/- THE CELL 'sum', in the pinned program and in every row, IS THE sha256 OF THE DUMP (.gsa) THAT YtgfddolchachkaaProg.lean LOADS. Nothing in Lean hashes anything: it is a label: what it is worth is what the hold of that sum in a sandbox is worth. -/
noncomputable def Try.pinned : Pinned := { name := "ytgfddolchachkaa", sum := "6ea6c1294bf2810025b973bb1ee5add35583bf3326d0bae1caeab0d11c5cae6f", checked := Try.checked }
namespace Rows
def none {H : Type} : Left H := { results := [], args := [] }

/-- 'damasklaw.PersPlays': WHATEVER THE INPUT: true; the input reads as it did. -/
def persPlaysSpec : ChangeSpec := { name := "persPlays", fn := fun _ => fun
  | [d1, d2] => { results := [.lit (.bool true)], args := [d1, d2] }
  | _ => none }
def persPlaysRow : OpenClaim := { program := "ytgfddolchachkaa", sum := "6ea6c1294bf2810025b973bb1ee5add35583bf3326d0bae1caeab0d11c5cae6f", func := "damask/damasklaw.PersPlays", spec := "persPlays", unfollowed := true, recurses := true, plainKeys := false, apart := false }
def PersPlaysSaid : Prop := persPlaysRow.holds Try.pinned (OpenSpec.ofChange persPlaysSpec)

/-- ITS FALSE NEIGHBOUR: 'it returns false'. Refute it at one input. -/
def persPlaysWrong : ChangeSpec := { name := "persPlays", fn := fun _ => fun
  | [d1, d2] => { results := [.lit (.bool false)], args := [d1, d2] }
  | _ => none }
def PersPlaysWrongFalsely : Prop := persPlaysRow.holds Try.pinned (OpenSpec.ofChange persPlaysWrong)

/-- 'damasklaw.PersShares': WHATEVER THE INPUT: true; the input reads as it did. -/
def persSharesSpec : ChangeSpec := { name := "persShares", fn := fun _ => fun
  | [d1, d2] => { results := [.lit (.bool true)], args := [d1, d2] }
  | _ => none }
def persSharesRow : OpenClaim := { program := "ytgfddolchachkaa", sum := "6ea6c1294bf2810025b973bb1ee5add35583bf3326d0bae1caeab0d11c5cae6f", func := "damask/damasklaw.PersShares", spec := "persShares", unfollowed := true, recurses := true, plainKeys := false, apart := false }
def PersSharesSaid : Prop := persSharesRow.holds Try.pinned (OpenSpec.ofChange persSharesSpec)

/-- ITS FALSE NEIGHBOUR: 'it returns false'. Refute it at one input. -/
def persSharesWrong : ChangeSpec := { name := "persShares", fn := fun _ => fun
  | [d1, d2] => { results := [.lit (.bool false)], args := [d1, d2] }
  | _ => none }
def PersSharesWrongFalsely : Prop := persSharesRow.holds Try.pinned (OpenSpec.ofChange persSharesWrong)

/-- 'damasklaw.ParenTexts': WHATEVER THE INPUT: true; the input reads as it did. -/
def parenTextsSpec : ChangeSpec := { name := "parenTexts", fn := fun _ => fun
  | [d] => { results := [.lit (.bool true)], args := [d] }
  | _ => none }
def parenTextsRow : OpenClaim := { program := "ytgfddolchachkaa", sum := "6ea6c1294bf2810025b973bb1ee5add35583bf3326d0bae1caeab0d11c5cae6f", func := "damask/damasklaw.ParenTexts", spec := "parenTexts", inPlace := ["internal/abi.NoEscape", "internal/bytealg.MakeNoZero"], plainKeys := false, apart := false }
def ParenTextsSaid : Prop := parenTextsRow.holds Try.pinned (OpenSpec.ofChange parenTextsSpec)

/-- ITS FALSE NEIGHBOUR: 'it returns false'. Refute it at one input. -/
def parenTextsWrong : ChangeSpec := { name := "parenTexts", fn := fun _ => fun
  | [d] => { results := [.lit (.bool false)], args := [d] }
  | _ => none }
def ParenTextsWrongFalsely : Prop := parenTextsRow.holds Try.pinned (OpenSpec.ofChange parenTextsWrong)

/-- 'damasklaw.StabMosts': WHATEVER THE INPUT: true; the input reads as it did. -/
def stabMostsSpec : ChangeSpec := { name := "stabMosts", fn := fun _ => fun
  | [d] => { results := [.lit (.bool true)], args := [d] }
  | _ => none }
def stabMostsRow : OpenClaim := { program := "ytgfddolchachkaa", sum := "6ea6c1294bf2810025b973bb1ee5add35583bf3326d0bae1caeab0d11c5cae6f", func := "damask/damasklaw.StabMosts", spec := "stabMosts", unfollowed := true, recurses := true, plainKeys := false, apart := false }
def StabMostsSaid : Prop := stabMostsRow.holds Try.pinned (OpenSpec.ofChange stabMostsSpec)

/-- ITS FALSE NEIGHBOUR: 'it returns false'. Refute it at one input. -/
def stabMostsWrong : ChangeSpec := { name := "stabMosts", fn := fun _ => fun
  | [d] => { results := [.lit (.bool false)], args := [d] }
  | _ => none }
def StabMostsWrongFalsely : Prop := stabMostsRow.holds Try.pinned (OpenSpec.ofChange stabMostsWrong)

/-- 'damasklaw.StabRefused': WHATEVER THE INPUT: true; the input reads as it did. -/
def stabRefusedSpec : ChangeSpec := { name := "stabRefused", fn := fun _ => fun
  | [d] => { results := [.lit (.bool true)], args := [d] }
  | _ => none }
def stabRefusedRow : OpenClaim := { program := "ytgfddolchachkaa", sum := "6ea6c1294bf2810025b973bb1ee5add35583bf3326d0bae1caeab0d11c5cae6f", func := "damask/damasklaw.StabRefused", spec := "stabRefused", unfollowed := true, recurses := true, plainKeys := false, apart := false }
def StabRefusedSaid : Prop := stabRefusedRow.holds Try.pinned (OpenSpec.ofChange stabRefusedSpec)

/-- ITS FALSE NEIGHBOUR: 'it returns false'. Refute it at one input. -/
def stabRefusedWrong : ChangeSpec := { name := "stabRefused", fn := fun _ => fun
  | [d] => { results := [.lit (.bool false)], args := [d] }
  | _ => none }
def StabRefusedWrongFalsely : Prop := stabRefusedRow.holds Try.pinned (OpenSpec.ofChange stabRefusedWrong)

/-- 'damasklaw.HullHulls': WHATEVER THE INPUT: true; the input reads as it did. -/
def hullHullsSpec : ChangeSpec := { name := "hullHulls", fn := fun _ => fun
  | [d] => { results := [.lit (.bool true)], args := [d] }
  | _ => none }
def hullHullsRow : OpenClaim := { program := "ytgfddolchachkaa", sum := "6ea6c1294bf2810025b973bb1ee5add35583bf3326d0bae1caeab0d11c5cae6f", func := "damask/damasklaw.HullHulls", spec := "hullHulls", unfollowed := true, recurses := true, plainKeys := false, apart := false }
def HullHullsSaid : Prop := hullHullsRow.holds Try.pinned (OpenSpec.ofChange hullHullsSpec)

/-- ITS FALSE NEIGHBOUR: 'it returns false'. Refute it at one input. -/
def hullHullsWrong : ChangeSpec := { name := "hullHulls", fn := fun _ => fun
  | [d] => { results := [.lit (.bool false)], args := [d] }
  | _ => none }
def HullHullsWrongFalsely : Prop := hullHullsRow.holds Try.pinned (OpenSpec.ofChange hullHullsWrong)

/-- 'damasklaw.HullAreas': WHATEVER THE INPUT: true; the input reads as it did. -/
def hullAreasSpec : ChangeSpec := { name := "hullAreas", fn := fun _ => fun
  | [d] => { results := [.lit (.bool true)], args := [d] }
  | _ => none }
def hullAreasRow : OpenClaim := { program := "ytgfddolchachkaa", sum := "6ea6c1294bf2810025b973bb1ee5add35583bf3326d0bae1caeab0d11c5cae6f", func := "damask/damasklaw.HullAreas", spec := "hullAreas", unfollowed := true, recurses := true, plainKeys := false, apart := false }
def HullAreasSaid : Prop := hullAreasRow.holds Try.pinned (OpenSpec.ofChange hullAreasSpec)

/-- ITS FALSE NEIGHBOUR: 'it returns false'. Refute it at one input. -/
def hullAreasWrong : ChangeSpec := { name := "hullAreas", fn := fun _ => fun
  | [d] => { results := [.lit (.bool false)], args := [d] }
  | _ => none }
def HullAreasWrongFalsely : Prop := hullAreasRow.holds Try.pinned (OpenSpec.ofChange hullAreasWrong)

/-- 'damasklaw.HullHas': WHATEVER THE INPUT: true; the input reads as it did. -/
def hullHasSpec : ChangeSpec := { name := "hullHas", fn := fun _ => fun
  | [d1, d2, d3] => { results := [.lit (.bool true)], args := [d1, d2, d3] }
  | _ => none }
def hullHasRow : OpenClaim := { program := "ytgfddolchachkaa", sum := "6ea6c1294bf2810025b973bb1ee5add35583bf3326d0bae1caeab0d11c5cae6f", func := "damask/damasklaw.HullHas", spec := "hullHas", unfollowed := true, recurses := true, plainKeys := false, apart := false }
def HullHasSaid : Prop := hullHasRow.holds Try.pinned (OpenSpec.ofChange hullHasSpec)

/-- ITS FALSE NEIGHBOUR: 'it returns false'. Refute it at one input. -/
def hullHasWrong : ChangeSpec := { name := "hullHas", fn := fun _ => fun
  | [d1, d2, d3] => { results := [.lit (.bool false)], args := [d1, d2, d3] }
  | _ => none }
def HullHasWrongFalsely : Prop := hullHasRow.holds Try.pinned (OpenSpec.ofChange hullHasWrong)

/-- 'damasklaw.HullInsides': WHATEVER THE INPUT: true; the input reads as it did. -/
def hullInsidesSpec : ChangeSpec := { name := "hullInsides", fn := fun _ => fun
  | [d] => { results := [.lit (.bool true)], args := [d] }
  | _ => none }
def hullInsidesRow : OpenClaim := { program := "ytgfddolchachkaa", sum := "6ea6c1294bf2810025b973bb1ee5add35583bf3326d0bae1caeab0d11c5cae6f", func := "damask/damasklaw.HullInsides", spec := "hullInsides", unfollowed := true, recurses := true, plainKeys := false, apart := false }
def HullInsidesSaid : Prop := hullInsidesRow.holds Try.pinned (OpenSpec.ofChange hullInsidesSpec)

/-- ITS FALSE NEIGHBOUR: 'it returns false'. Refute it at one input. -/
def hullInsidesWrong : ChangeSpec := { name := "hullInsides", fn := fun _ => fun
  | [d] => { results := [.lit (.bool false)], args := [d] }
  | _ => none }
def HullInsidesWrongFalsely : Prop := hullInsidesRow.holds Try.pinned (OpenSpec.ofChange hullInsidesWrong)

/-- 'damasklaw.KleeAreas': WHATEVER THE INPUT: true; the input reads as it did. -/
def kleeAreasSpec : ChangeSpec := { name := "kleeAreas", fn := fun _ => fun
  | [d] => { results := [.lit (.bool true)], args := [d] }
  | _ => none }
def kleeAreasRow : OpenClaim := { program := "ytgfddolchachkaa", sum := "6ea6c1294bf2810025b973bb1ee5add35583bf3326d0bae1caeab0d11c5cae6f", func := "damask/damasklaw.KleeAreas", spec := "kleeAreas", unfollowed := true, recurses := true, plainKeys := false, apart := false }
def KleeAreasSaid : Prop := kleeAreasRow.holds Try.pinned (OpenSpec.ofChange kleeAreasSpec)

/-- ITS FALSE NEIGHBOUR: 'it returns false'. Refute it at one input. -/
def kleeAreasWrong : ChangeSpec := { name := "kleeAreas", fn := fun _ => fun
  | [d] => { results := [.lit (.bool false)], args := [d] }
  | _ => none }
def KleeAreasWrongFalsely : Prop := kleeAreasRow.holds Try.pinned (OpenSpec.ofChange kleeAreasWrong)

/-- 'damasklaw.KleeDepths': WHATEVER THE INPUT: true; the input reads as it did. -/
def kleeDepthsSpec : ChangeSpec := { name := "kleeDepths", fn := fun _ => fun
  | [d] => { results := [.lit (.bool true)], args := [d] }
  | _ => none }
def kleeDepthsRow : OpenClaim := { program := "ytgfddolchachkaa", sum := "6ea6c1294bf2810025b973bb1ee5add35583bf3326d0bae1caeab0d11c5cae6f", func := "damask/damasklaw.KleeDepths", spec := "kleeDepths", unfollowed := true, recurses := true, plainKeys := false, apart := false }
def KleeDepthsSaid : Prop := kleeDepthsRow.holds Try.pinned (OpenSpec.ofChange kleeDepthsSpec)

/-- ITS FALSE NEIGHBOUR: 'it returns false'. Refute it at one input. -/
def kleeDepthsWrong : ChangeSpec := { name := "kleeDepths", fn := fun _ => fun
  | [d] => { results := [.lit (.bool false)], args := [d] }
  | _ => none }
def KleeDepthsWrongFalsely : Prop := kleeDepthsRow.holds Try.pinned (OpenSpec.ofChange kleeDepthsWrong)

/-- 'damasklaw.LisRises': WHATEVER THE INPUT: true; the input reads as it did. -/
def lisRisesSpec : ChangeSpec := { name := "lisRises", fn := fun _ => fun
  | [d] => { results := [.lit (.bool true)], args := [d] }
  | _ => none }
def lisRisesRow : OpenClaim := { program := "ytgfddolchachkaa", sum := "6ea6c1294bf2810025b973bb1ee5add35583bf3326d0bae1caeab0d11c5cae6f", func := "damask/damasklaw.LisRises", spec := "lisRises", unfollowed := true, recurses := true, plainKeys := false, apart := false }
def LisRisesSaid : Prop := lisRisesRow.holds Try.pinned (OpenSpec.ofChange lisRisesSpec)

/-- ITS FALSE NEIGHBOUR: 'it returns false'. Refute it at one input. -/
def lisRisesWrong : ChangeSpec := { name := "lisRises", fn := fun _ => fun
  | [d] => { results := [.lit (.bool false)], args := [d] }
  | _ => none }
def LisRisesWrongFalsely : Prop := lisRisesRow.holds Try.pinned (OpenSpec.ofChange lisRisesWrong)

/- THE SECOND FORM. 'bulk': how many values and letters a reading holds, each counted each time it is reached (what is shared counts as often as it is met; a slice's spare places count too). A statement '..UptoSaid' is the law's where the arguments, and the package variables that the reading takes, are together of bulk at most 1048576: NARROWER than '..Said'. Prove '..Said' where nothing that the law and all that it calls make is longer than what came in: it says more and counts as full. Else prove '..UptoSaid'. A law counts once. -/
mutual
def uptoBulk {H : Type} : DataW H → Nat
  | .lit (.string bytes) => bytes.length + 1
  | .lit _ => 1
  | .nil => 1
  | .ptr d => uptoBulk d + 1
  | .slice elems spare => uptoBulkAll elems + uptoBulkAll spare + 1
  | .agg parts => uptoBulkAll parts + 1
  | .iface _ d => uptoBulk d + 1
  | .map entries => uptoBulkEntries entries + 1
  | .held _ => 1
def uptoBulkAll {H : Type} : List (DataW H) → Nat
  | [] => 0
  | d :: r => uptoBulk d + uptoBulkAll r
def uptoBulkEntries {H : Type} : List (Lit × DataW H) → Nat
  | [] => 0
  | x :: r => uptoBulkEntry x + uptoBulkEntries r
def uptoBulkEntry {H : Type} : Lit × DataW H → Nat
  | (.string bytes, d) => bytes.length + uptoBulk d + 1
  | (_, d) => uptoBulk d + 1
 end
def uptoSmall : (H : Type) → List (DataW H) → Bool := fun _ ds => decide (uptoBulkAll ds ≤ 1048576)
def OpenSpec.upto (s : _root_.Go.ChangeSpec) : _root_.Go.OpenSpec := { _root_.Go.OpenSpec.ofChange s with cond := some uptoSmall }

/-- 'damasklaw.PersPlays', WHERE WHAT IT READS IS OF BULK AT MOST 1048576: true; the input reads as it did. -/
def persPlaysUptoRow : OpenClaim := { program := "ytgfddolchachkaa", sum := "6ea6c1294bf2810025b973bb1ee5add35583bf3326d0bae1caeab0d11c5cae6f", func := "damask/damasklaw.PersPlays", spec := "persPlays", unfollowed := true, recurses := true, plainKeys := false, apart := false, narrowed := true }
def PersPlaysUptoSaid : Prop := persPlaysUptoRow.holds Try.pinned (OpenSpec.upto persPlaysSpec)

/-- 'damasklaw.PersShares', WHERE WHAT IT READS IS OF BULK AT MOST 1048576: true; the input reads as it did. -/
def persSharesUptoRow : OpenClaim := { program := "ytgfddolchachkaa", sum := "6ea6c1294bf2810025b973bb1ee5add35583bf3326d0bae1caeab0d11c5cae6f", func := "damask/damasklaw.PersShares", spec := "persShares", unfollowed := true, recurses := true, plainKeys := false, apart := false, narrowed := true }
def PersSharesUptoSaid : Prop := persSharesUptoRow.holds Try.pinned (OpenSpec.upto persSharesSpec)

/-- 'damasklaw.ParenTexts', WHERE WHAT IT READS IS OF BULK AT MOST 1048576: true; the input reads as it did. -/
def parenTextsUptoRow : OpenClaim := { program := "ytgfddolchachkaa", sum := "6ea6c1294bf2810025b973bb1ee5add35583bf3326d0bae1caeab0d11c5cae6f", func := "damask/damasklaw.ParenTexts", spec := "parenTexts", inPlace := ["internal/abi.NoEscape", "internal/bytealg.MakeNoZero"], plainKeys := false, apart := false, narrowed := true }
def ParenTextsUptoSaid : Prop := parenTextsUptoRow.holds Try.pinned (OpenSpec.upto parenTextsSpec)

/-- 'damasklaw.StabMosts', WHERE WHAT IT READS IS OF BULK AT MOST 1048576: true; the input reads as it did. -/
def stabMostsUptoRow : OpenClaim := { program := "ytgfddolchachkaa", sum := "6ea6c1294bf2810025b973bb1ee5add35583bf3326d0bae1caeab0d11c5cae6f", func := "damask/damasklaw.StabMosts", spec := "stabMosts", unfollowed := true, recurses := true, plainKeys := false, apart := false, narrowed := true }
def StabMostsUptoSaid : Prop := stabMostsUptoRow.holds Try.pinned (OpenSpec.upto stabMostsSpec)

/-- 'damasklaw.StabRefused', WHERE WHAT IT READS IS OF BULK AT MOST 1048576: true; the input reads as it did. -/
def stabRefusedUptoRow : OpenClaim := { program := "ytgfddolchachkaa", sum := "6ea6c1294bf2810025b973bb1ee5add35583bf3326d0bae1caeab0d11c5cae6f", func := "damask/damasklaw.StabRefused", spec := "stabRefused", unfollowed := true, recurses := true, plainKeys := false, apart := false, narrowed := true }
def StabRefusedUptoSaid : Prop := stabRefusedUptoRow.holds Try.pinned (OpenSpec.upto stabRefusedSpec)

/-- 'damasklaw.HullHulls', WHERE WHAT IT READS IS OF BULK AT MOST 1048576: true; the input reads as it did. -/
def hullHullsUptoRow : OpenClaim := { program := "ytgfddolchachkaa", sum := "6ea6c1294bf2810025b973bb1ee5add35583bf3326d0bae1caeab0d11c5cae6f", func := "damask/damasklaw.HullHulls", spec := "hullHulls", unfollowed := true, recurses := true, plainKeys := false, apart := false, narrowed := true }
def HullHullsUptoSaid : Prop := hullHullsUptoRow.holds Try.pinned (OpenSpec.upto hullHullsSpec)

/-- 'damasklaw.HullAreas', WHERE WHAT IT READS IS OF BULK AT MOST 1048576: true; the input reads as it did. -/
def hullAreasUptoRow : OpenClaim := { program := "ytgfddolchachkaa", sum := "6ea6c1294bf2810025b973bb1ee5add35583bf3326d0bae1caeab0d11c5cae6f", func := "damask/damasklaw.HullAreas", spec := "hullAreas", unfollowed := true, recurses := true, plainKeys := false, apart := false, narrowed := true }
def HullAreasUptoSaid : Prop := hullAreasUptoRow.holds Try.pinned (OpenSpec.upto hullAreasSpec)

/-- 'damasklaw.HullHas', WHERE WHAT IT READS IS OF BULK AT MOST 1048576: true; the input reads as it did. -/
def hullHasUptoRow : OpenClaim := { program := "ytgfddolchachkaa", sum := "6ea6c1294bf2810025b973bb1ee5add35583bf3326d0bae1caeab0d11c5cae6f", func := "damask/damasklaw.HullHas", spec := "hullHas", unfollowed := true, recurses := true, plainKeys := false, apart := false, narrowed := true }
def HullHasUptoSaid : Prop := hullHasUptoRow.holds Try.pinned (OpenSpec.upto hullHasSpec)

/-- 'damasklaw.HullInsides', WHERE WHAT IT READS IS OF BULK AT MOST 1048576: true; the input reads as it did. -/
def hullInsidesUptoRow : OpenClaim := { program := "ytgfddolchachkaa", sum := "6ea6c1294bf2810025b973bb1ee5add35583bf3326d0bae1caeab0d11c5cae6f", func := "damask/damasklaw.HullInsides", spec := "hullInsides", unfollowed := true, recurses := true, plainKeys := false, apart := false, narrowed := true }
def HullInsidesUptoSaid : Prop := hullInsidesUptoRow.holds Try.pinned (OpenSpec.upto hullInsidesSpec)

/-- 'damasklaw.KleeAreas', WHERE WHAT IT READS IS OF BULK AT MOST 1048576: true; the input reads as it did. -/
def kleeAreasUptoRow : OpenClaim := { program := "ytgfddolchachkaa", sum := "6ea6c1294bf2810025b973bb1ee5add35583bf3326d0bae1caeab0d11c5cae6f", func := "damask/damasklaw.KleeAreas", spec := "kleeAreas", unfollowed := true, recurses := true, plainKeys := false, apart := false, narrowed := true }
def KleeAreasUptoSaid : Prop := kleeAreasUptoRow.holds Try.pinned (OpenSpec.upto kleeAreasSpec)

/-- 'damasklaw.KleeDepths', WHERE WHAT IT READS IS OF BULK AT MOST 1048576: true; the input reads as it did. -/
def kleeDepthsUptoRow : OpenClaim := { program := "ytgfddolchachkaa", sum := "6ea6c1294bf2810025b973bb1ee5add35583bf3326d0bae1caeab0d11c5cae6f", func := "damask/damasklaw.KleeDepths", spec := "kleeDepths", unfollowed := true, recurses := true, plainKeys := false, apart := false, narrowed := true }
def KleeDepthsUptoSaid : Prop := kleeDepthsUptoRow.holds Try.pinned (OpenSpec.upto kleeDepthsSpec)

/-- 'damasklaw.LisRises', WHERE WHAT IT READS IS OF BULK AT MOST 1048576: true; the input reads as it did. -/
def lisRisesUptoRow : OpenClaim := { program := "ytgfddolchachkaa", sum := "6ea6c1294bf2810025b973bb1ee5add35583bf3326d0bae1caeab0d11c5cae6f", func := "damask/damasklaw.LisRises", spec := "lisRises", unfollowed := true, recurses := true, plainKeys := false, apart := false, narrowed := true }
def LisRisesUptoSaid : Prop := lisRisesUptoRow.holds Try.pinned (OpenSpec.upto lisRisesSpec)

end Rows
end Go.Proofs.Ytgfddolchachkaa
