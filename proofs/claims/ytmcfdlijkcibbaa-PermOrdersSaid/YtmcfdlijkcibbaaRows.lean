/-
  No cell of these rows narrows 'for every input' (looked for: loops, veiled, ifaces, maps, wideKeys, modest, calm, conditions, laid).
  DERIVED. THE GIVEN ROWS OF THIS SEAT. 12 by the template 'for every input the law returns true; each argument reads behind the call as it read before'; 0 by the template 'total and deterministic' (their statements: YtmcfdlijkcibbaaTotals.lean).
  GIVEN WITH THE SEED: the statements are not yours to turn. If you find one false, say at which input.
  Laid BY PROGRAM, IN A SANDBOX (cutbox-rows.mjs): the forced cells as the released guide's own fill.sh prints them over the translation 943aedf2ab50ba3d… (all of the seat's roots in one cut). By AI agents, Wed Nov 11 2026. No macro, syntax, notation, axiom, sorry.
-/
import Derived.Test.YtmcfdlijkcibbaaChecked
import GoSem.Claim
import GoSem.ClaimJoined
import GoSem.ClaimMapViews
import Derived.JoinedTies
import Derived.KernelRfl
namespace Go.Proofs.Ytmcfdlijkcibbaa
/- THE CELL 'sum', in the pinned program and in every row, IS THE sha256 OF THE DUMP (.gsa) THAT YtmcfdlijkcibbaaProg.lean LOADS. Nothing in Lean hashes anything: it is a label: what it is worth is what the hold of that sum in a sandbox is worth. -/
noncomputable def Try.pinned : Pinned := { name := "ytmcfdlijkcibbaa", sum := "943aedf2ab50ba3d7945b98674797db36a4acf3c819f96797a031ed1d9e882e2", checked := Try.checked }
namespace Rows
def none {H : Type} : Left H := { results := [], args := [] }

/-- 'damasklaw.SktPlaces': WHATEVER THE INPUT: true; the input reads as it did. -/
def sktPlacesSpec : ChangeSpec := { name := "sktPlaces", fn := fun _ => fun
  | [d1, d2] => { results := [.lit (.bool true)], args := [d1, d2] }
  | _ => none }
def sktPlacesRow : OpenClaim := { program := "ytmcfdlijkcibbaa", sum := "943aedf2ab50ba3d7945b98674797db36a4acf3c819f96797a031ed1d9e882e2", func := "damask/damasklaw.SktPlaces", spec := "sktPlaces", apart := false }
def SktPlacesSaid : Prop := sktPlacesRow.holds Try.pinned (OpenSpec.ofChange sktPlacesSpec)

/-- ITS FALSE NEIGHBOUR: 'it returns false'. Refute it at one input. -/
def sktPlacesWrong : ChangeSpec := { name := "sktPlaces", fn := fun _ => fun
  | [d1, d2] => { results := [.lit (.bool false)], args := [d1, d2] }
  | _ => none }
def SktPlacesWrongFalsely : Prop := sktPlacesRow.holds Try.pinned (OpenSpec.ofChange sktPlacesWrong)

/-- 'damasklaw.MortonCodes': WHATEVER THE INPUT: true; the input reads as it did. -/
def mortonCodesSpec : ChangeSpec := { name := "mortonCodes", fn := fun _ => fun
  | [d1, d2] => { results := [.lit (.bool true)], args := [d1, d2] }
  | _ => none }
def mortonCodesRow : OpenClaim := { program := "ytmcfdlijkcibbaa", sum := "943aedf2ab50ba3d7945b98674797db36a4acf3c819f96797a031ed1d9e882e2", func := "damask/damasklaw.MortonCodes", spec := "mortonCodes", apart := false }
def MortonCodesSaid : Prop := mortonCodesRow.holds Try.pinned (OpenSpec.ofChange mortonCodesSpec)

/-- ITS FALSE NEIGHBOUR: 'it returns false'. Refute it at one input. -/
def mortonCodesWrong : ChangeSpec := { name := "mortonCodes", fn := fun _ => fun
  | [d1, d2] => { results := [.lit (.bool false)], args := [d1, d2] }
  | _ => none }
def MortonCodesWrongFalsely : Prop := mortonCodesRow.holds Try.pinned (OpenSpec.ofChange mortonCodesWrong)

/-- 'damasklaw.MortonBacks': WHATEVER THE INPUT: true; the input reads as it did. -/
def mortonBacksSpec : ChangeSpec := { name := "mortonBacks", fn := fun _ => fun
  | [d] => { results := [.lit (.bool true)], args := [d] }
  | _ => none }
def mortonBacksRow : OpenClaim := { program := "ytmcfdlijkcibbaa", sum := "943aedf2ab50ba3d7945b98674797db36a4acf3c819f96797a031ed1d9e882e2", func := "damask/damasklaw.MortonBacks", spec := "mortonBacks", apart := false }
def MortonBacksSaid : Prop := mortonBacksRow.holds Try.pinned (OpenSpec.ofChange mortonBacksSpec)

/-- ITS FALSE NEIGHBOUR: 'it returns false'. Refute it at one input. -/
def mortonBacksWrong : ChangeSpec := { name := "mortonBacks", fn := fun _ => fun
  | [d] => { results := [.lit (.bool false)], args := [d] }
  | _ => none }
def MortonBacksWrongFalsely : Prop := mortonBacksRow.holds Try.pinned (OpenSpec.ofChange mortonBacksWrong)

/-- 'damasklaw.ImageSums': WHATEVER THE INPUT: true; the input reads as it did. -/
def imageSumsSpec : ChangeSpec := { name := "imageSums", fn := fun _ => fun
  | [d] => { results := [.lit (.bool true)], args := [d] }
  | _ => none }
def imageSumsRow : OpenClaim := { program := "ytmcfdlijkcibbaa", sum := "943aedf2ab50ba3d7945b98674797db36a4acf3c819f96797a031ed1d9e882e2", func := "damask/damasklaw.ImageSums", spec := "imageSums", apart := false }
def ImageSumsSaid : Prop := imageSumsRow.holds Try.pinned (OpenSpec.ofChange imageSumsSpec)

/-- ITS FALSE NEIGHBOUR: 'it returns false'. Refute it at one input. -/
def imageSumsWrong : ChangeSpec := { name := "imageSums", fn := fun _ => fun
  | [d] => { results := [.lit (.bool false)], args := [d] }
  | _ => none }
def ImageSumsWrongFalsely : Prop := imageSumsRow.holds Try.pinned (OpenSpec.ofChange imageSumsWrong)

/-- 'damasklaw.GridChecks': WHATEVER THE INPUT: true; the input reads as it did. -/
def gridChecksSpec : ChangeSpec := { name := "gridChecks", fn := fun _ => fun
  | [d] => { results := [.lit (.bool true)], args := [d] }
  | _ => none }
def gridChecksRow : OpenClaim := { program := "ytmcfdlijkcibbaa", sum := "943aedf2ab50ba3d7945b98674797db36a4acf3c819f96797a031ed1d9e882e2", func := "damask/damasklaw.GridChecks", spec := "gridChecks", unfollowed := true, recurses := true, apart := false }
def GridChecksSaid : Prop := gridChecksRow.holds Try.pinned (OpenSpec.ofChange gridChecksSpec)

/-- ITS FALSE NEIGHBOUR: 'it returns false'. Refute it at one input. -/
def gridChecksWrong : ChangeSpec := { name := "gridChecks", fn := fun _ => fun
  | [d] => { results := [.lit (.bool false)], args := [d] }
  | _ => none }
def GridChecksWrongFalsely : Prop := gridChecksRow.holds Try.pinned (OpenSpec.ofChange gridChecksWrong)

/-- 'damasklaw.StabChecks': WHATEVER THE INPUT: true; the input reads as it did. -/
def stabChecksSpec : ChangeSpec := { name := "stabChecks", fn := fun _ => fun
  | [d] => { results := [.lit (.bool true)], args := [d] }
  | _ => none }
def stabChecksRow : OpenClaim := { program := "ytmcfdlijkcibbaa", sum := "943aedf2ab50ba3d7945b98674797db36a4acf3c819f96797a031ed1d9e882e2", func := "damask/damasklaw.StabChecks", spec := "stabChecks", unfollowed := true, recurses := true, apart := false }
def StabChecksSaid : Prop := stabChecksRow.holds Try.pinned (OpenSpec.ofChange stabChecksSpec)

/-- ITS FALSE NEIGHBOUR: 'it returns false'. Refute it at one input. -/
def stabChecksWrong : ChangeSpec := { name := "stabChecks", fn := fun _ => fun
  | [d] => { results := [.lit (.bool false)], args := [d] }
  | _ => none }
def StabChecksWrongFalsely : Prop := stabChecksRow.holds Try.pinned (OpenSpec.ofChange stabChecksWrong)

/-- 'damasklaw.KleeChecks': WHATEVER THE INPUT: true; the input reads as it did. -/
def kleeChecksSpec : ChangeSpec := { name := "kleeChecks", fn := fun _ => fun
  | [d] => { results := [.lit (.bool true)], args := [d] }
  | _ => none }
def kleeChecksRow : OpenClaim := { program := "ytmcfdlijkcibbaa", sum := "943aedf2ab50ba3d7945b98674797db36a4acf3c819f96797a031ed1d9e882e2", func := "damask/damasklaw.KleeChecks", spec := "kleeChecks", unfollowed := true, recurses := true, apart := false }
def KleeChecksSaid : Prop := kleeChecksRow.holds Try.pinned (OpenSpec.ofChange kleeChecksSpec)

/-- ITS FALSE NEIGHBOUR: 'it returns false'. Refute it at one input. -/
def kleeChecksWrong : ChangeSpec := { name := "kleeChecks", fn := fun _ => fun
  | [d] => { results := [.lit (.bool false)], args := [d] }
  | _ => none }
def KleeChecksWrongFalsely : Prop := kleeChecksRow.holds Try.pinned (OpenSpec.ofChange kleeChecksWrong)

/-- 'damasklaw.PermOrders': WHATEVER THE INPUT: true; the input reads as it did. -/
def permOrdersSpec : ChangeSpec := { name := "permOrders", fn := fun _ => fun
  | [d1, d2] => { results := [.lit (.bool true)], args := [d1, d2] }
  | _ => none }
def permOrdersRow : OpenClaim := { program := "ytmcfdlijkcibbaa", sum := "943aedf2ab50ba3d7945b98674797db36a4acf3c819f96797a031ed1d9e882e2", func := "damask/damasklaw.PermOrders", spec := "permOrders", recurses := true, apart := false }
def PermOrdersSaid : Prop := permOrdersRow.holds Try.pinned (OpenSpec.ofChange permOrdersSpec)

/-- ITS FALSE NEIGHBOUR: 'it returns false'. Refute it at one input. -/
def permOrdersWrong : ChangeSpec := { name := "permOrders", fn := fun _ => fun
  | [d1, d2] => { results := [.lit (.bool false)], args := [d1, d2] }
  | _ => none }
def PermOrdersWrongFalsely : Prop := permOrdersRow.holds Try.pinned (OpenSpec.ofChange permOrdersWrong)

/-- 'damasklaw.RanksFinds': WHATEVER THE INPUT: true; the input reads as it did. -/
def ranksFindsSpec : ChangeSpec := { name := "ranksFinds", fn := fun _ => fun
  | [d1, d2] => { results := [.lit (.bool true)], args := [d1, d2] }
  | _ => none }
def ranksFindsRow : OpenClaim := { program := "ytmcfdlijkcibbaa", sum := "943aedf2ab50ba3d7945b98674797db36a4acf3c819f96797a031ed1d9e882e2", func := "damask/damasklaw.RanksFinds", spec := "ranksFinds", unfollowed := true, recurses := true, apart := false }
def RanksFindsSaid : Prop := ranksFindsRow.holds Try.pinned (OpenSpec.ofChange ranksFindsSpec)

/-- ITS FALSE NEIGHBOUR: 'it returns false'. Refute it at one input. -/
def ranksFindsWrong : ChangeSpec := { name := "ranksFinds", fn := fun _ => fun
  | [d1, d2] => { results := [.lit (.bool false)], args := [d1, d2] }
  | _ => none }
def RanksFindsWrongFalsely : Prop := ranksFindsRow.holds Try.pinned (OpenSpec.ofChange ranksFindsWrong)

/-- 'damasklaw.StabStabs': WHATEVER THE INPUT: true; the input reads as it did. -/
def stabStabsSpec : ChangeSpec := { name := "stabStabs", fn := fun _ => fun
  | [d1, d2] => { results := [.lit (.bool true)], args := [d1, d2] }
  | _ => none }
def stabStabsRow : OpenClaim := { program := "ytmcfdlijkcibbaa", sum := "943aedf2ab50ba3d7945b98674797db36a4acf3c819f96797a031ed1d9e882e2", func := "damask/damasklaw.StabStabs", spec := "stabStabs", unfollowed := true, recurses := true, apart := false }
def StabStabsSaid : Prop := stabStabsRow.holds Try.pinned (OpenSpec.ofChange stabStabsSpec)

/-- ITS FALSE NEIGHBOUR: 'it returns false'. Refute it at one input. -/
def stabStabsWrong : ChangeSpec := { name := "stabStabs", fn := fun _ => fun
  | [d1, d2] => { results := [.lit (.bool false)], args := [d1, d2] }
  | _ => none }
def StabStabsWrongFalsely : Prop := stabStabsRow.holds Try.pinned (OpenSpec.ofChange stabStabsWrong)

/-- 'damasklaw.KleeCrosses': WHATEVER THE INPUT: true; the input reads as it did. -/
def kleeCrossesSpec : ChangeSpec := { name := "kleeCrosses", fn := fun _ => fun
  | [d] => { results := [.lit (.bool true)], args := [d] }
  | _ => none }
def kleeCrossesRow : OpenClaim := { program := "ytmcfdlijkcibbaa", sum := "943aedf2ab50ba3d7945b98674797db36a4acf3c819f96797a031ed1d9e882e2", func := "damask/damasklaw.KleeCrosses", spec := "kleeCrosses", unfollowed := true, recurses := true, apart := false }
def KleeCrossesSaid : Prop := kleeCrossesRow.holds Try.pinned (OpenSpec.ofChange kleeCrossesSpec)

/-- ITS FALSE NEIGHBOUR: 'it returns false'. Refute it at one input. -/
def kleeCrossesWrong : ChangeSpec := { name := "kleeCrosses", fn := fun _ => fun
  | [d] => { results := [.lit (.bool false)], args := [d] }
  | _ => none }
def KleeCrossesWrongFalsely : Prop := kleeCrossesRow.holds Try.pinned (OpenSpec.ofChange kleeCrossesWrong)

/-- 'damasklaw.HullFars': WHATEVER THE INPUT: true; the input reads as it did. -/
def hullFarsSpec : ChangeSpec := { name := "hullFars", fn := fun _ => fun
  | [d1, d2, d3] => { results := [.lit (.bool true)], args := [d1, d2, d3] }
  | _ => none }
def hullFarsRow : OpenClaim := { program := "ytmcfdlijkcibbaa", sum := "943aedf2ab50ba3d7945b98674797db36a4acf3c819f96797a031ed1d9e882e2", func := "damask/damasklaw.HullFars", spec := "hullFars", unfollowed := true, recurses := true, apart := false }
def HullFarsSaid : Prop := hullFarsRow.holds Try.pinned (OpenSpec.ofChange hullFarsSpec)

/-- ITS FALSE NEIGHBOUR: 'it returns false'. Refute it at one input. -/
def hullFarsWrong : ChangeSpec := { name := "hullFars", fn := fun _ => fun
  | [d1, d2, d3] => { results := [.lit (.bool false)], args := [d1, d2, d3] }
  | _ => none }
def HullFarsWrongFalsely : Prop := hullFarsRow.holds Try.pinned (OpenSpec.ofChange hullFarsWrong)

/- THE SECOND FORM. 'bulk': how many values and letters a reading holds, each counted each time it is reached (what is shared counts as often as it is met; a slice's spare places count too). A statement '..UptoSaid' is the law's where the arguments, and the package variables that the reading takes, are together of bulk at most 1048576: NARROWER than '..Said'. Prove '..Said' where nothing that the law and all that it calls make is longer than what came in: it says more and counts as full. Else prove '..UptoSaid'. A law counts once. -/
mutual
def uptoBulk {H : Type} : DataW H → Nat
  | .lit (.string bytes) => bytes.length + 1
  | .lit _ => 1
  | .nil => 1
  | .ptr d => uptoBulk d + 1
  | .slice elems spare => uptoBulkAll elems + uptoBulkAll spare + 1
  | .agg parts => uptoBulkAll parts + 1
  | .iface _ d => uptoBulk d + 1
  | .map entries => uptoBulkEntries entries + 1
  | .held _ => 1
def uptoBulkAll {H : Type} : List (DataW H) → Nat
  | [] => 0
  | d :: r => uptoBulk d + uptoBulkAll r
def uptoBulkEntries {H : Type} : List (Lit × DataW H) → Nat
  | [] => 0
  | x :: r => uptoBulkEntry x + uptoBulkEntries r
def uptoBulkEntry {H : Type} : Lit × DataW H → Nat
  | (.string bytes, d) => bytes.length + uptoBulk d + 1
  | (_, d) => uptoBulk d + 1
 end
def uptoSmall : (H : Type) → List (DataW H) → Bool := fun _ ds => decide (uptoBulkAll ds ≤ 1048576)
def OpenSpec.upto (s : _root_.Go.ChangeSpec) : _root_.Go.OpenSpec := { _root_.Go.OpenSpec.ofChange s with cond := some uptoSmall }

/-- 'damasklaw.SktPlaces', WHERE WHAT IT READS IS OF BULK AT MOST 1048576: true; the input reads as it did. -/
def sktPlacesUptoRow : OpenClaim := { program := "ytmcfdlijkcibbaa", sum := "943aedf2ab50ba3d7945b98674797db36a4acf3c819f96797a031ed1d9e882e2", func := "damask/damasklaw.SktPlaces", spec := "sktPlaces", apart := false, narrowed := true }
def SktPlacesUptoSaid : Prop := sktPlacesUptoRow.holds Try.pinned (OpenSpec.upto sktPlacesSpec)

/-- 'damasklaw.MortonCodes', WHERE WHAT IT READS IS OF BULK AT MOST 1048576: true; the input reads as it did. -/
def mortonCodesUptoRow : OpenClaim := { program := "ytmcfdlijkcibbaa", sum := "943aedf2ab50ba3d7945b98674797db36a4acf3c819f96797a031ed1d9e882e2", func := "damask/damasklaw.MortonCodes", spec := "mortonCodes", apart := false, narrowed := true }
def MortonCodesUptoSaid : Prop := mortonCodesUptoRow.holds Try.pinned (OpenSpec.upto mortonCodesSpec)

/-- 'damasklaw.MortonBacks', WHERE WHAT IT READS IS OF BULK AT MOST 1048576: true; the input reads as it did. -/
def mortonBacksUptoRow : OpenClaim := { program := "ytmcfdlijkcibbaa", sum := "943aedf2ab50ba3d7945b98674797db36a4acf3c819f96797a031ed1d9e882e2", func := "damask/damasklaw.MortonBacks", spec := "mortonBacks", apart := false, narrowed := true }
def MortonBacksUptoSaid : Prop := mortonBacksUptoRow.holds Try.pinned (OpenSpec.upto mortonBacksSpec)

/-- 'damasklaw.ImageSums', WHERE WHAT IT READS IS OF BULK AT MOST 1048576: true; the input reads as it did. -/
def imageSumsUptoRow : OpenClaim := { program := "ytmcfdlijkcibbaa", sum := "943aedf2ab50ba3d7945b98674797db36a4acf3c819f96797a031ed1d9e882e2", func := "damask/damasklaw.ImageSums", spec := "imageSums", apart := false, narrowed := true }
def ImageSumsUptoSaid : Prop := imageSumsUptoRow.holds Try.pinned (OpenSpec.upto imageSumsSpec)

/-- 'damasklaw.GridChecks', WHERE WHAT IT READS IS OF BULK AT MOST 1048576: true; the input reads as it did. -/
def gridChecksUptoRow : OpenClaim := { program := "ytmcfdlijkcibbaa", sum := "943aedf2ab50ba3d7945b98674797db36a4acf3c819f96797a031ed1d9e882e2", func := "damask/damasklaw.GridChecks", spec := "gridChecks", unfollowed := true, recurses := true, apart := false, narrowed := true }
def GridChecksUptoSaid : Prop := gridChecksUptoRow.holds Try.pinned (OpenSpec.upto gridChecksSpec)

/-- 'damasklaw.StabChecks', WHERE WHAT IT READS IS OF BULK AT MOST 1048576: true; the input reads as it did. -/
def stabChecksUptoRow : OpenClaim := { program := "ytmcfdlijkcibbaa", sum := "943aedf2ab50ba3d7945b98674797db36a4acf3c819f96797a031ed1d9e882e2", func := "damask/damasklaw.StabChecks", spec := "stabChecks", unfollowed := true, recurses := true, apart := false, narrowed := true }
def StabChecksUptoSaid : Prop := stabChecksUptoRow.holds Try.pinned (OpenSpec.upto stabChecksSpec)

/-- 'damasklaw.KleeChecks', WHERE WHAT IT READS IS OF BULK AT MOST 1048576: true; the input reads as it did. -/
def kleeChecksUptoRow : OpenClaim := { program := "ytmcfdlijkcibbaa", sum := "943aedf2ab50ba3d7945b98674797db36a4acf3c819f96797a031ed1d9e882e2", func := "damask/damasklaw.KleeChecks", spec := "kleeChecks", unfollowed := true, recurses := true, apart := false, narrowed := true }
def KleeChecksUptoSaid : Prop := kleeChecksUptoRow.holds Try.pinned (OpenSpec.upto kleeChecksSpec)

/-- 'damasklaw.PermOrders', WHERE WHAT IT READS IS OF BULK AT MOST 1048576: true; the input reads as it did. -/
def permOrdersUptoRow : OpenClaim := { program := "ytmcfdlijkcibbaa", sum := "943aedf2ab50ba3d7945b98674797db36a4acf3c819f96797a031ed1d9e882e2", func := "damask/damasklaw.PermOrders", spec := "permOrders", recurses := true, apart := false, narrowed := true }
def PermOrdersUptoSaid : Prop := permOrdersUptoRow.holds Try.pinned (OpenSpec.upto permOrdersSpec)

/-- 'damasklaw.RanksFinds', WHERE WHAT IT READS IS OF BULK AT MOST 1048576: true; the input reads as it did. -/
def ranksFindsUptoRow : OpenClaim := { program := "ytmcfdlijkcibbaa", sum := "943aedf2ab50ba3d7945b98674797db36a4acf3c819f96797a031ed1d9e882e2", func := "damask/damasklaw.RanksFinds", spec := "ranksFinds", unfollowed := true, recurses := true, apart := false, narrowed := true }
def RanksFindsUptoSaid : Prop := ranksFindsUptoRow.holds Try.pinned (OpenSpec.upto ranksFindsSpec)

/-- 'damasklaw.StabStabs', WHERE WHAT IT READS IS OF BULK AT MOST 1048576: true; the input reads as it did. -/
def stabStabsUptoRow : OpenClaim := { program := "ytmcfdlijkcibbaa", sum := "943aedf2ab50ba3d7945b98674797db36a4acf3c819f96797a031ed1d9e882e2", func := "damask/damasklaw.StabStabs", spec := "stabStabs", unfollowed := true, recurses := true, apart := false, narrowed := true }
def StabStabsUptoSaid : Prop := stabStabsUptoRow.holds Try.pinned (OpenSpec.upto stabStabsSpec)

/-- 'damasklaw.KleeCrosses', WHERE WHAT IT READS IS OF BULK AT MOST 1048576: true; the input reads as it did. -/
def kleeCrossesUptoRow : OpenClaim := { program := "ytmcfdlijkcibbaa", sum := "943aedf2ab50ba3d7945b98674797db36a4acf3c819f96797a031ed1d9e882e2", func := "damask/damasklaw.KleeCrosses", spec := "kleeCrosses", unfollowed := true, recurses := true, apart := false, narrowed := true }
def KleeCrossesUptoSaid : Prop := kleeCrossesUptoRow.holds Try.pinned (OpenSpec.upto kleeCrossesSpec)

/-- 'damasklaw.HullFars', WHERE WHAT IT READS IS OF BULK AT MOST 1048576: true; the input reads as it did. -/
def hullFarsUptoRow : OpenClaim := { program := "ytmcfdlijkcibbaa", sum := "943aedf2ab50ba3d7945b98674797db36a4acf3c819f96797a031ed1d9e882e2", func := "damask/damasklaw.HullFars", spec := "hullFars", unfollowed := true, recurses := true, apart := false, narrowed := true }
def HullFarsUptoSaid : Prop := hullFarsUptoRow.holds Try.pinned (OpenSpec.upto hullFarsSpec)

end Rows
end Go.Proofs.Ytmcfdlijkcibbaa
