/-
  NARROWER THAN 'FOR EVERY INPUT', by the rows' own cells (each row's printed sentence says how): SkyLayers: laid · SkySkies: laid.
  DERIVED. THE GIVEN ROWS OF THIS SEAT. 2 by the template 'for every input the law returns true; each argument reads behind the call as it read before'; 0 by the template 'total and deterministic' (their statements: YtnkflafkalmnmaaDoorTotals.lean).
  GIVEN WITH THE SEED: the statements are not yours to turn. If you find one false, say at which input.
  Laid BY PROGRAM, IN A SANDBOX (cutbox-rows.mjs): the forced cells as the released guide's own fill.sh prints them over the translation 048eae7be8e9f87d… (all of the seat's roots in one cut). By AI agents, Wed Nov 11 2026. No macro, syntax, notation, axiom, sorry.
-/
import Derived.Test.YtnkflafkalmnmaaDoorChecked
import GoSem.Claim
import GoSem.ClaimJoined
import GoSem.ClaimMapViews
import Derived.JoinedTies
import Derived.KernelRfl
namespace Go.Proofs.YtnkflafkalmnmaaDoor
/- THE CELL 'sum', in the pinned program and in every row, IS THE sha256 OF THE DUMP (.gsa) THAT YtnkflafkalmnmaaDoorProg.lean LOADS. Nothing in Lean hashes anything: it is a label: what it is worth is what the hold of that sum in a sandbox is worth. -/
noncomputable def Tryd.pinned : Pinned := { name := "ytnkflafkalmnmaadoor", sum := "048eae7be8e9f87d51ba886bfb16cb052a01aa89739492fc4f6c1a6a221789dd", checked := Tryd.checked }
namespace Rows
def none {H : Type} : Left H := { results := [], args := [] }

/- WHAT THE LISTED PACKAGE-LEVEL VARIABLES READ AS WHEN THE CALL BEGINS. Each datum BY PROGRAM (the guide's laid-datum.mjs) off the statement by which the dump's own 'gosem.cut.vars' lays the variable. In a bare row this is a premise. The card (YtnkflafkalmnmaaDoorCards.lean) ties it to the program's text. -/
def laid_damask_damaskref_everywhere {H : Type} : DataW H := .agg [.lit (.int .i64 (-1048576)), .lit (.int .i64 (-1048576)), .lit (.int .i64 1048576), .lit (.int .i64 1048576)]

/-- 'damasklaw.SkyLayers': WHATEVER THE INPUT: true; the input reads as it did. -/
def skyLayersSpec : ChangeSpec := { name := "skyLayers", fn := fun _ => fun
  | [d] => { results := [.lit (.bool true)], args := [d] }
  | _ => none }
def skyLayersRow : OpenClaim := { program := "ytnkflafkalmnmaadoor", sum := "048eae7be8e9f87d51ba886bfb16cb052a01aa89739492fc4f6c1a6a221789dd", func := "damask/damasklaw.SkyLayers", spec := "skyLayers", inPlace := ["internal/reflectlite.ValueOf", "internal/reflectlite.Swapper", "(internal/reflectlite.Value).Len"], unfollowed := true, recurses := true, named := ["damask/damaskref.everywhere"], apart := false, laid := [("damask/damaskref.everywhere", laid_damask_damaskref_everywhere)] }
def SkyLayersSaid : Prop := skyLayersRow.holds Tryd.pinned (OpenSpec.ofChange skyLayersSpec)

/-- ITS FALSE NEIGHBOUR: 'it returns false'. Refute it at one input. -/
def skyLayersWrong : ChangeSpec := { name := "skyLayers", fn := fun _ => fun
  | [d] => { results := [.lit (.bool false)], args := [d] }
  | _ => none }
def SkyLayersWrongFalsely : Prop := skyLayersRow.holds Tryd.pinned (OpenSpec.ofChange skyLayersWrong)

/-- 'damasklaw.SkySkies': WHATEVER THE INPUT: true; the input reads as it did. -/
def skySkiesSpec : ChangeSpec := { name := "skySkies", fn := fun _ => fun
  | [d] => { results := [.lit (.bool true)], args := [d] }
  | _ => none }
def skySkiesRow : OpenClaim := { program := "ytnkflafkalmnmaadoor", sum := "048eae7be8e9f87d51ba886bfb16cb052a01aa89739492fc4f6c1a6a221789dd", func := "damask/damasklaw.SkySkies", spec := "skySkies", inPlace := ["internal/reflectlite.ValueOf", "internal/reflectlite.Swapper", "(internal/reflectlite.Value).Len"], unfollowed := true, recurses := true, named := ["damask/damaskref.everywhere"], apart := false, laid := [("damask/damaskref.everywhere", laid_damask_damaskref_everywhere)] }
def SkySkiesSaid : Prop := skySkiesRow.holds Tryd.pinned (OpenSpec.ofChange skySkiesSpec)

/-- ITS FALSE NEIGHBOUR: 'it returns false'. Refute it at one input. -/
def skySkiesWrong : ChangeSpec := { name := "skySkies", fn := fun _ => fun
  | [d] => { results := [.lit (.bool false)], args := [d] }
  | _ => none }
def SkySkiesWrongFalsely : Prop := skySkiesRow.holds Tryd.pinned (OpenSpec.ofChange skySkiesWrong)

/- THE SECOND FORM. 'bulk': how many values and letters a reading holds, each counted each time it is reached (what is shared counts as often as it is met; a slice's spare places count too). A statement '..UptoSaid' is the law's where the arguments, and the package variables that the reading takes, are together of bulk at most 1048576: NARROWER than '..Said'. Prove '..Said' where nothing that the law and all that it calls make is longer than what came in: it says more and counts as full. Else prove '..UptoSaid'. A law counts once. -/
mutual
def uptoBulk {H : Type} : DataW H → Nat
  | .lit (.string bytes) => bytes.length + 1
  | .lit _ => 1
  | .nil => 1
  | .ptr d => uptoBulk d + 1
  | .slice elems spare => uptoBulkAll elems + uptoBulkAll spare + 1
  | .agg parts => uptoBulkAll parts + 1
  | .iface _ d => uptoBulk d + 1
  | .map entries => uptoBulkEntries entries + 1
  | .held _ => 1
def uptoBulkAll {H : Type} : List (DataW H) → Nat
  | [] => 0
  | d :: r => uptoBulk d + uptoBulkAll r
def uptoBulkEntries {H : Type} : List (Lit × DataW H) → Nat
  | [] => 0
  | x :: r => uptoBulkEntry x + uptoBulkEntries r
def uptoBulkEntry {H : Type} : Lit × DataW H → Nat
  | (.string bytes, d) => bytes.length + uptoBulk d + 1
  | (_, d) => uptoBulk d + 1
 end
def uptoSmall : (H : Type) → List (DataW H) → Bool := fun _ ds => decide (uptoBulkAll ds ≤ 1048576)
def OpenSpec.upto (s : _root_.Go.ChangeSpec) : _root_.Go.OpenSpec := { _root_.Go.OpenSpec.ofChange s with cond := some uptoSmall }

/-- 'damasklaw.SkyLayers', WHERE WHAT IT READS IS OF BULK AT MOST 1048576: true; the input reads as it did. -/
def skyLayersUptoRow : OpenClaim := { program := "ytnkflafkalmnmaadoor", sum := "048eae7be8e9f87d51ba886bfb16cb052a01aa89739492fc4f6c1a6a221789dd", func := "damask/damasklaw.SkyLayers", spec := "skyLayers", inPlace := ["internal/reflectlite.ValueOf", "internal/reflectlite.Swapper", "(internal/reflectlite.Value).Len"], unfollowed := true, recurses := true, named := ["damask/damaskref.everywhere"], apart := false, laid := [("damask/damaskref.everywhere", laid_damask_damaskref_everywhere)], narrowed := true }
def SkyLayersUptoSaid : Prop := skyLayersUptoRow.holds Tryd.pinned (OpenSpec.upto skyLayersSpec)

/-- 'damasklaw.SkySkies', WHERE WHAT IT READS IS OF BULK AT MOST 1048576: true; the input reads as it did. -/
def skySkiesUptoRow : OpenClaim := { program := "ytnkflafkalmnmaadoor", sum := "048eae7be8e9f87d51ba886bfb16cb052a01aa89739492fc4f6c1a6a221789dd", func := "damask/damasklaw.SkySkies", spec := "skySkies", inPlace := ["internal/reflectlite.ValueOf", "internal/reflectlite.Swapper", "(internal/reflectlite.Value).Len"], unfollowed := true, recurses := true, named := ["damask/damaskref.everywhere"], apart := false, laid := [("damask/damaskref.everywhere", laid_damask_damaskref_everywhere)], narrowed := true }
def SkySkiesUptoSaid : Prop := skySkiesUptoRow.holds Tryd.pinned (OpenSpec.upto skySkiesSpec)

end Rows
end Go.Proofs.YtnkflafkalmnmaaDoor
