/-
  No cell of these rows narrows 'for every input' (looked for: loops, veiled, ifaces, maps, wideKeys, modest, calm, conditions, laid).
  DERIVED. THE GIVEN ROWS OF THIS SEAT. 3 by the template 'for every input the law returns true; each argument reads behind the call as it read before'; 0 by the template 'total and deterministic' (their statements: YthbopbbpogddlaaTotals.lean).
  GIVEN WITH THE SEED: the statements are not yours to turn. If you find one false, say at which input.
  Laid BY PROGRAM, IN A SANDBOX (cutbox-rows.mjs): the forced cells as the released guide's own fill.sh prints them over the translation b78008c3b5413b25… (all of the seat's roots in one cut). By AI agents, Wed Nov 11 2026. No macro, syntax, notation, axiom, sorry.
-/
import Derived.Test.YthbopbbpogddlaaChecked
import GoSem.Claim
import GoSem.ClaimJoined
import GoSem.ClaimMapViews
import Derived.JoinedTies
import Derived.KernelRfl
namespace Go.Proofs.Ythbopbbpogddlaa
/- THE CELL 'sum', in the pinned program and in every row, IS THE sha256 OF THE DUMP (.gsa) THAT YthbopbbpogddlaaProg.lean LOADS. Nothing in Lean hashes anything: it is a label: what it is worth is what the hold of that sum in a sandbox is worth. -/
noncomputable def Try.pinned : Pinned := { name := "ythbopbbpogddlaa", sum := "b78008c3b5413b255355e677bc7bb957593dcdd0df76232326bc34e6d622f525", checked := Try.checked }
namespace Rows
def none {H : Type} : Left H := { results := [], args := [] }

/-- 'damasklaw.GridReports': WHATEVER THE INPUT: true; the input reads as it did. -/
def gridReportsSpec : ChangeSpec := { name := "gridReports", fn := fun _ => fun
  | [d1, d2] => { results := [.lit (.bool true)], args := [d1, d2] }
  | _ => none }
def gridReportsRow : OpenClaim := { program := "ythbopbbpogddlaa", sum := "b78008c3b5413b255355e677bc7bb957593dcdd0df76232326bc34e6d622f525", func := "damask/damasklaw.GridReports", spec := "gridReports", inPlace := ["internal/reflectlite.ValueOf", "internal/reflectlite.Swapper", "(internal/reflectlite.Value).Len"], unfollowed := true, recurses := true, apart := false }
def GridReportsSaid : Prop := gridReportsRow.holds Try.pinned (OpenSpec.ofChange gridReportsSpec)

/-- ITS FALSE NEIGHBOUR: 'it returns false'. Refute it at one input. -/
def gridReportsWrong : ChangeSpec := { name := "gridReports", fn := fun _ => fun
  | [d1, d2] => { results := [.lit (.bool false)], args := [d1, d2] }
  | _ => none }
def GridReportsWrongFalsely : Prop := gridReportsRow.holds Try.pinned (OpenSpec.ofChange gridReportsWrong)

/-- 'damasklaw.SkyUnders': WHATEVER THE INPUT: true; the input reads as it did. -/
def skyUndersSpec : ChangeSpec := { name := "skyUnders", fn := fun _ => fun
  | [d1, d2] => { results := [.lit (.bool true)], args := [d1, d2] }
  | _ => none }
def skyUndersRow : OpenClaim := { program := "ythbopbbpogddlaa", sum := "b78008c3b5413b255355e677bc7bb957593dcdd0df76232326bc34e6d622f525", func := "damask/damasklaw.SkyUnders", spec := "skyUnders", unfollowed := true, recurses := true, apart := false }
def SkyUndersSaid : Prop := skyUndersRow.holds Try.pinned (OpenSpec.ofChange skyUndersSpec)

/-- ITS FALSE NEIGHBOUR: 'it returns false'. Refute it at one input. -/
def skyUndersWrong : ChangeSpec := { name := "skyUnders", fn := fun _ => fun
  | [d1, d2] => { results := [.lit (.bool false)], args := [d1, d2] }
  | _ => none }
def SkyUndersWrongFalsely : Prop := skyUndersRow.holds Try.pinned (OpenSpec.ofChange skyUndersWrong)

/-- 'damasklaw.NearNearests': WHATEVER THE INPUT: true; the input reads as it did. -/
def nearNearestsSpec : ChangeSpec := { name := "nearNearests", fn := fun _ => fun
  | [d1, d2, d3, d4] => { results := [.lit (.bool true)], args := [d1, d2, d3, d4] }
  | _ => none }
def nearNearestsRow : OpenClaim := { program := "ythbopbbpogddlaa", sum := "b78008c3b5413b255355e677bc7bb957593dcdd0df76232326bc34e6d622f525", func := "damask/damasklaw.NearNearests", spec := "nearNearests", inPlace := ["internal/reflectlite.ValueOf", "internal/reflectlite.Swapper", "(internal/reflectlite.Value).Len"], unfollowed := true, recurses := true, apart := false }
def NearNearestsSaid : Prop := nearNearestsRow.holds Try.pinned (OpenSpec.ofChange nearNearestsSpec)

/-- ITS FALSE NEIGHBOUR: 'it returns false'. Refute it at one input. -/
def nearNearestsWrong : ChangeSpec := { name := "nearNearests", fn := fun _ => fun
  | [d1, d2, d3, d4] => { results := [.lit (.bool false)], args := [d1, d2, d3, d4] }
  | _ => none }
def NearNearestsWrongFalsely : Prop := nearNearestsRow.holds Try.pinned (OpenSpec.ofChange nearNearestsWrong)

/- THE SECOND FORM. 'bulk': how many values and letters a reading holds, each counted each time it is reached (what is shared counts as often as it is met; a slice's spare places count too). A statement '..UptoSaid' is the law's where the arguments, and the package variables that the reading takes, are together of bulk at most 1048576: NARROWER than '..Said'. Prove '..Said' where nothing that the law and all that it calls make is longer than what came in: it says more and counts as full. Else prove '..UptoSaid'. A law counts once. -/
mutual
def uptoBulk {H : Type} : DataW H → Nat
  | .lit (.string bytes) => bytes.length + 1
  | .lit _ => 1
  | .nil => 1
  | .ptr d => uptoBulk d + 1
  | .slice elems spare => uptoBulkAll elems + uptoBulkAll spare + 1
  | .agg parts => uptoBulkAll parts + 1
  | .iface _ d => uptoBulk d + 1
  | .map entries => uptoBulkEntries entries + 1
  | .held _ => 1
def uptoBulkAll {H : Type} : List (DataW H) → Nat
  | [] => 0
  | d :: r => uptoBulk d + uptoBulkAll r
def uptoBulkEntries {H : Type} : List (Lit × DataW H) → Nat
  | [] => 0
  | x :: r => uptoBulkEntry x + uptoBulkEntries r
def uptoBulkEntry {H : Type} : Lit × DataW H → Nat
  | (.string bytes, d) => bytes.length + uptoBulk d + 1
  | (_, d) => uptoBulk d + 1
 end
def uptoSmall : (H : Type) → List (DataW H) → Bool := fun _ ds => decide (uptoBulkAll ds ≤ 1048576)
def OpenSpec.upto (s : _root_.Go.ChangeSpec) : _root_.Go.OpenSpec := { _root_.Go.OpenSpec.ofChange s with cond := some uptoSmall }

/-- 'damasklaw.GridReports', WHERE WHAT IT READS IS OF BULK AT MOST 1048576: true; the input reads as it did. -/
def gridReportsUptoRow : OpenClaim := { program := "ythbopbbpogddlaa", sum := "b78008c3b5413b255355e677bc7bb957593dcdd0df76232326bc34e6d622f525", func := "damask/damasklaw.GridReports", spec := "gridReports", inPlace := ["internal/reflectlite.ValueOf", "internal/reflectlite.Swapper", "(internal/reflectlite.Value).Len"], unfollowed := true, recurses := true, apart := false, narrowed := true }
def GridReportsUptoSaid : Prop := gridReportsUptoRow.holds Try.pinned (OpenSpec.upto gridReportsSpec)

/-- 'damasklaw.SkyUnders', WHERE WHAT IT READS IS OF BULK AT MOST 1048576: true; the input reads as it did. -/
def skyUndersUptoRow : OpenClaim := { program := "ythbopbbpogddlaa", sum := "b78008c3b5413b255355e677bc7bb957593dcdd0df76232326bc34e6d622f525", func := "damask/damasklaw.SkyUnders", spec := "skyUnders", unfollowed := true, recurses := true, apart := false, narrowed := true }
def SkyUndersUptoSaid : Prop := skyUndersUptoRow.holds Try.pinned (OpenSpec.upto skyUndersSpec)

/-- 'damasklaw.NearNearests', WHERE WHAT IT READS IS OF BULK AT MOST 1048576: true; the input reads as it did. -/
def nearNearestsUptoRow : OpenClaim := { program := "ythbopbbpogddlaa", sum := "b78008c3b5413b255355e677bc7bb957593dcdd0df76232326bc34e6d622f525", func := "damask/damasklaw.NearNearests", spec := "nearNearests", inPlace := ["internal/reflectlite.ValueOf", "internal/reflectlite.Swapper", "(internal/reflectlite.Value).Len"], unfollowed := true, recurses := true, apart := false, narrowed := true }
def NearNearestsUptoSaid : Prop := nearNearestsUptoRow.holds Try.pinned (OpenSpec.upto nearNearestsSpec)

end Rows
end Go.Proofs.Ythbopbbpogddlaa
