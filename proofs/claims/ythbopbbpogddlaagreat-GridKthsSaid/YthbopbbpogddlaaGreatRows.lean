/-
  No cell of these rows narrows 'for every input' (looked for: loops, veiled, ifaces, maps, wideKeys, modest, calm, conditions, laid).
  DERIVED. THE GIVEN ROWS OF THIS SEAT. 3 by the template 'for every input the law returns true; each argument reads behind the call as it read before'; 0 by the template 'total and deterministic' (their statements: YthbopbbpogddlaaGreatTotals.lean).
  GIVEN WITH THE SEED: the statements are not yours to turn. If you find one false, say at which input.
  Laid BY PROGRAM, IN A SANDBOX (cutbox-rows.mjs): the forced cells as the released guide's own fill.sh prints them over the translation a5f3f6b5598b4256… (all of the seat's roots in one cut). By AI agents, Wed Nov 11 2026. No macro, syntax, notation, axiom, sorry.
-/
import Derived.Test.YthbopbbpogddlaaGreatChecked
import GoSem.Claim
import GoSem.ClaimJoined
import GoSem.ClaimMapViews
import Derived.JoinedTies
import Derived.KernelRfl
namespace Go.Proofs.YthbopbbpogddlaaGreat
/- THE CELL 'sum', in the pinned program and in every row, IS THE sha256 OF THE DUMP (.gsa) THAT YthbopbbpogddlaaGreatProg.lean LOADS. Nothing in Lean hashes anything: it is a label: what it is worth is what the hold of that sum in a sandbox is worth. -/
noncomputable def Tryz.pinned : Pinned := { name := "ythbopbbpogddlaagreat", sum := "a5f3f6b5598b4256eefa85c57d16fedf7cb0e3a459a16c12596f492a967a38df", checked := Tryz.checked }
namespace Rows
def none {H : Type} : Left H := { results := [], args := [] }

/-- 'damasklaw.GridCounts': WHATEVER THE INPUT: true; the input reads as it did. -/
def gridCountsSpec : ChangeSpec := { name := "gridCounts", fn := fun _ => fun
  | [d1, d2] => { results := [.lit (.bool true)], args := [d1, d2] }
  | _ => none }
def gridCountsRow : OpenClaim := { program := "ythbopbbpogddlaagreat", sum := "a5f3f6b5598b4256eefa85c57d16fedf7cb0e3a459a16c12596f492a967a38df", func := "damask/damasklaw.GridCounts", spec := "gridCounts", inPlace := ["internal/reflectlite.ValueOf", "internal/reflectlite.Swapper", "(internal/reflectlite.Value).Len"], unfollowed := true, recurses := true, apart := false }
def GridCountsSaid : Prop := gridCountsRow.holds Tryz.pinned (OpenSpec.ofChange gridCountsSpec)

/-- ITS FALSE NEIGHBOUR: 'it returns false'. Refute it at one input. -/
def gridCountsWrong : ChangeSpec := { name := "gridCounts", fn := fun _ => fun
  | [d1, d2] => { results := [.lit (.bool false)], args := [d1, d2] }
  | _ => none }
def GridCountsWrongFalsely : Prop := gridCountsRow.holds Tryz.pinned (OpenSpec.ofChange gridCountsWrong)

/-- 'damasklaw.GridKths': WHATEVER THE INPUT: true; the input reads as it did. -/
def gridKthsSpec : ChangeSpec := { name := "gridKths", fn := fun _ => fun
  | [d1, d2, d3] => { results := [.lit (.bool true)], args := [d1, d2, d3] }
  | _ => none }
def gridKthsRow : OpenClaim := { program := "ythbopbbpogddlaagreat", sum := "a5f3f6b5598b4256eefa85c57d16fedf7cb0e3a459a16c12596f492a967a38df", func := "damask/damasklaw.GridKths", spec := "gridKths", inPlace := ["internal/reflectlite.ValueOf", "internal/reflectlite.Swapper", "(internal/reflectlite.Value).Len"], unfollowed := true, recurses := true, apart := false }
def GridKthsSaid : Prop := gridKthsRow.holds Tryz.pinned (OpenSpec.ofChange gridKthsSpec)

/-- ITS FALSE NEIGHBOUR: 'it returns false'. Refute it at one input. -/
def gridKthsWrong : ChangeSpec := { name := "gridKths", fn := fun _ => fun
  | [d1, d2, d3] => { results := [.lit (.bool false)], args := [d1, d2, d3] }
  | _ => none }
def GridKthsWrongFalsely : Prop := gridKthsRow.holds Tryz.pinned (OpenSpec.ofChange gridKthsWrong)

/-- 'damasklaw.GridTops': WHATEVER THE INPUT: true; the input reads as it did. -/
def gridTopsSpec : ChangeSpec := { name := "gridTops", fn := fun _ => fun
  | [d1, d2, d3] => { results := [.lit (.bool true)], args := [d1, d2, d3] }
  | _ => none }
def gridTopsRow : OpenClaim := { program := "ythbopbbpogddlaagreat", sum := "a5f3f6b5598b4256eefa85c57d16fedf7cb0e3a459a16c12596f492a967a38df", func := "damask/damasklaw.GridTops", spec := "gridTops", inPlace := ["internal/reflectlite.ValueOf", "internal/reflectlite.Swapper", "(internal/reflectlite.Value).Len"], unfollowed := true, recurses := true, apart := false }
def GridTopsSaid : Prop := gridTopsRow.holds Tryz.pinned (OpenSpec.ofChange gridTopsSpec)

/-- ITS FALSE NEIGHBOUR: 'it returns false'. Refute it at one input. -/
def gridTopsWrong : ChangeSpec := { name := "gridTops", fn := fun _ => fun
  | [d1, d2, d3] => { results := [.lit (.bool false)], args := [d1, d2, d3] }
  | _ => none }
def GridTopsWrongFalsely : Prop := gridTopsRow.holds Tryz.pinned (OpenSpec.ofChange gridTopsWrong)

/- THE SECOND FORM. 'bulk': how many values and letters a reading holds, each counted each time it is reached (what is shared counts as often as it is met; a slice's spare places count too). A statement '..UptoSaid' is the law's where the arguments, and the package variables that the reading takes, are together of bulk at most 1048576: NARROWER than '..Said'. Prove '..Said' where nothing that the law and all that it calls make is longer than what came in: it says more and counts as full. Else prove '..UptoSaid'. A law counts once. -/
mutual
def uptoBulk {H : Type} : DataW H → Nat
  | .lit (.string bytes) => bytes.length + 1
  | .lit _ => 1
  | .nil => 1
  | .ptr d => uptoBulk d + 1
  | .slice elems spare => uptoBulkAll elems + uptoBulkAll spare + 1
  | .agg parts => uptoBulkAll parts + 1
  | .iface _ d => uptoBulk d + 1
  | .map entries => uptoBulkEntries entries + 1
  | .held _ => 1
def uptoBulkAll {H : Type} : List (DataW H) → Nat
  | [] => 0
  | d :: r => uptoBulk d + uptoBulkAll r
def uptoBulkEntries {H : Type} : List (Lit × DataW H) → Nat
  | [] => 0
  | x :: r => uptoBulkEntry x + uptoBulkEntries r
def uptoBulkEntry {H : Type} : Lit × DataW H → Nat
  | (.string bytes, d) => bytes.length + uptoBulk d + 1
  | (_, d) => uptoBulk d + 1
 end
def uptoSmall : (H : Type) → List (DataW H) → Bool := fun _ ds => decide (uptoBulkAll ds ≤ 1048576)
def OpenSpec.upto (s : _root_.Go.ChangeSpec) : _root_.Go.OpenSpec := { _root_.Go.OpenSpec.ofChange s with cond := some uptoSmall }

/-- 'damasklaw.GridCounts', WHERE WHAT IT READS IS OF BULK AT MOST 1048576: true; the input reads as it did. -/
def gridCountsUptoRow : OpenClaim := { program := "ythbopbbpogddlaagreat", sum := "a5f3f6b5598b4256eefa85c57d16fedf7cb0e3a459a16c12596f492a967a38df", func := "damask/damasklaw.GridCounts", spec := "gridCounts", inPlace := ["internal/reflectlite.ValueOf", "internal/reflectlite.Swapper", "(internal/reflectlite.Value).Len"], unfollowed := true, recurses := true, apart := false, narrowed := true }
def GridCountsUptoSaid : Prop := gridCountsUptoRow.holds Tryz.pinned (OpenSpec.upto gridCountsSpec)

/-- 'damasklaw.GridKths', WHERE WHAT IT READS IS OF BULK AT MOST 1048576: true; the input reads as it did. -/
def gridKthsUptoRow : OpenClaim := { program := "ythbopbbpogddlaagreat", sum := "a5f3f6b5598b4256eefa85c57d16fedf7cb0e3a459a16c12596f492a967a38df", func := "damask/damasklaw.GridKths", spec := "gridKths", inPlace := ["internal/reflectlite.ValueOf", "internal/reflectlite.Swapper", "(internal/reflectlite.Value).Len"], unfollowed := true, recurses := true, apart := false, narrowed := true }
def GridKthsUptoSaid : Prop := gridKthsUptoRow.holds Tryz.pinned (OpenSpec.upto gridKthsSpec)

/-- 'damasklaw.GridTops', WHERE WHAT IT READS IS OF BULK AT MOST 1048576: true; the input reads as it did. -/
def gridTopsUptoRow : OpenClaim := { program := "ythbopbbpogddlaagreat", sum := "a5f3f6b5598b4256eefa85c57d16fedf7cb0e3a459a16c12596f492a967a38df", func := "damask/damasklaw.GridTops", spec := "gridTops", inPlace := ["internal/reflectlite.ValueOf", "internal/reflectlite.Swapper", "(internal/reflectlite.Value).Len"], unfollowed := true, recurses := true, apart := false, narrowed := true }
def GridTopsUptoSaid : Prop := gridTopsUptoRow.holds Tryz.pinned (OpenSpec.upto gridTopsSpec)

end Rows
end Go.Proofs.YthbopbbpogddlaaGreat
