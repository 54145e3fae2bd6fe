/-
  No cell of these rows narrows 'for every input' (looked for: loops, veiled, ifaces, maps, wideKeys, modest, calm, conditions, laid).
  DERIVED. THE GIVEN ROWS OF THIS SEAT. 4 by the template 'for every input the law returns true; each argument reads behind the call as it read before'; 0 by the template 'total and deterministic' (their statements: YthiccmncdmohbaaTotals.lean).
  GIVEN WITH THE SEED: the statements are not yours to turn. If you find one false, say at which input.
  Laid BY PROGRAM, IN A SANDBOX (cutbox-rows.mjs): the forced cells as the released guide's own fill.sh prints them over the translation 37ab9510790d34cf… (all of the seat's roots in one cut). By AI agents, Wed Nov 11 2026. No macro, syntax, notation, axiom, sorry.
-/
import Derived.Test.YthiccmncdmohbaaChecked
import GoSem.Claim
import GoSem.ClaimJoined
import GoSem.ClaimMapViews
import Derived.JoinedTies
import Derived.KernelRfl
namespace Go.Proofs.Ythiccmncdmohbaa
/- THE CELL 'sum', in the pinned program and in every row, IS THE sha256 OF THE DUMP (.gsa) THAT YthiccmncdmohbaaProg.lean LOADS. Nothing in Lean hashes anything: it is a label: what it is worth is what the hold of that sum in a sandbox is worth. -/
noncomputable def Try.pinned : Pinned := { name := "ythiccmncdmohbaa", sum := "37ab9510790d34cfb007802a01edaa7167b90ac3470dd022ea8a5c2fa407d389", checked := Try.checked }
namespace Rows
def none {H : Type} : Left H := { results := [], args := [] }

/-- 'damasklaw.PersPlays': WHATEVER THE INPUT: true; the input reads as it did. -/
def persPlaysSpec : ChangeSpec := { name := "persPlays", fn := fun _ => fun
  | [d1, d2] => { results := [.lit (.bool true)], args := [d1, d2] }
  | _ => none }
def persPlaysRow : OpenClaim := { program := "ythiccmncdmohbaa", sum := "37ab9510790d34cfb007802a01edaa7167b90ac3470dd022ea8a5c2fa407d389", func := "damask/damasklaw.PersPlays", spec := "persPlays", unfollowed := true, recurses := true, plainKeys := false, apart := false }
def PersPlaysSaid : Prop := persPlaysRow.holds Try.pinned (OpenSpec.ofChange persPlaysSpec)

/-- ITS FALSE NEIGHBOUR: 'it returns false'. Refute it at one input. -/
def persPlaysWrong : ChangeSpec := { name := "persPlays", fn := fun _ => fun
  | [d1, d2] => { results := [.lit (.bool false)], args := [d1, d2] }
  | _ => none }
def PersPlaysWrongFalsely : Prop := persPlaysRow.holds Try.pinned (OpenSpec.ofChange persPlaysWrong)

/-- 'damasklaw.PersShares': WHATEVER THE INPUT: true; the input reads as it did. -/
def persSharesSpec : ChangeSpec := { name := "persShares", fn := fun _ => fun
  | [d1, d2] => { results := [.lit (.bool true)], args := [d1, d2] }
  | _ => none }
def persSharesRow : OpenClaim := { program := "ythiccmncdmohbaa", sum := "37ab9510790d34cfb007802a01edaa7167b90ac3470dd022ea8a5c2fa407d389", func := "damask/damasklaw.PersShares", spec := "persShares", unfollowed := true, recurses := true, plainKeys := false, apart := false }
def PersSharesSaid : Prop := persSharesRow.holds Try.pinned (OpenSpec.ofChange persSharesSpec)

/-- ITS FALSE NEIGHBOUR: 'it returns false'. Refute it at one input. -/
def persSharesWrong : ChangeSpec := { name := "persShares", fn := fun _ => fun
  | [d1, d2] => { results := [.lit (.bool false)], args := [d1, d2] }
  | _ => none }
def PersSharesWrongFalsely : Prop := persSharesRow.holds Try.pinned (OpenSpec.ofChange persSharesWrong)

/-- 'damasklaw.HullInsides': WHATEVER THE INPUT: true; the input reads as it did. -/
def hullInsidesSpec : ChangeSpec := { name := "hullInsides", fn := fun _ => fun
  | [d] => { results := [.lit (.bool true)], args := [d] }
  | _ => none }
def hullInsidesRow : OpenClaim := { program := "ythiccmncdmohbaa", sum := "37ab9510790d34cfb007802a01edaa7167b90ac3470dd022ea8a5c2fa407d389", func := "damask/damasklaw.HullInsides", spec := "hullInsides", unfollowed := true, recurses := true, plainKeys := false, apart := false }
def HullInsidesSaid : Prop := hullInsidesRow.holds Try.pinned (OpenSpec.ofChange hullInsidesSpec)

/-- ITS FALSE NEIGHBOUR: 'it returns false'. Refute it at one input. -/
def hullInsidesWrong : ChangeSpec := { name := "hullInsides", fn := fun _ => fun
  | [d] => { results := [.lit (.bool false)], args := [d] }
  | _ => none }
def HullInsidesWrongFalsely : Prop := hullInsidesRow.holds Try.pinned (OpenSpec.ofChange hullInsidesWrong)

/-- 'damasklaw.NearNearests': WHATEVER THE INPUT: true; the input reads as it did. -/
def nearNearestsSpec : ChangeSpec := { name := "nearNearests", fn := fun _ => fun
  | [d1, d2, d3, d4] => { results := [.lit (.bool true)], args := [d1, d2, d3, d4] }
  | _ => none }
def nearNearestsRow : OpenClaim := { program := "ythiccmncdmohbaa", sum := "37ab9510790d34cfb007802a01edaa7167b90ac3470dd022ea8a5c2fa407d389", func := "damask/damasklaw.NearNearests", spec := "nearNearests", inPlace := ["internal/reflectlite.ValueOf", "internal/reflectlite.Swapper", "(internal/reflectlite.Value).Len"], unfollowed := true, recurses := true, plainKeys := false, apart := false }
def NearNearestsSaid : Prop := nearNearestsRow.holds Try.pinned (OpenSpec.ofChange nearNearestsSpec)

/-- ITS FALSE NEIGHBOUR: 'it returns false'. Refute it at one input. -/
def nearNearestsWrong : ChangeSpec := { name := "nearNearests", fn := fun _ => fun
  | [d1, d2, d3, d4] => { results := [.lit (.bool false)], args := [d1, d2, d3, d4] }
  | _ => none }
def NearNearestsWrongFalsely : Prop := nearNearestsRow.holds Try.pinned (OpenSpec.ofChange nearNearestsWrong)

/- THE SECOND FORM. 'bulk': how many values and letters a reading holds, each counted each time it is reached (what is shared counts as often as it is met; a slice's spare places count too). A statement '..UptoSaid' is the law's where the arguments, and the package variables that the reading takes, are together of bulk at most 1048576: NARROWER than '..Said'. Prove '..Said' where nothing that the law and all that it calls make is longer than what came in: it says more and counts as full. Else prove '..UptoSaid'. A law counts once. -/
mutual
def uptoBulk {H : Type} : DataW H → Nat
  | .lit (.string bytes) => bytes.length + 1
  | .lit _ => 1
  | .nil => 1
  | .ptr d => uptoBulk d + 1
  | .slice elems spare => uptoBulkAll elems + uptoBulkAll spare + 1
  | .agg parts => uptoBulkAll parts + 1
  | .iface _ d => uptoBulk d + 1
  | .map entries => uptoBulkEntries entries + 1
  | .held _ => 1
def uptoBulkAll {H : Type} : List (DataW H) → Nat
  | [] => 0
  | d :: r => uptoBulk d + uptoBulkAll r
def uptoBulkEntries {H : Type} : List (Lit × DataW H) → Nat
  | [] => 0
  | x :: r => uptoBulkEntry x + uptoBulkEntries r
def uptoBulkEntry {H : Type} : Lit × DataW H → Nat
  | (.string bytes, d) => bytes.length + uptoBulk d + 1
  | (_, d) => uptoBulk d + 1
 end
def uptoSmall : (H : Type) → List (DataW H) → Bool := fun _ ds => decide (uptoBulkAll ds ≤ 1048576)
def OpenSpec.upto (s : _root_.Go.ChangeSpec) : _root_.Go.OpenSpec := { _root_.Go.OpenSpec.ofChange s with cond := some uptoSmall }

/-- 'damasklaw.PersPlays', WHERE WHAT IT READS IS OF BULK AT MOST 1048576: true; the input reads as it did. -/
def persPlaysUptoRow : OpenClaim := { program := "ythiccmncdmohbaa", sum := "37ab9510790d34cfb007802a01edaa7167b90ac3470dd022ea8a5c2fa407d389", func := "damask/damasklaw.PersPlays", spec := "persPlays", unfollowed := true, recurses := true, plainKeys := false, apart := false, narrowed := true }
def PersPlaysUptoSaid : Prop := persPlaysUptoRow.holds Try.pinned (OpenSpec.upto persPlaysSpec)

/-- 'damasklaw.PersShares', WHERE WHAT IT READS IS OF BULK AT MOST 1048576: true; the input reads as it did. -/
def persSharesUptoRow : OpenClaim := { program := "ythiccmncdmohbaa", sum := "37ab9510790d34cfb007802a01edaa7167b90ac3470dd022ea8a5c2fa407d389", func := "damask/damasklaw.PersShares", spec := "persShares", unfollowed := true, recurses := true, plainKeys := false, apart := false, narrowed := true }
def PersSharesUptoSaid : Prop := persSharesUptoRow.holds Try.pinned (OpenSpec.upto persSharesSpec)

/-- 'damasklaw.HullInsides', WHERE WHAT IT READS IS OF BULK AT MOST 1048576: true; the input reads as it did. -/
def hullInsidesUptoRow : OpenClaim := { program := "ythiccmncdmohbaa", sum := "37ab9510790d34cfb007802a01edaa7167b90ac3470dd022ea8a5c2fa407d389", func := "damask/damasklaw.HullInsides", spec := "hullInsides", unfollowed := true, recurses := true, plainKeys := false, apart := false, narrowed := true }
def HullInsidesUptoSaid : Prop := hullInsidesUptoRow.holds Try.pinned (OpenSpec.upto hullInsidesSpec)

/-- 'damasklaw.NearNearests', WHERE WHAT IT READS IS OF BULK AT MOST 1048576: true; the input reads as it did. -/
def nearNearestsUptoRow : OpenClaim := { program := "ythiccmncdmohbaa", sum := "37ab9510790d34cfb007802a01edaa7167b90ac3470dd022ea8a5c2fa407d389", func := "damask/damasklaw.NearNearests", spec := "nearNearests", inPlace := ["internal/reflectlite.ValueOf", "internal/reflectlite.Swapper", "(internal/reflectlite.Value).Len"], unfollowed := true, recurses := true, plainKeys := false, apart := false, narrowed := true }
def NearNearestsUptoSaid : Prop := nearNearestsUptoRow.holds Try.pinned (OpenSpec.upto nearNearestsSpec)

end Rows
end Go.Proofs.Ythiccmncdmohbaa
