/-
  DERIVED. GIVEN WITH THE SEED: THE CARDS: each row of YtlojecajonhmhaaGreatDoorRows.lean that lists a variable, with what it lists TIED to the program's text (the seventh form; the later family's looks); each row that meets fmt, with fmt's text TOLD by the authors' own Lean function (tested against real Go, not proved from fmt's source: count such statements apart). THE CARD IS WHAT COUNTS. Prove the row's statement (the work); the ties are given (YtlojecajonhmhaaGreatDoorTie.lean); close each card by the builder's one call (the guide's Derived/Test/ToyasCard.lean, 'card_holds'). Laid BY PROGRAM, IN A SANDBOX (cutbox-door.mjs). By AI agents, Wed Nov 11 2026. No macro, syntax, notation, axiom, sorry.
-/
import Derived.Test.YtlojecajonhmhaaGreatDoorRows
import GoSem.ClaimSeven
namespace Go.Proofs.YtlojecajonhmhaaGreatDoor
namespace Rows

/-- THE TIED CARD OF 'damasklaw.QueryEvals'. -/
def queryEvalsCard : Claim7 := { stood := { row := queryEvalsRow, standIns := [], harness := (true, "180c7e0c8a445d4c1954c769f9445fad60811791835234d211746953c97eab2d"), looks := false }, kinds := [], alts := [], laidByText := true, laidKinds := [.data, .data, .data], laidTests := true, laidLooks := .later }
def QueryEvalsCardSaid : Prop := Claim7.holds Tryz.pinned (.plain (OpenSpec.ofChange queryEvalsSpec)) queryEvalsCard

/-- THE SECOND FORM's CARD OF 'damasklaw.QueryEvals'. -/
def queryEvalsUptoCard : Claim7 := { stood := { row := queryEvalsUptoRow, standIns := [], harness := (true, "180c7e0c8a445d4c1954c769f9445fad60811791835234d211746953c97eab2d"), looks := false }, kinds := [], alts := [], laidByText := true, laidKinds := [.data, .data, .data], laidTests := true, laidLooks := .later }
def QueryEvalsUptoCardSaid : Prop := Claim7.holds Tryz.pinned (.plain (OpenSpec.upto queryEvalsSpec)) queryEvalsUptoCard
end Rows
end Go.Proofs.YtlojecajonhmhaaGreatDoor
