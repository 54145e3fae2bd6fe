/-
  DERIVED. GIVEN WITH THE SEED: THE CARDS: each row of YtnkflafkalmnmaaDoorRows.lean that lists a variable, with what it lists TIED to the program's text (the seventh form; the later family's looks); each row that meets fmt, with fmt's text TOLD by the authors' own Lean function (tested against real Go, not proved from fmt's source: count such statements apart). THE CARD IS WHAT COUNTS. Prove the row's statement (the work); the ties are given (YtnkflafkalmnmaaDoorTie.lean); close each card by the builder's one call (the guide's Derived/Test/ToyasCard.lean, 'card_holds'). Laid BY PROGRAM, IN A SANDBOX (cutbox-door.mjs). By AI agents, Wed Nov 11 2026. No macro, syntax, notation, axiom, sorry.
-/
import Derived.Test.YtnkflafkalmnmaaDoorRows
import GoSem.ClaimSeven
namespace Go.Proofs.YtnkflafkalmnmaaDoor
namespace Rows

/-- THE TIED CARD OF 'damasklaw.SkyLayers'. -/
def skyLayersCard : Claim7 := { stood := { row := skyLayersRow, standIns := [], harness := (true, "987b48df120357b4b31112c45bb533a9ad72e3065978a49bfce5d616ebf677f2"), looks := false }, kinds := [], alts := [], laidByText := true, laidKinds := [.data], laidTests := true, laidLooks := .later }
def SkyLayersCardSaid : Prop := Claim7.holds Tryd.pinned (.plain (OpenSpec.ofChange skyLayersSpec)) skyLayersCard

/-- THE TIED CARD OF 'damasklaw.SkySkies'. -/
def skySkiesCard : Claim7 := { stood := { row := skySkiesRow, standIns := [], harness := (true, "987b48df120357b4b31112c45bb533a9ad72e3065978a49bfce5d616ebf677f2"), looks := false }, kinds := [], alts := [], laidByText := true, laidKinds := [.data], laidTests := true, laidLooks := .later }
def SkySkiesCardSaid : Prop := Claim7.holds Tryd.pinned (.plain (OpenSpec.ofChange skySkiesSpec)) skySkiesCard

/-- THE SECOND FORM's CARD OF 'damasklaw.SkyLayers'. -/
def skyLayersUptoCard : Claim7 := { stood := { row := skyLayersUptoRow, standIns := [], harness := (true, "987b48df120357b4b31112c45bb533a9ad72e3065978a49bfce5d616ebf677f2"), looks := false }, kinds := [], alts := [], laidByText := true, laidKinds := [.data], laidTests := true, laidLooks := .later }
def SkyLayersUptoCardSaid : Prop := Claim7.holds Tryd.pinned (.plain (OpenSpec.upto skyLayersSpec)) skyLayersUptoCard

/-- THE SECOND FORM's CARD OF 'damasklaw.SkySkies'. -/
def skySkiesUptoCard : Claim7 := { stood := { row := skySkiesUptoRow, standIns := [], harness := (true, "987b48df120357b4b31112c45bb533a9ad72e3065978a49bfce5d616ebf677f2"), looks := false }, kinds := [], alts := [], laidByText := true, laidKinds := [.data], laidTests := true, laidLooks := .later }
def SkySkiesUptoCardSaid : Prop := Claim7.holds Tryd.pinned (.plain (OpenSpec.upto skySkiesSpec)) skySkiesUptoCard
end Rows
end Go.Proofs.YtnkflafkalmnmaaDoor
