/-
  DERIVED. GIVEN WITH THE SEED: THE CARDS: each row of YtlojecajonhmhaaDoorRows.lean that lists a variable, with what it lists TIED to the program's text (the seventh form; the later family's looks); each row that meets fmt, with fmt's text TOLD by the authors' own Lean function (tested against real Go, not proved from fmt's source: count such statements apart). THE CARD IS WHAT COUNTS. Prove the row's statement (the work); the ties are given (YtlojecajonhmhaaDoorTie.lean); close each card by the builder's one call (the guide's Derived/Test/ToyasCard.lean, 'card_holds'). Laid BY PROGRAM, IN A SANDBOX (cutbox-door.mjs). By AI agents, Wed Nov 11 2026. No macro, syntax, notation, axiom, sorry.
-/
import Derived.Test.YtlojecajonhmhaaDoorRows
import GoSem.ClaimSeven
namespace Go.Proofs.YtlojecajonhmhaaDoor
namespace Rows

/-- THE TIED CARD OF 'damasklaw.QueryChecks'. -/
def queryChecksCard : Claim7 := { stood := { row := queryChecksRow, standIns := [], harness := (true, "adeb39812cb95aff7522a9085e13f4105da52cba2f5ae17243212cddae3f9e3a"), looks := true }, kinds := [], alts := [], laidByText := true, laidKinds := [.data, .data, .data], laidTests := true, laidLooks := .later }
def QueryChecksCardSaid : Prop := Claim7.holds Tryd.pinned (.plain (OpenSpec.ofChange queryChecksSpec)) queryChecksCard

/-- THE TIED CARD OF 'damasklaw.QueryPrints'. -/
def queryPrintsCard : Claim7 := { stood := { row := queryPrintsRow, standIns := [], harness := (true, "adeb39812cb95aff7522a9085e13f4105da52cba2f5ae17243212cddae3f9e3a"), looks := true }, kinds := [], alts := [], laidByText := true, laidKinds := [.data, .data, .data], laidTests := true, laidLooks := .later }
def QueryPrintsCardSaid : Prop := Claim7.holds Tryd.pinned (.plain (OpenSpec.ofChange queryPrintsSpec)) queryPrintsCard

/-- THE TIED CARD OF 'damasklaw.SkySkies'. -/
def skySkiesCard : Claim7 := { stood := { row := skySkiesRow, standIns := [], harness := (true, "adeb39812cb95aff7522a9085e13f4105da52cba2f5ae17243212cddae3f9e3a"), looks := true }, kinds := [], alts := [], laidByText := true, laidKinds := [.data], laidTests := true, laidLooks := .later }
def SkySkiesCardSaid : Prop := Claim7.holds Tryd.pinned (.plain (OpenSpec.ofChange skySkiesSpec)) skySkiesCard

/-- THE TIED CARD OF 'damasklaw.QueryParses'. -/
def queryParsesCard : Claim7 := { stood := { row := queryParsesRow, standIns := [], harness := (true, "adeb39812cb95aff7522a9085e13f4105da52cba2f5ae17243212cddae3f9e3a"), looks := true }, kinds := [], alts := [], laidByText := true, laidKinds := [.data, .data, .data, .sentinel, .sentinel], laidTests := true, laidLooks := .later }
def QueryParsesCardSaid : Prop := Claim7.holds Tryd.pinned (.plain (OpenSpec.ofChange queryParsesSpec)) queryParsesCard

/-- THE SECOND FORM's CARD OF 'damasklaw.QueryChecks'. -/
def queryChecksUptoCard : Claim7 := { stood := { row := queryChecksUptoRow, standIns := [], harness := (true, "adeb39812cb95aff7522a9085e13f4105da52cba2f5ae17243212cddae3f9e3a"), looks := true }, kinds := [], alts := [], laidByText := true, laidKinds := [.data, .data, .data], laidTests := true, laidLooks := .later }
def QueryChecksUptoCardSaid : Prop := Claim7.holds Tryd.pinned (.plain (OpenSpec.upto queryChecksSpec)) queryChecksUptoCard

/-- THE SECOND FORM's CARD OF 'damasklaw.QueryPrints'. -/
def queryPrintsUptoCard : Claim7 := { stood := { row := queryPrintsUptoRow, standIns := [], harness := (true, "adeb39812cb95aff7522a9085e13f4105da52cba2f5ae17243212cddae3f9e3a"), looks := true }, kinds := [], alts := [], laidByText := true, laidKinds := [.data, .data, .data], laidTests := true, laidLooks := .later }
def QueryPrintsUptoCardSaid : Prop := Claim7.holds Tryd.pinned (.plain (OpenSpec.upto queryPrintsSpec)) queryPrintsUptoCard

/-- THE SECOND FORM's CARD OF 'damasklaw.SkySkies'. -/
def skySkiesUptoCard : Claim7 := { stood := { row := skySkiesUptoRow, standIns := [], harness := (true, "adeb39812cb95aff7522a9085e13f4105da52cba2f5ae17243212cddae3f9e3a"), looks := true }, kinds := [], alts := [], laidByText := true, laidKinds := [.data], laidTests := true, laidLooks := .later }
def SkySkiesUptoCardSaid : Prop := Claim7.holds Tryd.pinned (.plain (OpenSpec.upto skySkiesSpec)) skySkiesUptoCard

/-- THE SECOND FORM's CARD OF 'damasklaw.QueryParses'. -/
def queryParsesUptoCard : Claim7 := { stood := { row := queryParsesUptoRow, standIns := [], harness := (true, "adeb39812cb95aff7522a9085e13f4105da52cba2f5ae17243212cddae3f9e3a"), looks := true }, kinds := [], alts := [], laidByText := true, laidKinds := [.data, .data, .data, .sentinel, .sentinel], laidTests := true, laidLooks := .later }
def QueryParsesUptoCardSaid : Prop := Claim7.holds Tryd.pinned (.plain (OpenSpec.upto queryParsesSpec)) queryParsesUptoCard
end Rows
end Go.Proofs.YtlojecajonhmhaaDoor
