/-
  DERIVED. GIVEN WITH THE SEED: THE CARDS: each row of YtddlacjjanincaaDoorRows.lean that lists a variable, with what it lists TIED to the program's text (the seventh form; the later family's looks); each row that meets fmt, with fmt's text TOLD by the authors' own Lean function (tested against real Go, not proved from fmt's source: count such statements apart). THE CARD IS WHAT COUNTS. Prove the row's statement (the work); the ties are given (YtddlacjjanincaaDoorTie.lean); close each card by the builder's one call (the guide's Derived/Test/ToyasCard.lean, 'card_holds'). Laid BY PROGRAM, IN A SANDBOX (cutbox-door.mjs). By AI agents, Wed Nov 11 2026. No macro, syntax, notation, axiom, sorry.
-/
import Derived.Test.YtddlacjjanincaaDoorRows
import GoSem.ClaimSeven
namespace Go.Proofs.YtddlacjjanincaaDoor
namespace Rows

/-- THE TIED CARD OF 'skywaykeep1.AircraftReach'. -/
def aircraftReachCard : Claim7 := { stood := { row := aircraftReachRow, standIns := [], harness := (true, "5dce5dcba98ba92a6afee90f47916aa614be58de195b30479e8bf067400b1cbf"), looks := true }, kinds := [], alts := [], laidByText := true, laidKinds := [.data, .data, .data, .widerDeep], laidTests := true, laidLooks := .later }
def AircraftReachCardSaid : Prop := Claim7.holds Tryd.pinned (.plain (OpenSpec.ofChange aircraftReachSpec)) aircraftReachCard

/-- THE TIED CARD OF 'skywaykeep1.AircraftTexts'. -/
def aircraftTextsCard : Claim7 := { stood := { row := aircraftTextsRow, standIns := [], harness := (true, "5dce5dcba98ba92a6afee90f47916aa614be58de195b30479e8bf067400b1cbf"), looks := true }, kinds := [], alts := [], laidByText := true, laidKinds := [.data, .data, .data, .data, .sentinel, .sentinel, .widerDeep, .pinned], laidTests := true, laidLooks := .later }
def AircraftTextsCardSaid : Prop := Claim7.holds Tryd.pinned (.plain (OpenSpec.ofChange aircraftTextsSpec)) aircraftTextsCard

/-- THE TIED CARD OF 'skywaykeep1.PlantextPrints'. -/
def plantextPrintsCard : Claim7 := { stood := { row := plantextPrintsRow, standIns := [], harness := (true, "5dce5dcba98ba92a6afee90f47916aa614be58de195b30479e8bf067400b1cbf"), looks := true }, kinds := [], alts := [], laidByText := true, laidKinds := [.data, .data, .data, .data, .sentinel, .sentinel, .pinned], laidTests := true, laidLooks := .later }
def PlantextPrintsCardSaid : Prop := Claim7.holds Tryd.pinned (.plain (OpenSpec.ofChange plantextPrintsSpec)) plantextPrintsCard

/-- THE TIED CARD OF 'skywaykeep1.PlantextParses'. -/
def plantextParsesCard : Claim7 := { stood := { row := plantextParsesRow, standIns := [], harness := (true, "5dce5dcba98ba92a6afee90f47916aa614be58de195b30479e8bf067400b1cbf"), looks := true }, kinds := [], alts := [], laidByText := true, laidKinds := [.data, .data, .data, .data, .sentinel, .sentinel, .pinned], laidTests := true, laidLooks := .later }
def PlantextParsesCardSaid : Prop := Claim7.holds Tryd.pinned (.plain (OpenSpec.ofChange plantextParsesSpec)) plantextParsesCard

/-- THE TIED CARD OF 'skywaykeep1.PlantextAll'. -/
def plantextAllCard : Claim7 := { stood := { row := plantextAllRow, standIns := [], harness := (true, "5dce5dcba98ba92a6afee90f47916aa614be58de195b30479e8bf067400b1cbf"), looks := true }, kinds := [], alts := [], laidByText := true, laidKinds := [.data, .data, .data, .data, .sentinel, .sentinel, .pinned], laidTests := true, laidLooks := .later }
def PlantextAllCardSaid : Prop := Claim7.holds Tryd.pinned (.plain (OpenSpec.ofChange plantextAllSpec)) plantextAllCard

/-- THE TIED CARD OF 'skywaykeep1.PlantextLines'. -/
def plantextLinesCard : Claim7 := { stood := { row := plantextLinesRow, standIns := [], harness := (true, "5dce5dcba98ba92a6afee90f47916aa614be58de195b30479e8bf067400b1cbf"), looks := true }, kinds := [], alts := [], laidByText := true, laidKinds := [.data, .data, .data, .data, .sentinel, .sentinel, .pinned], laidTests := true, laidLooks := .later }
def PlantextLinesCardSaid : Prop := Claim7.holds Tryd.pinned (.plain (OpenSpec.ofChange plantextLinesSpec)) plantextLinesCard

/-- THE SECOND FORM's CARD OF 'skywaykeep1.AircraftReach'. -/
def aircraftReachUptoCard : Claim7 := { stood := { row := aircraftReachUptoRow, standIns := [], harness := (true, "5dce5dcba98ba92a6afee90f47916aa614be58de195b30479e8bf067400b1cbf"), looks := true }, kinds := [], alts := [], laidByText := true, laidKinds := [.data, .data, .data, .widerDeep], laidTests := true, laidLooks := .later }
def AircraftReachUptoCardSaid : Prop := Claim7.holds Tryd.pinned (.plain (OpenSpec.upto aircraftReachSpec)) aircraftReachUptoCard

/-- THE SECOND FORM's CARD OF 'skywaykeep1.AircraftTexts'. -/
def aircraftTextsUptoCard : Claim7 := { stood := { row := aircraftTextsUptoRow, standIns := [], harness := (true, "5dce5dcba98ba92a6afee90f47916aa614be58de195b30479e8bf067400b1cbf"), looks := true }, kinds := [], alts := [], laidByText := true, laidKinds := [.data, .data, .data, .data, .sentinel, .sentinel, .widerDeep, .pinned], laidTests := true, laidLooks := .later }
def AircraftTextsUptoCardSaid : Prop := Claim7.holds Tryd.pinned (.plain (OpenSpec.upto aircraftTextsSpec)) aircraftTextsUptoCard

/-- THE SECOND FORM's CARD OF 'skywaykeep1.PlantextPrints'. -/
def plantextPrintsUptoCard : Claim7 := { stood := { row := plantextPrintsUptoRow, standIns := [], harness := (true, "5dce5dcba98ba92a6afee90f47916aa614be58de195b30479e8bf067400b1cbf"), looks := true }, kinds := [], alts := [], laidByText := true, laidKinds := [.data, .data, .data, .data, .sentinel, .sentinel, .pinned], laidTests := true, laidLooks := .later }
def PlantextPrintsUptoCardSaid : Prop := Claim7.holds Tryd.pinned (.plain (OpenSpec.upto plantextPrintsSpec)) plantextPrintsUptoCard

/-- THE SECOND FORM's CARD OF 'skywaykeep1.PlantextParses'. -/
def plantextParsesUptoCard : Claim7 := { stood := { row := plantextParsesUptoRow, standIns := [], harness := (true, "5dce5dcba98ba92a6afee90f47916aa614be58de195b30479e8bf067400b1cbf"), looks := true }, kinds := [], alts := [], laidByText := true, laidKinds := [.data, .data, .data, .data, .sentinel, .sentinel, .pinned], laidTests := true, laidLooks := .later }
def PlantextParsesUptoCardSaid : Prop := Claim7.holds Tryd.pinned (.plain (OpenSpec.upto plantextParsesSpec)) plantextParsesUptoCard

/-- THE SECOND FORM's CARD OF 'skywaykeep1.PlantextAll'. -/
def plantextAllUptoCard : Claim7 := { stood := { row := plantextAllUptoRow, standIns := [], harness := (true, "5dce5dcba98ba92a6afee90f47916aa614be58de195b30479e8bf067400b1cbf"), looks := true }, kinds := [], alts := [], laidByText := true, laidKinds := [.data, .data, .data, .data, .sentinel, .sentinel, .pinned], laidTests := true, laidLooks := .later }
def PlantextAllUptoCardSaid : Prop := Claim7.holds Tryd.pinned (.plain (OpenSpec.upto plantextAllSpec)) plantextAllUptoCard

/-- THE SECOND FORM's CARD OF 'skywaykeep1.PlantextLines'. -/
def plantextLinesUptoCard : Claim7 := { stood := { row := plantextLinesUptoRow, standIns := [], harness := (true, "5dce5dcba98ba92a6afee90f47916aa614be58de195b30479e8bf067400b1cbf"), looks := true }, kinds := [], alts := [], laidByText := true, laidKinds := [.data, .data, .data, .data, .sentinel, .sentinel, .pinned], laidTests := true, laidLooks := .later }
def PlantextLinesUptoCardSaid : Prop := Claim7.holds Tryd.pinned (.plain (OpenSpec.upto plantextLinesSpec)) plantextLinesUptoCard
end Rows
end Go.Proofs.YtddlacjjanincaaDoor
