/-
  DERIVED. GIVEN WITH THE SEED: THE CARDS: each row of YteieagihdflapaaGreatDoorRows.lean that lists a variable, with what it lists TIED to the program's text (the seventh form; the later family's looks); each row that meets fmt, with fmt's text TOLD by the authors' own Lean function (tested against real Go, not proved from fmt's source: count such statements apart). THE CARD IS WHAT COUNTS. Prove the row's statement (the work); the ties are given (YteieagihdflapaaGreatDoorTie.lean); close each card by the builder's one call (the guide's Derived/Test/ToyasCard.lean, 'card_holds'). Laid BY PROGRAM, IN A SANDBOX (cutbox-door.mjs). By AI agents, Wed Nov 11 2026. No macro, syntax, notation, axiom, sorry.
-/
import Derived.Test.YteieagihdflapaaGreatDoorRows
import GoSem.ClaimSeven
namespace Go.Proofs.YteieagihdflapaaGreatDoor
namespace Rows

/-- THE TIED CARD OF 'skywaytop.TopWidening'. -/
def topWideningCard : Claim7 := { stood := { row := topWideningRow, standIns := [], harness := (true, "5d56dae4b2a688e5e654a1984c708b89ba408b22c31bf1e299093b9bc00c5a55"), looks := true }, kinds := [], alts := [], laidByText := true, laidKinds := [.data, .data, .data], laidTests := true, laidLooks := .later }
def TopWideningCardSaid : Prop := Claim7.holds Tryz.pinned (.plain (OpenSpec.ofChange topWideningSpec)) topWideningCard

/-- THE TIED CARD OF 'skywaytop.TopClosed'. -/
def topClosedCard : Claim7 := { stood := { row := topClosedRow, standIns := [], harness := (true, "5d56dae4b2a688e5e654a1984c708b89ba408b22c31bf1e299093b9bc00c5a55"), looks := true }, kinds := [], alts := [], laidByText := true, laidKinds := [.data, .data, .data], laidTests := true, laidLooks := .later }
def TopClosedCardSaid : Prop := Claim7.holds Tryz.pinned (.plain (OpenSpec.ofChange topClosedSpec)) topClosedCard

/-- THE TIED CARD OF 'skywaytop.TopProbeNeverMisses'. -/
def topProbeNeverMissesCard : Claim7 := { stood := { row := topProbeNeverMissesRow, standIns := [], harness := (true, "5d56dae4b2a688e5e654a1984c708b89ba408b22c31bf1e299093b9bc00c5a55"), looks := true }, kinds := [], alts := [], laidByText := true, laidKinds := [.data, .data, .data], laidTests := true, laidLooks := .later }
def TopProbeNeverMissesCardSaid : Prop := Claim7.holds Tryz.pinned (.plain (OpenSpec.ofChange topProbeNeverMissesSpec)) topProbeNeverMissesCard

/-- THE TIED CARD OF 'skywaytop.TopShift'. -/
def topShiftCard : Claim7 := { stood := { row := topShiftRow, standIns := [], harness := (true, "5d56dae4b2a688e5e654a1984c708b89ba408b22c31bf1e299093b9bc00c5a55"), looks := true }, kinds := [], alts := [], laidByText := true, laidKinds := [.data, .data, .data], laidTests := true, laidLooks := .later }
def TopShiftCardSaid : Prop := Claim7.holds Tryz.pinned (.plain (OpenSpec.ofChange topShiftSpec)) topShiftCard

/-- THE TIED CARD OF 'skywaytop.TopRoute'. -/
def topRouteCard : Claim7 := { stood := { row := topRouteRow, standIns := [], harness := (true, "5d56dae4b2a688e5e654a1984c708b89ba408b22c31bf1e299093b9bc00c5a55"), looks := true }, kinds := [], alts := [], laidByText := true, laidKinds := [.data, .data, .data], laidTests := true, laidLooks := .later }
def TopRouteCardSaid : Prop := Claim7.holds Tryz.pinned (.plain (OpenSpec.ofChange topRouteSpec)) topRouteCard

/-- THE TIED CARD OF 'skywaytop.TopPlanFlown'. -/
def topPlanFlownCard : Claim7 := { stood := { row := topPlanFlownRow, standIns := [], harness := (true, "5d56dae4b2a688e5e654a1984c708b89ba408b22c31bf1e299093b9bc00c5a55"), looks := true }, kinds := [], alts := [], laidByText := true, laidKinds := [.data, .data, .data, .data, .data, .data, .data, .sentinel, .sentinel, .pinned], laidTests := true, laidLooks := .later }
def TopPlanFlownCardSaid : Prop := Claim7.holds Tryz.pinned (.plain (OpenSpec.ofChange topPlanFlownSpec)) topPlanFlownCard

/-- THE SECOND FORM's CARD OF 'skywaytop.TopWidening'. -/
def topWideningUptoCard : Claim7 := { stood := { row := topWideningUptoRow, standIns := [], harness := (true, "5d56dae4b2a688e5e654a1984c708b89ba408b22c31bf1e299093b9bc00c5a55"), looks := true }, kinds := [], alts := [], laidByText := true, laidKinds := [.data, .data, .data], laidTests := true, laidLooks := .later }
def TopWideningUptoCardSaid : Prop := Claim7.holds Tryz.pinned (.plain (OpenSpec.upto topWideningSpec)) topWideningUptoCard

/-- THE SECOND FORM's CARD OF 'skywaytop.TopClosed'. -/
def topClosedUptoCard : Claim7 := { stood := { row := topClosedUptoRow, standIns := [], harness := (true, "5d56dae4b2a688e5e654a1984c708b89ba408b22c31bf1e299093b9bc00c5a55"), looks := true }, kinds := [], alts := [], laidByText := true, laidKinds := [.data, .data, .data], laidTests := true, laidLooks := .later }
def TopClosedUptoCardSaid : Prop := Claim7.holds Tryz.pinned (.plain (OpenSpec.upto topClosedSpec)) topClosedUptoCard

/-- THE SECOND FORM's CARD OF 'skywaytop.TopProbeNeverMisses'. -/
def topProbeNeverMissesUptoCard : Claim7 := { stood := { row := topProbeNeverMissesUptoRow, standIns := [], harness := (true, "5d56dae4b2a688e5e654a1984c708b89ba408b22c31bf1e299093b9bc00c5a55"), looks := true }, kinds := [], alts := [], laidByText := true, laidKinds := [.data, .data, .data], laidTests := true, laidLooks := .later }
def TopProbeNeverMissesUptoCardSaid : Prop := Claim7.holds Tryz.pinned (.plain (OpenSpec.upto topProbeNeverMissesSpec)) topProbeNeverMissesUptoCard

/-- THE SECOND FORM's CARD OF 'skywaytop.TopShift'. -/
def topShiftUptoCard : Claim7 := { stood := { row := topShiftUptoRow, standIns := [], harness := (true, "5d56dae4b2a688e5e654a1984c708b89ba408b22c31bf1e299093b9bc00c5a55"), looks := true }, kinds := [], alts := [], laidByText := true, laidKinds := [.data, .data, .data], laidTests := true, laidLooks := .later }
def TopShiftUptoCardSaid : Prop := Claim7.holds Tryz.pinned (.plain (OpenSpec.upto topShiftSpec)) topShiftUptoCard

/-- THE SECOND FORM's CARD OF 'skywaytop.TopRoute'. -/
def topRouteUptoCard : Claim7 := { stood := { row := topRouteUptoRow, standIns := [], harness := (true, "5d56dae4b2a688e5e654a1984c708b89ba408b22c31bf1e299093b9bc00c5a55"), looks := true }, kinds := [], alts := [], laidByText := true, laidKinds := [.data, .data, .data], laidTests := true, laidLooks := .later }
def TopRouteUptoCardSaid : Prop := Claim7.holds Tryz.pinned (.plain (OpenSpec.upto topRouteSpec)) topRouteUptoCard

/-- THE SECOND FORM's CARD OF 'skywaytop.TopPlanFlown'. -/
def topPlanFlownUptoCard : Claim7 := { stood := { row := topPlanFlownUptoRow, standIns := [], harness := (true, "5d56dae4b2a688e5e654a1984c708b89ba408b22c31bf1e299093b9bc00c5a55"), looks := true }, kinds := [], alts := [], laidByText := true, laidKinds := [.data, .data, .data, .data, .data, .data, .data, .sentinel, .sentinel, .pinned], laidTests := true, laidLooks := .later }
def TopPlanFlownUptoCardSaid : Prop := Claim7.holds Tryz.pinned (.plain (OpenSpec.upto topPlanFlownSpec)) topPlanFlownUptoCard
end Rows
end Go.Proofs.YteieagihdflapaaGreatDoor
