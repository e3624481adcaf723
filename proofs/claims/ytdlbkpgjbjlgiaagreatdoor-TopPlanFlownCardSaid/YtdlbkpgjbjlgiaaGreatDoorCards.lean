/-
  DERIVED. GIVEN WITH THE SEED: THE CARDS: each row of YtdlbkpgjbjlgiaaGreatDoorRows.lean that lists a variable, with what it lists TIED to the program's text (the seventh form; the later family's looks); each row that meets fmt, with fmt's text TOLD by the authors' own Lean function (tested against real Go, not proved from fmt's source: count such statements apart). THE CARD IS WHAT COUNTS. Prove the row's statement (the work); the ties are given (YtdlbkpgjbjlgiaaGreatDoorTie.lean); close each card by the builder's one call (the guide's Derived/Test/ToyasCard.lean, 'card_holds'). Laid BY PROGRAM, IN A SANDBOX (cutbox-door.mjs). By AI agents, Wed Nov 11 2026. No macro, syntax, notation, axiom, sorry.
-/
import Derived.Test.YtdlbkpgjbjlgiaaGreatDoorRows
import GoSem.ClaimSeven
namespace Go.Proofs.YtdlbkpgjbjlgiaaGreatDoor
namespace Rows

/-- THE TIED CARD OF 'skywaytop.TopRoute'. -/
def topRouteCard : Claim7 := { stood := { row := topRouteRow, standIns := [], harness := (true, "7ac7ee601da7e0fe0fe1f268b53c580dce1f7493a82c31b50254a54e53e4ba21"), looks := true }, kinds := [], alts := [], laidByText := true, laidKinds := [.data, .data, .data], laidTests := true, laidLooks := .later }
def TopRouteCardSaid : Prop := Claim7.holds Tryz.pinned (.plain (OpenSpec.ofChange topRouteSpec)) topRouteCard

/-- THE TIED CARD OF 'skywaytop.TopPlanFlown'. -/
def topPlanFlownCard : Claim7 := { stood := { row := topPlanFlownRow, standIns := [], harness := (true, "7ac7ee601da7e0fe0fe1f268b53c580dce1f7493a82c31b50254a54e53e4ba21"), looks := true }, kinds := [], alts := [], laidByText := true, laidKinds := [.data, .data, .data, .data, .data, .data, .data, .sentinel, .sentinel, .pinned], laidTests := true, laidLooks := .later }
def TopPlanFlownCardSaid : Prop := Claim7.holds Tryz.pinned (.plain (OpenSpec.ofChange topPlanFlownSpec)) topPlanFlownCard

/-- THE SECOND FORM's CARD OF 'skywaytop.TopRoute'. -/
def topRouteUptoCard : Claim7 := { stood := { row := topRouteUptoRow, standIns := [], harness := (true, "7ac7ee601da7e0fe0fe1f268b53c580dce1f7493a82c31b50254a54e53e4ba21"), looks := true }, kinds := [], alts := [], laidByText := true, laidKinds := [.data, .data, .data], laidTests := true, laidLooks := .later }
def TopRouteUptoCardSaid : Prop := Claim7.holds Tryz.pinned (.plain (OpenSpec.upto topRouteSpec)) topRouteUptoCard

/-- THE SECOND FORM's CARD OF 'skywaytop.TopPlanFlown'. -/
def topPlanFlownUptoCard : Claim7 := { stood := { row := topPlanFlownUptoRow, standIns := [], harness := (true, "7ac7ee601da7e0fe0fe1f268b53c580dce1f7493a82c31b50254a54e53e4ba21"), looks := true }, kinds := [], alts := [], laidByText := true, laidKinds := [.data, .data, .data, .data, .data, .data, .data, .sentinel, .sentinel, .pinned], laidTests := true, laidLooks := .later }
def TopPlanFlownUptoCardSaid : Prop := Claim7.holds Tryz.pinned (.plain (OpenSpec.upto topPlanFlownSpec)) topPlanFlownUptoCard
end Rows
end Go.Proofs.YtdlbkpgjbjlgiaaGreatDoor
