/-
  DERIVED. GIVEN WITH THE SEED: THE CARDS: each row of YtmkglhoahdlogaaGreatDoorRows.lean that lists a variable, with what it lists TIED to the program's text (the seventh form; the later family's looks); each row that meets fmt, with fmt's text TOLD by the authors' own Lean function (tested against real Go, not proved from fmt's source: count such statements apart). THE CARD IS WHAT COUNTS. Prove the row's statement (the work); the ties are given (YtmkglhoahdlogaaGreatDoorTie.lean); close each card by the builder's one call (the guide's Derived/Test/ToyasCard.lean, 'card_holds'). Laid BY PROGRAM, IN A SANDBOX (cutbox-door.mjs). By AI agents, Wed Nov 11 2026. No macro, syntax, notation, axiom, sorry.
-/
import Derived.Test.YtmkglhoahdlogaaGreatDoorRows
import GoSem.ClaimSeven
namespace Go.Proofs.YtmkglhoahdlogaaGreatDoor
namespace Rows

/-- THE TIED CARD OF 'skywaytop.TopRoute'. -/
def topRouteCard : Claim7 := { stood := { row := topRouteRow, standIns := [], harness := (true, "d25a08a228b9c42783eb56dddd3b10595877f051f823b1cacb3780a8de87e6ac"), looks := false }, kinds := [], alts := [], laidByText := true, laidKinds := [.data, .data, .data], laidTests := true, laidLooks := .later }
def TopRouteCardSaid : Prop := Claim7.holds Tryz.pinned (.plain (OpenSpec.ofChange topRouteSpec)) topRouteCard

/-- THE SECOND FORM's CARD OF 'skywaytop.TopRoute'. -/
def topRouteUptoCard : Claim7 := { stood := { row := topRouteUptoRow, standIns := [], harness := (true, "d25a08a228b9c42783eb56dddd3b10595877f051f823b1cacb3780a8de87e6ac"), looks := false }, kinds := [], alts := [], laidByText := true, laidKinds := [.data, .data, .data], laidTests := true, laidLooks := .later }
def TopRouteUptoCardSaid : Prop := Claim7.holds Tryz.pinned (.plain (OpenSpec.upto topRouteSpec)) topRouteUptoCard
end Rows
end Go.Proofs.YtmkglhoahdlogaaGreatDoor
