/-
  DERIVED. GIVEN WITH THE SEED: THE CARDS: each row of YtjibdoofogmkcaaGreatDoorRows.lean that lists a variable, with what it lists TIED to the program's text (the seventh form; the later family's looks); each row that meets fmt, with fmt's text TOLD by the authors' own Lean function (tested against real Go, not proved from fmt's source: count such statements apart). THE CARD IS WHAT COUNTS. Prove the row's statement (the work); the ties are given (YtjibdoofogmkcaaGreatDoorTie.lean); close each card by the builder's one call (the guide's Derived/Test/ToyasCard.lean, 'card_holds'). Laid BY PROGRAM, IN A SANDBOX (cutbox-door.mjs). By AI agents, Wed Nov 11 2026. No macro, syntax, notation, axiom, sorry.
-/
import Derived.Test.YtjibdoofogmkcaaGreatDoorRows
import GoSem.ClaimSeven
namespace Go.Proofs.YtjibdoofogmkcaaGreatDoor
namespace Rows

/-- THE TIED CARD OF 'threadbarelaw20.BasicReads'. -/
def basicReadsCard : Claim7 := { stood := { row := basicReadsRow, standIns := [], harness := (true, "0981d4246c363c9c5fbf06a6e46b1b2b4d56df37787a8a73c30886bcb0fda585"), looks := true }, kinds := [], alts := [], laidByText := true, laidKinds := [.data, .data, .data, .data, .pinned], laidTests := true, laidLooks := .later }
def BasicReadsCardSaid : Prop := Claim7.holds Tryz.pinned (.plain (OpenSpec.ofChange basicReadsSpec)) basicReadsCard

/-- THE SECOND FORM's CARD OF 'threadbarelaw20.BasicReads'. -/
def basicReadsUptoCard : Claim7 := { stood := { row := basicReadsUptoRow, standIns := [], harness := (true, "0981d4246c363c9c5fbf06a6e46b1b2b4d56df37787a8a73c30886bcb0fda585"), looks := true }, kinds := [], alts := [], laidByText := true, laidKinds := [.data, .data, .data, .data, .pinned], laidTests := true, laidLooks := .later }
def BasicReadsUptoCardSaid : Prop := Claim7.holds Tryz.pinned (.plain (OpenSpec.upto basicReadsSpec)) basicReadsUptoCard
end Rows
end Go.Proofs.YtjibdoofogmkcaaGreatDoor
