/-
  DERIVED. GIVEN WITH THE SEED: THE CARDS: each row of YtfkeeieoapimlaaGreatDoorRows.lean that lists a variable, with what it lists TIED to the program's text (the seventh form; the later family's looks); each row that meets fmt, with fmt's text TOLD by the authors' own Lean function (tested against real Go, not proved from fmt's source: count such statements apart). THE CARD IS WHAT COUNTS. Prove the row's statement (the work); the ties are given (YtfkeeieoapimlaaGreatDoorTie.lean); close each card by the builder's one call (the guide's Derived/Test/ToyasCard.lean, 'card_holds'). Laid BY PROGRAM, IN A SANDBOX (cutbox-door.mjs). By AI agents, Wed Nov 11 2026. No macro, syntax, notation, axiom, sorry.
-/
import Derived.Test.YtfkeeieoapimlaaGreatDoorRows
import GoSem.ClaimSeven
namespace Go.Proofs.YtfkeeieoapimlaaGreatDoor
namespace Rows

/-- THE TIED CARD OF 'threadbarelaw20.BasicChosen'. -/
def basicChosenCard : Claim7 := { stood := { row := basicChosenRow, standIns := [], harness := (true, "024b6d03694a4b15f99373560418f5a3077cd1778d087a09435de0fd51ac7768"), looks := true }, kinds := [], alts := [], laidByText := true, laidKinds := [.data, .data, .data, .data, .pinned], laidTests := true, laidLooks := .later }
def BasicChosenCardSaid : Prop := Claim7.holds Tryz.pinned (.plain (OpenSpec.ofChange basicChosenSpec)) basicChosenCard

/-- THE SECOND FORM's CARD OF 'threadbarelaw20.BasicChosen'. -/
def basicChosenUptoCard : Claim7 := { stood := { row := basicChosenUptoRow, standIns := [], harness := (true, "024b6d03694a4b15f99373560418f5a3077cd1778d087a09435de0fd51ac7768"), looks := true }, kinds := [], alts := [], laidByText := true, laidKinds := [.data, .data, .data, .data, .pinned], laidTests := true, laidLooks := .later }
def BasicChosenUptoCardSaid : Prop := Claim7.holds Tryz.pinned (.plain (OpenSpec.upto basicChosenSpec)) basicChosenUptoCard
end Rows
end Go.Proofs.YtfkeeieoapimlaaGreatDoor
