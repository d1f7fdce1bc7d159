/-
  DERIVED. GIVEN WITH THE SEED: THE CARDS: each row of YtppjodfehhlniaaGreatDoorRows.lean that lists a variable, with what it lists TIED to the program's text (the seventh form; the later family's looks); each row that meets fmt, with fmt's text TOLD by the authors' own Lean function (tested against real Go, not proved from fmt's source: count such statements apart). THE CARD IS WHAT COUNTS. Prove the row's statement (the work); the ties are given (YtppjodfehhlniaaGreatDoorTie.lean); close each card by the builder's one call (the guide's Derived/Test/ToyasCard.lean, 'card_holds'). Laid BY PROGRAM, IN A SANDBOX (cutbox-door.mjs). By AI agents, Wed Nov 11 2026. No macro, syntax, notation, axiom, sorry.
-/
import Derived.Test.YtppjodfehhlniaaGreatDoorRows
import GoSem.ClaimSeven
namespace Go.Proofs.YtppjodfehhlniaaGreatDoor
namespace Rows

/-- THE TIED CARD OF 'threadbarelaw21.ProcsBinds'. -/
def procsBindsCard : Claim7 := { stood := { row := procsBindsRow, standIns := [], harness := (true, "de5514934d61d8537593423b24edd179894755f47192ee7a76b665a15a283842"), looks := true }, kinds := [], alts := [], laidByText := true, laidKinds := [.pinned, .data, .sentinel, .sentinel, .data, .data, .data], laidTests := true, laidLooks := .later }
def ProcsBindsCardSaid : Prop := Claim7.holds Tryz.pinned (.plain (OpenSpec.ofChange procsBindsSpec)) procsBindsCard

/-- THE SECOND FORM's CARD OF 'threadbarelaw21.ProcsBinds'. -/
def procsBindsUptoCard : Claim7 := { stood := { row := procsBindsUptoRow, standIns := [], harness := (true, "de5514934d61d8537593423b24edd179894755f47192ee7a76b665a15a283842"), looks := true }, kinds := [], alts := [], laidByText := true, laidKinds := [.pinned, .data, .sentinel, .sentinel, .data, .data, .data], laidTests := true, laidLooks := .later }
def ProcsBindsUptoCardSaid : Prop := Claim7.holds Tryz.pinned (.plain (OpenSpec.upto procsBindsSpec)) procsBindsUptoCard
end Rows
end Go.Proofs.YtppjodfehhlniaaGreatDoor
