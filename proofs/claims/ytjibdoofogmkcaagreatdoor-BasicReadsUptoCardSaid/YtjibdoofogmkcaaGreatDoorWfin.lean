/-
  BasicReads in its second form (the Upto card): Conditions, Rounds and Commands of layer 20 are those of 20.1 for all words whose arguments hold together at most 1048576 values and letters, and the law answers true. Conditions: none.
-/
import Derived.Test.YtjibdoofogmkcaaGreatDoorWrow
import Derived.Test.YtjibdoofogmkcaaGreatDoorKFin
set_option linter.unusedVariables false
set_option linter.unusedSimpArgs false
set_option linter.unusedSectionVars false
set_option linter.deprecated false
section
namespace Go.Proofs.YtjibdoofogmkcaaGreatDoor
open Go.Xe.Cards
theorem awake_ok : AwakeOk := fun w => callsIn_wide.1 (awake_true w)
theorem reads_holds : Rows.BasicReadsUptoCardSaid := card_upto awake_ok
end Go.Proofs.YtjibdoofogmkcaaGreatDoor
end
