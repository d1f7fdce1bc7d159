/-
  The closed facts of the second form's row: the types lie as they should. Conditions: none.
-/
import Derived.Test.YtfkeeieoapimlaaGreatDoorRows
import Derived.ClosedOfChecked
set_option linter.unusedVariables false
set_option linter.unusedSimpArgs false
set_option linter.unusedSectionVars false
section
namespace Go.Proofs.YtfkeeieoapimlaaGreatDoor
set_option maxRecDepth 100000
theorem allSpec : ClosedOfChecked.AllSpec Tryz.prog := ClosedOfChecked.allSpec_of Tryz.checked.wellFormed (by kernel_rfl)
theorem Tryz.laidOut : laidOutB Tryz.prog = true := ClosedOfChecked.laidOutB_of allSpec (by kernel_rfl)
theorem Tryz.mapsRowed : mapsRowed Tryz.prog = true := ClosedOfChecked.mapsRowed_of allSpec
end Go.Proofs.YtfkeeieoapimlaaGreatDoor
end
