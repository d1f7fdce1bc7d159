/-
  A closed fact of the second form. Conditions: none.
-/
import Derived.Test.YtfkeeieoapimlaaGreatDoorRows
import Derived.JoinedCond
set_option linter.unusedVariables false
set_option linter.unusedSimpArgs false
set_option linter.unusedSectionVars false
section
namespace Go.Proofs.YtfkeeieoapimlaaGreatDoor
set_option maxRecDepth 100000
theorem fact_unf : (Rows.basicChosenRow.unfollowed == Tryz.prog.unfollowed 3) = true := by kernel_rfl
end Go.Proofs.YtfkeeieoapimlaaGreatDoor
end
