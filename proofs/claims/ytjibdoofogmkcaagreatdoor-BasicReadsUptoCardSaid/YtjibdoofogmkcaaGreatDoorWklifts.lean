/-
  A closed fact of the second form. Conditions: none.
-/
import Derived.Test.YtjibdoofogmkcaaGreatDoorRows
import Derived.JoinedCond
set_option linter.unusedVariables false
set_option linter.unusedSimpArgs false
set_option linter.unusedSectionVars false
set_option linter.deprecated false
section
namespace Go.Proofs.YtjibdoofogmkcaaGreatDoor
set_option maxRecDepth 100000
theorem fact_lifts : (Rows.basicReadsUptoRow.lifted == Tryz.prog.liftsFinal) = true := by kernel_rfl
end Go.Proofs.YtjibdoofogmkcaaGreatDoor
end
