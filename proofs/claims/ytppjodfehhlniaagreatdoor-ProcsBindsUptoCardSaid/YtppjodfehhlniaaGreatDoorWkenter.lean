/-
  A closed fact of the second form. Conditions: none.
-/
import Derived.Test.YtppjodfehhlniaaGreatDoorRows
import Derived.JoinedCond
set_option linter.unusedVariables false
set_option linter.unusedSimpArgs false
set_option linter.unusedSectionVars false
set_option linter.deprecated false
section
namespace Go.Proofs.YtppjodfehhlniaaGreatDoor
set_option maxRecDepth 100000
theorem zkf : (Tryz.prog.stopsHeard && Tryz.prog.mayEnter) = true := by kernel_rfl
end Go.Proofs.YtppjodfehhlniaaGreatDoor
end
