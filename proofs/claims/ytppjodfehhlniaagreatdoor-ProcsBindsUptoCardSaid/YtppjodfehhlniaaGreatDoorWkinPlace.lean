/-
  A closed fact of the second form. Conditions: none.
-/
import Derived.Test.YtppjodfehhlniaaGreatDoorWl0ToWl2
set_option linter.unusedVariables false
set_option linter.unusedSimpArgs false
set_option linter.unusedSectionVars false
set_option linter.deprecated false
section
namespace Go.Proofs.YtppjodfehhlniaaGreatDoor
set_option maxRecDepth 100000
theorem zm2 : (Rows.procsBindsUptoRow.inPlace == Tryz.prog.inPlace 3) = true := by
 unfold Program.inPlace
 rw [zlp]
 kernel_rfl
end Go.Proofs.YtppjodfehhlniaaGreatDoor
end
