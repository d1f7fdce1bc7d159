/-
  A closed fact of the second form. Conditions: none.
-/
import Derived.Test.YtppjodfehhlniaaGreatDoorWl0ToWl2
set_option linter.unusedVariables false
set_option linter.unusedSimpArgs false
set_option linter.unusedSectionVars false
set_option linter.deprecated false
section
namespace Go.Proofs.YtppjodfehhlniaaGreatDoor
set_option maxRecDepth 100000
theorem zqc : (Rows.procsBindsUptoRow.named == Tryz.prog.varsNamed 3) = true := by
 unfold Program.varsNamed
 rw [zlp]
 kernel_rfl
end Go.Proofs.YtppjodfehhlniaaGreatDoor
end
