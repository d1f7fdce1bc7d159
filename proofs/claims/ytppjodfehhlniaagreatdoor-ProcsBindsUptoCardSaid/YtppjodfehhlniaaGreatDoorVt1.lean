/-
  The door lays the listed variables in order. Conditions: none.
-/
import Derived.Test.YtppjodfehhlniaaGreatDoorVt0
set_option linter.unusedVariables false
set_option linter.unusedSimpArgs false
set_option linter.unusedSectionVars false
set_option linter.deprecated false
section
namespace Go.Proofs.YtppjodfehhlniaaGreatDoor
theorem zv0 : varsNamedLaterB Tryz.prog (varsId Tryz.prog) laidL = true := by kernel_rfl
end Go.Proofs.YtppjodfehhlniaaGreatDoor
end
