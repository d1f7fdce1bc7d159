/-
  The door's run leaves what the row lists. Conditions: none.
-/
import Derived.Test.YtppjodfehhlniaaGreatDoorVt0
set_option linter.unusedVariables false
set_option linter.unusedSimpArgs false
set_option linter.unusedSectionVars false
set_option linter.deprecated false
section
namespace Go.Proofs.YtppjodfehhlniaaGreatDoor
theorem zva (os : Os) (tape : Tape) : doorLeaves Tryz.prog 400 8 65 laidL os tape = some (laidL.filter fun x => x.2.handleName?.isNone, (funcsListed laidL).map (·.2.funcsOut)) := by kernel_rfl
end Go.Proofs.YtppjodfehhlniaaGreatDoor
end
