/-
  A card of the second form: what the program does at one call, shown by the kernel. Conditions: none.
-/
import Derived.Test.YtppjodfehhlniaaGreatDoorProg
import Derived.KernelRfl
import Derived.Test.YtppjodfehhlniaaGreatDoorKDefs
set_option linter.unusedVariables false
set_option linter.unusedSimpArgs false
set_option linter.unusedSectionVars false
section
open Go Go.Proofs Go.Xe Go.Xe.Cards
namespace Go.Xe.Cards
theorem zvi : zd8 c34b (run Tryz.prog J97d 34 (c34b).args (zbw (c34b).n (c34b).l)) = true := by kernel_rfl
end Go.Xe.Cards
end
