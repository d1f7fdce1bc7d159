/-
  A card of the second form: what the program does at one call, shown by the kernel. Conditions: none.
-/
import Derived.Test.YtppjodfehhlniaaGreatDoorProg
import Derived.KernelRfl
import Derived.Test.YtppjodfehhlniaaGreatDoorKDefs
set_option linter.unusedVariables false
set_option linter.unusedSimpArgs false
set_option linter.unusedSectionVars false
section
open Go Go.Proofs Go.Xe Go.Xe.Cards
namespace Go.Xe.Cards
theorem zvf : zd8 c97b (run Tryz.prog J34b 97 (c97b).args (zbw (c97b).n (c97b).l)) = true := by kernel_rfl
end Go.Xe.Cards
end
