/-
  A card of the second form: what the program does at one call, shown by the kernel. Conditions: none.
-/
import Derived.Test.YtjibdoofogmkcaaGreatDoorProg
import Derived.KernelRfl
import Derived.Test.YtjibdoofogmkcaaGreatDoorKDefs
set_option linter.unusedVariables false
set_option linter.unusedSimpArgs false
set_option linter.unusedSectionVars false
section
open Go Go.Proofs Go.Xe Go.Xe.Cards
namespace Go.Xe.Cards
theorem c41_ok : cardOk c41 (run Tryz.prog none0 41 (c41).args (heapOf (c41).n (c41).l)) = true := by kernel_rfl
end Go.Xe.Cards
end
