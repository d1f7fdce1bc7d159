/-
  A card of the second form: what the program does at one call, shown by the kernel. Conditions: none.
-/
import Derived.Test.YtjibdoofogmkcaaGreatDoorProg
import Derived.KernelRfl
import Derived.Test.YtjibdoofogmkcaaGreatDoorKDefs
set_option linter.unusedVariables false
set_option linter.unusedSimpArgs false
set_option linter.unusedSectionVars false
section
open Go Go.Proofs Go.Xe Go.Xe.Cards
namespace Go.Xe.Cards
theorem c34_ok : cardOk c34 (run Tryz.prog I27 34 (c34).args (heapOf (c34).n (c34).l)) = true := by kernel_rfl
end Go.Xe.Cards
end
