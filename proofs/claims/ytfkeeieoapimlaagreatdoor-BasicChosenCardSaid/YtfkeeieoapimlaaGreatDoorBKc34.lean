/-
  A card of the second form: what the program does at one call, shown by the kernel. Conditions: none.
-/
import Derived.Test.YtfkeeieoapimlaaGreatDoorProg
import Derived.KernelRfl
import Derived.Test.YtfkeeieoapimlaaGreatDoorBKDefs
set_option linter.unusedVariables false
set_option linter.unusedSimpArgs false
set_option linter.unusedSectionVars false
set_option linter.deprecated false
section
open Go Go.Proofs Go.Xe Go.Xe.Cards
namespace Go.Xe.Cards
theorem c34_ok : zc6 c34 (run Tryz.prog I27 61 (c34).args (zad (c34).n (c34).l)) = true := by kernel_rfl
end Go.Xe.Cards
end
