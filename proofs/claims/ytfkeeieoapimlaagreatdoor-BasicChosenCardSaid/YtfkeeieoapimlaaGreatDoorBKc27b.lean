/-
  A card of the second form: what the program does at one call, shown by the kernel. Conditions: none.
-/
import Derived.Test.YtfkeeieoapimlaaGreatDoorProg
import Derived.KernelRfl
import Derived.Test.YtfkeeieoapimlaaGreatDoorBKDefs
set_option linter.unusedVariables false
set_option linter.unusedSimpArgs false
set_option linter.unusedSectionVars false
set_option linter.deprecated false
section
open Go Go.Proofs Go.Xe Go.Xe.Cards
namespace Go.Xe.Cards
theorem c27b_ok : zc6 c27b (run Tryz.prog none0 16 (c27b).args (zad (c27b).n (c27b).l)) = true := by kernel_rfl
end Go.Xe.Cards
end
