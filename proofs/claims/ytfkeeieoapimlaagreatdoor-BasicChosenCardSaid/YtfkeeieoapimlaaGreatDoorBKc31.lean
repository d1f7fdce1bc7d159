/-
  A card of the second form: what the program does at one call, shown by the kernel. Conditions: none.
-/
import Derived.Test.YtfkeeieoapimlaaGreatDoorProg
import Derived.KernelRfl
import Derived.Test.YtfkeeieoapimlaaGreatDoorBKDefs
set_option linter.unusedVariables false
set_option linter.unusedSimpArgs false
set_option linter.unusedSectionVars false
set_option linter.deprecated false
section
open Go Go.Proofs Go.Xe Go.Xe.Cards
namespace Go.Xe.Cards
theorem c31_ok : zc6 c31 (run Tryz.prog I86 58 (c31).args (zad (c31).n (c31).l)) = true := by kernel_rfl
end Go.Xe.Cards
end
