/-
  A card of the second form: what the program does at one call, shown by the kernel. Conditions: none.
-/
import Derived.Test.YtfkeeieoapimlaaGreatDoorProg
import Derived.KernelRfl
import Derived.Test.YtfkeeieoapimlaaGreatDoorBKDefs
set_option linter.unusedVariables false
set_option linter.unusedSimpArgs false
set_option linter.unusedSectionVars false
set_option linter.deprecated false
section
open Go Go.Proofs Go.Xe Go.Xe.Cards
namespace Go.Xe.Cards
theorem ca_ok : zc6 ca (run Tryz.prog I34 7 (ca).args (zad (ca).n (ca).l)) = true := by kernel_rfl
end Go.Xe.Cards
end
