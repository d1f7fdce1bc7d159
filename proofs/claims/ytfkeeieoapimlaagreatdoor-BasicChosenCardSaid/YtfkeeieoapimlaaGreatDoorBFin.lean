/-
  BasicChosen (P20.3): an if of plain truths does the first body whose condition is true, and no other one; the law answers true for every row of truths. Conditions: none.
-/
import Derived.Test.YtfkeeieoapimlaaGreatDoorBRow
set_option linter.unusedVariables false
set_option linter.unusedSimpArgs false
set_option linter.unusedSectionVars false
set_option linter.deprecated false
section
namespace Go.Proofs.YtfkeeieoapimlaaGreatDoor
theorem chosen_holds : Rows.BasicChosenCardSaid := card_bare
end Go.Proofs.YtfkeeieoapimlaaGreatDoor
end
