/-
  ProcsBinds in its second form (the Upto card): Params, Bind, Level and Commands of layer 21 are those of 21.1 for all words, where the arguments hold . Conditions: none.
-/
import Derived.Test.YtppjodfehhlniaaGreatDoorVrow
import Derived.Test.YtppjodfehhlniaaGreatDoorKJToKFinP
set_option linter.unusedVariables false
set_option linter.unusedSimpArgs false
set_option linter.unusedSectionVars false
set_option linter.deprecated false
section
namespace Go.Proofs.YtppjodfehhlniaaGreatDoor
open Go.Xe.Cards
theorem ztQ : zfC := fun w t m h => callsIn_wide.1 (zqh w ⟨m, t, h⟩)
theorem binds_holds : Rows.ProcsBindsUptoCardSaid := zsx ztQ
end Go.Proofs.YtppjodfehhlniaaGreatDoor
end
