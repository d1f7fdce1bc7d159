/-
  The law BasicChosen: any row of truths. Conditions: none.
-/
import Derived.Test.YtfkeeieoapimlaaGreatDoorBL2
import Derived.Test.YtfkeeieoapimlaaGreatDoorBKFin
set_option linter.unusedVariables false
set_option linter.unusedSimpArgs false
set_option linter.unusedSectionVars false
set_option linter.deprecated false
section
namespace Go.Proofs.YtfkeeieoapimlaaGreatDoor
open Go.ChangeShapes Go.WideShapes Go.ChangeAt Go.RowKit Go.Xe
theorem awake_ok : AwakeOk := fun w hG => (callsIn_wide (n := 0)).1 (Cards.awake_true w hG)
theorem chosen_any (w : World) (hG : HasG w.heap) (v : Value) (ts : List Bool) (last : Bool) (hv : BRow w v ts) :
  Calls Tryz.prog 3 #[v, .bool last] w fun e w' => e = .returned (.bool true) ∧ Below w.heap.size w w' := by
 by_cases h : ts.length = 0 ∨ 30 < ts.length
 ·exact chosen_out awake_ok w hG v ts last hv h
 ·rcases hv with ⟨rfl, rfl⟩ | ⟨a, c, rfl, hc⟩
  ·exact absurd (.inl rfl) h
  ·exact chosen_in awake_ok w hG a c ts last hc (by omega) (by omega)
end Go.Proofs.YtfkeeieoapimlaaGreatDoor
end
