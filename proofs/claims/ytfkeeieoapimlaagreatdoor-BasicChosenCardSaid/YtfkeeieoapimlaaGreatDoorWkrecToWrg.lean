/-
  The closed facts of the row, together; No goroutine is begun. Conditions: none.
-/
import Derived.Test.YtfkeeieoapimlaaGreatDoorRows
import Derived.JoinedCond
import Derived.Test.YtfkeeieoapimlaaGreatDoorWrl
import Derived.Test.YtfkeeieoapimlaaGreatDoorWkinPlace
import Derived.Test.YtfkeeieoapimlaaGreatDoorWkunf
import Derived.Test.YtfkeeieoapimlaaGreatDoorWknamed
import GoSem.ClaimGoes
set_option linter.unusedVariables false
set_option linter.unusedSimpArgs false
set_option linter.unusedSectionVars false
section
namespace Go.Proofs.YtfkeeieoapimlaaGreatDoor
set_option maxRecDepth 100000
theorem fact_rec : (Rows.basicChosenRow.recurses == Tryz.prog.recurses 3) = true := by kernel_rfl
end Go.Proofs.YtfkeeieoapimlaaGreatDoor
end
section
namespace Go.Proofs.YtfkeeieoapimlaaGreatDoor
set_option maxRecDepth 100000
theorem fact_keys : (Rows.basicChosenRow.plainKeys == Tryz.prog.plainKeys) = true := by kernel_rfl
end Go.Proofs.YtfkeeieoapimlaaGreatDoor
end
section
namespace Go.Proofs.YtfkeeieoapimlaaGreatDoor
set_option maxRecDepth 100000
theorem fact_lifts : (Rows.basicChosenRow.lifted == Tryz.prog.liftsFinal) = true := by kernel_rfl
end Go.Proofs.YtfkeeieoapimlaaGreatDoor
end
section
namespace Go.Proofs.YtfkeeieoapimlaaGreatDoor
set_option maxRecDepth 100000
theorem fact_enter : (Tryz.prog.stopsHeard && Tryz.prog.mayEnter) = true := by kernel_rfl
end Go.Proofs.YtfkeeieoapimlaaGreatDoor
end
section
namespace Go.Proofs.YtfkeeieoapimlaaGreatDoor
set_option maxRecDepth 100000
theorem fact_wf : (Rows.basicChosenRow.wf (OpenSpec.ofChange (_root_.Go.OpenSpec.ofChange Rows.basicChosenSpec).bare)) = true := by kernel_rfl
end Go.Proofs.YtfkeeieoapimlaaGreatDoor
end
section
namespace Go.Proofs.YtfkeeieoapimlaaGreatDoor
set_option maxRecDepth 100000
theorem fact_stops : Tryz.prog.stopsHeard = true := (Bool.and_eq_true_iff.1 fact_enter).1
theorem fact_may : Tryz.prog.mayEnter = true := (Bool.and_eq_true_iff.1 fact_enter).2
theorem joined3 : joinedFacts Tryz.prog 3 Tryz.f3 (_root_.Go.OpenSpec.ofChange Rows.basicChosenSpec).bare Rows.basicChosenRow = true := by
 unfold joinedFacts
 rw [fact_wf, Tryz.laidOut, Tryz.mapsRowed, fact_inPlace, fact_unf, fact_rec, fact_named, fact_keys, fact_lifts, fact_stops, fact_may]
 kernel_rfl
end Go.Proofs.YtfkeeieoapimlaaGreatDoor
end
section
namespace Go.Proofs.YtfkeeieoapimlaaGreatDoor
theorem no_goes : Tryz.prog.funcs.any Func.goes = false := by kernel_rfl
theorem goes_none {P : Program} (h : P.funcs.any Func.goes = false) (g : Nat) : (P.funcs[g]?).any Func.goes = false := by
 cases hg : P.funcs[g]? with
 | none => rfl
 | some fn =>
   obtain ⟨hlt, he⟩ := Array.getElem?_eq_some_iff.1 hg
   have := Array.any_eq_false.1 h g hlt
   rw [he] at this
   simpa using this
theorem goes_false {P : Program} (h : P.funcs.any Func.goes = false) (f : FuncId) : P.goes f = false := by
 unfold Program.goes
 rw [h, Bool.and_false, Bool.or_false, Bool.eq_false_iff]
 intro hc
 simp [goes_none h] at hc
theorem goesFrom_false {P : Program} (h : P.funcs.any Func.goes = false) (s : String) : P.goesFrom s = false := by
 unfold Program.goesFrom
 cases P.funcNamed s with
 | none => rfl
 | some f => exact goes_false h f
theorem goesAt_false {P : Program} (h : P.funcs.any Func.goes = false) (s : String) : P.goesAt .entering s = false := by
 unfold Program.goesAt
 rw [goesFrom_false h]
 rfl
set_option maxRecDepth 100000 in
theorem row_goes : false = Rows.basicChosenRow.goesBy Tryz.pinned.checked.prog :=
 (goesAt_false (P := Tryz.prog) no_goes Rows.basicChosenRow.func).symm
end Go.Proofs.YtfkeeieoapimlaaGreatDoor
end
