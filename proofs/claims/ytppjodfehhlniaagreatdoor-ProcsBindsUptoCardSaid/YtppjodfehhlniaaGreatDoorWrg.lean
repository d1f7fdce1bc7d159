/-
  No goroutine is begun. Conditions: none.
-/
import Derived.Test.YtppjodfehhlniaaGreatDoorRows
import GoSem.ClaimGoes
set_option linter.unusedVariables false
set_option linter.unusedSimpArgs false
set_option linter.unusedSectionVars false
set_option linter.deprecated false
section
namespace Go.Proofs.YtppjodfehhlniaaGreatDoor
theorem zu9 : Tryz.prog.funcs.any Func.goes = false := by kernel_rfl
theorem zsr {P : Program} (h : P.funcs.any Func.goes = false) (g : Nat) : (P.funcs[g]?).any Func.goes = false := by
 cases hg : P.funcs[g]? with
 | none => rfl
 | some fn =>
   obtain ⟨hlt, he⟩ := Array.getElem?_eq_some_iff.1 hg
   have := Array.any_eq_false.1 h g hlt
   rw [he] at this
   simpa using this
theorem zqf {P : Program} (h : P.funcs.any Func.goes = false) (f : FuncId) : P.goes f = false := by
 unfold Program.goes
 rw [h, Bool.and_false, Bool.or_false, Bool.eq_false_iff]
 intro hc
 simp [zsr h] at hc
theorem zjr {P : Program} (h : P.funcs.any Func.goes = false) (s : String) : P.goesFrom s = false := by
 unfold Program.goesFrom
 cases P.funcNamed s with
 | none => rfl
 | some f => exact zqf h f
theorem zm3 {P : Program} (h : P.funcs.any Func.goes = false) (s : String) : P.goesAt .entering s = false := by
 unfold Program.goesAt
 rw [zjr h]
 rfl
set_option maxRecDepth 100000 in
theorem ztJ : false = Rows.procsBindsUptoRow.goesBy Tryz.pinned.checked.prog :=
 (zm3 (P := Tryz.prog) zu9 Rows.procsBindsUptoRow.func).symm
end Go.Proofs.YtppjodfehhlniaaGreatDoor
end
