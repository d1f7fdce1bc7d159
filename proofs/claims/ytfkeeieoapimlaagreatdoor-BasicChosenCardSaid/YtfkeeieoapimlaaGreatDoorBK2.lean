/-
  A card of the second form: what the program does at one call, shown by the kernel. Conditions: none.
-/
import Derived.Test.YtfkeeieoapimlaaGreatDoorBCdToBK1
set_option linter.unusedVariables false
set_option linter.unusedSimpArgs false
set_option linter.unusedSectionVars false
set_option linter.deprecated false
section
open Go Go.Proofs Go.Proofs.YtfkeeieoapimlaaGreatDoor Go.Xe
noncomputable section
namespace Go.Xe.Cards
set_option maxRecDepth 1000000
theorem k_cond0 (m C : Nat) : zao (lC0 m C) (run Tryz.prog J0 106 [.ptr 24 0, .str 1 48] (zad 365 (lS8 m C))) = some (.tup [.bool false, .agg [.int .i64 (0), .int .i64 (0), .str 0 0]], 0, [], (lC0 m C).map fun p => some p.e) := by kernel_rfl
theorem k_cond00 (m C : Nat) : zao (lC0 m C) (run Tryz.prog J0 106 [.ptr 24 0, .str 1 48] (zad 524 (lC0 m C))) = some (.tup [.bool false, .agg [.int .i64 (0), .int .i64 (0), .str 0 0]], 0, [], (lC0 m C).map fun p => some p.e) := by kernel_rfl
theorem k_cond1 (m C : Nat) : zao (lC1 m C) (run Tryz.prog J0 106 [.ptr 24 0, .str 1 49] (zad 365 (lS8 m C))) = some (.tup [.bool true, .agg [.int .i64 (0), .int .i64 (0), .str 0 0]], 0, [], (lC1 m C).map fun p => some p.e) := by kernel_rfl
theorem k_cond01 (m C : Nat) : zao (lC01 m C) (run Tryz.prog J0 106 [.ptr 24 0, .str 1 49] (zad 524 (lC0 m C))) = some (.tup [.bool true, .agg [.int .i64 (0), .int .i64 (0), .str 0 0]], 0, [], (lC01 m C).map fun p => some p.e) := by kernel_rfl
end Go.Xe.Cards
end
end
