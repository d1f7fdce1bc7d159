/-
  A card of the second form: what the program does at one call, shown by the kernel. Conditions: none.
-/
import Derived.Test.YtfkeeieoapimlaaGreatDoorBCdToBK1
set_option linter.unusedVariables false
set_option linter.unusedSimpArgs false
set_option linter.unusedSectionVars false
set_option linter.deprecated false
section
open Go Go.Proofs Go.Proofs.YtfkeeieoapimlaaGreatDoor Go.Xe
noncomputable section
namespace Go.Xe.Cards
set_option maxRecDepth 1000000
theorem k_b12 (m C : Nat) : zao (lD 109) (run Tryz.prog J0 16 [.ptr 24 0, .str 13 8645888570781086895202959913057] (zad 705 (lC01 m C))) = some (.agg [.int .i64 (0), .int .i64 (0), .str 1 109], 0, [], (lD 109).map fun p => some p.e) := by kernel_rfl
theorem k_b13 (m C : Nat) : zao (lD 110) (run Tryz.prog J0 16 [.ptr 24 0, .str 13 8725116733295351232796503863393] (zad 705 (lC01 m C))) = some (.agg [.int .i64 (0), .int .i64 (0), .str 1 110], 0, [], (lD 110).map fun p => some p.e) := by kernel_rfl
theorem k_b14 (m C : Nat) : zao (lD 111) (run Tryz.prog J0 16 [.ptr 24 0, .str 13 8804344895809615570390047813729] (zad 705 (lC01 m C))) = some (.agg [.int .i64 (0), .int .i64 (0), .str 1 111], 0, [], (lD 111).map fun p => some p.e) := by kernel_rfl
theorem k_b15 (m C : Nat) : zao (lD 112) (run Tryz.prog J0 16 [.ptr 24 0, .str 13 8883573058323879907983591764065] (zad 705 (lC01 m C))) = some (.agg [.int .i64 (0), .int .i64 (0), .str 1 112], 0, [], (lD 112).map fun p => some p.e) := by kernel_rfl
theorem k_b16 (m C : Nat) : zao (lD 113) (run Tryz.prog J0 16 [.ptr 24 0, .str 13 8962801220838144245577135714401] (zad 705 (lC01 m C))) = some (.agg [.int .i64 (0), .int .i64 (0), .str 1 113], 0, [], (lD 113).map fun p => some p.e) := by kernel_rfl
theorem k_b17 (m C : Nat) : zao (lD 114) (run Tryz.prog J0 16 [.ptr 24 0, .str 13 9042029383352408583170679664737] (zad 705 (lC01 m C))) = some (.agg [.int .i64 (0), .int .i64 (0), .str 1 114], 0, [], (lD 114).map fun p => some p.e) := by kernel_rfl
theorem k_b18 (m C : Nat) : zao (lD 115) (run Tryz.prog J0 16 [.ptr 24 0, .str 13 9121257545866672920764223615073] (zad 705 (lC01 m C))) = some (.agg [.int .i64 (0), .int .i64 (0), .str 1 115], 0, [], (lD 115).map fun p => some p.e) := by kernel_rfl
end Go.Xe.Cards
end
end
