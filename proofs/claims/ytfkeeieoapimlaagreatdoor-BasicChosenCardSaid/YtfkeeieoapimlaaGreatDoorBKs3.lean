/-
  A card of the second form: what the program does at one call, shown by the kernel. Conditions: none.
-/
import Derived.Test.YtfkeeieoapimlaaGreatDoorBCdToBK1
set_option linter.unusedVariables false
set_option linter.unusedSimpArgs false
set_option linter.unusedSectionVars false
set_option linter.deprecated false
section
open Go Go.Proofs Go.Proofs.YtfkeeieoapimlaaGreatDoor Go.Xe
noncomputable section
namespace Go.Xe.Cards
set_option maxRecDepth 1000000
theorem k_b19 (m C : Nat) : zao (lD 116) (run Tryz.prog J0 16 [.ptr 24 0, .str 13 9200485708380937258357767565409] (zad 705 (lC01 m C))) = some (.agg [.int .i64 (0), .int .i64 (0), .str 1 116], 0, [], (lD 116).map fun p => some p.e) := by kernel_rfl
theorem k_b20 (m C : Nat) : zao (lD 117) (run Tryz.prog J0 16 [.ptr 24 0, .str 13 9279713870895201595951311515745] (zad 705 (lC01 m C))) = some (.agg [.int .i64 (0), .int .i64 (0), .str 1 117], 0, [], (lD 117).map fun p => some p.e) := by kernel_rfl
theorem k_b21 (m C : Nat) : zao (lD 118) (run Tryz.prog J0 16 [.ptr 24 0, .str 13 9358942033409465933544855466081] (zad 705 (lC01 m C))) = some (.agg [.int .i64 (0), .int .i64 (0), .str 1 118], 0, [], (lD 118).map fun p => some p.e) := by kernel_rfl
theorem k_b22 (m C : Nat) : zao (lD 119) (run Tryz.prog J0 16 [.ptr 24 0, .str 13 9438170195923730271138399416417] (zad 705 (lC01 m C))) = some (.agg [.int .i64 (0), .int .i64 (0), .str 1 119], 0, [], (lD 119).map fun p => some p.e) := by kernel_rfl
theorem k_b23 (m C : Nat) : zao (lD 120) (run Tryz.prog J0 16 [.ptr 24 0, .str 13 9517398358437994608731943366753] (zad 705 (lC01 m C))) = some (.agg [.int .i64 (0), .int .i64 (0), .str 1 120], 0, [], (lD 120).map fun p => some p.e) := by kernel_rfl
theorem k_b24 (m C : Nat) : zao (lD 121) (run Tryz.prog J0 16 [.ptr 24 0, .str 13 9596626520952258946325487317089] (zad 705 (lC01 m C))) = some (.agg [.int .i64 (0), .int .i64 (0), .str 1 121], 0, [], (lD 121).map fun p => some p.e) := by kernel_rfl
theorem k_b25 (m C : Nat) : zao (lD 122) (run Tryz.prog J0 16 [.ptr 24 0, .str 13 9675854683466523283919031267425] (zad 705 (lC01 m C))) = some (.agg [.int .i64 (0), .int .i64 (0), .str 1 122], 0, [], (lD 122).map fun p => some p.e) := by kernel_rfl
end Go.Xe.Cards
end
end
