/-
  A card of the second form: what the program does at one call, shown by the kernel. Conditions: none.
-/
import Derived.Test.YtfkeeieoapimlaaGreatDoorBCdToBK1
set_option linter.unusedVariables false
set_option linter.unusedSimpArgs false
set_option linter.unusedSectionVars false
set_option linter.deprecated false
section
open Go Go.Proofs Go.Proofs.YtfkeeieoapimlaaGreatDoor Go.Xe
noncomputable section
namespace Go.Xe.Cards
set_option maxRecDepth 1000000
theorem k_b5 (m C : Nat) : zao (lD 102) (run Tryz.prog J0 16 [.ptr 24 0, .str 13 8091291433181236532048152260705] (zad 705 (lC01 m C))) = some (.agg [.int .i64 (0), .int .i64 (0), .str 1 102], 0, [], (lD 102).map fun p => some p.e) := by kernel_rfl
theorem k_b6 (m C : Nat) : zao (lD 103) (run Tryz.prog J0 16 [.ptr 24 0, .str 13 8170519595695500869641696211041] (zad 705 (lC01 m C))) = some (.agg [.int .i64 (0), .int .i64 (0), .str 1 103], 0, [], (lD 103).map fun p => some p.e) := by kernel_rfl
theorem k_b7 (m C : Nat) : zao (lD 104) (run Tryz.prog J0 16 [.ptr 24 0, .str 13 8249747758209765207235240161377] (zad 705 (lC01 m C))) = some (.agg [.int .i64 (0), .int .i64 (0), .str 1 104], 0, [], (lD 104).map fun p => some p.e) := by kernel_rfl
theorem k_b8 (m C : Nat) : zao (lD 105) (run Tryz.prog J0 16 [.ptr 24 0, .str 13 8328975920724029544828784111713] (zad 705 (lC01 m C))) = some (.agg [.int .i64 (0), .int .i64 (0), .str 1 105], 0, [], (lD 105).map fun p => some p.e) := by kernel_rfl
theorem k_b9 (m C : Nat) : zao (lD 106) (run Tryz.prog J0 16 [.ptr 24 0, .str 13 8408204083238293882422328062049] (zad 705 (lC01 m C))) = some (.agg [.int .i64 (0), .int .i64 (0), .str 1 106], 0, [], (lD 106).map fun p => some p.e) := by kernel_rfl
theorem k_b10 (m C : Nat) : zao (lD 107) (run Tryz.prog J0 16 [.ptr 24 0, .str 13 8487432245752558220015872012385] (zad 705 (lC01 m C))) = some (.agg [.int .i64 (0), .int .i64 (0), .str 1 107], 0, [], (lD 107).map fun p => some p.e) := by kernel_rfl
theorem k_b11 (m C : Nat) : zao (lD 108) (run Tryz.prog J0 16 [.ptr 24 0, .str 13 8566660408266822557609415962721] (zad 705 (lC01 m C))) = some (.agg [.int .i64 (0), .int .i64 (0), .str 1 108], 0, [], (lD 108).map fun p => some p.e) := by kernel_rfl
end Go.Xe.Cards
end
end
