/-
  A card of the second form: what the program does at one call, shown by the kernel. Conditions: none.
-/
import Derived.Test.YtfkeeieoapimlaaGreatDoorBCdToBK1
set_option linter.unusedVariables false
set_option linter.unusedSimpArgs false
set_option linter.unusedSectionVars false
set_option linter.deprecated false
section
open Go Go.Proofs Go.Proofs.YtfkeeieoapimlaaGreatDoor Go.Xe
noncomputable section
namespace Go.Xe.Cards
set_option maxRecDepth 1000000
theorem g_a : zao ([] : List IE) (run Tryz.prog J0 9 [.ptr 24 0, .str 4 1600614252] (zad 546 (lG 97))) = some (.tup [.str 1 97, .int .i64 (0)], 0, [], ([] : List IE).map fun p => some p.e) := by kernel_rfl
theorem g_x : zao ([] : List IE) (run Tryz.prog J0 9 [.ptr 24 0, .str 4 1600614252] (zad 524 (lG 33))) = some (.tup [.str 1 33, .int .i64 (0)], 0, [], ([] : List IE).map fun p => some p.e) := by kernel_rfl
theorem g_0 : zao ([] : List IE) (run Tryz.prog J0 9 [.ptr 24 0, .str 4 1600614252] (zad 524 (lG0))) = some (.tup [.str 0 0, .int .i64 (0)], 0, [], ([] : List IE).map fun p => some p.e) := by kernel_rfl
theorem g_b0 : zao ([] : List IE) (run Tryz.prog J0 9 [.ptr 24 0, .str 4 1600614252] (zad 705 (lG 97))) = some (.tup [.str 1 97, .int .i64 (0)], 0, [], ([] : List IE).map fun p => some p.e) := by kernel_rfl
theorem g_b1 : zao ([] : List IE) (run Tryz.prog J0 9 [.ptr 24 0, .str 4 1600614252] (zad 705 (lG 98))) = some (.tup [.str 1 98, .int .i64 (0)], 0, [], ([] : List IE).map fun p => some p.e) := by kernel_rfl
theorem g_b2 : zao ([] : List IE) (run Tryz.prog J0 9 [.ptr 24 0, .str 4 1600614252] (zad 705 (lG 99))) = some (.tup [.str 1 99, .int .i64 (0)], 0, [], ([] : List IE).map fun p => some p.e) := by kernel_rfl
theorem g_b3 : zao ([] : List IE) (run Tryz.prog J0 9 [.ptr 24 0, .str 4 1600614252] (zad 705 (lG 100))) = some (.tup [.str 1 100, .int .i64 (0)], 0, [], ([] : List IE).map fun p => some p.e) := by kernel_rfl
theorem g_b4 : zao ([] : List IE) (run Tryz.prog J0 9 [.ptr 24 0, .str 4 1600614252] (zad 705 (lG 101))) = some (.tup [.str 1 101, .int .i64 (0)], 0, [], ([] : List IE).map fun p => some p.e) := by kernel_rfl
theorem g_b5 : zao ([] : List IE) (run Tryz.prog J0 9 [.ptr 24 0, .str 4 1600614252] (zad 705 (lG 102))) = some (.tup [.str 1 102, .int .i64 (0)], 0, [], ([] : List IE).map fun p => some p.e) := by kernel_rfl
theorem g_b6 : zao ([] : List IE) (run Tryz.prog J0 9 [.ptr 24 0, .str 4 1600614252] (zad 705 (lG 103))) = some (.tup [.str 1 103, .int .i64 (0)], 0, [], ([] : List IE).map fun p => some p.e) := by kernel_rfl
theorem g_b7 : zao ([] : List IE) (run Tryz.prog J0 9 [.ptr 24 0, .str 4 1600614252] (zad 705 (lG 104))) = some (.tup [.str 1 104, .int .i64 (0)], 0, [], ([] : List IE).map fun p => some p.e) := by kernel_rfl
theorem g_b8 : zao ([] : List IE) (run Tryz.prog J0 9 [.ptr 24 0, .str 4 1600614252] (zad 705 (lG 105))) = some (.tup [.str 1 105, .int .i64 (0)], 0, [], ([] : List IE).map fun p => some p.e) := by kernel_rfl
theorem g_b9 : zao ([] : List IE) (run Tryz.prog J0 9 [.ptr 24 0, .str 4 1600614252] (zad 705 (lG 106))) = some (.tup [.str 1 106, .int .i64 (0)], 0, [], ([] : List IE).map fun p => some p.e) := by kernel_rfl
theorem g_b10 : zao ([] : List IE) (run Tryz.prog J0 9 [.ptr 24 0, .str 4 1600614252] (zad 705 (lG 107))) = some (.tup [.str 1 107, .int .i64 (0)], 0, [], ([] : List IE).map fun p => some p.e) := by kernel_rfl
theorem g_b11 : zao ([] : List IE) (run Tryz.prog J0 9 [.ptr 24 0, .str 4 1600614252] (zad 705 (lG 108))) = some (.tup [.str 1 108, .int .i64 (0)], 0, [], ([] : List IE).map fun p => some p.e) := by kernel_rfl
theorem g_b12 : zao ([] : List IE) (run Tryz.prog J0 9 [.ptr 24 0, .str 4 1600614252] (zad 705 (lG 109))) = some (.tup [.str 1 109, .int .i64 (0)], 0, [], ([] : List IE).map fun p => some p.e) := by kernel_rfl
theorem g_b13 : zao ([] : List IE) (run Tryz.prog J0 9 [.ptr 24 0, .str 4 1600614252] (zad 705 (lG 110))) = some (.tup [.str 1 110, .int .i64 (0)], 0, [], ([] : List IE).map fun p => some p.e) := by kernel_rfl
theorem g_b14 : zao ([] : List IE) (run Tryz.prog J0 9 [.ptr 24 0, .str 4 1600614252] (zad 705 (lG 111))) = some (.tup [.str 1 111, .int .i64 (0)], 0, [], ([] : List IE).map fun p => some p.e) := by kernel_rfl
theorem g_b15 : zao ([] : List IE) (run Tryz.prog J0 9 [.ptr 24 0, .str 4 1600614252] (zad 705 (lG 112))) = some (.tup [.str 1 112, .int .i64 (0)], 0, [], ([] : List IE).map fun p => some p.e) := by kernel_rfl
theorem g_b16 : zao ([] : List IE) (run Tryz.prog J0 9 [.ptr 24 0, .str 4 1600614252] (zad 705 (lG 113))) = some (.tup [.str 1 113, .int .i64 (0)], 0, [], ([] : List IE).map fun p => some p.e) := by kernel_rfl
theorem g_b17 : zao ([] : List IE) (run Tryz.prog J0 9 [.ptr 24 0, .str 4 1600614252] (zad 705 (lG 114))) = some (.tup [.str 1 114, .int .i64 (0)], 0, [], ([] : List IE).map fun p => some p.e) := by kernel_rfl
theorem g_b18 : zao ([] : List IE) (run Tryz.prog J0 9 [.ptr 24 0, .str 4 1600614252] (zad 705 (lG 115))) = some (.tup [.str 1 115, .int .i64 (0)], 0, [], ([] : List IE).map fun p => some p.e) := by kernel_rfl
theorem g_b19 : zao ([] : List IE) (run Tryz.prog J0 9 [.ptr 24 0, .str 4 1600614252] (zad 705 (lG 116))) = some (.tup [.str 1 116, .int .i64 (0)], 0, [], ([] : List IE).map fun p => some p.e) := by kernel_rfl
theorem g_b20 : zao ([] : List IE) (run Tryz.prog J0 9 [.ptr 24 0, .str 4 1600614252] (zad 705 (lG 117))) = some (.tup [.str 1 117, .int .i64 (0)], 0, [], ([] : List IE).map fun p => some p.e) := by kernel_rfl
theorem g_b21 : zao ([] : List IE) (run Tryz.prog J0 9 [.ptr 24 0, .str 4 1600614252] (zad 705 (lG 118))) = some (.tup [.str 1 118, .int .i64 (0)], 0, [], ([] : List IE).map fun p => some p.e) := by kernel_rfl
theorem g_b22 : zao ([] : List IE) (run Tryz.prog J0 9 [.ptr 24 0, .str 4 1600614252] (zad 705 (lG 119))) = some (.tup [.str 1 119, .int .i64 (0)], 0, [], ([] : List IE).map fun p => some p.e) := by kernel_rfl
theorem g_b23 : zao ([] : List IE) (run Tryz.prog J0 9 [.ptr 24 0, .str 4 1600614252] (zad 705 (lG 120))) = some (.tup [.str 1 120, .int .i64 (0)], 0, [], ([] : List IE).map fun p => some p.e) := by kernel_rfl
theorem g_b24 : zao ([] : List IE) (run Tryz.prog J0 9 [.ptr 24 0, .str 4 1600614252] (zad 705 (lG 121))) = some (.tup [.str 1 121, .int .i64 (0)], 0, [], ([] : List IE).map fun p => some p.e) := by kernel_rfl
theorem g_b25 : zao ([] : List IE) (run Tryz.prog J0 9 [.ptr 24 0, .str 4 1600614252] (zad 705 (lG 122))) = some (.tup [.str 1 122, .int .i64 (0)], 0, [], ([] : List IE).map fun p => some p.e) := by kernel_rfl
end Go.Xe.Cards
end
end
