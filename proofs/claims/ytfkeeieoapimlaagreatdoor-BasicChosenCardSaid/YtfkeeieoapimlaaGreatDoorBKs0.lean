/-
  A card of the second form: what the program does at one call, shown by the kernel. Conditions: none.
-/
import Derived.Test.YtfkeeieoapimlaaGreatDoorBCdToBK1
set_option linter.unusedVariables false
set_option linter.unusedSimpArgs false
set_option linter.unusedSectionVars false
set_option linter.deprecated false
section
open Go Go.Proofs Go.Proofs.YtfkeeieoapimlaaGreatDoor Go.Xe
noncomputable section
namespace Go.Xe.Cards
set_option maxRecDepth 1000000
theorem k_a (m C : Nat) : zao (lD 97) (run Tryz.prog J0 16 [.ptr 24 0, .str 13 7695150620609914844080432509025] (zad 546 (lC1 m C))) = some (.agg [.int .i64 (0), .int .i64 (0), .str 1 97], 0, [], (lD 97).map fun p => some p.e) := by kernel_rfl
theorem k_x (m C : Nat) : zao (lD 33) (run Tryz.prog J0 16 [.ptr 24 0, .str 13 2624548219696997238093619687521] (zad 524 (lC0 m C))) = some (.agg [.int .i64 (0), .int .i64 (0), .str 1 33], 0, [], (lD 33).map fun p => some p.e) := by kernel_rfl
theorem k_b0 (m C : Nat) : zao (lD 97) (run Tryz.prog J0 16 [.ptr 24 0, .str 13 7695150620609914844080432509025] (zad 705 (lC01 m C))) = some (.agg [.int .i64 (0), .int .i64 (0), .str 1 97], 0, [], (lD 97).map fun p => some p.e) := by kernel_rfl
theorem k_b1 (m C : Nat) : zao (lD 98) (run Tryz.prog J0 16 [.ptr 24 0, .str 13 7774378783124179181673976459361] (zad 705 (lC01 m C))) = some (.agg [.int .i64 (0), .int .i64 (0), .str 1 98], 0, [], (lD 98).map fun p => some p.e) := by kernel_rfl
theorem k_b2 (m C : Nat) : zao (lD 99) (run Tryz.prog J0 16 [.ptr 24 0, .str 13 7853606945638443519267520409697] (zad 705 (lC01 m C))) = some (.agg [.int .i64 (0), .int .i64 (0), .str 1 99], 0, [], (lD 99).map fun p => some p.e) := by kernel_rfl
theorem k_b3 (m C : Nat) : zao (lD 100) (run Tryz.prog J0 16 [.ptr 24 0, .str 13 7932835108152707856861064360033] (zad 705 (lC01 m C))) = some (.agg [.int .i64 (0), .int .i64 (0), .str 1 100], 0, [], (lD 100).map fun p => some p.e) := by kernel_rfl
theorem k_b4 (m C : Nat) : zao (lD 101) (run Tryz.prog J0 16 [.ptr 24 0, .str 13 8012063270666972194454608310369] (zad 705 (lC01 m C))) = some (.agg [.int .i64 (0), .int .i64 (0), .str 1 101], 0, [], (lD 101).map fun p => some p.e) := by kernel_rfl
end Go.Xe.Cards
end
end
