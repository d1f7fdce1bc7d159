/-
  The compiler: the bytes of a node, whatever the two switches.
  The compiler: the bytes of a node.
-/
import Derived.Test.YtfgghbideoehjaaCompKToCompM
import Derived.IntWalk
import Derived.LoopTactic
import Derived.ChangeKeysEq
import Derived.Deep.CutRange
namespace Go.Proofs.Ytfgghbideoehjaa
open Go.ChangeShapes Go.WideShapes Go.ChangeAt Go.RowKit
set_option linter.unusedVariables false
set_option maxRecDepth 100000

def foldStep (s out : BSet) (c : Nat) : BSet := if s.has c = true ∨ s.has (c - 32) = true then (out.range c c).range (c - 32) (c - 32) else out
/-- The set with both forms of the first n letters. -/
def foldTo (s : BSet) : Nat → BSet
  | 0 => s
  | n + 1 => foldStep s (foldTo s n) (97 + n)
def foldSet (s : BSet) : BSet := foldTo s 26

theorem foldTo_wf {s : BSet} (hs : s.WF) : ∀ n, n ≤ 26 → (foldTo s n).WF
  | 0, _ => hs
  | n + 1, h => by
    unfold foldTo foldStep
    split
    · exact ((foldTo_wf hs n (by omega)).range (by omega) (by omega)).range (by omega) (by omega)
    · exact foldTo_wf hs n (by omega)

theorem has_int {s : BSet} (hs : s.WF) {kI : Int} {k : Nat} (hk : kI = (k : Int)) (hx : k < 256) {b : Bool} (hb : s.has k = b) (w : World) :
    Calls Try.prog 46 #[.agg #[.int .u64 (s.a : Int), .int .u64 (s.b : Int), .int .u64 (s.c : Int), .int .u64 (s.d : Int)], .int .u8 kI] w fun e w' => e = .returned (.bool b) ∧ Below w.heap.size w w' := by
  subst hk; subst hb; exact has_any s hs k hx w

abbrev setCells (s : BSet) : Array Value := #[.int .u64 (s.a : Int), .int .u64 (s.b : Int), .int .u64 (s.c : Int), .int .u64 (s.d : Int)]

structure FoldW (w : World) (s : BSet) (j : Nat) (wr : World) : Prop where
  own : wr.heap[w.heap.size]? = some (.cells (setCells s) 97 (0, 0))
  res : wr.heap[w.heap.size + 1]? = some zcells
  out : wr.heap[w.heap.size + 2]? = some (.cells (setCells (foldTo s j)) 97 (0, 0))
  bel : Below w.heap.size w wr

theorem FoldW.ext {w : World} {s : BSet} {j : Nat} {wr w1 : World} (h : FoldW w s j wr) (hb : Below wr.heap.size wr w1) : FoldW w s j w1 := by
  have l0 := (Array.getElem?_eq_some_iff.1 h.own).1
  have l1 := (Array.getElem?_eq_some_iff.1 h.res).1
  have l2 := (Array.getElem?_eq_some_iff.1 h.out).1
  exact ⟨(hb.block _ l0).trans h.own, (hb.block _ l1).trans h.res, (hb.block _ l2).trans h.out, h.bel.trans (hb.mono h.bel.size)⟩

theorem fold_start (w : World) (s : BSet) : FoldW w s 0 (((w.alloc (.cells (setCells s) 97)).alloc zcells).alloc (.cells (setCells s) 97)) := by
  obtain ⟨A, hA, sA, aN, aO, bA⟩ := alloc_pack w (setCells s) 97
  rw [hA]
  obtain ⟨B, hB, sB, bN, bO, bB⟩ := alloc_pack A #[Value.int IntKind.u64 0, Value.int IntKind.u64 0, Value.int IntKind.u64 0, Value.int IntKind.u64 0] 97
  show FoldW w s 0 ((A.alloc (.cells #[Value.int IntKind.u64 0, Value.int IntKind.u64 0, Value.int IntKind.u64 0, Value.int IntKind.u64 0] 97)).alloc (.cells (setCells s) 97))
  rw [hB]
  obtain ⟨C, hC, sC, cN, cO, bC⟩ := alloc_pack B (setCells s) 97
  rw [hC]
  rw [sA] at bN
  rw [sB, sA] at cN
  refine ⟨(cO _ (by omega)).trans ((bO _ (by omega)).trans aN), (cO _ (by omega)).trans bN, cN, (bA.trans (bB.mono (by omega))).trans (bC.mono (by omega))⟩

set_option maxHeartbeats 2000000 in
theorem folded_any (s : BSet) (hs : s.WF) (w : World) : Calls Try.prog 89 #[.agg (setCells s)] w fun e w' => ∃ t : BSet, t = foldSet s ∧ t.WF ∧ e = .returned (.agg (setCells t)) ∧ Below w.heap.size w w' := by
  go_enter Try.func89, Try.ntmps89
  go_wp2
  refine gen_code (FoldW w s 0) (fold_start w s) ?_
  intro W0 HW0
  go_loopg [4] 26 (fun m cv wr => ∃ (j c : Nat), j ≤ 26 ∧ m = 26 - j ∧ c = 97 + j ∧ cv = .int .u8 (c : Int) ∧ FoldW w s j wr)
  case atStart => exact ⟨0, 97, by omega, rfl, rfl, rfl, HW0⟩
  case round =>
    obtain ⟨j, c, hj, hm, hc, rfl, HF⟩ := hrel
    have HM := Lib.hid hm
    have HFl := Lib.hid HF
    have HC := Lib.hid hc
    have l0 := (Array.getElem?_eq_some_iff.1 HF.own).1
    have l2 := (Array.getElem?_eq_some_iff.1 HF.out).1
    have x0 : wr.cell? ⟨w.heap.size, 0, none⟩ = some (.int .u64 (s.a : Int)) := (cell_of_blk HF.own 0).trans rfl
    have x1 : wr.cell? ⟨w.heap.size, 1, none⟩ = some (.int .u64 (s.b : Int)) := (cell_of_blk HF.own 1).trans rfl
    have x2 : wr.cell? ⟨w.heap.size, 2, none⟩ = some (.int .u64 (s.c : Int)) := (cell_of_blk HF.own 2).trans rfl
    have x3 : wr.cell? ⟨w.heap.size, 3, none⟩ = some (.int .u64 (s.d : Int)) := (cell_of_blk HF.own 3).trans rfl
    by_cases hlt : j < 26
    · have t1 : (c : Int) ≤ 122 := by omega
      have t2 : (97 : Int) ≤ (c : Int) := by omega
      have hcn : ((c + 1 : Nat) : Int) = (c : Int) + 1 := by push_cast; rfl
      by_cases hor : s.has c = true ∨ s.has (c - 32) = true
      · have hst : foldTo s (j + 1) = ((foldTo s j).range c c).range (c - 32) (c - 32) := by show foldStep s (foldTo s j) (97 + j) = _; unfold foldStep; rw [← hc, if_pos hor]
        have HST := Lib.hid hst
        have hwf := foldTo_wf hs j (by omega)
        clear hm hc HF hst
        have HOR := Lib.hid hor
        clear hor
        cases hA : s.has c with
        | true =>
          have HA := Lib.hid hA
          clear hA
          go_wp2_with (fail)
          refine (has_int hs (k := c) rfl (by omega) HA.out _).mono ?_
          rintro e w1 ⟨rfl, hb1⟩
          dsimp only
          have hF1 := HFl.out.ext hb1
          have HF1 := Lib.hid hF1
          have l2' := (Array.getElem?_eq_some_iff.1 hF1.out).1
          have y0 : w1.cell? ⟨w.heap.size + 2, 0, none⟩ = some (.int .u64 ((foldTo s j).a : Int)) := (cell_of_blk hF1.out 0).trans rfl
          have y1 : w1.cell? ⟨w.heap.size + 2, 1, none⟩ = some (.int .u64 ((foldTo s j).b : Int)) := (cell_of_blk hF1.out 1).trans rfl
          have y2 : w1.cell? ⟨w.heap.size + 2, 2, none⟩ = some (.int .u64 ((foldTo s j).c : Int)) := (cell_of_blk hF1.out 2).trans rfl
          have y3 : w1.cell? ⟨w.heap.size + 2, 3, none⟩ = some (.int .u64 ((foldTo s j).d : Int)) := (cell_of_blk hF1.out 3).trans rfl
          clear hb1 hF1 x0 x1 x2 x3
          go_wp2_with (fail)
          refine (with_open (v := .agg (setCells (foldTo s j))) rfl hwf (lo := (c : Int)) (hi := (c : Int)) (by omega) (by omega) (by omega) (by omega) _).mono ?_
          rintro e w2 ⟨t, ht, htw, rfl, hb2⟩
          dsimp only
          have hF2 := HF1.out.ext hb2
          have HF2 := Lib.hid hF2
          have HT := Lib.hid ht
          clear ht hb2 hF2 y0 y1 y2 y3
          go_wp2_with (fail)
          refine (with_open (v := .agg (setCells t)) rfl htw (lo := (c : Int) - 32) (hi := (c : Int) - 32) (by omega) (by omega) (by omega) (by omega) _).mono ?_
          rintro e w3 ⟨u, hu, huw, rfl, hb3⟩
          dsimp only
          have hF3 := HF2.out.ext hb3
          have HF3 := Lib.hid hF3
          have HU := Lib.hid hu
          have l3' := (Array.getElem?_eq_some_iff.1 hF3.out).1
          have f0 := free_of_blk hF3.out 0
          have f1 := free_of_blk hF3.out 1
          have f2 := free_of_blk hF3.out 2
          have f3 := free_of_blk hF3.out 3
          have y0 : w3.cell? ⟨w.heap.size + 2, 0, none⟩ = some (.int .u64 ((foldTo s j).a : Int)) := (cell_of_blk hF3.out 0).trans rfl
          have y1 : w3.cell? ⟨w.heap.size + 2, 1, none⟩ = some (.int .u64 ((foldTo s j).b : Int)) := (cell_of_blk hF3.out 1).trans rfl
          have y2 : w3.cell? ⟨w.heap.size + 2, 2, none⟩ = some (.int .u64 ((foldTo s j).c : Int)) := (cell_of_blk hF3.out 2).trans rfl
          have y3 : w3.cell? ⟨w.heap.size + 2, 3, none⟩ = some (.int .u64 ((foldTo s j).d : Int)) := (cell_of_blk hF3.out 3).trans rfl
          clear hu hb3 hF3
          go_wp2
          go_roundg (26 - (j + 1))
          case measure => rw [HM.out]; omega
          case rel =>
            refine ⟨j + 1, c + 1, by omega, rfl, by have := HC.out; omega, by rw [hcn], ?_⟩
            have h := HF3.out
            have hu := HU.out
            have ht := HT.out
            have e32 : ((c : Int) - 32).toNat = c - 32 := by omega
            rw [e32, ht] at hu
            simp only [Int.toNat_natCast] at hu
            rw [← HST.out] at hu
            refine ⟨?_, ?_, ?_, set4_below h.bel (by omega)⟩
            · exact (fill4_other _ _ _ _ _ _ _ (by omega)).trans h.own
            · exact (fill4_other _ _ _ _ _ _ _ (by omega)).trans h.res
            · rw [← hu]; exact fill4_same _ _ _ _ _ _ _ _ _ _ _ h.out
        | false =>
          have HA := Lib.hid hA
          have hB : s.has (c - 32) = true := HOR.out.resolve_left (by rw [hA]; simp)
          have HB := Lib.hid hB
          clear hA hB
          go_wp2_with (fail)
          refine (has_int hs (k := c) rfl (by omega) HA.out _).mono ?_
          rintro e w0 ⟨rfl, hb0⟩
          dsimp only
          have hF0 := HFl.out.ext hb0
          have HF0 := Lib.hid hF0
          have x0 : w0.cell? ⟨w.heap.size, 0, none⟩ = some (.int .u64 (s.a : Int)) := (cell_of_blk hF0.own 0).trans rfl
          have x1 : w0.cell? ⟨w.heap.size, 1, none⟩ = some (.int .u64 (s.b : Int)) := (cell_of_blk hF0.own 1).trans rfl
          have x2 : w0.cell? ⟨w.heap.size, 2, none⟩ = some (.int .u64 (s.c : Int)) := (cell_of_blk hF0.own 2).trans rfl
          have x3 : w0.cell? ⟨w.heap.size, 3, none⟩ = some (.int .u64 (s.d : Int)) := (cell_of_blk hF0.own 3).trans rfl
          clear hb0 hF0
          go_wp2_with (fail)
          refine (has_int hs (k := c - 32) (by omega) (by omega) HB.out _).mono ?_
          rintro e w1 ⟨rfl, hb1⟩
          dsimp only
          have hF1 := HF0.out.ext hb1
          have HF1 := Lib.hid hF1
          have l2' := (Array.getElem?_eq_some_iff.1 hF1.out).1
          have y0 : w1.cell? ⟨w.heap.size + 2, 0, none⟩ = some (.int .u64 ((foldTo s j).a : Int)) := (cell_of_blk hF1.out 0).trans rfl
          have y1 : w1.cell? ⟨w.heap.size + 2, 1, none⟩ = some (.int .u64 ((foldTo s j).b : Int)) := (cell_of_blk hF1.out 1).trans rfl
          have y2 : w1.cell? ⟨w.heap.size + 2, 2, none⟩ = some (.int .u64 ((foldTo s j).c : Int)) := (cell_of_blk hF1.out 2).trans rfl
          have y3 : w1.cell? ⟨w.heap.size + 2, 3, none⟩ = some (.int .u64 ((foldTo s j).d : Int)) := (cell_of_blk hF1.out 3).trans rfl
          clear hb1 hF1 x0 x1 x2 x3
          go_wp2_with (fail)
          refine (with_open (v := .agg (setCells (foldTo s j))) rfl hwf (lo := (c : Int)) (hi := (c : Int)) (by omega) (by omega) (by omega) (by omega) _).mono ?_
          rintro e w2 ⟨t, ht, htw, rfl, hb2⟩
          dsimp only
          have hF2 := HF1.out.ext hb2
          have HF2 := Lib.hid hF2
          have HT := Lib.hid ht
          clear ht hb2 hF2 y0 y1 y2 y3
          go_wp2_with (fail)
          refine (with_open (v := .agg (setCells t)) rfl htw (lo := (c : Int) - 32) (hi := (c : Int) - 32) (by omega) (by omega) (by omega) (by omega) _).mono ?_
          rintro e w3 ⟨u, hu, huw, rfl, hb3⟩
          dsimp only
          have hF3 := HF2.out.ext hb3
          have HF3 := Lib.hid hF3
          have HU := Lib.hid hu
          have l3' := (Array.getElem?_eq_some_iff.1 hF3.out).1
          have f0 := free_of_blk hF3.out 0
          have f1 := free_of_blk hF3.out 1
          have f2 := free_of_blk hF3.out 2
          have f3 := free_of_blk hF3.out 3
          have y0 : w3.cell? ⟨w.heap.size + 2, 0, none⟩ = some (.int .u64 ((foldTo s j).a : Int)) := (cell_of_blk hF3.out 0).trans rfl
          have y1 : w3.cell? ⟨w.heap.size + 2, 1, none⟩ = some (.int .u64 ((foldTo s j).b : Int)) := (cell_of_blk hF3.out 1).trans rfl
          have y2 : w3.cell? ⟨w.heap.size + 2, 2, none⟩ = some (.int .u64 ((foldTo s j).c : Int)) := (cell_of_blk hF3.out 2).trans rfl
          have y3 : w3.cell? ⟨w.heap.size + 2, 3, none⟩ = some (.int .u64 ((foldTo s j).d : Int)) := (cell_of_blk hF3.out 3).trans rfl
          clear hu hb3 hF3
          go_wp2
          go_roundg (26 - (j + 1))
          case measure => rw [HM.out]; omega
          case rel =>
            refine ⟨j + 1, c + 1, by omega, rfl, by have := HC.out; omega, by rw [hcn], ?_⟩
            have h := HF3.out
            have hu := HU.out
            have ht := HT.out
            have e32 : ((c : Int) - 32).toNat = c - 32 := by omega
            rw [e32, ht] at hu
            simp only [Int.toNat_natCast] at hu
            rw [← HST.out] at hu
            refine ⟨?_, ?_, ?_, set4_below h.bel (by omega)⟩
            · exact (fill4_other _ _ _ _ _ _ _ (by omega)).trans h.own
            · exact (fill4_other _ _ _ _ _ _ _ (by omega)).trans h.res
            · rw [← hu]; exact fill4_same _ _ _ _ _ _ _ _ _ _ _ h.out
      · have hst : foldTo s (j + 1) = foldTo s j := by show foldStep s (foldTo s j) (97 + j) = _; unfold foldStep; rw [← hc, if_neg hor]
        have HST := Lib.hid hst
        have hA : s.has c = false := by cases h : s.has c with | false => rfl | true => exact absurd (.inl h) hor
        have hB : s.has (c - 32) = false := by cases h : s.has (c - 32) with | false => rfl | true => exact absurd (.inr h) hor
        have HA := Lib.hid hA
        have HB := Lib.hid hB
        clear hA hB hor hst hm hc HF
        go_wp2_with (fail)
        refine (has_int hs (k := c) rfl (by omega) HA.out _).mono ?_
        rintro e w0 ⟨rfl, hb0⟩
        dsimp only
        have hF0 := HFl.out.ext hb0
        have HF0 := Lib.hid hF0
        have x0 : w0.cell? ⟨w.heap.size, 0, none⟩ = some (.int .u64 (s.a : Int)) := (cell_of_blk hF0.own 0).trans rfl
        have x1 : w0.cell? ⟨w.heap.size, 1, none⟩ = some (.int .u64 (s.b : Int)) := (cell_of_blk hF0.own 1).trans rfl
        have x2 : w0.cell? ⟨w.heap.size, 2, none⟩ = some (.int .u64 (s.c : Int)) := (cell_of_blk hF0.own 2).trans rfl
        have x3 : w0.cell? ⟨w.heap.size, 3, none⟩ = some (.int .u64 (s.d : Int)) := (cell_of_blk hF0.own 3).trans rfl
        clear hb0 hF0
        go_wp2_with (fail)
        refine (has_int hs (k := c - 32) (by omega) (by omega) HB.out _).mono ?_
        rintro e w1 ⟨rfl, hb1⟩
        dsimp only
        have hF1 := HF0.out.ext hb1
        have HF1 := Lib.hid hF1
        clear hb1 hF1 x0 x1 x2 x3
        go_wp2
        go_roundg (26 - (j + 1))
        case measure => rw [HM.out]; omega
        case rel =>
          refine ⟨j + 1, c + 1, by omega, rfl, by have := HC.out; omega, by rw [hcn], ?_⟩
          have h := HF1.out
          exact ⟨h.own, h.res, by rw [HST.out]; exact h.out, h.bel⟩
    · have hje : j = 26 := by omega
      subst hje
      have t1 : ¬ (c : Int) ≤ 122 := by omega
      have y0 : wr.cell? ⟨w.heap.size + 2, 0, none⟩ = some (.int .u64 ((foldTo s 26).a : Int)) := (cell_of_blk HF.out 0).trans rfl
      have y1 : wr.cell? ⟨w.heap.size + 2, 1, none⟩ = some (.int .u64 ((foldTo s 26).b : Int)) := (cell_of_blk HF.out 1).trans rfl
      have y2 : wr.cell? ⟨w.heap.size + 2, 2, none⟩ = some (.int .u64 ((foldTo s 26).c : Int)) := (cell_of_blk HF.out 2).trans rfl
      have y3 : wr.cell? ⟨w.heap.size + 2, 3, none⟩ = some (.int .u64 ((foldTo s 26).d : Int)) := (cell_of_blk HF.out 3).trans rfl
      have r0 : wr.cell? ⟨w.heap.size + 1, 0, none⟩ = some (.int .u64 0) := (cell_of_blk HF.res 0).trans rfl
      have r1 : wr.cell? ⟨w.heap.size + 1, 1, none⟩ = some (.int .u64 0) := (cell_of_blk HF.res 1).trans rfl
      have r2 : wr.cell? ⟨w.heap.size + 1, 2, none⟩ = some (.int .u64 0) := (cell_of_blk HF.res 2).trans rfl
      have r3 : wr.cell? ⟨w.heap.size + 1, 3, none⟩ = some (.int .u64 0) := (cell_of_blk HF.res 3).trans rfl
      have f0 := free_of_blk HF.res 0
      have f1 := free_of_blk HF.res 1
      have f2 := free_of_blk HF.res 2
      have f3 := free_of_blk HF.res 3
      have hwf := foldTo_wf hs 26 (by omega)
      clear HF HM HC hm hc
      have HT := Lib.hid (show foldTo s 26 = foldSet s from rfl)
      generalize foldTo s 26 = t at *
      go_wp2
      refine bodyPost_ret (results_cell_row (p := 2) (ty := 97) (by kernel_rfl) _ _ (w.heap.size + 1) 97 _ (0, 0) _ rfl (set4 (t := t) HFl.out.res) Try.underlying97 (by kernel_rfl) (by kernel_rfl)) rfl ⟨by rw [← HT.out]; exact hwf, by rw [← HT.out]; rfl, ?_⟩
      exact set4_below HFl.out.bel (by omega)

end Go.Proofs.Ytfgghbideoehjaa

namespace Go.Proofs.Ytfgghbideoehjaa
open Go.ChangeShapes Go.WideShapes Go.ChangeAt Go.RowKit
set_option linter.unusedVariables false
set_option maxRecDepth 100000

theorem eq_u64 (a b : Int) (w : World) : (Op.equalIn 9999 95 (.int .u64 a) (.int .u64 b)).run Try.prog w = .ok (a == b) w := by kernel_rfl
theorem under97 : Try.prog.underlying 97 = some (.array 4 95) := by kernel_rfl
theorem cells95 : Try.prog.cellsOf 95 = 1 := by kernel_rfl
theorem info95 : ∃ i, Try.prog.info? 95 = some i := by
  have : (Try.prog.info? 95).isSome = true := by kernel_rfl
  exact Option.isSome_iff_exists.1 this
theorem u64_part0 (a b c d : Int) (w : World) : (part 95 #[.int .u64 a, .int .u64 b, .int .u64 c, .int .u64 d] 0).run Try.prog w = .ok (.int .u64 a) w := by kernel_rfl
theorem u64_part1 (a b c d : Int) (w : World) : (part 95 #[.int .u64 a, .int .u64 b, .int .u64 c, .int .u64 d] 1).run Try.prog w = .ok (.int .u64 b) w := by kernel_rfl
theorem u64_part2 (a b c d : Int) (w : World) : (part 95 #[.int .u64 a, .int .u64 b, .int .u64 c, .int .u64 d] 2).run Try.prog w = .ok (.int .u64 c) w := by kernel_rfl
theorem u64_part3 (a b c d : Int) (w : World) : (part 95 #[.int .u64 a, .int .u64 b, .int .u64 c, .int .u64 d] 3).run Try.prog w = .ok (.int .u64 d) w := by kernel_rfl

theorem eq97_any (n : BSet) (w : World) : (Op.equalIn 10000 97 (.agg (setCells n)) (.agg #[.int .u64 0, .int .u64 0, .int .u64 0, .int .u64 0])).run Try.prog w = .ok (decide (n = .zero)) w := by
  obtain ⟨i, hi⟩ := info95
  rw [show (10000 : Nat) = 9999 + 1 from rfl, run_equalIn_array w 9999 _ _ under97 hi, cells95]
  have hz : (n = .zero) ↔ (n.a = 0 ∧ n.b = 0 ∧ n.c = 0 ∧ n.d = 0) := by
    obtain ⟨a, b, c, d⟩ := n
    simp [BSet.zero]
  rw [show List.range 4 = [0, 1, 2, 3] from rfl]
  by_cases h0 : n.a = 0
  · by_cases h1 : n.b = 0
    · by_cases h2 : n.c = 0
      · by_cases h3 : n.d = 0
        · have hd : decide (n = .zero) = true := by simp [hz, h0, h1, h2, h3]
          rw [hd]
          simp [Op.eqItems, u64_part0, u64_part1, u64_part2, u64_part3, eq_u64, h0, h1, h2, h3]
        · have hd : decide (n = .zero) = false := by simp [hz, h3]
          rw [hd]
          have e : ((n.d : Int) == 0) = false := by simp; omega
          simp [Op.eqItems, u64_part0, u64_part1, u64_part2, u64_part3, eq_u64, h0, h1, h2, e]
      · have hd : decide (n = .zero) = false := by simp [hz, h2]
        rw [hd]
        have e : ((n.c : Int) == 0) = false := by simp; omega
        simp [Op.eqItems, u64_part0, u64_part1, u64_part2, u64_part3, eq_u64, h0, h1, e]
    · have hd : decide (n = .zero) = false := by simp [hz, h1]
      rw [hd]
      have e : ((n.b : Int) == 0) = false := by simp; omega
      simp [Op.eqItems, u64_part0, u64_part1, u64_part2, u64_part3, eq_u64, h0, e]
  · have hd : decide (n = .zero) = false := by simp [hz, h0]
    rw [hd]
    have e : ((n.a : Int) == 0) = false := by simp; omega
    simp [Op.eqItems, u64_part0, u64_part1, u64_part2, u64_part3, eq_u64, e]

/-- The bytes that a node of one byte stands for. -/
def foldIf (fl : Bool) (n : BSet) : BSet := if fl = true then (foldSet n.not).not else n
def lineIf (ln : Bool) (n : BSet) : BSet := if ln = true then (n.not.range 10 10).not else n
def bytesOf (fl ln : Bool) (s n : BSet) : BSet :=
  if n = .zero then (if fl = true then foldSet s else s) else lineIf ln (foldIf fl n)

theorem foldSet_wf {s : BSet} (h : s.WF) : (foldSet s).WF := foldTo_wf h 26 (Nat.le_refl _)
theorem foldIf_wf {n : BSet} (h : n.WF) (fl : Bool) : (foldIf fl n).WF := by
  unfold foldIf; split
  · exact (foldSet_wf h.not).not
  · exact h
theorem lineIf_wf {n : BSet} (h : n.WF) (ln : Bool) : (lineIf ln n).WF := by
  unfold lineIf; split
  · exact (h.not.range (by decide) (by decide)).not
  · exact h
theorem bytesOf_wf {s n : BSet} (hs : s.WF) (hn : n.WF) (fl ln : Bool) : (bytesOf fl ln s n).WF := by
  unfold bytesOf; split
  · split
    · exact foldSet_wf hs
    · exact hs
  · exact lineIf_wf (foldIf_wf hn fl) ln

structure BytW (w : World) (cp : Nat) (fl ln : Bool) (v : BSet) (W : World) : Prop where
  res : W.heap[w.heap.size + 1]? = some zcells
  own : W.heap[w.heap.size + 2]? = some (.cells (setCells v) 97 (0, 0))
  c2 : W.cell? ⟨cp, 2, none⟩ = some (.bool fl)
  c3 : W.cell? ⟨cp, 3, none⟩ = some (.bool ln)
  bel : Below w.heap.size w W

theorem BytW.ext {w : World} {cp : Nat} {fl ln : Bool} {v : BSet} {W W1 : World} (h : BytW w cp fl ln v W) (hb : Below W.heap.size W W1) : BytW w cp fl ln v W1 := by
  have l1 := (Array.getElem?_eq_some_iff.1 h.res).1
  have l2 := (Array.getElem?_eq_some_iff.1 h.own).1
  exact ⟨(hb.block _ l1).trans h.res, (hb.block _ l2).trans h.own, (hb.cell (World.block_lt_of_cell? W _ h.c2)).trans h.c2, (hb.cell (World.block_lt_of_cell? W _ h.c3)).trans h.c3, h.bel.trans (hb.mono h.bel.size)⟩

theorem BytW.store {w : World} {cp : Nat} {fl ln : Bool} {v : BSet} {W : World} (h : BytW w cp fl ln v W) (hcp : cp < w.heap.size) (t : BSet) :
    BytW w cp fl ln t (fill4 W (w.heap.size + 2) (.int .u64 (t.a : Int)) (.int .u64 (t.b : Int)) (.int .u64 (t.c : Int)) (.int .u64 (t.d : Int))) := by
  have hc : ∀ o, (fill4 W (w.heap.size + 2) (.int .u64 (t.a : Int)) (.int .u64 (t.b : Int)) (.int .u64 (t.c : Int)) (.int .u64 (t.d : Int))).cell? ⟨cp, o, none⟩ = W.cell? ⟨cp, o, none⟩ := fun o => far4 (by omega) o _ _ _ _
  exact ⟨(fill4_other _ _ _ _ _ _ _ (by omega)).trans h.res, fill4_same _ _ _ _ _ _ _ _ _ _ _ h.own, (hc 2).trans h.c2, (hc 3).trans h.c3, set4_below h.bel (by omega)⟩

theorem byt_start (w : World) (cp : Nat) (fl ln : Bool) (s n : BSet) (hcp : cp < w.heap.size) (h2 : w.cell? ⟨cp, 2, none⟩ = some (.bool fl)) (h3 : w.cell? ⟨cp, 3, none⟩ = some (.bool ln)) (cs : Array Value) :
    BytW w cp fl ln n (((w.alloc (.cells cs 124)).alloc zcells).alloc (.cells (setCells n) 97)) := by
  obtain ⟨A, hA, sA, aN, aO, bA⟩ := alloc_pack w cs 124
  rw [hA]
  obtain ⟨B, hB, sB, bN, bO, bB⟩ := alloc_pack A #[Value.int IntKind.u64 0, Value.int IntKind.u64 0, Value.int IntKind.u64 0, Value.int IntKind.u64 0] 97
  show BytW w cp fl ln n ((A.alloc (.cells #[Value.int IntKind.u64 0, Value.int IntKind.u64 0, Value.int IntKind.u64 0, Value.int IntKind.u64 0] 97)).alloc (.cells (setCells n) 97))
  rw [hB]
  obtain ⟨C, hC, sC, cN, cO, bC⟩ := alloc_pack B (setCells n) 97
  rw [hC]
  rw [sA] at bN
  rw [sB, sA] at cN
  have hb : Below w.heap.size w C := (bA.trans (bB.mono (by omega))).trans (bC.mono (by omega))
  exact ⟨(cO _ (by omega)).trans bN, cN, (hb.cell (p := ⟨cp, 2, none⟩) hcp).trans h2, (hb.cell (p := ⟨cp, 3, none⟩) hcp).trans h3, hb⟩

theorem not_int {v : Value} {s : BSet} (hv : v = .agg (setCells s)) (hs : s.WF) (w : World) : Calls Try.prog 59 #[v] w fun e w' =>
    ∃ t : BSet, t = s.not ∧ t.WF ∧ e = .returned (.agg (setCells t)) ∧ Below w.heap.size w w' := by
  subst hv
  exact (not_any s hs w).mono fun e w' h => ⟨_, rfl, hs.not, h⟩

set_option maxHeartbeats 2000000 in
theorem bytes_set (s n : BSet) (hs : s.WF) (hn : n.WF) (hz : n = .zero) (w : World) (cp : Nat) (ln : Bool) (h2 : w.cell? ⟨cp, 2, none⟩ = some (.bool false)) (h3 : w.cell? ⟨cp, 3, none⟩ = some (.bool ln)) :
    Calls Try.prog 83 #[.pointer (some ⟨cp, 0, none⟩), .agg #[.int .u64 (s.a : Int), .int .u64 (s.b : Int), .int .u64 (s.c : Int), .int .u64 (s.d : Int), .int .u64 (n.a : Int), .int .u64 (n.b : Int), .int .u64 (n.c : Int), .int .u64 (n.d : Int)]] w fun e w' =>
      e = .returned (.agg (setCells (bytesOf false ln s n))) ∧ Below w.heap.size w w' := by
  have lcp : cp < w.heap.size := World.block_lt_of_cell? w _ h2
  have heq := fun w => eq97_any n w
  simp only [hz, decide_true] at heq
  have lc1 : cp < w.heap.size + 1 := by omega
  have lc2 : cp < w.heap.size + 1 + 1 := by omega
  have HZ := Lib.hid hz
  subst hz
  clear heq
  have heq := eq97_zero
  go_enter Try.func83, Try.ntmps83
  simp only [BSet.zero]
  go_wp2
  refine bodyPost_ret (results_cell_row (p := 4) (ty := 97) (by kernel_rfl) _ _ (w.heap.size + 1) 97 _ (0, 0) _ rfl (heap_alloc2_new w _ _) Try.underlying97 (by kernel_rfl) (by kernel_rfl)) rfl ⟨by simp [bytesOf, BSet.zero], ?_⟩
  exact ((Below.refl _ w).alloc (Nat.le_refl _) _).alloc (by simp) _

set_option maxHeartbeats 2000000 in
theorem bytes_setf (s n : BSet) (hs : s.WF) (hn : n.WF) (hz : n = .zero) (w : World) (cp : Nat) (ln : Bool) (h2 : w.cell? ⟨cp, 2, none⟩ = some (.bool true)) (h3 : w.cell? ⟨cp, 3, none⟩ = some (.bool ln)) :
    Calls Try.prog 83 #[.pointer (some ⟨cp, 0, none⟩), .agg #[.int .u64 (s.a : Int), .int .u64 (s.b : Int), .int .u64 (s.c : Int), .int .u64 (s.d : Int), .int .u64 (n.a : Int), .int .u64 (n.b : Int), .int .u64 (n.c : Int), .int .u64 (n.d : Int)]] w fun e w' =>
      e = .returned (.agg (setCells (bytesOf true ln s n))) ∧ Below w.heap.size w w' := by
  have lcp : cp < w.heap.size := World.block_lt_of_cell? w _ h2
  have heq := fun w => eq97_any n w
  simp only [hz, decide_true] at heq
  have lc1 : cp < w.heap.size + 1 := by omega
  have lc2 : cp < w.heap.size + 1 + 1 := by omega
  have HZ := Lib.hid hz
  subst hz
  clear heq
  have heq := eq97_zero
  go_enter Try.func83, Try.ntmps83
  simp only [BSet.zero]
  go_wp2_with (fail)
  refine (folded_any s hs _).mono ?_
  rintro e w1 ⟨t, ht, htw, rfl, hb1⟩
  dsimp only
  have HT := Lib.hid ht
  have hr1 : w1.heap[w.heap.size + 1]? = some zcells := (hb1.block _ (by simp)).trans (heap_alloc2_new w _ _)
  have x0 : w1.cell? ⟨w.heap.size + 1, 0, none⟩ = some (.int .u64 0) := (cell_of_blk hr1 0).trans rfl
  have x1 : w1.cell? ⟨w.heap.size + 1, 1, none⟩ = some (.int .u64 0) := (cell_of_blk hr1 1).trans rfl
  have x2 : w1.cell? ⟨w.heap.size + 1, 2, none⟩ = some (.int .u64 0) := (cell_of_blk hr1 2).trans rfl
  have x3 : w1.cell? ⟨w.heap.size + 1, 3, none⟩ = some (.int .u64 0) := (cell_of_blk hr1 3).trans rfl
  have f0 := free_of_blk hr1 0
  have f1 := free_of_blk hr1 1
  have f2 := free_of_blk hr1 2
  have f3 := free_of_blk hr1 3
  have HB1 := Lib.hid hb1
  have HR1 := Lib.hid hr1
  clear ht hb1 hr1
  go_wp2
  refine bodyPost_ret (results_cell_row (p := 4) (ty := 97) (by kernel_rfl) _ _ (w.heap.size + 1) 97 _ (0, 0) _ rfl (set4 (t := t) HR1.out) Try.underlying97 (by kernel_rfl) (by kernel_rfl)) rfl ⟨by rw [HT.out]; simp [bytesOf, BSet.zero, BSet.vals], ?_⟩
  exact set4_below ((((Below.refl _ w).alloc (Nat.le_refl _) _).alloc (by simp) _).trans (HB1.out.mono (by simp; omega))) (by omega)

set_option maxHeartbeats 2000000 in
theorem bytes_neg (s n : BSet) (hs : s.WF) (hn : n.WF) (hz : n ≠ .zero) (w : World) (cp : Nat) (h2 : w.cell? ⟨cp, 2, none⟩ = some (.bool false)) (h3 : w.cell? ⟨cp, 3, none⟩ = some (.bool false)) :
    Calls Try.prog 83 #[.pointer (some ⟨cp, 0, none⟩), .agg #[.int .u64 (s.a : Int), .int .u64 (s.b : Int), .int .u64 (s.c : Int), .int .u64 (s.d : Int), .int .u64 (n.a : Int), .int .u64 (n.b : Int), .int .u64 (n.c : Int), .int .u64 (n.d : Int)]] w fun e w' =>
      e = .returned (.agg (setCells (bytesOf false false s n))) ∧ Below w.heap.size w w' := by
  have lcp : cp < w.heap.size := World.block_lt_of_cell? w _ h2
  have heq := fun w => eq97_any n w
  simp only [hz, decide_false] at heq
  have lc1 : cp < w.heap.size + 1 := by omega
  have lc2 : cp < w.heap.size + 1 + 1 := by omega
  have HZ := Lib.hid hz
  clear hz
  go_enter Try.func83, Try.ntmps83
  go_upto_region 6 with (fail)
  refine gen_code (BytW w cp false false n) (byt_start w cp false false s n lcp h2 h3 _) ?_
  intro W HW
  clear h2 h3
  have hv0 := hn
  have y0 : W.cell? ⟨w.heap.size + 2, 0, none⟩ = some (.int .u64 (n.a : Int)) := (cell_of_blk HW.own 0).trans rfl
  have y1 : W.cell? ⟨w.heap.size + 2, 1, none⟩ = some (.int .u64 (n.b : Int)) := (cell_of_blk HW.own 1).trans rfl
  have y2 : W.cell? ⟨w.heap.size + 2, 2, none⟩ = some (.int .u64 (n.c : Int)) := (cell_of_blk HW.own 2).trans rfl
  have y3 : W.cell? ⟨w.heap.size + 2, 3, none⟩ = some (.int .u64 (n.d : Int)) := (cell_of_blk HW.own 3).trans rfl
  have x0 : W.cell? ⟨w.heap.size + 1, 0, none⟩ = some (.int .u64 0) := (cell_of_blk HW.res 0).trans rfl
  have x1 : W.cell? ⟨w.heap.size + 1, 1, none⟩ = some (.int .u64 0) := (cell_of_blk HW.res 1).trans rfl
  have x2 : W.cell? ⟨w.heap.size + 1, 2, none⟩ = some (.int .u64 0) := (cell_of_blk HW.res 2).trans rfl
  have x3 : W.cell? ⟨w.heap.size + 1, 3, none⟩ = some (.int .u64 0) := (cell_of_blk HW.res 3).trans rfl
  have f0 := free_of_blk HW.res 0
  have f1 := free_of_blk HW.res 1
  have f2 := free_of_blk HW.res 2
  have f3 := free_of_blk HW.res 3
  have g0 := free_of_blk HW.own 0
  have g1 := free_of_blk HW.own 1
  have g2 := free_of_blk HW.own 2
  have g3 := free_of_blk HW.own 3
  have k2 := HW.c2
  have k3 := HW.c3
  have HWl := Lib.hid HW
  have l1 := (Array.getElem?_eq_some_iff.1 HW.res).1
  have l2 := (Array.getElem?_eq_some_iff.1 HW.own).1
  have lcW := World.block_lt_of_cell? W _ k2
  clear HW
  go_wp2
  refine bodyPost_ret (results_cell_row (p := 4) (ty := 97) (by kernel_rfl) _ _ (w.heap.size + 1) 97 _ (0, 0) _ rfl (set4 (t := n) HWl.out.res) Try.underlying97 (by kernel_rfl) (by kernel_rfl)) rfl ⟨?_, set4_below HWl.out.bel (by omega)⟩
  have hE : n = bytesOf false false s n := ?hE
  · rw [← hE]; rfl
  unfold bytesOf
  rw [if_neg HZ.out]
  simp [lineIf, foldIf]

set_option maxHeartbeats 2000000 in
theorem bytes_negl (s n : BSet) (hs : s.WF) (hn : n.WF) (hz : n ≠ .zero) (w : World) (cp : Nat) (h2 : w.cell? ⟨cp, 2, none⟩ = some (.bool false)) (h3 : w.cell? ⟨cp, 3, none⟩ = some (.bool true)) :
    Calls Try.prog 83 #[.pointer (some ⟨cp, 0, none⟩), .agg #[.int .u64 (s.a : Int), .int .u64 (s.b : Int), .int .u64 (s.c : Int), .int .u64 (s.d : Int), .int .u64 (n.a : Int), .int .u64 (n.b : Int), .int .u64 (n.c : Int), .int .u64 (n.d : Int)]] w fun e w' =>
      e = .returned (.agg (setCells (bytesOf false true s n))) ∧ Below w.heap.size w w' := by
  have lcp : cp < w.heap.size := World.block_lt_of_cell? w _ h2
  have heq := fun w => eq97_any n w
  simp only [hz, decide_false] at heq
  have lc1 : cp < w.heap.size + 1 := by omega
  have lc2 : cp < w.heap.size + 1 + 1 := by omega
  have HZ := Lib.hid hz
  clear hz
  go_enter Try.func83, Try.ntmps83
  go_upto_region 6 with (fail)
  refine gen_code (BytW w cp false true n) (byt_start w cp false true s n lcp h2 h3 _) ?_
  intro W HW
  clear h2 h3
  have hv0 := hn
  have y0 : W.cell? ⟨w.heap.size + 2, 0, none⟩ = some (.int .u64 (n.a : Int)) := (cell_of_blk HW.own 0).trans rfl
  have y1 : W.cell? ⟨w.heap.size + 2, 1, none⟩ = some (.int .u64 (n.b : Int)) := (cell_of_blk HW.own 1).trans rfl
  have y2 : W.cell? ⟨w.heap.size + 2, 2, none⟩ = some (.int .u64 (n.c : Int)) := (cell_of_blk HW.own 2).trans rfl
  have y3 : W.cell? ⟨w.heap.size + 2, 3, none⟩ = some (.int .u64 (n.d : Int)) := (cell_of_blk HW.own 3).trans rfl
  have x0 : W.cell? ⟨w.heap.size + 1, 0, none⟩ = some (.int .u64 0) := (cell_of_blk HW.res 0).trans rfl
  have x1 : W.cell? ⟨w.heap.size + 1, 1, none⟩ = some (.int .u64 0) := (cell_of_blk HW.res 1).trans rfl
  have x2 : W.cell? ⟨w.heap.size + 1, 2, none⟩ = some (.int .u64 0) := (cell_of_blk HW.res 2).trans rfl
  have x3 : W.cell? ⟨w.heap.size + 1, 3, none⟩ = some (.int .u64 0) := (cell_of_blk HW.res 3).trans rfl
  have f0 := free_of_blk HW.res 0
  have f1 := free_of_blk HW.res 1
  have f2 := free_of_blk HW.res 2
  have f3 := free_of_blk HW.res 3
  have g0 := free_of_blk HW.own 0
  have g1 := free_of_blk HW.own 1
  have g2 := free_of_blk HW.own 2
  have g3 := free_of_blk HW.own 3
  have k2 := HW.c2
  have k3 := HW.c3
  have HWl := Lib.hid HW
  have l1 := (Array.getElem?_eq_some_iff.1 HW.res).1
  have l2 := (Array.getElem?_eq_some_iff.1 HW.own).1
  have lcW := World.block_lt_of_cell? W _ k2
  clear HW
  go_wp2_with (fail)
  refine (not_int (s := n) rfl hv0 _).mono ?_
  rintro e Wq1 ⟨tW1, htW1, hwW1, rfl, hb1⟩
  dsimp only
  have HTW1 := Lib.hid htW1
  clear htW1
  have HB1 := Lib.hid hb1
  have HWq1 := Lib.hid (HWl.out.ext hb1)
  clear hb1
  go_wp2_with (fail)
  refine (with_open (v := .agg (setCells tW1)) rfl hwW1 (by decide) (by decide) (by decide) (by decide) _).mono ?_
  rintro e Wq2 ⟨tW2, htW2, hwW2, rfl, hb2⟩
  dsimp only
  have HTW2 := Lib.hid htW2
  clear htW2
  have HB2 := Lib.hid hb2
  have HWq2 := Lib.hid (HWq1.out.ext hb2)
  clear hb2
  go_wp2_with (fail)
  refine (not_int (s := tW2) rfl hwW2 _).mono ?_
  rintro e Wq3 ⟨tW3, htW3, hwW3, rfl, hb3⟩
  dsimp only
  have HTW3 := Lib.hid htW3
  clear htW3
  have HB3 := Lib.hid hb3
  have HWq3 := Lib.hid (HWq2.out.ext hb3)
  clear hb3
  clear y0 y1 y2 y3 x0 x1 x2 x3 f0 f1 f2 f3 g0 g1 g2 g3 k2 k3 l1 l2 lcW
  have HW := HWq3.out
  have y0 : Wq3.cell? ⟨w.heap.size + 2, 0, none⟩ = some (.int .u64 (n.a : Int)) := (cell_of_blk HW.own 0).trans rfl
  have y1 : Wq3.cell? ⟨w.heap.size + 2, 1, none⟩ = some (.int .u64 (n.b : Int)) := (cell_of_blk HW.own 1).trans rfl
  have y2 : Wq3.cell? ⟨w.heap.size + 2, 2, none⟩ = some (.int .u64 (n.c : Int)) := (cell_of_blk HW.own 2).trans rfl
  have y3 : Wq3.cell? ⟨w.heap.size + 2, 3, none⟩ = some (.int .u64 (n.d : Int)) := (cell_of_blk HW.own 3).trans rfl
  have x0 : Wq3.cell? ⟨w.heap.size + 1, 0, none⟩ = some (.int .u64 0) := (cell_of_blk HW.res 0).trans rfl
  have x1 : Wq3.cell? ⟨w.heap.size + 1, 1, none⟩ = some (.int .u64 0) := (cell_of_blk HW.res 1).trans rfl
  have x2 : Wq3.cell? ⟨w.heap.size + 1, 2, none⟩ = some (.int .u64 0) := (cell_of_blk HW.res 2).trans rfl
  have x3 : Wq3.cell? ⟨w.heap.size + 1, 3, none⟩ = some (.int .u64 0) := (cell_of_blk HW.res 3).trans rfl
  have f0 := free_of_blk HW.res 0
  have f1 := free_of_blk HW.res 1
  have f2 := free_of_blk HW.res 2
  have f3 := free_of_blk HW.res 3
  have g0 := free_of_blk HW.own 0
  have g1 := free_of_blk HW.own 1
  have g2 := free_of_blk HW.own 2
  have g3 := free_of_blk HW.own 3
  have k2 := HW.c2
  have k3 := HW.c3
  have HWl := Lib.hid HW
  have l1 := (Array.getElem?_eq_some_iff.1 HW.res).1
  have l2 := (Array.getElem?_eq_some_iff.1 HW.own).1
  have lcW := World.block_lt_of_cell? Wq3 _ k2
  clear HW
  go_upto_region 10 with (fail)
  have HS1 := HWl.out.store lcp tW3
  have hv0' := hwW3
  clear y0 y1 y2 y3 x0 x1 x2 x3 f0 f1 f2 f3 g0 g1 g2 g3 k2 k3 l1 l2 lcW
  clear HWl
  change Code.wp _ _ _ _ (fill4 Wq3 (w.heap.size + 2) (.int .u64 (tW3.a : Int)) (.int .u64 (tW3.b : Int)) (.int .u64 (tW3.c : Int)) (.int .u64 (tW3.d : Int)))
  generalize fill4 Wq3 (w.heap.size + 2) (.int .u64 (tW3.a : Int)) (.int .u64 (tW3.b : Int)) (.int .u64 (tW3.c : Int)) (.int .u64 (tW3.d : Int)) = V1 at HS1 ⊢
  have HW := HS1
  clear HS1 hv0
  have hv0 := hv0'
  clear hv0'
  have y0 : V1.cell? ⟨w.heap.size + 2, 0, none⟩ = some (.int .u64 (tW3.a : Int)) := (cell_of_blk HW.own 0).trans rfl
  have y1 : V1.cell? ⟨w.heap.size + 2, 1, none⟩ = some (.int .u64 (tW3.b : Int)) := (cell_of_blk HW.own 1).trans rfl
  have y2 : V1.cell? ⟨w.heap.size + 2, 2, none⟩ = some (.int .u64 (tW3.c : Int)) := (cell_of_blk HW.own 2).trans rfl
  have y3 : V1.cell? ⟨w.heap.size + 2, 3, none⟩ = some (.int .u64 (tW3.d : Int)) := (cell_of_blk HW.own 3).trans rfl
  have x0 : V1.cell? ⟨w.heap.size + 1, 0, none⟩ = some (.int .u64 0) := (cell_of_blk HW.res 0).trans rfl
  have x1 : V1.cell? ⟨w.heap.size + 1, 1, none⟩ = some (.int .u64 0) := (cell_of_blk HW.res 1).trans rfl
  have x2 : V1.cell? ⟨w.heap.size + 1, 2, none⟩ = some (.int .u64 0) := (cell_of_blk HW.res 2).trans rfl
  have x3 : V1.cell? ⟨w.heap.size + 1, 3, none⟩ = some (.int .u64 0) := (cell_of_blk HW.res 3).trans rfl
  have f0 := free_of_blk HW.res 0
  have f1 := free_of_blk HW.res 1
  have f2 := free_of_blk HW.res 2
  have f3 := free_of_blk HW.res 3
  have g0 := free_of_blk HW.own 0
  have g1 := free_of_blk HW.own 1
  have g2 := free_of_blk HW.own 2
  have g3 := free_of_blk HW.own 3
  have k2 := HW.c2
  have k3 := HW.c3
  have HWl := Lib.hid HW
  have l1 := (Array.getElem?_eq_some_iff.1 HW.res).1
  have l2 := (Array.getElem?_eq_some_iff.1 HW.own).1
  have lcW := World.block_lt_of_cell? V1 _ k2
  clear HW
  go_wp2
  refine bodyPost_ret (results_cell_row (p := 4) (ty := 97) (by kernel_rfl) _ _ (w.heap.size + 1) 97 _ (0, 0) _ rfl (set4 (t := tW3) HWl.out.res) Try.underlying97 (by kernel_rfl) (by kernel_rfl)) rfl ⟨?_, set4_below HWl.out.bel (by omega)⟩
  have hE : tW3 = bytesOf false true s n := ?hE
  · rw [← hE]; rfl
  unfold bytesOf
  rw [if_neg HZ.out]
  have e0 := HTW1.out
  have e1 := HTW2.out
  have e2 := HTW3.out
  simp [lineIf, foldIf, e0, e1, e2]

set_option maxHeartbeats 2000000 in
theorem bytes_negf (s n : BSet) (hs : s.WF) (hn : n.WF) (hz : n ≠ .zero) (w : World) (cp : Nat) (h2 : w.cell? ⟨cp, 2, none⟩ = some (.bool true)) (h3 : w.cell? ⟨cp, 3, none⟩ = some (.bool false)) :
    Calls Try.prog 83 #[.pointer (some ⟨cp, 0, none⟩), .agg #[.int .u64 (s.a : Int), .int .u64 (s.b : Int), .int .u64 (s.c : Int), .int .u64 (s.d : Int), .int .u64 (n.a : Int), .int .u64 (n.b : Int), .int .u64 (n.c : Int), .int .u64 (n.d : Int)]] w fun e w' =>
      e = .returned (.agg (setCells (bytesOf true false s n))) ∧ Below w.heap.size w w' := by
  have lcp : cp < w.heap.size := World.block_lt_of_cell? w _ h2
  have heq := fun w => eq97_any n w
  simp only [hz, decide_false] at heq
  have lc1 : cp < w.heap.size + 1 := by omega
  have lc2 : cp < w.heap.size + 1 + 1 := by omega
  have HZ := Lib.hid hz
  clear hz
  go_enter Try.func83, Try.ntmps83
  go_upto_region 6 with (fail)
  refine gen_code (BytW w cp true false n) (byt_start w cp true false s n lcp h2 h3 _) ?_
  intro W HW
  clear h2 h3
  have hv0 := hn
  have y0 : W.cell? ⟨w.heap.size + 2, 0, none⟩ = some (.int .u64 (n.a : Int)) := (cell_of_blk HW.own 0).trans rfl
  have y1 : W.cell? ⟨w.heap.size + 2, 1, none⟩ = some (.int .u64 (n.b : Int)) := (cell_of_blk HW.own 1).trans rfl
  have y2 : W.cell? ⟨w.heap.size + 2, 2, none⟩ = some (.int .u64 (n.c : Int)) := (cell_of_blk HW.own 2).trans rfl
  have y3 : W.cell? ⟨w.heap.size + 2, 3, none⟩ = some (.int .u64 (n.d : Int)) := (cell_of_blk HW.own 3).trans rfl
  have x0 : W.cell? ⟨w.heap.size + 1, 0, none⟩ = some (.int .u64 0) := (cell_of_blk HW.res 0).trans rfl
  have x1 : W.cell? ⟨w.heap.size + 1, 1, none⟩ = some (.int .u64 0) := (cell_of_blk HW.res 1).trans rfl
  have x2 : W.cell? ⟨w.heap.size + 1, 2, none⟩ = some (.int .u64 0) := (cell_of_blk HW.res 2).trans rfl
  have x3 : W.cell? ⟨w.heap.size + 1, 3, none⟩ = some (.int .u64 0) := (cell_of_blk HW.res 3).trans rfl
  have f0 := free_of_blk HW.res 0
  have f1 := free_of_blk HW.res 1
  have f2 := free_of_blk HW.res 2
  have f3 := free_of_blk HW.res 3
  have g0 := free_of_blk HW.own 0
  have g1 := free_of_blk HW.own 1
  have g2 := free_of_blk HW.own 2
  have g3 := free_of_blk HW.own 3
  have k2 := HW.c2
  have k3 := HW.c3
  have HWl := Lib.hid HW
  have l1 := (Array.getElem?_eq_some_iff.1 HW.res).1
  have l2 := (Array.getElem?_eq_some_iff.1 HW.own).1
  have lcW := World.block_lt_of_cell? W _ k2
  clear HW
  go_wp2_with (fail)
  refine (not_int (s := n) rfl hv0 _).mono ?_
  rintro e Wq1 ⟨tW1, htW1, hwW1, rfl, hb1⟩
  dsimp only
  have HTW1 := Lib.hid htW1
  clear htW1
  have HB1 := Lib.hid hb1
  have HWq1 := Lib.hid (HWl.out.ext hb1)
  clear hb1
  go_wp2_with (fail)
  refine (folded_any tW1 hwW1 _).mono ?_
  rintro e Wq2 ⟨tW2, htW2, hwW2, rfl, hb2⟩
  dsimp only
  have HTW2 := Lib.hid htW2
  clear htW2
  have HB2 := Lib.hid hb2
  have HWq2 := Lib.hid (HWq1.out.ext hb2)
  clear hb2
  go_wp2_with (fail)
  refine (not_int (s := tW2) rfl hwW2 _).mono ?_
  rintro e Wq3 ⟨tW3, htW3, hwW3, rfl, hb3⟩
  dsimp only
  have HTW3 := Lib.hid htW3
  clear htW3
  have HB3 := Lib.hid hb3
  have HWq3 := Lib.hid (HWq2.out.ext hb3)
  clear hb3
  clear y0 y1 y2 y3 x0 x1 x2 x3 f0 f1 f2 f3 g0 g1 g2 g3 k2 k3 l1 l2 lcW
  have HW := HWq3.out
  have y0 : Wq3.cell? ⟨w.heap.size + 2, 0, none⟩ = some (.int .u64 (n.a : Int)) := (cell_of_blk HW.own 0).trans rfl
  have y1 : Wq3.cell? ⟨w.heap.size + 2, 1, none⟩ = some (.int .u64 (n.b : Int)) := (cell_of_blk HW.own 1).trans rfl
  have y2 : Wq3.cell? ⟨w.heap.size + 2, 2, none⟩ = some (.int .u64 (n.c : Int)) := (cell_of_blk HW.own 2).trans rfl
  have y3 : Wq3.cell? ⟨w.heap.size + 2, 3, none⟩ = some (.int .u64 (n.d : Int)) := (cell_of_blk HW.own 3).trans rfl
  have x0 : Wq3.cell? ⟨w.heap.size + 1, 0, none⟩ = some (.int .u64 0) := (cell_of_blk HW.res 0).trans rfl
  have x1 : Wq3.cell? ⟨w.heap.size + 1, 1, none⟩ = some (.int .u64 0) := (cell_of_blk HW.res 1).trans rfl
  have x2 : Wq3.cell? ⟨w.heap.size + 1, 2, none⟩ = some (.int .u64 0) := (cell_of_blk HW.res 2).trans rfl
  have x3 : Wq3.cell? ⟨w.heap.size + 1, 3, none⟩ = some (.int .u64 0) := (cell_of_blk HW.res 3).trans rfl
  have f0 := free_of_blk HW.res 0
  have f1 := free_of_blk HW.res 1
  have f2 := free_of_blk HW.res 2
  have f3 := free_of_blk HW.res 3
  have g0 := free_of_blk HW.own 0
  have g1 := free_of_blk HW.own 1
  have g2 := free_of_blk HW.own 2
  have g3 := free_of_blk HW.own 3
  have k2 := HW.c2
  have k3 := HW.c3
  have HWl := Lib.hid HW
  have l1 := (Array.getElem?_eq_some_iff.1 HW.res).1
  have l2 := (Array.getElem?_eq_some_iff.1 HW.own).1
  have lcW := World.block_lt_of_cell? Wq3 _ k2
  clear HW
  go_upto_region 8 with (fail)
  have HS1 := HWl.out.store lcp tW3
  have hv0' := hwW3
  clear y0 y1 y2 y3 x0 x1 x2 x3 f0 f1 f2 f3 g0 g1 g2 g3 k2 k3 l1 l2 lcW
  clear HWl
  change Code.wp _ _ _ _ (fill4 Wq3 (w.heap.size + 2) (.int .u64 (tW3.a : Int)) (.int .u64 (tW3.b : Int)) (.int .u64 (tW3.c : Int)) (.int .u64 (tW3.d : Int)))
  generalize fill4 Wq3 (w.heap.size + 2) (.int .u64 (tW3.a : Int)) (.int .u64 (tW3.b : Int)) (.int .u64 (tW3.c : Int)) (.int .u64 (tW3.d : Int)) = V1 at HS1 ⊢
  have HW := HS1
  clear HS1 hv0
  have hv0 := hv0'
  clear hv0'
  have y0 : V1.cell? ⟨w.heap.size + 2, 0, none⟩ = some (.int .u64 (tW3.a : Int)) := (cell_of_blk HW.own 0).trans rfl
  have y1 : V1.cell? ⟨w.heap.size + 2, 1, none⟩ = some (.int .u64 (tW3.b : Int)) := (cell_of_blk HW.own 1).trans rfl
  have y2 : V1.cell? ⟨w.heap.size + 2, 2, none⟩ = some (.int .u64 (tW3.c : Int)) := (cell_of_blk HW.own 2).trans rfl
  have y3 : V1.cell? ⟨w.heap.size + 2, 3, none⟩ = some (.int .u64 (tW3.d : Int)) := (cell_of_blk HW.own 3).trans rfl
  have x0 : V1.cell? ⟨w.heap.size + 1, 0, none⟩ = some (.int .u64 0) := (cell_of_blk HW.res 0).trans rfl
  have x1 : V1.cell? ⟨w.heap.size + 1, 1, none⟩ = some (.int .u64 0) := (cell_of_blk HW.res 1).trans rfl
  have x2 : V1.cell? ⟨w.heap.size + 1, 2, none⟩ = some (.int .u64 0) := (cell_of_blk HW.res 2).trans rfl
  have x3 : V1.cell? ⟨w.heap.size + 1, 3, none⟩ = some (.int .u64 0) := (cell_of_blk HW.res 3).trans rfl
  have f0 := free_of_blk HW.res 0
  have f1 := free_of_blk HW.res 1
  have f2 := free_of_blk HW.res 2
  have f3 := free_of_blk HW.res 3
  have g0 := free_of_blk HW.own 0
  have g1 := free_of_blk HW.own 1
  have g2 := free_of_blk HW.own 2
  have g3 := free_of_blk HW.own 3
  have k2 := HW.c2
  have k3 := HW.c3
  have HWl := Lib.hid HW
  have l1 := (Array.getElem?_eq_some_iff.1 HW.res).1
  have l2 := (Array.getElem?_eq_some_iff.1 HW.own).1
  have lcW := World.block_lt_of_cell? V1 _ k2
  clear HW
  go_wp2
  refine bodyPost_ret (results_cell_row (p := 4) (ty := 97) (by kernel_rfl) _ _ (w.heap.size + 1) 97 _ (0, 0) _ rfl (set4 (t := tW3) HWl.out.res) Try.underlying97 (by kernel_rfl) (by kernel_rfl)) rfl ⟨?_, set4_below HWl.out.bel (by omega)⟩
  have hE : tW3 = bytesOf true false s n := ?hE
  · rw [← hE]; rfl
  unfold bytesOf
  rw [if_neg HZ.out]
  have e0 := HTW1.out
  have e1 := HTW2.out
  have e2 := HTW3.out
  simp [lineIf, foldIf, e0, e1, e2]

set_option maxHeartbeats 2000000 in
theorem bytes_negfl (s n : BSet) (hs : s.WF) (hn : n.WF) (hz : n ≠ .zero) (w : World) (cp : Nat) (h2 : w.cell? ⟨cp, 2, none⟩ = some (.bool true)) (h3 : w.cell? ⟨cp, 3, none⟩ = some (.bool true)) :
    Calls Try.prog 83 #[.pointer (some ⟨cp, 0, none⟩), .agg #[.int .u64 (s.a : Int), .int .u64 (s.b : Int), .int .u64 (s.c : Int), .int .u64 (s.d : Int), .int .u64 (n.a : Int), .int .u64 (n.b : Int), .int .u64 (n.c : Int), .int .u64 (n.d : Int)]] w fun e w' =>
      e = .returned (.agg (setCells (bytesOf true true s n))) ∧ Below w.heap.size w w' := by
  have lcp : cp < w.heap.size := World.block_lt_of_cell? w _ h2
  have heq := fun w => eq97_any n w
  simp only [hz, decide_false] at heq
  have lc1 : cp < w.heap.size + 1 := by omega
  have lc2 : cp < w.heap.size + 1 + 1 := by omega
  have HZ := Lib.hid hz
  clear hz
  go_enter Try.func83, Try.ntmps83
  go_upto_region 6 with (fail)
  refine gen_code (BytW w cp true true n) (byt_start w cp true true s n lcp h2 h3 _) ?_
  intro W HW
  clear h2 h3
  have hv0 := hn
  have y0 : W.cell? ⟨w.heap.size + 2, 0, none⟩ = some (.int .u64 (n.a : Int)) := (cell_of_blk HW.own 0).trans rfl
  have y1 : W.cell? ⟨w.heap.size + 2, 1, none⟩ = some (.int .u64 (n.b : Int)) := (cell_of_blk HW.own 1).trans rfl
  have y2 : W.cell? ⟨w.heap.size + 2, 2, none⟩ = some (.int .u64 (n.c : Int)) := (cell_of_blk HW.own 2).trans rfl
  have y3 : W.cell? ⟨w.heap.size + 2, 3, none⟩ = some (.int .u64 (n.d : Int)) := (cell_of_blk HW.own 3).trans rfl
  have x0 : W.cell? ⟨w.heap.size + 1, 0, none⟩ = some (.int .u64 0) := (cell_of_blk HW.res 0).trans rfl
  have x1 : W.cell? ⟨w.heap.size + 1, 1, none⟩ = some (.int .u64 0) := (cell_of_blk HW.res 1).trans rfl
  have x2 : W.cell? ⟨w.heap.size + 1, 2, none⟩ = some (.int .u64 0) := (cell_of_blk HW.res 2).trans rfl
  have x3 : W.cell? ⟨w.heap.size + 1, 3, none⟩ = some (.int .u64 0) := (cell_of_blk HW.res 3).trans rfl
  have f0 := free_of_blk HW.res 0
  have f1 := free_of_blk HW.res 1
  have f2 := free_of_blk HW.res 2
  have f3 := free_of_blk HW.res 3
  have g0 := free_of_blk HW.own 0
  have g1 := free_of_blk HW.own 1
  have g2 := free_of_blk HW.own 2
  have g3 := free_of_blk HW.own 3
  have k2 := HW.c2
  have k3 := HW.c3
  have HWl := Lib.hid HW
  have l1 := (Array.getElem?_eq_some_iff.1 HW.res).1
  have l2 := (Array.getElem?_eq_some_iff.1 HW.own).1
  have lcW := World.block_lt_of_cell? W _ k2
  clear HW
  go_wp2_with (fail)
  refine (not_int (s := n) rfl hv0 _).mono ?_
  rintro e Wq1 ⟨tW1, htW1, hwW1, rfl, hb1⟩
  dsimp only
  have HTW1 := Lib.hid htW1
  clear htW1
  have HB1 := Lib.hid hb1
  have HWq1 := Lib.hid (HWl.out.ext hb1)
  clear hb1
  go_wp2_with (fail)
  refine (folded_any tW1 hwW1 _).mono ?_
  rintro e Wq2 ⟨tW2, htW2, hwW2, rfl, hb2⟩
  dsimp only
  have HTW2 := Lib.hid htW2
  clear htW2
  have HB2 := Lib.hid hb2
  have HWq2 := Lib.hid (HWq1.out.ext hb2)
  clear hb2
  go_wp2_with (fail)
  refine (not_int (s := tW2) rfl hwW2 _).mono ?_
  rintro e Wq3 ⟨tW3, htW3, hwW3, rfl, hb3⟩
  dsimp only
  have HTW3 := Lib.hid htW3
  clear htW3
  have HB3 := Lib.hid hb3
  have HWq3 := Lib.hid (HWq2.out.ext hb3)
  clear hb3
  clear y0 y1 y2 y3 x0 x1 x2 x3 f0 f1 f2 f3 g0 g1 g2 g3 k2 k3 l1 l2 lcW
  have HW := HWq3.out
  have y0 : Wq3.cell? ⟨w.heap.size + 2, 0, none⟩ = some (.int .u64 (n.a : Int)) := (cell_of_blk HW.own 0).trans rfl
  have y1 : Wq3.cell? ⟨w.heap.size + 2, 1, none⟩ = some (.int .u64 (n.b : Int)) := (cell_of_blk HW.own 1).trans rfl
  have y2 : Wq3.cell? ⟨w.heap.size + 2, 2, none⟩ = some (.int .u64 (n.c : Int)) := (cell_of_blk HW.own 2).trans rfl
  have y3 : Wq3.cell? ⟨w.heap.size + 2, 3, none⟩ = some (.int .u64 (n.d : Int)) := (cell_of_blk HW.own 3).trans rfl
  have x0 : Wq3.cell? ⟨w.heap.size + 1, 0, none⟩ = some (.int .u64 0) := (cell_of_blk HW.res 0).trans rfl
  have x1 : Wq3.cell? ⟨w.heap.size + 1, 1, none⟩ = some (.int .u64 0) := (cell_of_blk HW.res 1).trans rfl
  have x2 : Wq3.cell? ⟨w.heap.size + 1, 2, none⟩ = some (.int .u64 0) := (cell_of_blk HW.res 2).trans rfl
  have x3 : Wq3.cell? ⟨w.heap.size + 1, 3, none⟩ = some (.int .u64 0) := (cell_of_blk HW.res 3).trans rfl
  have f0 := free_of_blk HW.res 0
  have f1 := free_of_blk HW.res 1
  have f2 := free_of_blk HW.res 2
  have f3 := free_of_blk HW.res 3
  have g0 := free_of_blk HW.own 0
  have g1 := free_of_blk HW.own 1
  have g2 := free_of_blk HW.own 2
  have g3 := free_of_blk HW.own 3
  have k2 := HW.c2
  have k3 := HW.c3
  have HWl := Lib.hid HW
  have l1 := (Array.getElem?_eq_some_iff.1 HW.res).1
  have l2 := (Array.getElem?_eq_some_iff.1 HW.own).1
  have lcW := World.block_lt_of_cell? Wq3 _ k2
  clear HW
  go_upto_region 8 with (fail)
  have HS1 := HWl.out.store lcp tW3
  have hv0' := hwW3
  clear y0 y1 y2 y3 x0 x1 x2 x3 f0 f1 f2 f3 g0 g1 g2 g3 k2 k3 l1 l2 lcW
  clear HWl
  change Code.wp _ _ _ _ (fill4 Wq3 (w.heap.size + 2) (.int .u64 (tW3.a : Int)) (.int .u64 (tW3.b : Int)) (.int .u64 (tW3.c : Int)) (.int .u64 (tW3.d : Int)))
  generalize fill4 Wq3 (w.heap.size + 2) (.int .u64 (tW3.a : Int)) (.int .u64 (tW3.b : Int)) (.int .u64 (tW3.c : Int)) (.int .u64 (tW3.d : Int)) = V1 at HS1 ⊢
  have HW := HS1
  clear HS1 hv0
  have hv0 := hv0'
  clear hv0'
  have y0 : V1.cell? ⟨w.heap.size + 2, 0, none⟩ = some (.int .u64 (tW3.a : Int)) := (cell_of_blk HW.own 0).trans rfl
  have y1 : V1.cell? ⟨w.heap.size + 2, 1, none⟩ = some (.int .u64 (tW3.b : Int)) := (cell_of_blk HW.own 1).trans rfl
  have y2 : V1.cell? ⟨w.heap.size + 2, 2, none⟩ = some (.int .u64 (tW3.c : Int)) := (cell_of_blk HW.own 2).trans rfl
  have y3 : V1.cell? ⟨w.heap.size + 2, 3, none⟩ = some (.int .u64 (tW3.d : Int)) := (cell_of_blk HW.own 3).trans rfl
  have x0 : V1.cell? ⟨w.heap.size + 1, 0, none⟩ = some (.int .u64 0) := (cell_of_blk HW.res 0).trans rfl
  have x1 : V1.cell? ⟨w.heap.size + 1, 1, none⟩ = some (.int .u64 0) := (cell_of_blk HW.res 1).trans rfl
  have x2 : V1.cell? ⟨w.heap.size + 1, 2, none⟩ = some (.int .u64 0) := (cell_of_blk HW.res 2).trans rfl
  have x3 : V1.cell? ⟨w.heap.size + 1, 3, none⟩ = some (.int .u64 0) := (cell_of_blk HW.res 3).trans rfl
  have f0 := free_of_blk HW.res 0
  have f1 := free_of_blk HW.res 1
  have f2 := free_of_blk HW.res 2
  have f3 := free_of_blk HW.res 3
  have g0 := free_of_blk HW.own 0
  have g1 := free_of_blk HW.own 1
  have g2 := free_of_blk HW.own 2
  have g3 := free_of_blk HW.own 3
  have k2 := HW.c2
  have k3 := HW.c3
  have HWl := Lib.hid HW
  have l1 := (Array.getElem?_eq_some_iff.1 HW.res).1
  have l2 := (Array.getElem?_eq_some_iff.1 HW.own).1
  have lcW := World.block_lt_of_cell? V1 _ k2
  clear HW
  go_wp2_with (fail)
  refine (not_int (s := tW3) rfl hv0 _).mono ?_
  rintro e V1q1 ⟨tV11, htV11, hwV11, rfl, hb1⟩
  dsimp only
  have HTV11 := Lib.hid htV11
  clear htV11
  have HB1 := Lib.hid hb1
  have HWq1 := Lib.hid (HWl.out.ext hb1)
  clear hb1
  go_wp2_with (fail)
  refine (with_open (v := .agg (setCells tV11)) rfl hwV11 (by decide) (by decide) (by decide) (by decide) _).mono ?_
  rintro e V1q2 ⟨tV12, htV12, hwV12, rfl, hb2⟩
  dsimp only
  have HTV12 := Lib.hid htV12
  clear htV12
  have HB2 := Lib.hid hb2
  have HWq2 := Lib.hid (HWq1.out.ext hb2)
  clear hb2
  go_wp2_with (fail)
  refine (not_int (s := tV12) rfl hwV12 _).mono ?_
  rintro e V1q3 ⟨tV13, htV13, hwV13, rfl, hb3⟩
  dsimp only
  have HTV13 := Lib.hid htV13
  clear htV13
  have HB3 := Lib.hid hb3
  have HWq3 := Lib.hid (HWq2.out.ext hb3)
  clear hb3
  clear y0 y1 y2 y3 x0 x1 x2 x3 f0 f1 f2 f3 g0 g1 g2 g3 k2 k3 l1 l2 lcW
  have HW := HWq3.out
  have y0 : V1q3.cell? ⟨w.heap.size + 2, 0, none⟩ = some (.int .u64 (tW3.a : Int)) := (cell_of_blk HW.own 0).trans rfl
  have y1 : V1q3.cell? ⟨w.heap.size + 2, 1, none⟩ = some (.int .u64 (tW3.b : Int)) := (cell_of_blk HW.own 1).trans rfl
  have y2 : V1q3.cell? ⟨w.heap.size + 2, 2, none⟩ = some (.int .u64 (tW3.c : Int)) := (cell_of_blk HW.own 2).trans rfl
  have y3 : V1q3.cell? ⟨w.heap.size + 2, 3, none⟩ = some (.int .u64 (tW3.d : Int)) := (cell_of_blk HW.own 3).trans rfl
  have x0 : V1q3.cell? ⟨w.heap.size + 1, 0, none⟩ = some (.int .u64 0) := (cell_of_blk HW.res 0).trans rfl
  have x1 : V1q3.cell? ⟨w.heap.size + 1, 1, none⟩ = some (.int .u64 0) := (cell_of_blk HW.res 1).trans rfl
  have x2 : V1q3.cell? ⟨w.heap.size + 1, 2, none⟩ = some (.int .u64 0) := (cell_of_blk HW.res 2).trans rfl
  have x3 : V1q3.cell? ⟨w.heap.size + 1, 3, none⟩ = some (.int .u64 0) := (cell_of_blk HW.res 3).trans rfl
  have f0 := free_of_blk HW.res 0
  have f1 := free_of_blk HW.res 1
  have f2 := free_of_blk HW.res 2
  have f3 := free_of_blk HW.res 3
  have g0 := free_of_blk HW.own 0
  have g1 := free_of_blk HW.own 1
  have g2 := free_of_blk HW.own 2
  have g3 := free_of_blk HW.own 3
  have k2 := HW.c2
  have k3 := HW.c3
  have HWl := Lib.hid HW
  have l1 := (Array.getElem?_eq_some_iff.1 HW.res).1
  have l2 := (Array.getElem?_eq_some_iff.1 HW.own).1
  have lcW := World.block_lt_of_cell? V1q3 _ k2
  clear HW
  go_upto_region 10 with (fail)
  have HS2 := HWl.out.store lcp tV13
  have hv0' := hwV13
  clear y0 y1 y2 y3 x0 x1 x2 x3 f0 f1 f2 f3 g0 g1 g2 g3 k2 k3 l1 l2 lcW
  clear HWl
  change Code.wp _ _ _ _ (fill4 V1q3 (w.heap.size + 2) (.int .u64 (tV13.a : Int)) (.int .u64 (tV13.b : Int)) (.int .u64 (tV13.c : Int)) (.int .u64 (tV13.d : Int)))
  generalize fill4 V1q3 (w.heap.size + 2) (.int .u64 (tV13.a : Int)) (.int .u64 (tV13.b : Int)) (.int .u64 (tV13.c : Int)) (.int .u64 (tV13.d : Int)) = V2 at HS2 ⊢
  have HW := HS2
  clear HS2 hv0
  have hv0 := hv0'
  clear hv0'
  have y0 : V2.cell? ⟨w.heap.size + 2, 0, none⟩ = some (.int .u64 (tV13.a : Int)) := (cell_of_blk HW.own 0).trans rfl
  have y1 : V2.cell? ⟨w.heap.size + 2, 1, none⟩ = some (.int .u64 (tV13.b : Int)) := (cell_of_blk HW.own 1).trans rfl
  have y2 : V2.cell? ⟨w.heap.size + 2, 2, none⟩ = some (.int .u64 (tV13.c : Int)) := (cell_of_blk HW.own 2).trans rfl
  have y3 : V2.cell? ⟨w.heap.size + 2, 3, none⟩ = some (.int .u64 (tV13.d : Int)) := (cell_of_blk HW.own 3).trans rfl
  have x0 : V2.cell? ⟨w.heap.size + 1, 0, none⟩ = some (.int .u64 0) := (cell_of_blk HW.res 0).trans rfl
  have x1 : V2.cell? ⟨w.heap.size + 1, 1, none⟩ = some (.int .u64 0) := (cell_of_blk HW.res 1).trans rfl
  have x2 : V2.cell? ⟨w.heap.size + 1, 2, none⟩ = some (.int .u64 0) := (cell_of_blk HW.res 2).trans rfl
  have x3 : V2.cell? ⟨w.heap.size + 1, 3, none⟩ = some (.int .u64 0) := (cell_of_blk HW.res 3).trans rfl
  have f0 := free_of_blk HW.res 0
  have f1 := free_of_blk HW.res 1
  have f2 := free_of_blk HW.res 2
  have f3 := free_of_blk HW.res 3
  have g0 := free_of_blk HW.own 0
  have g1 := free_of_blk HW.own 1
  have g2 := free_of_blk HW.own 2
  have g3 := free_of_blk HW.own 3
  have k2 := HW.c2
  have k3 := HW.c3
  have HWl := Lib.hid HW
  have l1 := (Array.getElem?_eq_some_iff.1 HW.res).1
  have l2 := (Array.getElem?_eq_some_iff.1 HW.own).1
  have lcW := World.block_lt_of_cell? V2 _ k2
  clear HW
  go_wp2
  refine bodyPost_ret (results_cell_row (p := 4) (ty := 97) (by kernel_rfl) _ _ (w.heap.size + 1) 97 _ (0, 0) _ rfl (set4 (t := tV13) HWl.out.res) Try.underlying97 (by kernel_rfl) (by kernel_rfl)) rfl ⟨?_, set4_below HWl.out.bel (by omega)⟩
  have hE : tV13 = bytesOf true true s n := ?hE
  · rw [← hE]; rfl
  unfold bytesOf
  rw [if_neg HZ.out]
  have e0 := HTW1.out
  have e1 := HTW2.out
  have e2 := HTW3.out
  have e3 := HTV11.out
  have e4 := HTV12.out
  have e5 := HTV13.out
  simp [lineIf, foldIf, e0, e1, e2, e3, e4, e5]

theorem bytes_any (fl ln : Bool) (s n : BSet) (hs : s.WF) (hn : n.WF) (w : World) (cp : Nat) (h2 : w.cell? ⟨cp, 2, none⟩ = some (.bool fl)) (h3 : w.cell? ⟨cp, 3, none⟩ = some (.bool ln)) :
    Calls Try.prog 83 #[.pointer (some ⟨cp, 0, none⟩), .agg #[.int .u64 (s.a : Int), .int .u64 (s.b : Int), .int .u64 (s.c : Int), .int .u64 (s.d : Int), .int .u64 (n.a : Int), .int .u64 (n.b : Int), .int .u64 (n.c : Int), .int .u64 (n.d : Int)]] w fun e w' =>
      e = .returned (.agg (setCells (bytesOf fl ln s n))) ∧ Below w.heap.size w w' := by
  by_cases hz : n = .zero
  · cases fl
    · exact bytes_set s n hs hn hz w cp ln h2 h3
    · exact bytes_setf s n hs hn hz w cp ln h2 h3
  · cases fl
    · cases ln
      · exact bytes_neg s n hs hn hz w cp h2 h3
      · exact bytes_negl s n hs hn hz w cp h2 h3
    · cases ln
      · exact bytes_negf s n hs hn hz w cp h2 h3
      · exact bytes_negfl s n hs hn hz w cp h2 h3

end Go.Proofs.Ytfgghbideoehjaa
