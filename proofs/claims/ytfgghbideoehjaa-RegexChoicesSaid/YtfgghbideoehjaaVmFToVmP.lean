/-
  The machine: from's inner round, the code, the map's keys.
  The machine: small laws for the arms of from's round that look a state up.
-/
import Derived.Test.YtfgghbideoehjaaVmAToVmE
import Derived.Deep.CutRange
import Derived.Deep.RegionHeld3
namespace Go.Proofs.Ytfgghbideoehjaa
open Go.ChangeShapes Go.WideShapes Go.ChangeAt Go.RowKit
set_option linter.unusedVariables false
set_option linter.unusedSimpArgs false
set_option maxRecDepth 1000000

def allLoops : Code → List Code
  | .loop c => [c]
  | .seq a b => allLoops a ++ allLoops b
  | .block _ c => allLoops c
  | .scope c => allLoops c
  | .cond _ a b => allLoops a ++ allLoops b
  | _ => []
/-- The body of from's loop over the stack, and of the loop within it. -/
noncomputable def outerBody : Code := ((allLoops (Try.f28.body.getD .skip))[1]?).getD .skip
noncomputable def innerBody : Code := ((allLoops outerBody)[0]?).getD .skip

theorem cell_alloc_keep {w : World} {a : Addr} {v : Value} (h : w.cell? a = some v) (o : Obj) : (w.alloc o).cell? a = some v := (((Below.refl _ w).alloc (Nat.le_refl _) o).cell (World.block_lt_of_cell? w a h)).trans h
theorem key_soon {X w1 : World} (hb : Below X.heap.size X w1) (o : Array Value) (T : TypeId) : X.heap.size ≤ w1.heap.size ∧ (w1.alloc (.cells o T)).heap[w1.heap.size]? = some (.cells o T (0, 0)) ∧ Below X.heap.size X (w1.alloc (.cells o T)) :=
  ⟨hb.size, heap_alloc_new w1 _, hb.alloc hb.size _⟩
theorem key_late {X w1 : World} {a b c : Value} (hb : Below X.heap.size X w1) (h9 : w1.heap[X.heap.size]? = some (.cells #[a, b, c] 102 (0, 0))) (x y z : Value) :
    (((w1.setCell ⟨X.heap.size, 0, none⟩ x).setCell ⟨X.heap.size, 1, none⟩ y).setCell ⟨X.heap.size, 2, none⟩ z).heap[X.heap.size]? = some (.cells #[x, y, z] 102 (0, 0)) ∧
      Below X.heap.size X (((w1.setCell ⟨X.heap.size, 0, none⟩ x).setCell ⟨X.heap.size, 1, none⟩ y).setCell ⟨X.heap.size, 2, none⟩ z) := by
  have h1 := heap_setCell_same _ _ 0 _ _ x h9
  have h2 := heap_setCell_same _ _ 1 _ _ y h1
  have h3 := heap_setCell_same _ _ 2 _ _ z h2
  exact ⟨h3, ((hb.setCell (Nat.le_refl _) _).setCell (Nat.le_refl _) _).setCell (Nat.le_refl _) _⟩


end Go.Proofs.Ytfgghbideoehjaa

namespace Go.Proofs.Ytfgghbideoehjaa
open Go.ChangeShapes Go.WideShapes Go.ChangeAt Go.RowKit
set_option linter.unusedVariables false

theorem key_keep {w1 : World} {a : Addr} {v : Value} (h : w1.cell? a = some v) {kb : Nat} (hne : a.block ≠ kb) (x y z : Value) :
    (((w1.setCell ⟨kb, 0, none⟩ x).setCell ⟨kb, 1, none⟩ y).setCell ⟨kb, 2, none⟩ z).cell? a = some v := by
  have hn : ∀ (j : Nat), a ≠ ⟨kb, j, none⟩ := fun j e => hne (by rw [e])
  rw [cell_set_other _ _ _ _ (hn 2), cell_set_other _ _ _ _ (hn 1), cell_set_other _ _ _ _ (hn 0)]
  exact h

theorem gen_exit {K : Exit → Act → World → Prop} {a : Act} {W : World} (F : World → Prop) (hF : F W) (h : ∀ V, F V → K Exit.normal a V) : K Exit.normal a W := h W hF

theorem cells_new (w : World) (cs : List Value) (T : TypeId) : ∀ j u, cs[j]? = some u → (w.alloc (.cells cs.toArray T)).cell? ((⟨w.heap.size, 0, none⟩ : Addr).add j) = some u := by
  intro j u hj
  rw [show ((⟨w.heap.size, 0, none⟩ : Addr).add j) = ⟨w.heap.size, j, none⟩ from (by unfold Addr.add; simp; omega), cell_of_blk (heap_alloc_new w _)]
  simpa using hj
theorem th_cell (a b : Int) (g n c : Nat) (v : Option Addr × Nat × Nat) : ∀ x ∈ [intV a, intV b, .slice (some ⟨g, 0, none⟩) n c, .slice v.1 v.2.1 v.2.2], x.oneCell' = true := by
  intro x hx
  simp at hx
  rcases hx with rfl | rfl | rfl | rfl <;> rfl

end Go.Proofs.Ytfgghbideoehjaa
