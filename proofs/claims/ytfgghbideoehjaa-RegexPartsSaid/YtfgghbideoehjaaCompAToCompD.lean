/-
  The compiler: instructions, the compiler's state in memory, emit.
  The compiler: bytes.
  The compiler: stores into the program; choose.
  The compiler as a plain function; add at the nodes that hold others: one, group.
-/
import Derived.Test.YtfgghbideoehjaaStepBToReadA
import Derived.Deep.RegionHeld3
namespace Go.Proofs.Ytfgghbideoehjaa
open Go.ChangeShapes Go.WideShapes Go.ChangeAt Go.RowKit
set_option linter.unusedVariables false
set_option maxRecDepth 100000

structure Ins where
  op : Nat
  a : Nat
  b : Nat
  set : BSet
  kind : Nat
  deriving DecidableEq

def Ins.cells (i : Ins) : List Value := [.int .i64 (i.op : Int), .int .i64 (i.a : Int), .int .i64 (i.b : Int), .int .u64 (i.set.a : Int), .int .u64 (i.set.b : Int), .int .u64 (i.set.c : Int), .int .u64 (i.set.d : Int), .int .u8 (i.kind : Int)]

theorem Ins.cells_len (l : List Ins) : (l.flatMap Ins.cells).length = l.length * 8 := by
  induction l with
  | nil => rfl
  | cons i l ih => simp [List.flatMap_cons, ih, Ins.cells]; omega

theorem info99 : (Try.prog.info? 99).map (fun i => (i.zero, i.size, i.bytes)) = some (some (.agg #[.int .i64 0, .int .i64 0, .int .i64 0, .int .u64 0, .int .u64 0, .int .u64 0, .int .u64 0, .int .u8 0]), 8, 64) := by kernel_rfl

/-- The compiler's state. -/
structure CAt (base : Nat) (w : World) (cp : Nat) (prog : List Ins) (marks : Nat) (fold lines : Bool) (pv : Value) : Prop where
  cb : base ≤ cp
  blk : w.heap[cp]? = some (.cells #[pv, .int .i64 (marks : Int), .bool fold, .bool lines] 144 (0, 0))
  row : w.ownsRow base 99 8 pv prog.length (prog.flatMap Ins.cells)
  ne : pv.ownBlock ≠ some cp

def CInv (base : Nat) (w : World) (cp : Nat) (prog : List Ins) (marks : Nat) (fold lines : Bool) : Prop := ∃ pv, CAt base w cp prog marks fold lines pv

/-- From one state of the compiler to a later one: the blocks that are neither the compiler's nor its program's are as they were. -/
structure CStep (cp : Nat) (w : World) (pv : Value) (w' : World) (pv' : Value) : Prop where
  os : w'.os = w.os
  tape : w'.tape = w.tape
  output : w'.output = w.output
  size : w.heap.size ≤ w'.heap.size
  block : ∀ b, b < w.heap.size → b ≠ cp → pv.ownBlock ≠ some b → w'.heap[b]? = w.heap[b]?
  tag : SameOrNew w pv pv'

theorem CStep.trans {cp : Nat} {w w1 w2 : World} {pv pv1 pv2 : Value} (h : CStep cp w pv w1 pv1) (k : CStep cp w1 pv1 w2 pv2) : CStep cp w pv w2 pv2 :=
  ⟨k.os.trans h.os, k.tape.trans h.tape, k.output.trans h.output, Nat.le_trans h.size k.size, fun b hb hc hp => by
    rw [k.block b (Nat.lt_of_lt_of_le hb h.size) hc ?_, h.block b hb hc hp]
    rcases h.tag with e | e
    · rw [e]; exact hp
    · exact fun e2 => by have := e b e2; omega, by
    rcases k.tag with e | e
    · rcases h.tag with f | f
      · exact .inl (e.trans f)
      · exact .inr fun j hj => f j (by rw [← e]; exact hj)
    · exact .inr fun j hj => Nat.le_trans h.size (e j hj)⟩
theorem CStep.ofBelow {cp : Nat} {w w1 : World} {pv : Value} (h : Below w.heap.size w w1) : CStep cp w pv w1 pv :=
  ⟨h.os, h.tape, h.output, h.size, fun b hb _ _ => h.block b hb, .inl rfl⟩
theorem CStep.below {base cp : Nat} {w w1 : World} {prog : List Ins} {marks : Nat} {fold lines : Bool} {pv pv' : Value} (h : CStep cp w pv w1 pv') (hc : CAt base w cp prog marks fold lines pv) (hb : base ≤ w.heap.size) : Below base w w1 :=
  ⟨h.os, h.tape, h.output, h.size, fun b hl => h.block b (by omega) (by have := hc.cb; omega) (fun e => by have := (hc.row.lt b e).1; omega)⟩
theorem CStep.cell {cp : Nat} {w w1 : World} {pv pv' : Value} (h : CStep cp w pv w1 pv') {a : Addr} {v : Value} (hv : w.cell? a = some v) (hc : a.block ≠ cp) (hp : pv.ownBlock ≠ some a.block) : w1.cell? a = some v := by
  rw [World.cell?_of_block (w := w) (h.block a.block (World.block_lt_of_cell? w a hv) hc hp)]; exact hv

theorem ins_new (w : World) (i : Ins) : ∀ j u, i.cells[j]? = some u → (w.alloc (.cells i.cells.toArray 99)).cell? ((⟨w.heap.size, 0, none⟩ : Addr).add j) = some u := by
  intro j u hj
  rw [show ((⟨w.heap.size, 0, none⟩ : Addr).add j) = ⟨w.heap.size, j, none⟩ from (by unfold Addr.add; simp; omega), cell_of_blk (heap_alloc_new w _)]
  simpa using hj
theorem ins_cell (i : Ins) : ∀ x ∈ i.cells, x.oneCell' = true := by
  intro x hx; simp [Ins.cells] at hx; rcases hx with rfl | rfl | rfl | rfl | rfl | rfl | rfl | rfl <;> rfl

set_option maxHeartbeats 1000000 in
theorem emit_any {base : Nat} {w : World} {cp : Nat} {prog : List Ins} {marks : Nat} {fold lines : Bool} {pv : Value} (h : CAt base w cp prog marks fold lines pv) (hbase : base ≤ w.heap.size) (hl : prog.length ≤ 1000000) (i : Ins) {v : Value} (hv : v = .agg i.cells.toArray) :
    Calls Try.prog 71 #[.pointer (some ⟨cp, 0, none⟩), v] w fun e w' => e = .returned (.int .i64 (prog.length : Int)) ∧ ∃ pv', CAt base w' cp (prog ++ [i]) marks fold lines pv' ∧ CStep cp w pv w' pv' := by
  subst hv
  obtain ⟨a, k, c, hpv⟩ := ownsRow_shape h.row
  have c0 : w.cell? ⟨cp, 0, none⟩ = some (.slice a k c) := by rw [← hpv]; exact (cell_of_blk h.blk 0).trans rfl
  have f0 := free_of_blk h.blk 0
  have lcp : cp < w.heap.size := World.block_lt_of_cell? w _ c0
  have hne : (Value.slice a k c).ownBlock ≠ some cp := by rw [← hpv]; exact h.ne
  have HR : Hid (w.ownsRow base 99 8 (.slice a k c) prog.length (prog.flatMap Ins.cells)) := Lib.hid (by rw [← hpv]; exact h.row)
  have HC := Lib.hid h
  have HP := Lib.hid hpv
  clear h hpv
  obtain ⟨i1, hj, hy0, hy1, hy2⟩ := info_parts info99
  have Hdef : i.cells.toArray = #[.int .i64 (i.op : Int), .int .i64 (i.a : Int), .int .i64 (i.b : Int), .int .u64 (i.set.a : Int), .int .u64 (i.set.b : Int), .int .u64 (i.set.c : Int), .int .u64 (i.set.d : Int), .int .u8 (i.kind : Int)] := rfl
  rw [Hdef]
  clear Hdef
  go_enter Try.func71, Try.ntmps71
  go_wp2
  -- the world with the box by a name
  have hA := alloc_pack w #[.int .i64 (i.op : Int), .int .i64 (i.a : Int), .int .i64 (i.b : Int), .int .u64 (i.set.a : Int), .int .u64 (i.set.b : Int), .int .u64 (i.set.c : Int), .int .u64 (i.set.d : Int), .int .u8 (i.kind : Int)] 99
  obtain ⟨A, hA, sA, aN, aO, bA⟩ := hA
  rw [hA]
  have d0 : A.cell? ⟨cp, 0, none⟩ = some (.slice a k c) := (bA.cell (p := ⟨cp, 0, none⟩) lcp).trans c0
  have g0 : A.frozen? ⟨cp, 0, none⟩ = false := (bA.frozen (p := ⟨cp, 0, none⟩) lcp).trans f0
  have x0 : A.cell? ⟨w.heap.size, 0, none⟩ = some (.int .i64 (i.op : Int)) := (cell_of_blk aN 0).trans rfl
  have x1 : A.cell? ⟨w.heap.size, 1, none⟩ = some (.int .i64 (i.a : Int)) := (cell_of_blk aN 1).trans rfl
  have x2 : A.cell? ⟨w.heap.size, 2, none⟩ = some (.int .i64 (i.b : Int)) := (cell_of_blk aN 2).trans rfl
  have x3 : A.cell? ⟨w.heap.size, 3, none⟩ = some (.int .u64 (i.set.a : Int)) := (cell_of_blk aN 3).trans rfl
  have x4 : A.cell? ⟨w.heap.size, 4, none⟩ = some (.int .u64 (i.set.b : Int)) := (cell_of_blk aN 4).trans rfl
  have x5 : A.cell? ⟨w.heap.size, 5, none⟩ = some (.int .u64 (i.set.c : Int)) := (cell_of_blk aN 5).trans rfl
  have x6 : A.cell? ⟨w.heap.size, 6, none⟩ = some (.int .u64 (i.set.d : Int)) := (cell_of_blk aN 6).trans rfl
  have x7 : A.cell? ⟨w.heap.size, 7, none⟩ = some (.int .u8 (i.kind : Int)) := (cell_of_blk aN 7).trans rfl
  have lA : w.heap.size < A.heap.size := by omega
  have lcA : cp < A.heap.size := by omega
  have HRA : Hid (A.ownsRow base 99 8 (.slice a k c) prog.length (prog.flatMap Ins.cells)) := Lib.hid (ownsRow_agree HR.out fun j hj => bA.block j (HR.out.lt j hj).2)
  have HbA := Lib.hid bA
  have HsA := Lib.hid sA
  clear hA sA aN aO bA c0 f0
  go_region_law (refine step_append_tag rfl (.tmp 9) (.tmp 11) 88 rfl base 99 i1 _ 8 64 Try.underlying88 hj hy0 hy1 hy2 rfl (by decide) (.slice a k c) prog.length (prog.flatMap Ins.cells) rfl (by exact World.ownsRow.alloc (w := A.drew) HRA.out _) ⟨A.heap.size, 0, none⟩ 1 1 i.cells rfl rfl (by exact ins_new A.drew _) (by exact ins_cell _) (by simp only [maxLen]; omega) (by omega) (by have := HsA.out; simp; omega) ?_; intro v' w2 ho2 hg2 ht2; obtain ⟨g2, cap2, rfl⟩ := ownsRow_succ' ho2; have hg3 := grown_undrew (grown_past (w := A.drew) hg2); have ht3 := tag_past (w := A.drew) ht2; have k0 := grown_cellH hg3 rfl d0 hne; have m0 := grown_frozenH hg3 rfl d0 g0 hne; have HG3 := Lib.hid hg3; have HT3 := Lib.hid ht3; have HO2 := Lib.hid ho2; clear hg2 ht2 hg3 ht3 ho2)
  all_goals
    go_wp2
    go_ret
    have hgc : g2 ≠ cp := by
      rcases HT3.out with e | e
      · exact fun e2 => hne (by rw [← e, ← e2]; rfl)
      · have h9 : A.heap.size ≤ g2 := e g2 rfl
        omega
    have b1 : w2.heap[cp]? = _ := (HG3.out.block cp lcA (fun e => hne e.symm)).trans ((HbA.out.block cp lcp).trans HC.out.blk)
    have b2 := heap_setCell_same _ _ 0 _ _ (.slice (some ⟨g2, 0, none⟩) (prog.length + 1) cap2) b1
    refine ⟨rfl, _, ⟨HC.out.cb, b2, ?_, fun e => hgc (Option.some.inj e)⟩, ?_⟩
    · rw [List.length_append, List.flatMap_append]
      refine ownsRow_agree (by simpa using HO2.out) fun j hj => ?_
      cases hj
      exact heap_setCell_other _ _ _ _ (by exact hgc)
    · rw [HP.out]
      refine ⟨HG3.out.os.trans HbA.out.os, HG3.out.tape.trans HbA.out.tape, HG3.out.output.trans HbA.out.output, by have := HG3.out.size; have := HbA.out.size; simp; omega, fun b hb hc hp => ?_, ?_⟩
      · rw [heap_setCell_other _ _ _ _ (by exact hc), HG3.out.block b (by have := HbA.out.size; omega) (fun e => hp e.symm), HbA.out.block b hb]
      · exact HT3.out.back HbA.out.size

end Go.Proofs.Ytfgghbideoehjaa

namespace Go.Proofs.Ytfgghbideoehjaa
open Go.ChangeShapes Go.WideShapes Go.ChangeAt Go.RowKit
set_option linter.unusedVariables false
set_option maxRecDepth 100000

theorem eq97_zero (w : World) : (Op.equalIn 10000 97 (.agg #[.int .u64 0, .int .u64 0, .int .u64 0, .int .u64 0]) (.agg #[.int .u64 0, .int .u64 0, .int .u64 0, .int .u64 0])).run Try.prog w = .ok true w := by kernel_rfl
theorem eq97_all (w : World) : (Op.equalIn 10000 97 (.agg #[.int .u64 18446744073709551615, .int .u64 18446744073709551615, .int .u64 18446744073709551615, .int .u64 18446744073709551615]) (.agg #[.int .u64 0, .int .u64 0, .int .u64 0, .int .u64 0])).run Try.prog w = .ok false w := by kernel_rfl

set_option maxHeartbeats 1000000 in
theorem bytes_zero (s : BSet) (w : World) (cp : Nat) (h2 : w.cell? ⟨cp, 2, none⟩ = some (.bool false)) (h3 : w.cell? ⟨cp, 3, none⟩ = some (.bool false)) :
    Calls Try.prog 83 #[.pointer (some ⟨cp, 0, none⟩), .agg #[.int .u64 (s.a : Int), .int .u64 (s.b : Int), .int .u64 (s.c : Int), .int .u64 (s.d : Int), .int .u64 0, .int .u64 0, .int .u64 0, .int .u64 0]] w fun e w' =>
      e = .returned (.agg s.vals.toArray) ∧ Below w.heap.size w w' := by
  have lcp : cp < w.heap.size := World.block_lt_of_cell? w _ h2
  have heq := eq97_zero
  go_enter Try.func83, Try.ntmps83
  go_wp2
  refine bodyPost_ret (results_cell_row (p := 4) (ty := 97) (by kernel_rfl) _ _ (w.heap.size + 1) 97 _ (0, 0) _ rfl (heap_alloc2_new w _ _) Try.underlying97 (by kernel_rfl) (by kernel_rfl)) rfl ⟨rfl, ?_⟩
  exact ((Below.refl _ w).alloc (Nat.le_refl _) _).alloc (by simp) _

set_option maxHeartbeats 1000000 in
theorem bytes_all (s : BSet) (w : World) (cp : Nat) (h2 : w.cell? ⟨cp, 2, none⟩ = some (.bool false)) (h3 : w.cell? ⟨cp, 3, none⟩ = some (.bool false)) :
    Calls Try.prog 83 #[.pointer (some ⟨cp, 0, none⟩), .agg #[.int .u64 (s.a : Int), .int .u64 (s.b : Int), .int .u64 (s.c : Int), .int .u64 (s.d : Int), .int .u64 18446744073709551615, .int .u64 18446744073709551615, .int .u64 18446744073709551615, .int .u64 18446744073709551615]] w fun e w' =>
      e = .returned (.agg #[.int .u64 18446744073709551615, .int .u64 18446744073709551615, .int .u64 18446744073709551615, .int .u64 18446744073709551615]) ∧ Below w.heap.size w w' := by
  have lcp : cp < w.heap.size := World.block_lt_of_cell? w _ h2
  have heq := eq97_all
  have lc1 : cp < w.heap.size + 1 := by omega
  have lc2 : cp < w.heap.size + 1 + 1 := by omega
  go_enter Try.func83, Try.ntmps83
  go_wp2
  refine bodyPost_ret (results_cell_row (p := 4) (ty := 97) (by kernel_rfl) _ _ (w.heap.size + 1) 97 _ (0, 0) _ rfl ((heap_alloc_old _ _ (by simp)).trans (heap_alloc2_new w _ _)) Try.underlying97 (by kernel_rfl) (by kernel_rfl)) rfl ⟨rfl, ?_⟩
  exact (((Below.refl _ w).alloc (Nat.le_refl _) _).alloc (by simp) _).alloc (by simp; omega) _

end Go.Proofs.Ytfgghbideoehjaa

namespace Go.Proofs.Ytfgghbideoehjaa
open Go.ChangeShapes Go.WideShapes Go.ChangeAt Go.RowKit
set_option linter.unusedVariables false
set_option maxRecDepth 100000

def setA (p : List Ins) (k v : Nat) : List Ins := p.modify k fun i => { i with a := v }
def setB (p : List Ins) (k v : Nat) : List Ins := p.modify k fun i => { i with b := v }
@[simp] theorem setA_len (p : List Ins) (k v : Nat) : (setA p k v).length = p.length := by simp [setA]
@[simp] theorem setB_len (p : List Ins) (k v : Nat) : (setB p k v).length = p.length := by simp [setB]

theorem cells_setA : ∀ (p : List Ins) (k v : Nat), (p.flatMap Ins.cells).set (k * 8 + 1) (.int .i64 (v : Int)) = (setA p k v).flatMap Ins.cells
  | [], k, v => by cases k <;> simp [setA, List.modify]
  | i :: p, 0, v => by simp [setA, Ins.cells, List.flatMap_cons]
  | i :: p, k + 1, v => by
    have ih := cells_setA p k v
    have e : (k + 1) * 8 + 1 = i.cells.length + (k * 8 + 1) := by simp [Ins.cells]; omega
    rw [List.flatMap_cons, e, List.set_append_right _ _ (by omega), Nat.add_sub_cancel_left, ih]
    simp [setA, List.modify_succ_cons, List.flatMap_cons]
theorem cells_setB : ∀ (p : List Ins) (k v : Nat), (p.flatMap Ins.cells).set (k * 8 + 2) (.int .i64 (v : Int)) = (setB p k v).flatMap Ins.cells
  | [], k, v => by cases k <;> simp [setB, List.modify]
  | i :: p, 0, v => by simp [setB, Ins.cells, List.flatMap_cons]
  | i :: p, k + 1, v => by
    have ih := cells_setB p k v
    have e : (k + 1) * 8 + 2 = i.cells.length + (k * 8 + 2) := by simp [Ins.cells]; omega
    rw [List.flatMap_cons, e, List.set_append_right _ _ (by omega), Nat.add_sub_cancel_left, ih]
    simp [setB, List.modify_succ_cons, List.flatMap_cons]

theorem CAt.ext {base : Nat} {w w1 : World} {cp : Nat} {prog : List Ins} {marks : Nat} {fold lines : Bool} {pv : Value} (h : CAt base w cp prog marks fold lines pv) (hb : Below w.heap.size w w1) : CAt base w1 cp prog marks fold lines pv :=
  ⟨h.cb, (hb.block cp (Array.getElem?_eq_some_iff.1 h.blk).1).trans h.blk, ownsRow_agree h.row fun j hj => hb.block j (h.row.lt j hj).2, h.ne⟩

theorem CAt.storeA {base : Nat} {w : World} {cp : Nat} {prog : List Ins} {marks : Nat} {fold lines : Bool} {g cap : Nat} (h : CAt base w cp prog marks fold lines (.slice (some ⟨g, 0, none⟩) prog.length cap)) (k v : Nat) :
    CAt base (w.setCell ⟨g, k * 8 + 1, none⟩ (.int .i64 (v : Int))) cp (setA prog k v) marks fold lines (.slice (some ⟨g, 0, none⟩) prog.length cap) := by
  have hne : cp ≠ g := fun e => h.ne (by rw [e]; rfl)
  refine ⟨h.cb, (heap_setCell_other _ _ _ _ hne).trans h.blk, ?_, h.ne⟩
  rw [setA_len, ← cells_setA]
  exact (h.row.stored (k * 8 + 1) _).1
theorem CAt.storeB {base : Nat} {w : World} {cp : Nat} {prog : List Ins} {marks : Nat} {fold lines : Bool} {g cap : Nat} (h : CAt base w cp prog marks fold lines (.slice (some ⟨g, 0, none⟩) prog.length cap)) (k v : Nat) :
    CAt base (w.setCell ⟨g, k * 8 + 2, none⟩ (.int .i64 (v : Int))) cp (setB prog k v) marks fold lines (.slice (some ⟨g, 0, none⟩) prog.length cap) := by
  have hne : cp ≠ g := fun e => h.ne (by rw [e]; rfl)
  refine ⟨h.cb, (heap_setCell_other _ _ _ _ hne).trans h.blk, ?_, h.ne⟩
  rw [setB_len, ← cells_setB]
  exact (h.row.stored (k * 8 + 2) _).1

theorem CAt.shape {base : Nat} {w : World} {cp : Nat} {prog : List Ins} {marks : Nat} {fold lines : Bool} {pv : Value} (h : CAt base w cp prog marks fold lines pv) {k : Nat} (hk : k < prog.length) :
    ∃ g cap, pv = .slice (some ⟨g, 0, none⟩) prog.length cap ∧ base ≤ g ∧ prog.length ≤ cap ∧ g ≠ cp ∧ g < w.heap.size ∧
      (∀ j, j < 8 → ∃ v, w.cell? ⟨g, k * 8 + j, none⟩ = some v) ∧ ∀ j, w.frozen? ⟨g, j, none⟩ = false := by
  rcases h.row.2 with ⟨_, h0⟩ | ⟨g, cap, cur, e, hb, hg, h1, h2, h3, h4⟩
  · omega
  · refine ⟨g, cap, e, hb, h1, fun e2 => h.ne (by rw [e, ← e2]; rfl), (h.row.lt g (by rw [e]; rfl)).2, fun j hj => ?_, fun j => frozen_of_row _ _ _ _ _ hg⟩
    refine ⟨_, (cell_of_row w g _ cur 99 (0, 0) hg).trans (Array.getElem?_eq_getElem (by rw [h3]; omega))⟩

set_option maxHeartbeats 1000000 in
theorem choose_any {base : Nat} {w : World} {cp : Nat} {prog : List Ins} {marks : Nat} {fold lines : Bool} {pv : Value} (h : CAt base w cp prog marks fold lines pv) {k out : Nat} (hk : k < prog.length) (hl : prog.length ≤ 1000000) :
    Calls Try.prog 91 #[.pointer (some ⟨cp, 0, none⟩), .int .i64 (k : Int), .int .i64 (out : Int), .bool false] w fun e w' => e = .returned (.tuple #[]) ∧ ∃ pv', CAt base w' cp (setB (setA prog k (k + 1)) k out) marks fold lines pv' ∧ CStep cp w pv w' pv' := by
  obtain ⟨g, cap, rfl, hgb, hcap, hgc, hgs, hcells, hfr⟩ := h.shape hk
  obtain ⟨v1, hv1⟩ := hcells 1 (by decide)
  obtain ⟨v2, hv2⟩ := hcells 2 (by decide)
  have z1 := hfr (k * 8 + 1)
  have z2 := hfr (k * 8 + 2)
  have c0 : w.cell? ⟨cp, 0, none⟩ = some (.slice (some ⟨g, 0, none⟩) prog.length cap) := (cell_of_blk h.blk 0).trans rfl
  have HC := Lib.hid h
  have hk' : (k : Int) < prog.length := by omega
  clear h hcells hfr
  go_enter Try.func91, Try.ntmps91
  go_wp2
  go_region
  all_goals
    go_wp2
    go_end0
    have h1 := HC.out.storeA k (k + 1)
    have h2 : CAt base (w.setCell ⟨g, k * 8 + 1, none⟩ (.int .i64 ((k + 1 : Nat) : Int))) cp (setA prog k (k + 1)) marks fold lines (.slice (some ⟨g, 0, none⟩) (setA prog k (k + 1)).length cap) := by rw [setA_len]; exact h1
    have h3 := h2.storeB k out
    rw [setA_len] at h3
    refine ⟨rfl, _, h3.ext (Below.refl _ _).drew, ⟨rfl, rfl, rfl, by simp, fun b hb hc hp => ?_, .inl rfl⟩⟩
    have hbg : b ≠ g := fun e => hp (by rw [e]; rfl)
    exact (heap_setCell_other _ _ _ _ (by exact hbg)).trans (heap_setCell_other _ _ _ _ (by exact hbg))

end Go.Proofs.Ytfgghbideoehjaa

namespace Go.Proofs.Ytfgghbideoehjaa
open Go.ChangeShapes Go.WideShapes Go.ChangeAt Go.RowKit
set_option linter.unusedVariables false
set_option maxRecDepth 100000

abbrev Ins.mk1 (op a : Nat) : Ins := ⟨op, a, 0, .zero, 0⟩

def patch (ends : List Nat) (p : List Ins) : List Ins := ends.foldl (fun p e => setA p e p.length) p

mutual
def comp : Nd → List Ins × Nat → List Ins × Nat
  | .one s n, p => (p.1 ++ [⟨0, 0, 0, if n = .zero then s else n, 0⟩], p.2)
  | .pieces l, p => compL l p
  | .branches l, p => compB l [] p
  | .times i _ _ _, p =>
    let r := comp i (p.1 ++ [.mk1 3 0] ++ [.mk1 6 p.2], p.2 + 1)
    let q := r.1 ++ [.mk1 7 p.2] ++ [.mk1 4 p.1.length]
    (setB (setA q p.1.length (p.1.length + 1)) p.1.length q.length, r.2)
  | .group n i, p =>
    if n > 0 then
      let r := comp i (p.1 ++ [.mk1 5 (2 * n)], p.2)
      (r.1 ++ [.mk1 5 (2 * n + 1)], r.2)
    else comp i p
  | .place _, p => p
  | .look _ _, p => p
  | .back _, p => p
def compL : List Nd → List Ins × Nat → List Ins × Nat
  | [], p => p
  | t :: l, p => compL l (comp t p)
def compB : List Nd → List Nat → List Ins × Nat → List Ins × Nat
  | [], ends, p => (patch ends p.1, p.2)
  | [t], ends, p =>
    let r := comp t p
    (patch ends r.1, r.2)
  | t :: l, ends, p =>
    let r := comp t (setA (p.1 ++ [.mk1 3 0]) p.1.length (p.1.length + 1), p.2)
    compB l (ends ++ [r.1.length]) (setB (r.1 ++ [.mk1 4 0]) p.1.length (r.1.length + 1), r.2)
end

/-- add at a node's value compiles it. -/
def AddOk (base cp : Nat) (w0 : World) (t : Nd) (v : Value) : Prop :=
  ∀ (w : World) (prog : List Ins) (marks : Nat) (pv : Value), Below base w0 w → CAt base w cp prog marks false false pv → base ≤ w.heap.size → (comp t (prog, marks)).1.length ≤ 1000000 → (comp t (prog, marks)).2 ≤ 1000000 →
    Calls Try.prog 70 #[.pointer (some ⟨cp, 0, none⟩), v] w fun e w' => e = .returned (.tuple #[]) ∧ ∃ pv', CAt base w' cp (comp t (prog, marks)).1 (comp t (prog, marks)).2 false false pv' ∧ CStep cp w pv w' pv'

theorem hit124 (u : Value) (w : World) : (Instr.typeAssert (.iface 124 u) 62 124 true).run Try.prog w = .ok (.tuple #[u, .bool true]) w := by kernel_rfl
theorem miss109_124 (u : Value) (w : World) : (Instr.typeAssert (.iface 109 u) 62 124 true).run Try.prog w = .ok (.tuple #[.agg #[.int .u64 0, .int .u64 0, .int .u64 0, .int .u64 0, .int .u64 0, .int .u64 0, .int .u64 0, .int .u64 0], .bool false]) w := by kernel_rfl
theorem miss109_121 (u : Value) (w : World) : (Instr.typeAssert (.iface 109 u) 62 121 true).run Try.prog w = .ok (.tuple #[.agg #[.int .u8 0], .bool false]) w := by kernel_rfl
theorem miss109_133 (u : Value) (w : World) : (Instr.typeAssert (.iface 109 u) 62 133 true).run Try.prog w = .ok (.tuple #[.agg #[.int .i64 0], .bool false]) w := by kernel_rfl
theorem miss109_135 (u : Value) (w : World) : (Instr.typeAssert (.iface 109 u) 62 135 true).run Try.prog w = .ok (.tuple #[.agg #[.nilIface, .bool false], .bool false]) w := by kernel_rfl
theorem hit109 (u : Value) (w : World) : (Instr.typeAssert (.iface 109 u) 62 109 true).run Try.prog w = .ok (.tuple #[u, .bool true]) w := by kernel_rfl
theorem miss108_124 (u : Value) (w : World) : (Instr.typeAssert (.iface 108 u) 62 124 true).run Try.prog w = .ok (.tuple #[.agg #[.int .u64 0, .int .u64 0, .int .u64 0, .int .u64 0, .int .u64 0, .int .u64 0, .int .u64 0, .int .u64 0], .bool false]) w := by kernel_rfl
theorem miss108_121 (u : Value) (w : World) : (Instr.typeAssert (.iface 108 u) 62 121 true).run Try.prog w = .ok (.tuple #[.agg #[.int .u8 0], .bool false]) w := by kernel_rfl
theorem miss108_133 (u : Value) (w : World) : (Instr.typeAssert (.iface 108 u) 62 133 true).run Try.prog w = .ok (.tuple #[.agg #[.int .i64 0], .bool false]) w := by kernel_rfl
theorem miss108_135 (u : Value) (w : World) : (Instr.typeAssert (.iface 108 u) 62 135 true).run Try.prog w = .ok (.tuple #[.agg #[.nilIface, .bool false], .bool false]) w := by kernel_rfl
theorem miss108_109 (u : Value) (w : World) : (Instr.typeAssert (.iface 108 u) 62 109 true).run Try.prog w = .ok (.tuple #[.slice none 0 0, .bool false]) w := by kernel_rfl
theorem hit108 (u : Value) (w : World) : (Instr.typeAssert (.iface 108 u) 62 108 true).run Try.prog w = .ok (.tuple #[u, .bool true]) w := by kernel_rfl
theorem miss139_124 (u : Value) (w : World) : (Instr.typeAssert (.iface 139 u) 62 124 true).run Try.prog w = .ok (.tuple #[.agg #[.int .u64 0, .int .u64 0, .int .u64 0, .int .u64 0, .int .u64 0, .int .u64 0, .int .u64 0, .int .u64 0], .bool false]) w := by kernel_rfl
theorem miss139_121 (u : Value) (w : World) : (Instr.typeAssert (.iface 139 u) 62 121 true).run Try.prog w = .ok (.tuple #[.agg #[.int .u8 0], .bool false]) w := by kernel_rfl
theorem miss139_133 (u : Value) (w : World) : (Instr.typeAssert (.iface 139 u) 62 133 true).run Try.prog w = .ok (.tuple #[.agg #[.int .i64 0], .bool false]) w := by kernel_rfl
theorem miss139_135 (u : Value) (w : World) : (Instr.typeAssert (.iface 139 u) 62 135 true).run Try.prog w = .ok (.tuple #[.agg #[.nilIface, .bool false], .bool false]) w := by kernel_rfl
theorem miss139_109 (u : Value) (w : World) : (Instr.typeAssert (.iface 139 u) 62 109 true).run Try.prog w = .ok (.tuple #[.slice none 0 0, .bool false]) w := by kernel_rfl
theorem miss139_108 (u : Value) (w : World) : (Instr.typeAssert (.iface 139 u) 62 108 true).run Try.prog w = .ok (.tuple #[.slice none 0 0, .bool false]) w := by kernel_rfl
theorem hit139 (u : Value) (w : World) : (Instr.typeAssert (.iface 139 u) 62 139 true).run Try.prog w = .ok (.tuple #[u, .bool true]) w := by kernel_rfl
theorem miss141_124 (u : Value) (w : World) : (Instr.typeAssert (.iface 141 u) 62 124 true).run Try.prog w = .ok (.tuple #[.agg #[.int .u64 0, .int .u64 0, .int .u64 0, .int .u64 0, .int .u64 0, .int .u64 0, .int .u64 0, .int .u64 0], .bool false]) w := by kernel_rfl
theorem miss141_121 (u : Value) (w : World) : (Instr.typeAssert (.iface 141 u) 62 121 true).run Try.prog w = .ok (.tuple #[.agg #[.int .u8 0], .bool false]) w := by kernel_rfl
theorem miss141_133 (u : Value) (w : World) : (Instr.typeAssert (.iface 141 u) 62 133 true).run Try.prog w = .ok (.tuple #[.agg #[.int .i64 0], .bool false]) w := by kernel_rfl
theorem miss141_135 (u : Value) (w : World) : (Instr.typeAssert (.iface 141 u) 62 135 true).run Try.prog w = .ok (.tuple #[.agg #[.nilIface, .bool false], .bool false]) w := by kernel_rfl
theorem miss141_109 (u : Value) (w : World) : (Instr.typeAssert (.iface 141 u) 62 109 true).run Try.prog w = .ok (.tuple #[.slice none 0 0, .bool false]) w := by kernel_rfl
theorem miss141_108 (u : Value) (w : World) : (Instr.typeAssert (.iface 141 u) 62 108 true).run Try.prog w = .ok (.tuple #[.slice none 0 0, .bool false]) w := by kernel_rfl
theorem miss141_139 (u : Value) (w : World) : (Instr.typeAssert (.iface 141 u) 62 139 true).run Try.prog w = .ok (.tuple #[.agg #[.nilIface, .int .i64 0, .int .i64 0, .bool false], .bool false]) w := by kernel_rfl
theorem hit141 (u : Value) (w : World) : (Instr.typeAssert (.iface 141 u) 62 141 true).run Try.prog w = .ok (.tuple #[u, .bool true]) w := by kernel_rfl

set_option maxHeartbeats 1000000 in
theorem add_one (base cp : Nat) (w0 : World) (s : BSet) : AddOk base cp w0 (.one s .zero) (.iface 124 (.agg (s.vals ++ BSet.zero.vals).toArray)) := by
  intro w prog marks pv hB hC hbase hl hm
  simp only [comp, if_true] at hl hm ⊢
  have hll : prog.length ≤ 1000000 := by simp at hl; omega
  have hca := hC
  have c2 : w.cell? ⟨cp, 2, none⟩ = some (.bool false) := (cell_of_blk hca.blk 2).trans rfl
  have c3 : w.cell? ⟨cp, 3, none⟩ = some (.bool false) := (cell_of_blk hca.blk 3).trans rfl
  have lcp : cp < w.heap.size := World.block_lt_of_cell? w _ c2
  have HC := Lib.hid hC
  clear hC hca
  show Calls Try.prog 70 #[.pointer (some ⟨cp, 0, none⟩), .iface 124 (.agg #[.int .u64 (s.a : Int), .int .u64 (s.b : Int), .int .u64 (s.c : Int), .int .u64 (s.d : Int), .int .u64 0, .int .u64 0, .int .u64 0, .int .u64 0])] w _
  have hh := hit124
  have hz : BSet.zero = ⟨0, 0, 0, 0⟩ := rfl
  go_enter Try.func70, Try.ntmps70
  go_wp2_with (fail)
  refine (bytes_zero s _ cp ((World.cell?_alloc_lt w _ _ lcp).trans c2) ((World.cell?_alloc_lt w _ _ lcp).trans c3)).mono ?_
  rintro e w1 ⟨rfl, hb1⟩
  have HB1 := Lib.hid hb1
  clear hb1 c2 c3
  have B1 : Below w.heap.size w w1 := ((Below.refl _ w).alloc (Nat.le_refl _) _).trans (HB1.out.mono (by simp))
  have hs1 := B1.size
  have HBB := Lib.hid B1
  clear B1
  simp only [BSet.vals]
  go_wp2_with (fail)
  refine (emit_any (HC.out.ext HBB.out) (by omega) hll ⟨0, 0, 0, s, 0⟩ rfl).mono ?_
  rintro e w2 ⟨rfl, hq⟩
  have HQ := Lib.hid hq
  clear hq
  go_wp2
  go_end0
  obtain ⟨pv', q1, q2⟩ := HQ.out
  exact ⟨rfl, pv', q1, (CStep.ofBelow HBB.out).trans q2⟩

end Go.Proofs.Ytfgghbideoehjaa
