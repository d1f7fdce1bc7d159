/-
  The parser: leave at '(?:', '(?=' and '(?!'; where it fails.
  The parser: leave at '(?:', '(?=' and '(?!', on states; where it fails.
-/
import Derived.Test.YtfgghbideoehjaaEntAToEntB
import Derived.StillTailTactics
import Derived.Deep.RegionHeld3
namespace Go.Proofs.Ytfgghbideoehjaa
open Go.ChangeShapes Go.WideShapes Go.ChangeAt Go.RowKit
set_option linter.unusedVariables false
set_option maxRecDepth 100000

set_option maxHeartbeats 1000000 in
theorem leave_walk58 (w : World) (bp bo cap n : Nat) (num : Nat) (ab ap : Option Addr) (nb cb np cp : Nat) (sg : Bool) (hn : n + 2 ≤ 1000000) (hnum : num ≤ 1000000) (hcap : n + 2 ≤ cap) 
    (h2 : w.cell? ⟨bp, 2, none⟩ = some (.slice (some ⟨bo, 0, none⟩) (n + 2) cap)) (f2 : w.frozen? ⟨bp, 2, none⟩ = false) (hbb : bp ≠ bo)
    (c0 : w.cell? ⟨bo, (n + 1) * 5, none⟩ = some (.int .u8 58)) (c1 : w.cell? ⟨bo, (n + 1) * 5 + 1, none⟩ = some (.int .i64 (num : Int))) (c2 : w.cell? ⟨bo, (n + 1) * 5 + 2, none⟩ = some (.slice ab nb cb)) (c3 : w.cell? ⟨bo, (n + 1) * 5 + 3, none⟩ = some (.slice ap np cp)) (c4 : w.cell? ⟨bo, (n + 1) * 5 + 4, none⟩ = some (.bool sg))
    (bvs : List Value) (hbv : w.ownsRow 0 62 1 (.slice ab nb cb) bvs.length bvs) (hbl : bvs.length ≤ 100000) (hob : (Value.slice ab nb cb).ownBlock ≠ some bp)
    (R : World → Prop)
    (hput : ∀ (W w3 : World) (bv' : Value), Below w.heap.size (w.setCell ⟨bp, 2, none⟩ (.slice (some ⟨bo, 0, none⟩) (n + 1) cap)) W → w3.ownsRow 0 62 1 bv' (bvs.length + 1) (bvs ++ [.iface 109 (.slice ap np cp)]) → W.grownBy w3 (Value.slice ab nb cb).ownBlock → SameOrNew W (.slice ab nb cb) bv' →
      Calls Try.prog 58 #[.pointer (some ⟨bp, 0, none⟩), .iface 141 (.agg #[.int .i64 0, .iface 108 bv']), .bool true, .int .i64 1] w3 fun e w' => e = .returned (.tuple #[]) ∧ R w') :
    Calls Try.prog 55 #[.pointer (some ⟨bp, 0, none⟩)] w fun e w' => e = .returned (.tuple #[]) ∧ R w' := by
  have lbp : bp < w.heap.size := World.block_lt_of_cell? w _ h2
  have lbo : bo < w.heap.size := World.block_lt_of_cell? w _ c2
  have t1 : ((n : Int) + 2 == 1) = false := by simp; omega
  go_enter Try.func55, Try.ntmps55
  go_wp2_with (fail)
  refine (top_any _ _ _ _ (n + 1) hn h2).mono ?_
  rintro e w0 ⟨rfl, nq, hw0⟩
  have k2 : w0.cell? ⟨bp, 2, none⟩ = some (.slice (some ⟨bo, 0, none⟩) (n + 2) cap) := by rw [hw0]; exact h2
  have g2 : w0.frozen? ⟨bp, 2, none⟩ = false := by rw [hw0]; exact f2
  have d0 : w0.cell? ⟨bo, (n + 1) * 5, none⟩ = some (.int .u8 58) := by rw [hw0]; exact c0
  have d1 : w0.cell? ⟨bo, (n + 1) * 5 + 1, none⟩ = some (.int .i64 (num : Int)) := by rw [hw0]; exact c1
  have d2 : w0.cell? ⟨bo, (n + 1) * 5 + 2, none⟩ = some (.slice ab nb cb) := by rw [hw0]; exact c2
  have d3 : w0.cell? ⟨bo, (n + 1) * 5 + 3, none⟩ = some (.slice ap np cp) := by rw [hw0]; exact c3
  have d4 : w0.cell? ⟨bo, (n + 1) * 5 + 4, none⟩ = some (.bool sg) := by rw [hw0]; exact c4
  have mbp : bp < w0.heap.size := by rw [hw0]; exact lbp
  have mbo : bo < w0.heap.size := by rw [hw0]; exact lbo
  have HW := Lib.hid hw0
  clear hw0 h2 f2 c0 c1 c2 c3 c4 lbp lbo
  go_wp2
  have hn1 : (n : Int) + 2 ≤ cap := by omega
  go_region
  go_wp2_with (fail)
  -- the world from here on by a name
  have hbox : (World.drew ((w0.setCell ⟨bp, 2, none⟩ (.slice (some ⟨bo, 0, none⟩) (n + 1) cap)).alloc (.cells #[.int .u8 58, .int .i64 (num : Int), .slice ab nb cb, .slice ap np cp, .bool sg] 111))).heap[w0.heap.size]? = some (.cells #[.int .u8 58, .int .i64 (num : Int), .slice ab nb cb, .slice ap np cp, .bool sg] 111 (0, 0)) := by
    have := heap_alloc_new (w0.setCell ⟨bp, 2, none⟩ (.slice (some ⟨bo, 0, none⟩) (n + 1) cap)) (.cells #[.int .u8 58, .int .i64 (num : Int), .slice ab nb cb, .slice ap np cp, .bool sg] 111)
    rw [World.size_setCell] at this; exact this
  have hbel : Below w0.heap.size (w0.setCell ⟨bp, 2, none⟩ (.slice (some ⟨bo, 0, none⟩) (n + 1) cap)) (World.drew ((w0.setCell ⟨bp, 2, none⟩ (.slice (some ⟨bo, 0, none⟩) (n + 1) cap)).alloc (.cells #[.int .u8 58, .int .i64 (num : Int), .slice ab nb cb, .slice ap np cp, .bool sg] 111))) :=
    ((Below.refl _ _).alloc (by simp) _).drew
  generalize hW : (World.drew ((w0.setCell ⟨bp, 2, none⟩ (.slice (some ⟨bo, 0, none⟩) (n + 1) cap)).alloc (.cells #[.int .u8 58, .int .i64 (num : Int), .slice ab nb cb, .slice ap np cp, .bool sg] 111))) = W at *
  clear hW
  have hbelW : Below w.heap.size (w.setCell ⟨bp, 2, none⟩ (.slice (some ⟨bo, 0, none⟩) (n + 1) cap)) W := by
    have h := hbel; rw [HW.out] at h; exact ⟨h.os, h.tape, h.output, h.size, h.block⟩
  have hsz0 : w0.heap.size = w.heap.size := by rw [HW.out]; rfl
  have hne : (Value.slice ab nb cb).ownBlock ≠ some w0.heap.size := fun e => by have := (hbv.lt _ e).2; omega
  have hbvW : W.ownsRow 0 62 1 (.slice ab nb cb) bvs.length bvs :=
    ownsRow_agree hbv fun j hj => (hbelW.block j (hbv.lt j hj).2).trans (heap_setCell_other _ _ _ _ (by rintro rfl; exact hob hj))
  have e1 : W.cell? ⟨w0.heap.size, 1, none⟩ = some (.int .i64 (num : Int)) := by rw [cell_of_blk hbox]; rfl
  have e2 : W.cell? ⟨w0.heap.size, 0 + 2, none⟩ = some (.slice ab nb cb) := by rw [cell_of_blk hbox]; rfl
  have e3 : W.cell? ⟨w0.heap.size, 0 + 3, none⟩ = some (.slice ap np cp) := by rw [cell_of_blk hbox]; rfl
  have HP := Lib.hid hput
  have HB := Lib.hid hbelW
  have HO := Lib.hid hbvW
  clear hput hbelW hbvW hbel hbv hsz0
  refine (whole_walk _ _ 0 _ _ bvs (by exact e2) (by exact e3) (by exact HO.out) hbl).mono ?_
  rintro e w3 ⟨bv', rfl, ho, hg, ht⟩
  have HO3 := Lib.hid ho
  have HG3 := Lib.hid hg
  have HT3 := Lib.hid (show SameOrNew W _ bv' from ht)
  clear ho hg ht
  go_wp2_with (fail)
  refine (HP.out _ _ _ HB.out HO3.out HG3.out HT3.out).mono ?_
  rintro e w4 ⟨rfl, hr⟩
  all_goals
    have HR := Lib.hid hr
    clear hr
    go_wp2
    go_end0
    exact ⟨rfl, HR.out⟩

set_option maxHeartbeats 1000000 in
theorem leave_walk61 (w : World) (looks bp bo cap n : Nat) (num : Nat) (ab ap : Option Addr) (nb cb np cp : Nat) (sg : Bool) (hn : n + 2 ≤ 1000000) (hnum : num ≤ 1000000) (hcap : n + 2 ≤ cap) 
    (h2 : w.cell? ⟨bp, 2, none⟩ = some (.slice (some ⟨bo, 0, none⟩) (n + 2) cap)) (f2 : w.frozen? ⟨bp, 2, none⟩ = false) (hbb : bp ≠ bo) (hlk : 1 ≤ looks) (hlk2 : looks ≤ 1000000) (h5 : w.cell? ⟨bp, 5, none⟩ = some (.int .i64 (looks : Int))) (f5 : w.frozen? ⟨bp, 5, none⟩ = false)
    (c0 : w.cell? ⟨bo, (n + 1) * 5, none⟩ = some (.int .u8 61)) (c1 : w.cell? ⟨bo, (n + 1) * 5 + 1, none⟩ = some (.int .i64 (num : Int))) (c2 : w.cell? ⟨bo, (n + 1) * 5 + 2, none⟩ = some (.slice ab nb cb)) (c3 : w.cell? ⟨bo, (n + 1) * 5 + 3, none⟩ = some (.slice ap np cp)) (c4 : w.cell? ⟨bo, (n + 1) * 5 + 4, none⟩ = some (.bool sg))
    (bvs : List Value) (hbv : w.ownsRow 0 62 1 (.slice ab nb cb) bvs.length bvs) (hbl : bvs.length ≤ 100000) (hob : (Value.slice ab nb cb).ownBlock ≠ some bp)
    (R : World → Prop)
    (hput : ∀ (W w3 : World) (bv' : Value), Below w.heap.size ((w.setCell ⟨bp, 2, none⟩ (.slice (some ⟨bo, 0, none⟩) (n + 1) cap)).setCell ⟨bp, 5, none⟩ (.int .i64 ((looks - 1 : Nat) : Int))) W → w3.ownsRow 0 62 1 bv' (bvs.length + 1) (bvs ++ [.iface 109 (.slice ap np cp)]) → W.grownBy w3 (Value.slice ab nb cb).ownBlock → SameOrNew W (.slice ab nb cb) bv' →
      Calls Try.prog 58 #[.pointer (some ⟨bp, 0, none⟩), .iface 135 (.agg #[.iface 108 bv', .bool false]), .bool false, .int .i64 1] w3 fun e w' => e = .returned (.tuple #[]) ∧ R w') :
    Calls Try.prog 55 #[.pointer (some ⟨bp, 0, none⟩)] w fun e w' => e = .returned (.tuple #[]) ∧ R w' := by
  have lbp : bp < w.heap.size := World.block_lt_of_cell? w _ h2
  have lbo : bo < w.heap.size := World.block_lt_of_cell? w _ c2
  have t1 : ((n : Int) + 2 == 1) = false := by simp; omega
  go_enter Try.func55, Try.ntmps55
  go_wp2_with (fail)
  refine (top_any _ _ _ _ (n + 1) hn h2).mono ?_
  rintro e w0 ⟨rfl, nq, hw0⟩
  have k2 : w0.cell? ⟨bp, 2, none⟩ = some (.slice (some ⟨bo, 0, none⟩) (n + 2) cap) := by rw [hw0]; exact h2
  have g2 : w0.frozen? ⟨bp, 2, none⟩ = false := by rw [hw0]; exact f2
  have d0 : w0.cell? ⟨bo, (n + 1) * 5, none⟩ = some (.int .u8 61) := by rw [hw0]; exact c0
  have d1 : w0.cell? ⟨bo, (n + 1) * 5 + 1, none⟩ = some (.int .i64 (num : Int)) := by rw [hw0]; exact c1
  have d2 : w0.cell? ⟨bo, (n + 1) * 5 + 2, none⟩ = some (.slice ab nb cb) := by rw [hw0]; exact c2
  have d3 : w0.cell? ⟨bo, (n + 1) * 5 + 3, none⟩ = some (.slice ap np cp) := by rw [hw0]; exact c3
  have d4 : w0.cell? ⟨bo, (n + 1) * 5 + 4, none⟩ = some (.bool sg) := by rw [hw0]; exact c4
  have mbp : bp < w0.heap.size := by rw [hw0]; exact lbp
  have mbo : bo < w0.heap.size := by rw [hw0]; exact lbo
  have h5' : w0.cell? ⟨bp, 5, none⟩ = some (.int .i64 (looks : Int)) := by rw [hw0]; exact h5
  have f5' : w0.frozen? ⟨bp, 5, none⟩ = false := by rw [hw0]; exact f5
  have HW := Lib.hid hw0
  clear hw0 h5 f5 h2 f2 c0 c1 c2 c3 c4 lbp lbo
  go_wp2
  have hn1 : (n : Int) + 2 ≤ cap := by omega
  go_region
  go_wp2
  -- the world from here on by a name
  have hlk3 : (looks : Int) - 1 = ((looks - 1 : Nat) : Int) := by omega
  rw [hlk3]
  have hbox : (World.drew (((w0.setCell ⟨bp, 2, none⟩ (.slice (some ⟨bo, 0, none⟩) (n + 1) cap)).setCell ⟨bp, 5, none⟩ (.int .i64 ((looks - 1 : Nat) : Int))).alloc (.cells #[.int .u8 61, .int .i64 (num : Int), .slice ab nb cb, .slice ap np cp, .bool sg] 111))).heap[w0.heap.size]? = some (.cells #[.int .u8 61, .int .i64 (num : Int), .slice ab nb cb, .slice ap np cp, .bool sg] 111 (0, 0)) := by
    have := heap_alloc_new ((w0.setCell ⟨bp, 2, none⟩ (.slice (some ⟨bo, 0, none⟩) (n + 1) cap)).setCell ⟨bp, 5, none⟩ (.int .i64 ((looks - 1 : Nat) : Int))) (.cells #[.int .u8 61, .int .i64 (num : Int), .slice ab nb cb, .slice ap np cp, .bool sg] 111)
    simp only [World.size_setCell] at this; exact this
  have hbel : Below w0.heap.size ((w0.setCell ⟨bp, 2, none⟩ (.slice (some ⟨bo, 0, none⟩) (n + 1) cap)).setCell ⟨bp, 5, none⟩ (.int .i64 ((looks - 1 : Nat) : Int))) (World.drew (((w0.setCell ⟨bp, 2, none⟩ (.slice (some ⟨bo, 0, none⟩) (n + 1) cap)).setCell ⟨bp, 5, none⟩ (.int .i64 ((looks - 1 : Nat) : Int))).alloc (.cells #[.int .u8 61, .int .i64 (num : Int), .slice ab nb cb, .slice ap np cp, .bool sg] 111))) :=
    ((Below.refl _ _).alloc (by simp) _).drew
  generalize hW : (World.drew (((w0.setCell ⟨bp, 2, none⟩ (.slice (some ⟨bo, 0, none⟩) (n + 1) cap)).setCell ⟨bp, 5, none⟩ (.int .i64 ((looks - 1 : Nat) : Int))).alloc (.cells #[.int .u8 61, .int .i64 (num : Int), .slice ab nb cb, .slice ap np cp, .bool sg] 111))) = W at *
  clear hW
  have hbelW : Below w.heap.size ((w.setCell ⟨bp, 2, none⟩ (.slice (some ⟨bo, 0, none⟩) (n + 1) cap)).setCell ⟨bp, 5, none⟩ (.int .i64 ((looks - 1 : Nat) : Int))) W := by
    have h := hbel; rw [HW.out] at h; exact ⟨h.os, h.tape, h.output, h.size, h.block⟩
  have hsz0 : w0.heap.size = w.heap.size := by rw [HW.out]; rfl
  have hne : (Value.slice ab nb cb).ownBlock ≠ some w0.heap.size := fun e => by have := (hbv.lt _ e).2; omega
  have hbvW : W.ownsRow 0 62 1 (.slice ab nb cb) bvs.length bvs :=
    ownsRow_agree hbv fun j hj => (hbelW.block j (hbv.lt j hj).2).trans ((heap_setCell_other _ _ _ _ (by rintro rfl; exact hob hj)).trans (heap_setCell_other _ _ _ _ (by rintro rfl; exact hob hj)))
  have e1 : W.cell? ⟨w0.heap.size, 0, none⟩ = some (.int .u8 61) := by rw [cell_of_blk hbox]; rfl
  have e2 : W.cell? ⟨w0.heap.size, 0 + 2, none⟩ = some (.slice ab nb cb) := by rw [cell_of_blk hbox]; rfl
  have e3 : W.cell? ⟨w0.heap.size, 0 + 3, none⟩ = some (.slice ap np cp) := by rw [cell_of_blk hbox]; rfl
  have HP := Lib.hid hput
  have HB := Lib.hid hbelW
  have HO := Lib.hid hbvW
  clear hput hbelW hbvW hbel hbv hsz0
  go_region_with (first | (go_at_call 62; refine (whole_walk _ _ 0 _ _ bvs (by exact e2) (by exact e3) (by exact HO.out) hbl).mono ?_; rintro e w3 ⟨bv', rfl, ho, hg, ht⟩; have i1 := grown_cell0 hg e1 hne; have hgW := grown_undrew hg; have htW : SameOrNew W _ bv' := ht; clear hg ht) | (go_at_call 58; refine (HP.out _ _ _ HB.out (by assumption) (by assumption) (by assumption)).mono ?_; rintro e w4 ⟨rfl, hr⟩))
  all_goals
    have HR := Lib.hid hr
    clear hr
    go_wp2
    go_end0
    exact ⟨rfl, HR.out⟩

set_option maxHeartbeats 1000000 in
theorem leave_walk33 (w : World) (looks bp bo cap n : Nat) (num : Nat) (ab ap : Option Addr) (nb cb np cp : Nat) (sg : Bool) (hn : n + 2 ≤ 1000000) (hnum : num ≤ 1000000) (hcap : n + 2 ≤ cap) 
    (h2 : w.cell? ⟨bp, 2, none⟩ = some (.slice (some ⟨bo, 0, none⟩) (n + 2) cap)) (f2 : w.frozen? ⟨bp, 2, none⟩ = false) (hbb : bp ≠ bo) (hlk : 1 ≤ looks) (hlk2 : looks ≤ 1000000) (h5 : w.cell? ⟨bp, 5, none⟩ = some (.int .i64 (looks : Int))) (f5 : w.frozen? ⟨bp, 5, none⟩ = false)
    (c0 : w.cell? ⟨bo, (n + 1) * 5, none⟩ = some (.int .u8 33)) (c1 : w.cell? ⟨bo, (n + 1) * 5 + 1, none⟩ = some (.int .i64 (num : Int))) (c2 : w.cell? ⟨bo, (n + 1) * 5 + 2, none⟩ = some (.slice ab nb cb)) (c3 : w.cell? ⟨bo, (n + 1) * 5 + 3, none⟩ = some (.slice ap np cp)) (c4 : w.cell? ⟨bo, (n + 1) * 5 + 4, none⟩ = some (.bool sg))
    (bvs : List Value) (hbv : w.ownsRow 0 62 1 (.slice ab nb cb) bvs.length bvs) (hbl : bvs.length ≤ 100000) (hob : (Value.slice ab nb cb).ownBlock ≠ some bp)
    (R : World → Prop)
    (hput : ∀ (W w3 : World) (bv' : Value), Below w.heap.size ((w.setCell ⟨bp, 2, none⟩ (.slice (some ⟨bo, 0, none⟩) (n + 1) cap)).setCell ⟨bp, 5, none⟩ (.int .i64 ((looks - 1 : Nat) : Int))) W → w3.ownsRow 0 62 1 bv' (bvs.length + 1) (bvs ++ [.iface 109 (.slice ap np cp)]) → W.grownBy w3 (Value.slice ab nb cb).ownBlock → SameOrNew W (.slice ab nb cb) bv' →
      Calls Try.prog 58 #[.pointer (some ⟨bp, 0, none⟩), .iface 135 (.agg #[.iface 108 bv', .bool true]), .bool false, .int .i64 1] w3 fun e w' => e = .returned (.tuple #[]) ∧ R w') :
    Calls Try.prog 55 #[.pointer (some ⟨bp, 0, none⟩)] w fun e w' => e = .returned (.tuple #[]) ∧ R w' := by
  have lbp : bp < w.heap.size := World.block_lt_of_cell? w _ h2
  have lbo : bo < w.heap.size := World.block_lt_of_cell? w _ c2
  have t1 : ((n : Int) + 2 == 1) = false := by simp; omega
  go_enter Try.func55, Try.ntmps55
  go_wp2_with (fail)
  refine (top_any _ _ _ _ (n + 1) hn h2).mono ?_
  rintro e w0 ⟨rfl, nq, hw0⟩
  have k2 : w0.cell? ⟨bp, 2, none⟩ = some (.slice (some ⟨bo, 0, none⟩) (n + 2) cap) := by rw [hw0]; exact h2
  have g2 : w0.frozen? ⟨bp, 2, none⟩ = false := by rw [hw0]; exact f2
  have d0 : w0.cell? ⟨bo, (n + 1) * 5, none⟩ = some (.int .u8 33) := by rw [hw0]; exact c0
  have d1 : w0.cell? ⟨bo, (n + 1) * 5 + 1, none⟩ = some (.int .i64 (num : Int)) := by rw [hw0]; exact c1
  have d2 : w0.cell? ⟨bo, (n + 1) * 5 + 2, none⟩ = some (.slice ab nb cb) := by rw [hw0]; exact c2
  have d3 : w0.cell? ⟨bo, (n + 1) * 5 + 3, none⟩ = some (.slice ap np cp) := by rw [hw0]; exact c3
  have d4 : w0.cell? ⟨bo, (n + 1) * 5 + 4, none⟩ = some (.bool sg) := by rw [hw0]; exact c4
  have mbp : bp < w0.heap.size := by rw [hw0]; exact lbp
  have mbo : bo < w0.heap.size := by rw [hw0]; exact lbo
  have h5' : w0.cell? ⟨bp, 5, none⟩ = some (.int .i64 (looks : Int)) := by rw [hw0]; exact h5
  have f5' : w0.frozen? ⟨bp, 5, none⟩ = false := by rw [hw0]; exact f5
  have HW := Lib.hid hw0
  clear hw0 h5 f5 h2 f2 c0 c1 c2 c3 c4 lbp lbo
  go_wp2
  have hn1 : (n : Int) + 2 ≤ cap := by omega
  go_region
  go_wp2
  -- the world from here on by a name
  have hlk3 : (looks : Int) - 1 = ((looks - 1 : Nat) : Int) := by omega
  rw [hlk3]
  have hbox : (World.drew (((w0.setCell ⟨bp, 2, none⟩ (.slice (some ⟨bo, 0, none⟩) (n + 1) cap)).setCell ⟨bp, 5, none⟩ (.int .i64 ((looks - 1 : Nat) : Int))).alloc (.cells #[.int .u8 33, .int .i64 (num : Int), .slice ab nb cb, .slice ap np cp, .bool sg] 111))).heap[w0.heap.size]? = some (.cells #[.int .u8 33, .int .i64 (num : Int), .slice ab nb cb, .slice ap np cp, .bool sg] 111 (0, 0)) := by
    have := heap_alloc_new ((w0.setCell ⟨bp, 2, none⟩ (.slice (some ⟨bo, 0, none⟩) (n + 1) cap)).setCell ⟨bp, 5, none⟩ (.int .i64 ((looks - 1 : Nat) : Int))) (.cells #[.int .u8 33, .int .i64 (num : Int), .slice ab nb cb, .slice ap np cp, .bool sg] 111)
    simp only [World.size_setCell] at this; exact this
  have hbel : Below w0.heap.size ((w0.setCell ⟨bp, 2, none⟩ (.slice (some ⟨bo, 0, none⟩) (n + 1) cap)).setCell ⟨bp, 5, none⟩ (.int .i64 ((looks - 1 : Nat) : Int))) (World.drew (((w0.setCell ⟨bp, 2, none⟩ (.slice (some ⟨bo, 0, none⟩) (n + 1) cap)).setCell ⟨bp, 5, none⟩ (.int .i64 ((looks - 1 : Nat) : Int))).alloc (.cells #[.int .u8 33, .int .i64 (num : Int), .slice ab nb cb, .slice ap np cp, .bool sg] 111))) :=
    ((Below.refl _ _).alloc (by simp) _).drew
  generalize hW : (World.drew (((w0.setCell ⟨bp, 2, none⟩ (.slice (some ⟨bo, 0, none⟩) (n + 1) cap)).setCell ⟨bp, 5, none⟩ (.int .i64 ((looks - 1 : Nat) : Int))).alloc (.cells #[.int .u8 33, .int .i64 (num : Int), .slice ab nb cb, .slice ap np cp, .bool sg] 111))) = W at *
  clear hW
  have hbelW : Below w.heap.size ((w.setCell ⟨bp, 2, none⟩ (.slice (some ⟨bo, 0, none⟩) (n + 1) cap)).setCell ⟨bp, 5, none⟩ (.int .i64 ((looks - 1 : Nat) : Int))) W := by
    have h := hbel; rw [HW.out] at h; exact ⟨h.os, h.tape, h.output, h.size, h.block⟩
  have hsz0 : w0.heap.size = w.heap.size := by rw [HW.out]; rfl
  have hne : (Value.slice ab nb cb).ownBlock ≠ some w0.heap.size := fun e => by have := (hbv.lt _ e).2; omega
  have hbvW : W.ownsRow 0 62 1 (.slice ab nb cb) bvs.length bvs :=
    ownsRow_agree hbv fun j hj => (hbelW.block j (hbv.lt j hj).2).trans ((heap_setCell_other _ _ _ _ (by rintro rfl; exact hob hj)).trans (heap_setCell_other _ _ _ _ (by rintro rfl; exact hob hj)))
  have e1 : W.cell? ⟨w0.heap.size, 0, none⟩ = some (.int .u8 33) := by rw [cell_of_blk hbox]; rfl
  have e2 : W.cell? ⟨w0.heap.size, 0 + 2, none⟩ = some (.slice ab nb cb) := by rw [cell_of_blk hbox]; rfl
  have e3 : W.cell? ⟨w0.heap.size, 0 + 3, none⟩ = some (.slice ap np cp) := by rw [cell_of_blk hbox]; rfl
  have HP := Lib.hid hput
  have HB := Lib.hid hbelW
  have HO := Lib.hid hbvW
  clear hput hbelW hbvW hbel hbv hsz0
  go_region_with (first | (go_at_call 62; refine (whole_walk _ _ 0 _ _ bvs (by exact e2) (by exact e3) (by exact HO.out) hbl).mono ?_; rintro e w3 ⟨bv', rfl, ho, hg, ht⟩; have i1 := grown_cell0 hg e1 hne; have hgW := grown_undrew hg; have htW : SameOrNew W _ bv' := ht; clear hg ht) | (go_at_call 58; refine (HP.out _ _ _ HB.out (by assumption) (by assumption) (by assumption)).mono ?_; rintro e w4 ⟨rfl, hr⟩))
  all_goals
    have HR := Lib.hid hr
    clear hr
    go_wp2
    go_end0
    exact ⟨rfl, HR.out⟩

end Go.Proofs.Ytfgghbideoehjaa

namespace Go.Proofs.Ytfgghbideoehjaa
open Go.ChangeShapes Go.WideShapes Go.ChangeAt Go.RowKit
set_option linter.unusedVariables false
set_option maxRecDepth 100000

def PSt.popL (st : PSt) (low : List Fr) (f : Fr) : PSt := { st with low := low, top := f, looks := st.looks - 1 }

set_option maxHeartbeats 1000000 in
theorem leave_plain {base : Nat} {g : Tags} {w : World} {bp : Nat} {st : PSt} (h : PInv base g w bp st) (hs : st.Small) (hbase : base ≤ w.heap.size) {low : List Fr} {f : Fr} (hlow : st.low = low ++ [f]) (hkind : st.top.kind = 58)
    (hnum : st.top.num ≤ 1000000) (hsm : (st.pop low f).Small) :
    Calls Try.prog 55 #[.pointer (some ⟨bp, 0, none⟩)] w (PPost base g w bp (.ok ((st.pop low f).put (.group 0 st.top.whole) true 1))) := by
  obtain ⟨x, h⟩ := h
  obtain ⟨⟨bvs, hb1, hb2⟩, ⟨pvs, hp1, hp2⟩⟩ := h.top
  obtain ⟨ab, nb, cb, hbv⟩ := ownsRow_shape hb1.1
  obtain ⟨ap, np, cp, hpv⟩ := ownsRow_shape hp1.1
  have hll : st.low.length = low.length + 1 := by rw [hlow]; simp
  have hlc := h.low.length
  have hbt : ∀ k, x.bv.ownBlock = some k → g k = some (.br (low.length + 1)) := fun k hk => by have := hb1.2 k hk; rw [hll] at this; exact this
  have hpt : ∀ k, x.pv.ownBlock = some k → g k = some (.pc (low.length + 1)) := fun k hk => by have := hp1.2 k hk; rw [hll] at this; exact this
  have hob : x.bv.ownBlock ≠ some bp := fun e => tag_ne (hbt _ e) h.gp (by simp) rfl
  have hbb : bp ≠ x.bo := tag_ne h.gp h.gob (by simp)
  have hblk := h.blk
  rw [hll] at hblk
  have topc : ∀ j, j < 5 → w.cell? ⟨x.bo, (low.length + 1) * 5 + j, none⟩ = (frCells st.top x.bv x.pv)[j]? := fun j hj => by
    rw [cell_of_blk h.opn, top_cell j (by rw [hlc, hll]) (by simpa [frCells] using hj)]
  have hb1' := hb1.1
  rw [hbv] at hb1' hob
  refine (leave_walk58 w bp x.bo x.ocap low.length st.top.num ab ap nb cb np cp st.top.single (by have := hs.low; omega) hnum (by have := h.cap1; omega)
    (by rw [cell_of_blk hblk]; rfl) (free_of_blk hblk 2) hbb (by have := topc 0 (by decide); simp only [frCells, hkind] at this; exact this)
    (by have := topc 1 (by decide); simp only [frCells] at this; exact this) (by have := topc 2 (by decide); simp only [frCells, hbv] at this; exact this)
    (by have := topc 3 (by decide); simp only [frCells, hpv] at this; exact this) (by have := topc 4 (by decide); simp only [frCells] at this; exact this)
    bvs hb1' (by have := hb2.length; have := hs.brs; omega) hob
    (fun w' => ∃ g', PInv base g' w' bp ((st.pop low f).put (.group 0 st.top.whole) true 1) ∧ Keeps base g w g' w') ?_).mono ?_
  · intro W w3 bv' hB ho hg ht
    rw [← hbv] at hg ht
    have hWs : w.heap.size ≤ W.heap.size := by have := hB.size; simpa using this
    -- the blocks behind the call of whole
    have same : ∀ b t, g b = some t → t ≠ .parser → t ≠ .br (low.length + 1) → w3.heap[b]? = w.heap[b]? := fun b t hb n1 n2 => by
      have hlt := (h.tags b t hb).2
      rw [hg.block b (by omega) (fun e => tag_ne hb (hbt b e.symm) n2 rfl), hB.block b hlt]
      exact heap_setCell_other _ _ _ _ (tag_ne hb h.gp n1)
    have hbp3 : w3.heap[bp]? = some (.cells #[.string st.s, .int .i64 (st.pos : Int), .slice (some ⟨x.bo, 0, none⟩) (low.length + 1) x.ocap, .int .i64 (st.groups : Int), .int .i64 (st.begun : Int), .int .i64 (st.looks : Int), x.refsv] 114 (0, 0)) := by
      have hlt := (h.tags bp _ h.gp).2
      rw [hg.block bp (by omega) (fun e => tag_ne h.gp (hbt bp e.symm) (by simp) rfl), hB.block bp hlt]
      exact heap_setCell_same _ _ 2 _ _ _ hblk
    have tags3 : ∀ b t, closed g (low.length + 1) bv' b = some t → base ≤ b ∧ b < w3.heap.size := by
      intro b t hb
      have hsz := hg.size
      unfold closed at hb
      split at hb
      · rename_i e
        refine ⟨?_, (ho.lt b e).2⟩
        rcases ht with ht | ht
        · rw [ht] at e; exact (h.tags b _ (hbt b e)).1
        · have := ht b e; omega
      · split at hb
        · rename_i e
          rcases e with e | e <;> (have := h.tags b _ e; omega)
        · have := h.tags b t hb; omega
    have keep : ∀ b t, g b = some t → t ≠ .br (low.length + 1) → t ≠ .pc (low.length + 1) → closed g (low.length + 1) bv' b = some t := fun b t hb n1 n2 => closed_other h.tags hbt ht hWs hb n1 n2
    have agT : Agree w w3 (isTree g) := fun b hb => same b .tree hb (by simp) (by simp)
    have moT : ∀ b, isTree g b → isTree (closed g (low.length + 1) bv') b := fun b hb => keep b _ hb (by simp) (by simp)
    -- the node
    have hnode : NodeAt (isTree (closed g (low.length + 1) bv')) w3 (.group 0 st.top.whole) (.iface 141 (.agg #[.int .i64 0, .iface 108 bv'])) := by
      refine ⟨.iface 108 bv', rfl, bv', bvs ++ [.iface 109 x.pv], rfl, ⟨?_, fun k hk => closed_new hk⟩, ?_⟩
      · rw [List.length_append]; rw [← hpv] at ho; exact ho
      · refine NodesAt.snoc ?_ _ _ (NodesAt.agree agT moT _ _ hb2)
        refine ⟨x.pv, pvs, rfl, ⟨?_, fun k hk => closed_own (.inr (hpt k hk))⟩, NodesAt.agree agT moT _ _ hp2⟩
        exact ownsRow_agree hp1.1 fun k hk => same k _ (hpt k hk) (by simp) (by simp)
    -- the state
    have hfr := h.low
    rw [hlow] at hfr
    obtain ⟨cs1, b1, p1, hcs, hfr1, hfr2⟩ := (FrsAt.snoc 0 low f x.lowc).1 hfr
    have hinv : PInv base (closed g (low.length + 1) bv') w3 bp (st.pop low f) := by
      refine ⟨{ x with lowc := cs1, bv := b1, pv := p1, spare := frCells st.top x.bv x.pv ++ x.spare }, ?_⟩
      exact {
        tags := tags3
        gp := keep _ _ h.gp (by simp) (by simp)
        blk := hbp3
        gob := keep _ _ h.gob (by simp) (by simp)
        opn := by
          rw [same _ _ h.gob (by simp) (by simp), h.opn, hcs]
          simp [PSt.pop]
        cap1 := by have := h.cap1; simp only [PSt.pop]; omega
        cap2 := h.cap2
        cap3 := by have := h.cap3; rw [hcs] at this; simpa [PSt.pop] using this
        refs := ownsRow_agree h.refs fun j hj => same _ _ (h.grefs j hj) (by simp) (by simp)
        grefs := fun j hj => keep _ _ (h.grefs j hj) (by simp) (by simp)
        low := hfr1.agree 0 _ _ fun b hb => by
          rcases hb with hb | ⟨j, _, h2, hb | hb⟩
          · exact ⟨agT b hb, by rw [moT b hb, hb]⟩
          · have hn : j ≠ low.length + 1 := by omega
            exact ⟨same b _ hb (by simp) (by simpa using hn), by rw [keep b _ hb (by simpa using hn) (by simp), hb]⟩
          · have hn : j ≠ low.length + 1 := by omega
            exact ⟨same b _ hb (by simp) (by simp), by rw [keep b _ hb (by simp) (by simpa using hn), hb]⟩
        top := by
          have hfr3 : FrAt g w low.length f b1 p1 := by simpa using hfr2
          exact hfr3.agree fun b hb => by
            rcases hb with hb | hb | hb
            · exact ⟨agT b hb, by rw [moT b hb, hb]⟩
            · exact ⟨same b _ hb (by simp) (by simp), by rw [keep b _ hb (by simp) (by simp), hb]⟩
            · exact ⟨same b _ hb (by simp) (by simp), by rw [keep b _ hb (by simp) (by simp), hb]⟩ }
    have hkeep : Keeps base g w (closed g (low.length + 1) bv') w3 := by
      refine ⟨fun b hb => ⟨moT b hb, agT b hb⟩, ?_⟩
      have B0 : Below base w (w.setCell ⟨bp, 2, none⟩ (.slice (some ⟨x.bo, 0, none⟩) (low.length + 1) x.ocap)) := (Below.refl base w).setCell (p := ⟨bp, 2, none⟩) (h.tags _ _ h.gp).1 _
      exact (B0.trans (hB.mono hbase)).grown hg (by omega) fun k hk => (h.tags k _ (hbt k hk)).1
    refine (put_calls hinv hsm (by have := hg.size; omega) hnode true 1 (by decide)).mono ?_
    rintro e w4 ⟨rfl, g4, hi4, hk4⟩
    exact ⟨rfl, g4, hi4, hkeep.trans hk4⟩
  · rintro e w' ⟨rfl, hq⟩
    exact ⟨rfl, hq⟩

set_option maxHeartbeats 1000000 in
theorem leave_look61 {base : Nat} {g : Tags} {w : World} {bp : Nat} {st : PSt} (h : PInv base g w bp st) (hs : st.Small) (hbase : base ≤ w.heap.size) {low : List Fr} {f : Fr} (hlow : st.low = low ++ [f]) (hkind : st.top.kind = 61) (hlk : 1 ≤ st.looks)
    (hnum : st.top.num ≤ 1000000) (hsm : (st.popL low f).Small) :
    Calls Try.prog 55 #[.pointer (some ⟨bp, 0, none⟩)] w (PPost base g w bp (.ok ((st.popL low f).put (.look st.top.whole false) false 1))) := by
  obtain ⟨x, h⟩ := h
  obtain ⟨⟨bvs, hb1, hb2⟩, ⟨pvs, hp1, hp2⟩⟩ := h.top
  obtain ⟨ab, nb, cb, hbv⟩ := ownsRow_shape hb1.1
  obtain ⟨ap, np, cp, hpv⟩ := ownsRow_shape hp1.1
  have hll : st.low.length = low.length + 1 := by rw [hlow]; simp
  have hlc := h.low.length
  have hbt : ∀ k, x.bv.ownBlock = some k → g k = some (.br (low.length + 1)) := fun k hk => by have := hb1.2 k hk; rw [hll] at this; exact this
  have hpt : ∀ k, x.pv.ownBlock = some k → g k = some (.pc (low.length + 1)) := fun k hk => by have := hp1.2 k hk; rw [hll] at this; exact this
  have hob : x.bv.ownBlock ≠ some bp := fun e => tag_ne (hbt _ e) h.gp (by simp) rfl
  have hbb : bp ≠ x.bo := tag_ne h.gp h.gob (by simp)
  have hblk := h.blk
  rw [hll] at hblk
  have topc : ∀ j, j < 5 → w.cell? ⟨x.bo, (low.length + 1) * 5 + j, none⟩ = (frCells st.top x.bv x.pv)[j]? := fun j hj => by
    rw [cell_of_blk h.opn, top_cell j (by rw [hlc, hll]) (by simpa [frCells] using hj)]
  have hb1' := hb1.1
  rw [hbv] at hb1' hob
  refine (leave_walk61 w st.looks bp x.bo x.ocap low.length st.top.num ab ap nb cb np cp st.top.single (by have := hs.low; omega) hnum (by have := h.cap1; omega)
    (by rw [cell_of_blk hblk]; rfl) (free_of_blk hblk 2) hbb hlk (by have := hs.looks; omega) (by rw [cell_of_blk hblk]; rfl) (free_of_blk hblk 5) (by have := topc 0 (by decide); simp only [frCells, hkind] at this; exact this)
    (by have := topc 1 (by decide); simp only [frCells] at this; exact this) (by have := topc 2 (by decide); simp only [frCells, hbv] at this; exact this)
    (by have := topc 3 (by decide); simp only [frCells, hpv] at this; exact this) (by have := topc 4 (by decide); simp only [frCells] at this; exact this)
    bvs hb1' (by have := hb2.length; have := hs.brs; omega) hob
    (fun w' => ∃ g', PInv base g' w' bp ((st.popL low f).put (.look st.top.whole false) false 1) ∧ Keeps base g w g' w') ?_).mono ?_
  · intro W w3 bv' hB ho hg ht
    rw [← hbv] at hg ht
    have hWs : w.heap.size ≤ W.heap.size := by have := hB.size; simpa using this
    -- the blocks behind the call of whole
    have same : ∀ b t, g b = some t → t ≠ .parser → t ≠ .br (low.length + 1) → w3.heap[b]? = w.heap[b]? := fun b t hb n1 n2 => by
      have hlt := (h.tags b t hb).2
      rw [hg.block b (by omega) (fun e => tag_ne hb (hbt b e.symm) n2 rfl), hB.block b hlt]
      exact (heap_setCell_other _ _ _ _ (by exact tag_ne hb h.gp n1)).trans (heap_setCell_other _ _ _ _ (by exact tag_ne hb h.gp n1))
    have hbp3 : w3.heap[bp]? = some (.cells #[.string st.s, .int .i64 (st.pos : Int), .slice (some ⟨x.bo, 0, none⟩) (low.length + 1) x.ocap, .int .i64 (st.groups : Int), .int .i64 (st.begun : Int), .int .i64 ((st.looks - 1 : Nat) : Int), x.refsv] 114 (0, 0)) := by
      have hlt := (h.tags bp _ h.gp).2
      rw [hg.block bp (by omega) (fun e => tag_ne h.gp (hbt bp e.symm) (by simp) rfl), hB.block bp hlt]
      exact (heap_setCell_same _ _ 5 _ _ _ (heap_setCell_same _ _ 2 _ _ _ hblk)).trans rfl
    have tags3 : ∀ b t, closed g (low.length + 1) bv' b = some t → base ≤ b ∧ b < w3.heap.size := by
      intro b t hb
      have hsz := hg.size
      unfold closed at hb
      split at hb
      · rename_i e
        refine ⟨?_, (ho.lt b e).2⟩
        rcases ht with ht | ht
        · rw [ht] at e; exact (h.tags b _ (hbt b e)).1
        · have := ht b e; omega
      · split at hb
        · rename_i e
          rcases e with e | e <;> (have := h.tags b _ e; omega)
        · have := h.tags b t hb; omega
    have keep : ∀ b t, g b = some t → t ≠ .br (low.length + 1) → t ≠ .pc (low.length + 1) → closed g (low.length + 1) bv' b = some t := fun b t hb n1 n2 => closed_other h.tags hbt ht hWs hb n1 n2
    have agT : Agree w w3 (isTree g) := fun b hb => same b .tree hb (by simp) (by simp)
    have moT : ∀ b, isTree g b → isTree (closed g (low.length + 1) bv') b := fun b hb => keep b _ hb (by simp) (by simp)
    -- the node
    have hnode : NodeAt (isTree (closed g (low.length + 1) bv')) w3 (.look st.top.whole false) (.iface 135 (.agg #[.iface 108 bv', .bool false])) := by
      refine ⟨.iface 108 bv', rfl, bv', bvs ++ [.iface 109 x.pv], rfl, ⟨?_, fun k hk => closed_new hk⟩, ?_⟩
      · rw [List.length_append]; rw [← hpv] at ho; exact ho
      · refine NodesAt.snoc ?_ _ _ (NodesAt.agree agT moT _ _ hb2)
        refine ⟨x.pv, pvs, rfl, ⟨?_, fun k hk => closed_own (.inr (hpt k hk))⟩, NodesAt.agree agT moT _ _ hp2⟩
        exact ownsRow_agree hp1.1 fun k hk => same k _ (hpt k hk) (by simp) (by simp)
    -- the state
    have hfr := h.low
    rw [hlow] at hfr
    obtain ⟨cs1, b1, p1, hcs, hfr1, hfr2⟩ := (FrsAt.snoc 0 low f x.lowc).1 hfr
    have hinv : PInv base (closed g (low.length + 1) bv') w3 bp (st.popL low f) := by
      refine ⟨{ x with lowc := cs1, bv := b1, pv := p1, spare := frCells st.top x.bv x.pv ++ x.spare }, ?_⟩
      exact {
        tags := tags3
        gp := keep _ _ h.gp (by simp) (by simp)
        blk := hbp3
        gob := keep _ _ h.gob (by simp) (by simp)
        opn := by
          rw [same _ _ h.gob (by simp) (by simp), h.opn, hcs]
          simp [PSt.popL]
        cap1 := by have := h.cap1; simp only [PSt.popL]; omega
        cap2 := h.cap2
        cap3 := by have := h.cap3; rw [hcs] at this; simpa [PSt.popL] using this
        refs := ownsRow_agree h.refs fun j hj => same _ _ (h.grefs j hj) (by simp) (by simp)
        grefs := fun j hj => keep _ _ (h.grefs j hj) (by simp) (by simp)
        low := hfr1.agree 0 _ _ fun b hb => by
          rcases hb with hb | ⟨j, _, h2, hb | hb⟩
          · exact ⟨agT b hb, by rw [moT b hb, hb]⟩
          · have hn : j ≠ low.length + 1 := by omega
            exact ⟨same b _ hb (by simp) (by simpa using hn), by rw [keep b _ hb (by simpa using hn) (by simp), hb]⟩
          · have hn : j ≠ low.length + 1 := by omega
            exact ⟨same b _ hb (by simp) (by simp), by rw [keep b _ hb (by simp) (by simpa using hn), hb]⟩
        top := by
          have hfr3 : FrAt g w low.length f b1 p1 := by simpa using hfr2
          exact hfr3.agree fun b hb => by
            rcases hb with hb | hb | hb
            · exact ⟨agT b hb, by rw [moT b hb, hb]⟩
            · exact ⟨same b _ hb (by simp) (by simp), by rw [keep b _ hb (by simp) (by simp), hb]⟩
            · exact ⟨same b _ hb (by simp) (by simp), by rw [keep b _ hb (by simp) (by simp), hb]⟩ }
    have hkeep : Keeps base g w (closed g (low.length + 1) bv') w3 := by
      refine ⟨fun b hb => ⟨moT b hb, agT b hb⟩, ?_⟩
      have B0 : Below base w ((w.setCell ⟨bp, 2, none⟩ (.slice (some ⟨x.bo, 0, none⟩) (low.length + 1) x.ocap)).setCell ⟨bp, 5, none⟩ (.int .i64 ((st.looks - 1 : Nat) : Int))) := ((Below.refl base w).setCell (p := ⟨bp, 2, none⟩) (h.tags _ _ h.gp).1 _).setCell (p := ⟨bp, 5, none⟩) (h.tags _ _ h.gp).1 _
      exact (B0.trans (hB.mono hbase)).grown hg (by omega) fun k hk => (h.tags k _ (hbt k hk)).1
    refine (put_calls hinv hsm (by have := hg.size; omega) hnode false 1 (by decide)).mono ?_
    rintro e w4 ⟨rfl, g4, hi4, hk4⟩
    exact ⟨rfl, g4, hi4, hkeep.trans hk4⟩
  · rintro e w' ⟨rfl, hq⟩
    exact ⟨rfl, hq⟩

set_option maxHeartbeats 1000000 in
theorem leave_look33 {base : Nat} {g : Tags} {w : World} {bp : Nat} {st : PSt} (h : PInv base g w bp st) (hs : st.Small) (hbase : base ≤ w.heap.size) {low : List Fr} {f : Fr} (hlow : st.low = low ++ [f]) (hkind : st.top.kind = 33) (hlk : 1 ≤ st.looks)
    (hnum : st.top.num ≤ 1000000) (hsm : (st.popL low f).Small) :
    Calls Try.prog 55 #[.pointer (some ⟨bp, 0, none⟩)] w (PPost base g w bp (.ok ((st.popL low f).put (.look st.top.whole true) false 1))) := by
  obtain ⟨x, h⟩ := h
  obtain ⟨⟨bvs, hb1, hb2⟩, ⟨pvs, hp1, hp2⟩⟩ := h.top
  obtain ⟨ab, nb, cb, hbv⟩ := ownsRow_shape hb1.1
  obtain ⟨ap, np, cp, hpv⟩ := ownsRow_shape hp1.1
  have hll : st.low.length = low.length + 1 := by rw [hlow]; simp
  have hlc := h.low.length
  have hbt : ∀ k, x.bv.ownBlock = some k → g k = some (.br (low.length + 1)) := fun k hk => by have := hb1.2 k hk; rw [hll] at this; exact this
  have hpt : ∀ k, x.pv.ownBlock = some k → g k = some (.pc (low.length + 1)) := fun k hk => by have := hp1.2 k hk; rw [hll] at this; exact this
  have hob : x.bv.ownBlock ≠ some bp := fun e => tag_ne (hbt _ e) h.gp (by simp) rfl
  have hbb : bp ≠ x.bo := tag_ne h.gp h.gob (by simp)
  have hblk := h.blk
  rw [hll] at hblk
  have topc : ∀ j, j < 5 → w.cell? ⟨x.bo, (low.length + 1) * 5 + j, none⟩ = (frCells st.top x.bv x.pv)[j]? := fun j hj => by
    rw [cell_of_blk h.opn, top_cell j (by rw [hlc, hll]) (by simpa [frCells] using hj)]
  have hb1' := hb1.1
  rw [hbv] at hb1' hob
  refine (leave_walk33 w st.looks bp x.bo x.ocap low.length st.top.num ab ap nb cb np cp st.top.single (by have := hs.low; omega) hnum (by have := h.cap1; omega)
    (by rw [cell_of_blk hblk]; rfl) (free_of_blk hblk 2) hbb hlk (by have := hs.looks; omega) (by rw [cell_of_blk hblk]; rfl) (free_of_blk hblk 5) (by have := topc 0 (by decide); simp only [frCells, hkind] at this; exact this)
    (by have := topc 1 (by decide); simp only [frCells] at this; exact this) (by have := topc 2 (by decide); simp only [frCells, hbv] at this; exact this)
    (by have := topc 3 (by decide); simp only [frCells, hpv] at this; exact this) (by have := topc 4 (by decide); simp only [frCells] at this; exact this)
    bvs hb1' (by have := hb2.length; have := hs.brs; omega) hob
    (fun w' => ∃ g', PInv base g' w' bp ((st.popL low f).put (.look st.top.whole true) false 1) ∧ Keeps base g w g' w') ?_).mono ?_
  · intro W w3 bv' hB ho hg ht
    rw [← hbv] at hg ht
    have hWs : w.heap.size ≤ W.heap.size := by have := hB.size; simpa using this
    -- the blocks behind the call of whole
    have same : ∀ b t, g b = some t → t ≠ .parser → t ≠ .br (low.length + 1) → w3.heap[b]? = w.heap[b]? := fun b t hb n1 n2 => by
      have hlt := (h.tags b t hb).2
      rw [hg.block b (by omega) (fun e => tag_ne hb (hbt b e.symm) n2 rfl), hB.block b hlt]
      exact (heap_setCell_other _ _ _ _ (by exact tag_ne hb h.gp n1)).trans (heap_setCell_other _ _ _ _ (by exact tag_ne hb h.gp n1))
    have hbp3 : w3.heap[bp]? = some (.cells #[.string st.s, .int .i64 (st.pos : Int), .slice (some ⟨x.bo, 0, none⟩) (low.length + 1) x.ocap, .int .i64 (st.groups : Int), .int .i64 (st.begun : Int), .int .i64 ((st.looks - 1 : Nat) : Int), x.refsv] 114 (0, 0)) := by
      have hlt := (h.tags bp _ h.gp).2
      rw [hg.block bp (by omega) (fun e => tag_ne h.gp (hbt bp e.symm) (by simp) rfl), hB.block bp hlt]
      exact (heap_setCell_same _ _ 5 _ _ _ (heap_setCell_same _ _ 2 _ _ _ hblk)).trans rfl
    have tags3 : ∀ b t, closed g (low.length + 1) bv' b = some t → base ≤ b ∧ b < w3.heap.size := by
      intro b t hb
      have hsz := hg.size
      unfold closed at hb
      split at hb
      · rename_i e
        refine ⟨?_, (ho.lt b e).2⟩
        rcases ht with ht | ht
        · rw [ht] at e; exact (h.tags b _ (hbt b e)).1
        · have := ht b e; omega
      · split at hb
        · rename_i e
          rcases e with e | e <;> (have := h.tags b _ e; omega)
        · have := h.tags b t hb; omega
    have keep : ∀ b t, g b = some t → t ≠ .br (low.length + 1) → t ≠ .pc (low.length + 1) → closed g (low.length + 1) bv' b = some t := fun b t hb n1 n2 => closed_other h.tags hbt ht hWs hb n1 n2
    have agT : Agree w w3 (isTree g) := fun b hb => same b .tree hb (by simp) (by simp)
    have moT : ∀ b, isTree g b → isTree (closed g (low.length + 1) bv') b := fun b hb => keep b _ hb (by simp) (by simp)
    -- the node
    have hnode : NodeAt (isTree (closed g (low.length + 1) bv')) w3 (.look st.top.whole true) (.iface 135 (.agg #[.iface 108 bv', .bool true])) := by
      refine ⟨.iface 108 bv', rfl, bv', bvs ++ [.iface 109 x.pv], rfl, ⟨?_, fun k hk => closed_new hk⟩, ?_⟩
      · rw [List.length_append]; rw [← hpv] at ho; exact ho
      · refine NodesAt.snoc ?_ _ _ (NodesAt.agree agT moT _ _ hb2)
        refine ⟨x.pv, pvs, rfl, ⟨?_, fun k hk => closed_own (.inr (hpt k hk))⟩, NodesAt.agree agT moT _ _ hp2⟩
        exact ownsRow_agree hp1.1 fun k hk => same k _ (hpt k hk) (by simp) (by simp)
    -- the state
    have hfr := h.low
    rw [hlow] at hfr
    obtain ⟨cs1, b1, p1, hcs, hfr1, hfr2⟩ := (FrsAt.snoc 0 low f x.lowc).1 hfr
    have hinv : PInv base (closed g (low.length + 1) bv') w3 bp (st.popL low f) := by
      refine ⟨{ x with lowc := cs1, bv := b1, pv := p1, spare := frCells st.top x.bv x.pv ++ x.spare }, ?_⟩
      exact {
        tags := tags3
        gp := keep _ _ h.gp (by simp) (by simp)
        blk := hbp3
        gob := keep _ _ h.gob (by simp) (by simp)
        opn := by
          rw [same _ _ h.gob (by simp) (by simp), h.opn, hcs]
          simp [PSt.popL]
        cap1 := by have := h.cap1; simp only [PSt.popL]; omega
        cap2 := h.cap2
        cap3 := by have := h.cap3; rw [hcs] at this; simpa [PSt.popL] using this
        refs := ownsRow_agree h.refs fun j hj => same _ _ (h.grefs j hj) (by simp) (by simp)
        grefs := fun j hj => keep _ _ (h.grefs j hj) (by simp) (by simp)
        low := hfr1.agree 0 _ _ fun b hb => by
          rcases hb with hb | ⟨j, _, h2, hb | hb⟩
          · exact ⟨agT b hb, by rw [moT b hb, hb]⟩
          · have hn : j ≠ low.length + 1 := by omega
            exact ⟨same b _ hb (by simp) (by simpa using hn), by rw [keep b _ hb (by simpa using hn) (by simp), hb]⟩
          · have hn : j ≠ low.length + 1 := by omega
            exact ⟨same b _ hb (by simp) (by simp), by rw [keep b _ hb (by simp) (by simpa using hn), hb]⟩
        top := by
          have hfr3 : FrAt g w low.length f b1 p1 := by simpa using hfr2
          exact hfr3.agree fun b hb => by
            rcases hb with hb | hb | hb
            · exact ⟨agT b hb, by rw [moT b hb, hb]⟩
            · exact ⟨same b _ hb (by simp) (by simp), by rw [keep b _ hb (by simp) (by simp), hb]⟩
            · exact ⟨same b _ hb (by simp) (by simp), by rw [keep b _ hb (by simp) (by simp), hb]⟩ }
    have hkeep : Keeps base g w (closed g (low.length + 1) bv') w3 := by
      refine ⟨fun b hb => ⟨moT b hb, agT b hb⟩, ?_⟩
      have B0 : Below base w ((w.setCell ⟨bp, 2, none⟩ (.slice (some ⟨x.bo, 0, none⟩) (low.length + 1) x.ocap)).setCell ⟨bp, 5, none⟩ (.int .i64 ((st.looks - 1 : Nat) : Int))) := ((Below.refl base w).setCell (p := ⟨bp, 2, none⟩) (h.tags _ _ h.gp).1 _).setCell (p := ⟨bp, 5, none⟩) (h.tags _ _ h.gp).1 _
      exact (B0.trans (hB.mono hbase)).grown hg (by omega) fun k hk => (h.tags k _ (hbt k hk)).1
    refine (put_calls hinv hsm (by have := hg.size; omega) hnode false 1 (by decide)).mono ?_
    rintro e w4 ⟨rfl, g4, hi4, hk4⟩
    exact ⟨rfl, g4, hi4, hkeep.trans hk4⟩
  · rintro e w' ⟨rfl, hq⟩
    exact ⟨rfl, hq⟩

set_option maxHeartbeats 400000 in
/-- ')' where nothing is open. -/
theorem leave_none {base : Nat} {g : Tags} {w : World} {bp : Nat} {st : PSt} (h : PInv base g w bp st) (hs : st.Small) (hbase : base ≤ w.heap.size) (hlow : st.low = []) :
    Calls Try.prog 55 #[.pointer (some ⟨bp, 0, none⟩)] w (PPost base g w bp (.bad st.pos)) := by
  obtain ⟨x, hx⟩ := h
  have hsm := hs.pos
  have hb := hx.blk
  rw [hlow] at hb
  have c1 : w.cell? ⟨bp, 1, none⟩ = some (.int .i64 (st.pos : Int)) := by rw [cell_of_blk hb]; rfl
  have c2 : w.cell? ⟨bp, 2, none⟩ = some (.slice (some ⟨x.bo, 0, none⟩) 1 x.ocap) := by rw [cell_of_blk hb]; rfl
  clear hx hb
  go_enter Try.func55, Try.ntmps55
  go_wp2_with (go_at_call 61; refine (fail_any _ _ _).mono ?_; rintro e w' ⟨rfl, rfl⟩)
  exact ⟨rfl, rfl, Below.refl _ _⟩

end Go.Proofs.Ytfgghbideoehjaa
