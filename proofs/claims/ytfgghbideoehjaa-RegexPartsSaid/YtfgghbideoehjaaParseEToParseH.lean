/-
  The parser: leave.
  The parser: leave at a group with a number, on states.
  The parser: enter at a group with a number.
  The parser: enter at a group with a number, on states.
-/
import Derived.Test.YtfgghbideoehjaaParseBToParseD
import Derived.StillTailTactics
import Derived.Deep.RegionHeld3
namespace Go.Proofs.Ytfgghbideoehjaa
open Go.ChangeShapes Go.WideShapes Go.ChangeAt Go.RowKit
set_option linter.unusedVariables false
set_option maxRecDepth 100000

theorem grown_cell0 {w w1 : World} {nq : Nat} {row : Option Nat} {a : Addr} {v : Value} (h : (w.drewN nq).grownBy w1 row) (hc : w.cell? a = some v) (hne : row ≠ some a.block) : w1.cell? a = some v :=
  h.cell (w := w.drewN nq) hc (fun e => hne e.symm)

set_option maxHeartbeats 1000000 in
/-- leave at a group with a number: f is the frame that is open, n the frames below. -/
theorem leave_walk (w : World) (bp bo cap n : Nat) (num : Nat) (ab ap : Option Addr) (nb cb np cp : Nat) (sg : Bool) (hn : n + 2 ≤ 1000000) (hnum : num ≤ 1000000) (hcap : n + 2 ≤ cap) 
    (h2 : w.cell? ⟨bp, 2, none⟩ = some (.slice (some ⟨bo, 0, none⟩) (n + 2) cap)) (f2 : w.frozen? ⟨bp, 2, none⟩ = false) (hbb : bp ≠ bo)
    (c0 : w.cell? ⟨bo, (n + 1) * 5, none⟩ = some (.int .u8 40)) (c1 : w.cell? ⟨bo, (n + 1) * 5 + 1, none⟩ = some (.int .i64 (num : Int))) (c2 : w.cell? ⟨bo, (n + 1) * 5 + 2, none⟩ = some (.slice ab nb cb)) (c3 : w.cell? ⟨bo, (n + 1) * 5 + 3, none⟩ = some (.slice ap np cp)) (c4 : w.cell? ⟨bo, (n + 1) * 5 + 4, none⟩ = some (.bool sg))
    (bvs : List Value) (hbv : w.ownsRow 0 62 1 (.slice ab nb cb) bvs.length bvs) (hbl : bvs.length ≤ 100000) (hob : (Value.slice ab nb cb).ownBlock ≠ some bp)
    (R : World → Prop)
    (hput : ∀ (W w3 : World) (bv' : Value), Below w.heap.size (w.setCell ⟨bp, 2, none⟩ (.slice (some ⟨bo, 0, none⟩) (n + 1) cap)) W → w3.ownsRow 0 62 1 bv' (bvs.length + 1) (bvs ++ [.iface 109 (.slice ap np cp)]) → W.grownBy w3 (Value.slice ab nb cb).ownBlock → SameOrNew W (.slice ab nb cb) bv' →
      Calls Try.prog 58 #[.pointer (some ⟨bp, 0, none⟩), .iface 141 (.agg #[.int .i64 (num : Int), .iface 108 bv']), .bool true, .int .i64 1] w3 fun e w' => e = .returned (.tuple #[]) ∧ R w') :
    Calls Try.prog 55 #[.pointer (some ⟨bp, 0, none⟩)] w fun e w' => e = .returned (.tuple #[]) ∧ R w' := by
  have lbp : bp < w.heap.size := World.block_lt_of_cell? w _ h2
  have lbo : bo < w.heap.size := World.block_lt_of_cell? w _ c2
  have t1 : ((n : Int) + 2 == 1) = false := by simp; omega
  go_enter Try.func55, Try.ntmps55
  go_wp2_with (fail)
  refine (top_any _ _ _ _ (n + 1) hn h2).mono ?_
  rintro e w0 ⟨rfl, nq, hw0⟩
  have k2 : w0.cell? ⟨bp, 2, none⟩ = some (.slice (some ⟨bo, 0, none⟩) (n + 2) cap) := by rw [hw0]; exact h2
  have g2 : w0.frozen? ⟨bp, 2, none⟩ = false := by rw [hw0]; exact f2
  have d0 : w0.cell? ⟨bo, (n + 1) * 5, none⟩ = some (.int .u8 40) := by rw [hw0]; exact c0
  have d1 : w0.cell? ⟨bo, (n + 1) * 5 + 1, none⟩ = some (.int .i64 (num : Int)) := by rw [hw0]; exact c1
  have d2 : w0.cell? ⟨bo, (n + 1) * 5 + 2, none⟩ = some (.slice ab nb cb) := by rw [hw0]; exact c2
  have d3 : w0.cell? ⟨bo, (n + 1) * 5 + 3, none⟩ = some (.slice ap np cp) := by rw [hw0]; exact c3
  have d4 : w0.cell? ⟨bo, (n + 1) * 5 + 4, none⟩ = some (.bool sg) := by rw [hw0]; exact c4
  have mbp : bp < w0.heap.size := by rw [hw0]; exact lbp
  have mbo : bo < w0.heap.size := by rw [hw0]; exact lbo
  have HW := Lib.hid hw0
  clear hw0 h2 f2 c0 c1 c2 c3 c4 lbp lbo
  go_wp2
  have hn1 : (n : Int) + 2 ≤ cap := by omega
  go_region
  go_wp2
  -- the world from here on by a name
  have hbox : (World.drew ((w0.setCell ⟨bp, 2, none⟩ (.slice (some ⟨bo, 0, none⟩) (n + 1) cap)).alloc (.cells #[.int .u8 40, .int .i64 (num : Int), .slice ab nb cb, .slice ap np cp, .bool sg] 111))).heap[w0.heap.size]? = some (.cells #[.int .u8 40, .int .i64 (num : Int), .slice ab nb cb, .slice ap np cp, .bool sg] 111 (0, 0)) := by
    have := heap_alloc_new (w0.setCell ⟨bp, 2, none⟩ (.slice (some ⟨bo, 0, none⟩) (n + 1) cap)) (.cells #[.int .u8 40, .int .i64 (num : Int), .slice ab nb cb, .slice ap np cp, .bool sg] 111)
    rw [World.size_setCell] at this; exact this
  have hbel : Below w0.heap.size (w0.setCell ⟨bp, 2, none⟩ (.slice (some ⟨bo, 0, none⟩) (n + 1) cap)) (World.drew ((w0.setCell ⟨bp, 2, none⟩ (.slice (some ⟨bo, 0, none⟩) (n + 1) cap)).alloc (.cells #[.int .u8 40, .int .i64 (num : Int), .slice ab nb cb, .slice ap np cp, .bool sg] 111))) :=
    ((Below.refl _ _).alloc (by simp) _).drew
  generalize hW : (World.drew ((w0.setCell ⟨bp, 2, none⟩ (.slice (some ⟨bo, 0, none⟩) (n + 1) cap)).alloc (.cells #[.int .u8 40, .int .i64 (num : Int), .slice ab nb cb, .slice ap np cp, .bool sg] 111))) = W at *
  clear hW
  have hbelW : Below w.heap.size (w.setCell ⟨bp, 2, none⟩ (.slice (some ⟨bo, 0, none⟩) (n + 1) cap)) W := by
    have h := hbel; rw [HW.out] at h; exact ⟨h.os, h.tape, h.output, h.size, h.block⟩
  have hsz0 : w0.heap.size = w.heap.size := by rw [HW.out]; rfl
  have hne : (Value.slice ab nb cb).ownBlock ≠ some w0.heap.size := fun e => by have := (hbv.lt _ e).2; omega
  have hbvW : W.ownsRow 0 62 1 (.slice ab nb cb) bvs.length bvs :=
    ownsRow_agree hbv fun j hj => (hbelW.block j (hbv.lt j hj).2).trans (heap_setCell_other _ _ _ _ (by rintro rfl; exact hob hj))
  have e1 : W.cell? ⟨w0.heap.size, 1, none⟩ = some (.int .i64 (num : Int)) := by rw [cell_of_blk hbox]; rfl
  have e2 : W.cell? ⟨w0.heap.size, 0 + 2, none⟩ = some (.slice ab nb cb) := by rw [cell_of_blk hbox]; rfl
  have e3 : W.cell? ⟨w0.heap.size, 0 + 3, none⟩ = some (.slice ap np cp) := by rw [cell_of_blk hbox]; rfl
  have HP := Lib.hid hput
  have HB := Lib.hid hbelW
  have HO := Lib.hid hbvW
  clear hput hbelW hbvW hbel hbv hsz0
  go_region_with (first | (go_at_call 62; refine (whole_walk _ _ 0 _ _ bvs (by exact e2) (by exact e3) (by exact HO.out) hbl).mono ?_; rintro e w3 ⟨bv', rfl, ho, hg, ht⟩; have i1 := grown_cell0 hg e1 hne; have hgW := grown_undrew hg; have htW : SameOrNew W _ bv' := ht; clear hg ht) | (go_at_call 58; refine (HP.out _ _ _ HB.out (by assumption) (by assumption) (by assumption)).mono ?_; rintro e w4 ⟨rfl, hr⟩))
  all_goals
    have HR := Lib.hid hr
    clear hr
    go_wp2
    go_end0
    exact ⟨rfl, HR.out⟩

end Go.Proofs.Ytfgghbideoehjaa

namespace Go.Proofs.Ytfgghbideoehjaa
open Go.ChangeShapes Go.WideShapes Go.ChangeAt Go.RowKit
set_option linter.unusedVariables false
set_option maxRecDepth 100000

theorem ownsRow_shape {w : World} {base e size : Nat} {v : Value} {n : Nat} {xs : List Value} (h : w.ownsRow base e size v n xs) : ∃ a k c, v = .slice a k c := by
  rcases h.2 with ⟨rfl, _⟩ | ⟨g, cap, cur, rfl, _⟩
  · exact ⟨_, _, _, rfl⟩
  · exact ⟨_, _, _, rfl⟩

/-- The frame that is open becomes a node: its blocks are the tree's from here on. -/
def closed (g : Tags) (i : Nat) (bv' : Value) : Tags := fun b =>
  if bv'.ownBlock = some b then some .tree else if g b = some (.br i) ∨ g b = some (.pc i) then some .tree else g b

theorem closed_other {base : Nat} {g : Tags} {w W : World} (tags : ∀ b t, g b = some t → base ≤ b ∧ b < w.heap.size) {bv bv' : Value} {i : Nat}
    (hbt : ∀ k, bv.ownBlock = some k → g k = some (.br i)) (hs : SameOrNew W bv bv') (hW : w.heap.size ≤ W.heap.size) {b : Nat} {t : Tag} (hb : g b = some t) (h1 : t ≠ .br i) (h2 : t ≠ .pc i) : closed g i bv' b = some t := by
  unfold closed
  rw [if_neg, if_neg, hb]
  · rw [hb]; simp [h1, h2]
  · intro e
    rcases hs with hs | hs
    · rw [hs] at e; have := hbt b e; rw [hb] at this; exact h1 (Option.some.inj this)
    · have := hs b e; have := (tags b t hb).2; omega

theorem closed_own {g : Tags} {bv' : Value} {i : Nat} {b : Nat} (hb : g b = some (.br i) ∨ g b = some (.pc i)) : closed g i bv' b = some .tree := by
  unfold closed
  by_cases e : bv'.ownBlock = some b
  · rw [if_pos e]
  · rw [if_neg e, if_pos hb]
theorem closed_new {g : Tags} {bv' : Value} {i : Nat} {b : Nat} (hb : bv'.ownBlock = some b) : closed g i bv' b = some .tree := by
  unfold closed; rw [if_pos hb]

def PSt.pop (st : PSt) (low : List Fr) (f : Fr) : PSt := { st with low := low, top := f }

set_option maxHeartbeats 1000000 in
theorem leave_group {base : Nat} {g : Tags} {w : World} {bp : Nat} {st : PSt} (h : PInv base g w bp st) (hs : st.Small) (hbase : base ≤ w.heap.size) {low : List Fr} {f : Fr} (hlow : st.low = low ++ [f]) (hkind : st.top.kind = 40)
    (hnum : st.top.num ≤ 1000000) (hsm : (st.pop low f).Small) :
    Calls Try.prog 55 #[.pointer (some ⟨bp, 0, none⟩)] w (PPost base g w bp (.ok ((st.pop low f).put (.group st.top.num st.top.whole) true 1))) := by
  obtain ⟨x, h⟩ := h
  obtain ⟨⟨bvs, hb1, hb2⟩, ⟨pvs, hp1, hp2⟩⟩ := h.top
  obtain ⟨ab, nb, cb, hbv⟩ := ownsRow_shape hb1.1
  obtain ⟨ap, np, cp, hpv⟩ := ownsRow_shape hp1.1
  have hll : st.low.length = low.length + 1 := by rw [hlow]; simp
  have hlc := h.low.length
  have hbt : ∀ k, x.bv.ownBlock = some k → g k = some (.br (low.length + 1)) := fun k hk => by have := hb1.2 k hk; rw [hll] at this; exact this
  have hpt : ∀ k, x.pv.ownBlock = some k → g k = some (.pc (low.length + 1)) := fun k hk => by have := hp1.2 k hk; rw [hll] at this; exact this
  have hob : x.bv.ownBlock ≠ some bp := fun e => tag_ne (hbt _ e) h.gp (by simp) rfl
  have hbb : bp ≠ x.bo := tag_ne h.gp h.gob (by simp)
  have hblk := h.blk
  rw [hll] at hblk
  have topc : ∀ j, j < 5 → w.cell? ⟨x.bo, (low.length + 1) * 5 + j, none⟩ = (frCells st.top x.bv x.pv)[j]? := fun j hj => by
    rw [cell_of_blk h.opn, top_cell j (by rw [hlc, hll]) (by simpa [frCells] using hj)]
  have hb1' := hb1.1
  rw [hbv] at hb1' hob
  refine (leave_walk w bp x.bo x.ocap low.length st.top.num ab ap nb cb np cp st.top.single (by have := hs.low; omega) hnum (by have := h.cap1; omega)
    (by rw [cell_of_blk hblk]; rfl) (free_of_blk hblk 2) hbb (by have := topc 0 (by decide); simp only [frCells, hkind] at this; exact this)
    (by have := topc 1 (by decide); simp only [frCells] at this; exact this) (by have := topc 2 (by decide); simp only [frCells, hbv] at this; exact this)
    (by have := topc 3 (by decide); simp only [frCells, hpv] at this; exact this) (by have := topc 4 (by decide); simp only [frCells] at this; exact this)
    bvs hb1' (by have := hb2.length; have := hs.brs; omega) hob
    (fun w' => ∃ g', PInv base g' w' bp ((st.pop low f).put (.group st.top.num st.top.whole) true 1) ∧ Keeps base g w g' w') ?_).mono ?_
  · intro W w3 bv' hB ho hg ht
    rw [← hbv] at hg ht
    have hWs : w.heap.size ≤ W.heap.size := by have := hB.size; simpa using this
    -- the blocks behind the call of whole
    have same : ∀ b t, g b = some t → t ≠ .parser → t ≠ .br (low.length + 1) → w3.heap[b]? = w.heap[b]? := fun b t hb n1 n2 => by
      have hlt := (h.tags b t hb).2
      rw [hg.block b (by omega) (fun e => tag_ne hb (hbt b e.symm) n2 rfl), hB.block b hlt]
      exact heap_setCell_other _ _ _ _ (tag_ne hb h.gp n1)
    have hbp3 : w3.heap[bp]? = some (.cells #[.string st.s, .int .i64 (st.pos : Int), .slice (some ⟨x.bo, 0, none⟩) (low.length + 1) x.ocap, .int .i64 (st.groups : Int), .int .i64 (st.begun : Int), .int .i64 (st.looks : Int), x.refsv] 114 (0, 0)) := by
      have hlt := (h.tags bp _ h.gp).2
      rw [hg.block bp (by omega) (fun e => tag_ne h.gp (hbt bp e.symm) (by simp) rfl), hB.block bp hlt]
      exact heap_setCell_same _ _ 2 _ _ _ hblk
    have tags3 : ∀ b t, closed g (low.length + 1) bv' b = some t → base ≤ b ∧ b < w3.heap.size := by
      intro b t hb
      have hsz := hg.size
      unfold closed at hb
      split at hb
      · rename_i e
        refine ⟨?_, (ho.lt b e).2⟩
        rcases ht with ht | ht
        · rw [ht] at e; exact (h.tags b _ (hbt b e)).1
        · have := ht b e; omega
      · split at hb
        · rename_i e
          rcases e with e | e <;> (have := h.tags b _ e; omega)
        · have := h.tags b t hb; omega
    have keep : ∀ b t, g b = some t → t ≠ .br (low.length + 1) → t ≠ .pc (low.length + 1) → closed g (low.length + 1) bv' b = some t := fun b t hb n1 n2 => closed_other h.tags hbt ht hWs hb n1 n2
    have agT : Agree w w3 (isTree g) := fun b hb => same b .tree hb (by simp) (by simp)
    have moT : ∀ b, isTree g b → isTree (closed g (low.length + 1) bv') b := fun b hb => keep b _ hb (by simp) (by simp)
    -- the node
    have hnode : NodeAt (isTree (closed g (low.length + 1) bv')) w3 (.group st.top.num st.top.whole) (.iface 141 (.agg #[.int .i64 (st.top.num : Int), .iface 108 bv'])) := by
      refine ⟨.iface 108 bv', rfl, bv', bvs ++ [.iface 109 x.pv], rfl, ⟨?_, fun k hk => closed_new hk⟩, ?_⟩
      · rw [List.length_append]; rw [← hpv] at ho; exact ho
      · refine NodesAt.snoc ?_ _ _ (NodesAt.agree agT moT _ _ hb2)
        refine ⟨x.pv, pvs, rfl, ⟨?_, fun k hk => closed_own (.inr (hpt k hk))⟩, NodesAt.agree agT moT _ _ hp2⟩
        exact ownsRow_agree hp1.1 fun k hk => same k _ (hpt k hk) (by simp) (by simp)
    -- the state
    have hfr := h.low
    rw [hlow] at hfr
    obtain ⟨cs1, b1, p1, hcs, hfr1, hfr2⟩ := (FrsAt.snoc 0 low f x.lowc).1 hfr
    have hinv : PInv base (closed g (low.length + 1) bv') w3 bp (st.pop low f) := by
      refine ⟨{ x with lowc := cs1, bv := b1, pv := p1, spare := frCells st.top x.bv x.pv ++ x.spare }, ?_⟩
      exact {
        tags := tags3
        gp := keep _ _ h.gp (by simp) (by simp)
        blk := hbp3
        gob := keep _ _ h.gob (by simp) (by simp)
        opn := by
          rw [same _ _ h.gob (by simp) (by simp), h.opn, hcs]
          simp [PSt.pop]
        cap1 := by have := h.cap1; simp only [PSt.pop]; omega
        cap2 := h.cap2
        cap3 := by have := h.cap3; rw [hcs] at this; simpa [PSt.pop] using this
        refs := ownsRow_agree h.refs fun j hj => same _ _ (h.grefs j hj) (by simp) (by simp)
        grefs := fun j hj => keep _ _ (h.grefs j hj) (by simp) (by simp)
        low := hfr1.agree 0 _ _ fun b hb => by
          rcases hb with hb | ⟨j, _, h2, hb | hb⟩
          · exact ⟨agT b hb, by rw [moT b hb, hb]⟩
          · have hn : j ≠ low.length + 1 := by omega
            exact ⟨same b _ hb (by simp) (by simpa using hn), by rw [keep b _ hb (by simpa using hn) (by simp), hb]⟩
          · have hn : j ≠ low.length + 1 := by omega
            exact ⟨same b _ hb (by simp) (by simp), by rw [keep b _ hb (by simp) (by simpa using hn), hb]⟩
        top := by
          have hfr3 : FrAt g w low.length f b1 p1 := by simpa using hfr2
          exact hfr3.agree fun b hb => by
            rcases hb with hb | hb | hb
            · exact ⟨agT b hb, by rw [moT b hb, hb]⟩
            · exact ⟨same b _ hb (by simp) (by simp), by rw [keep b _ hb (by simp) (by simp), hb]⟩
            · exact ⟨same b _ hb (by simp) (by simp), by rw [keep b _ hb (by simp) (by simp), hb]⟩ }
    have hkeep : Keeps base g w (closed g (low.length + 1) bv') w3 := by
      refine ⟨fun b hb => ⟨moT b hb, agT b hb⟩, ?_⟩
      have B0 : Below base w (w.setCell ⟨bp, 2, none⟩ (.slice (some ⟨x.bo, 0, none⟩) (low.length + 1) x.ocap)) := (Below.refl base w).setCell (p := ⟨bp, 2, none⟩) (h.tags _ _ h.gp).1 _
      exact (B0.trans (hB.mono hbase)).grown hg (by omega) fun k hk => (h.tags k _ (hbt k hk)).1
    refine (put_calls hinv hsm (by have := hg.size; omega) hnode true 1 (by decide)).mono ?_
    rintro e w4 ⟨rfl, g4, hi4, hk4⟩
    exact ⟨rfl, g4, hi4, hkeep.trans hk4⟩
  · rintro e w' ⟨rfl, hq⟩
    exact ⟨rfl, hq⟩

end Go.Proofs.Ytfgghbideoehjaa

namespace Go.Proofs.Ytfgghbideoehjaa
open Go.ChangeShapes Go.WideShapes Go.ChangeAt Go.RowKit
set_option linter.unusedVariables false
set_option maxRecDepth 100000

theorem info4 : (Try.prog.info? 4).map (fun i => (i.zero, i.size, i.bytes)) = some (some (.bool false), 1, 1) := by kernel_rfl
theorem info111 : (Try.prog.info? 111).map (fun i => (i.zero, i.size, i.bytes)) = some (some (.agg #[.int .u8 0, .int .i64 0, .slice none 0 0, .slice none 0 0, .bool false]), 5, 72) := by kernel_rfl

theorem prefix_at (s p : ByteArray) (b : Bool) (h : Lib.hasPrefix s.data.toList p.data.toList = b) (w : World) :
    Calls Try.prog 77 #[.string s, .string p] w fun e w' => e = .returned (.bool b) ∧ w' = w := by
  rw [← h]; exact Try.strings_HasPrefix s p w

theorem gen_world {P : Program} {ops : Array Oper} {Q : Exit → Act → World → Prop} {l : List Oper} {a : Act} {W : World} (F : World → Prop) (hF : F W) (h : ∀ W, F W → wpList P ops Q l a W) : wpList P ops Q l a W := h W hF

abbrev frNew (k : Int) : Array Value := #[.int .u8 40, .int .i64 k, .slice none 0 0, .slice none 0 0, .bool false]

/-- All blocks but one are as they were. -/
structure But (b : Nat) (w W : World) : Prop where
  os : W.os = w.os
  tape : W.tape = w.tape
  output : W.output = w.output
  size : w.heap.size ≤ W.heap.size
  block : ∀ k, k < w.heap.size → k ≠ b → W.heap[k]? = w.heap[k]?

theorem But.refl (b : Nat) (w : World) : But b w w := ⟨rfl, rfl, rfl, Nat.le_refl _, fun _ _ _ => rfl⟩
theorem But.trans {b : Nat} {u v w : World} (h : But b u v) (k : But b v w) : But b u w :=
  ⟨k.os.trans h.os, k.tape.trans h.tape, k.output.trans h.output, Nat.le_trans h.size k.size, fun i hi hn => (k.block i (Nat.lt_of_lt_of_le hi h.size) hn).trans (h.block i hi hn)⟩
theorem But.below {b B : Nat} {w W : World} (h : But b w W) (hb : B ≤ b) (hB : B ≤ w.heap.size) : Below B w W :=
  ⟨h.os, h.tape, h.output, h.size, fun k hk => h.block k (by omega) (by omega)⟩
theorem But.set {b : Nat} {w W : World} (h : But b w W) (o : Nat) (v : Value) : But b w (W.setCell ⟨b, o, none⟩ v) :=
  ⟨h.os, h.tape, h.output, by simp; exact h.size, fun k hk hn => (heap_setCell_other _ _ _ _ hn).trans (h.block k hk hn)⟩
theorem But.setNew {b : Nat} {w W : World} (h : But b w W) {c : Nat} (hc : w.heap.size ≤ c) (o : Nat) (v : Value) : But b w (W.setCell ⟨c, o, none⟩ v) :=
  ⟨h.os, h.tape, h.output, by simp; exact h.size, fun k hk hn => (heap_setCell_other _ _ _ _ (by simp; omega)).trans (h.block k hk hn)⟩
theorem But.alloc {b : Nat} {w W : World} (h : But b w W) (o : Obj) : But b w (W.alloc o) :=
  ⟨h.os, h.tape, h.output, by have := h.size; simp; omega, fun k hk hn => (heap_alloc_old _ _ (by have := h.size; omega)).trans (h.block k hk hn)⟩
theorem But.drewN {b : Nat} {w W : World} (h : But b w W) (n : Nat) : But b w (W.drewN n) := ⟨h.os, h.tape, h.output, h.size, h.block⟩
theorem But.drew {b : Nat} {w W : World} (h : But b w W) : But b w W.drew := ⟨h.os, h.tape, h.output, h.size, h.block⟩

/-- The world ahead of the first append of enter. -/
structure EnterW (w : World) (bp : Nat) (c : Array Value) (G : Int) (W : World) : Prop where
  but : But bp w W
  blk : W.heap[bp]? = some (.cells ((c.setIfInBounds 3 (.int .i64 G)).setIfInBounds 4 (.int .i64 G)) 114 (0, 0))
  box : W.heap[w.heap.size]? = some (.cells (frNew G) 111 (0, 0))
  one : W.heap[w.heap.size + 1]? = some (.cells #[.bool false] 4 (0, 0))

theorem enter_world (w : World) (bp : Nat) (c : Array Value) (hblk : w.heap[bp]? = some (.cells c 114 (0, 0))) (hb : bp < w.heap.size) (k : Int) (nq : Nat) (G : Int) :
    EnterW w bp c G ((((((w.alloc (.cells (frNew k) 111)).drewN nq).setCell ⟨bp, 3, none⟩ (.int .i64 G)).setCell ⟨bp, 4, none⟩ (.int .i64 G)).setCell ⟨w.heap.size, 1, none⟩ (.int .i64 G)).alloc (.cells #[.bool false] 4)) := by
  have hbox : (((((w.alloc (.cells (frNew k) 111)).drewN nq).setCell ⟨bp, 3, none⟩ (.int .i64 G)).setCell ⟨bp, 4, none⟩ (.int .i64 G))).heap[w.heap.size]? = some (.cells (frNew k) 111 (0, 0)) := by
    rw [heap_setCell_other _ _ _ _ (by simp; omega), heap_setCell_other _ _ _ _ (by simp; omega)]
    exact heap_alloc_new w _
  have hbox2 := heap_setCell_same _ _ 1 _ _ (.int .i64 G) hbox
  have hb0 : ((w.alloc (.cells (frNew k) 111)).drewN nq).heap[bp]? = some (.cells c 114 (0, 0)) := (heap_alloc_old w _ hb).trans hblk
  have hb1 := heap_setCell_same _ _ 3 _ _ (.int .i64 G) hb0
  have hb2 := heap_setCell_same _ _ 4 _ _ (.int .i64 G) hb1
  refine ⟨((((((But.refl bp w).alloc _).drewN nq).set 3 _).set 4 _).setNew (Nat.le_refl _) 1 _).alloc _, ?_, ?_, ?_⟩
  · rw [heap_alloc_old _ _ (by simp; omega), heap_setCell_other _ _ _ _ (by simp; omega)]; exact hb2
  · rw [heap_alloc_old _ _ (by simp)]; exact hbox2
  · have := heap_alloc_new (((((w.alloc (.cells (frNew k) 111)).drewN nq).setCell ⟨bp, 3, none⟩ (.int .i64 G)).setCell ⟨bp, 4, none⟩ (.int .i64 G)).setCell ⟨w.heap.size, 1, none⟩ (.int .i64 G)) (.cells #[.bool false] 4)
    simpa using this

theorem bool_new (w : World) (b : Nat) (h : w.heap[b]? = some (.cells #[.bool false] 4 (0, 0))) : ∀ j u, [Value.bool false][j]? = some u → w.cell? ((⟨b, 0, none⟩ : Addr).add j) = some u := by
  intro j u hj
  rcases j with _ | j
  · simp at hj; subst hj; exact cell_of_row _ _ _ _ _ _ h
  · simp at hj
theorem bool_cell : ∀ x ∈ [Value.bool false], x.oneCell' = true := by
  intro x hx; simp at hx; subst hx; rfl

theorem enter_lt {w W : World} {bp : Nat} {c : Array Value} {G : Int} (h : EnterW w bp c G W) : w.heap.size + 2 ≤ W.heap.size := by
  have := h.one
  obtain ⟨hl, _⟩ := Array.getElem?_eq_some_iff.1 this
  omega
theorem enter_blk {w W w1 : World} {bp : Nat} {c : Array Value} {G : Int} (h : EnterW w bp c G W) {v : Value} (hg : W.grownBy w1 v.ownBlock) (hl : w.heap.size + 2 ≤ W.heap.size) (hb : v.ownBlock ≠ some bp) : w1.heap[bp]? = some (.cells ((c.setIfInBounds 3 (.int .i64 G)).setIfInBounds 4 (.int .i64 G)) 114 (0, 0)) := by
  rw [hg.block bp (Array.getElem?_eq_some_iff.1 h.blk).1 (fun e => hb e.symm)]; exact h.blk
theorem enter_box {w W w1 : World} {bp : Nat} {c : Array Value} {G : Int} (h : EnterW w bp c G W) {v : Value} (hg : W.grownBy w1 v.ownBlock) (hv : ∀ k, v.ownBlock = some k → 0 ≤ k ∧ k < w.heap.size) : w1.heap[w.heap.size]? = some (.cells (frNew G) 111 (0, 0)) := by
  rw [hg.block _ (Array.getElem?_eq_some_iff.1 h.box).1 (fun e => by have := hv _ e.symm; omega)]; exact h.box
theorem fr_new (w : World) (G : Int) : ∀ j u, (frNew G).toList[j]? = some u → (w.alloc (.cells (frNew G) 111)).cell? ((⟨w.heap.size, 0, none⟩ : Addr).add j) = some u := by
  intro j u hj
  rw [show ((⟨w.heap.size, 0, none⟩ : Addr).add j) = ⟨w.heap.size, j, none⟩ from (by unfold Addr.add; simp; omega), cell_of_blk (heap_alloc_new w _)]
  simpa using hj
theorem fr_cell (G : Int) : ∀ x ∈ (frNew G).toList, x.oneCell' = true := by
  intro x hx; simp at hx; rcases hx with rfl | rfl | rfl | rfl <;> rfl

theorem grown_frozen0 {w w1 : World} {row : Option Nat} {a : Addr} {v : Value} {c : Bool} (h : w.grownBy w1 row) (hc : w.cell? a = some v) (hf : w.frozen? a = c) (hne : row ≠ some a.block) : w1.frozen? a = c := by
  have hlt := World.block_lt_of_cell? w a hc
  rw [World.frozen?_of_block (h.block a.block hlt (fun e => hne e.symm))]
  exact hf

theorem cell_set_other (w : World) (a b : Addr) (v : Value) (h : b ≠ a) : (w.setCell a v).cell? b = w.cell? b :=
  by apply World.cell?_setCell_other; exact fun e => h e.symm

/-- What enter leaves. -/
def EnterR (w : World) (bp bo n ocap : Nat) (c : Array Value) (G pos : Nat) (refsv : Value) (rs xs : List Value) (w' : World) : Prop :=
  ∃ W w1 refsv' w2 openv', EnterW w bp c (G : Int) W ∧ w1.ownsRow 0 4 1 refsv' (rs.length + 1) (rs ++ [.bool false]) ∧ W.grownBy w1 refsv.ownBlock ∧ SameOrNew W refsv refsv' ∧
    w2.ownsRow 0 111 5 openv' (n + 2) (xs ++ (frNew (G : Int)).toList) ∧ (w1.setCell ⟨bp, 6, none⟩ refsv').grownBy w2 (some bo) ∧ SameOrNew (w1.setCell ⟨bp, 6, none⟩ refsv') (.slice (some ⟨bo, 0, none⟩) (n + 1) ocap) openv' ∧
    w' = (w2.setCell ⟨bp, 2, none⟩ openv').setCell ⟨bp, 1, none⟩ (.int .i64 ((pos + 1 : Nat) : Int))

set_option maxHeartbeats 1000000 in
theorem enter_walk (w : World) (s : ByteArray) (bp bo pos groups n ocap : Nat) (refsv : Value) (begun : Value) (hpos : pos ≤ 1000000) (hps : pos < s.size) (hgr : groups ≤ 1000000) (hn : n ≤ 1000000)
    (hblk : w.heap[bp]? = some (.cells #[.string s, .int .i64 (pos : Int), .slice (some ⟨bo, 0, none⟩) (n + 1) ocap, .int .i64 (groups : Int), begun, .int .i64 0, refsv] 114 (0, 0)))
    (rs : List Value) (hrefs : w.ownsRow 0 4 1 refsv rs.length rs) (hrl : rs.length ≤ 1000000) (hrb : refsv.ownBlock ≠ some bp)
    (xs : List Value) (hopn : w.ownsRow 0 111 5 (.slice (some ⟨bo, 0, none⟩) (n + 1) ocap) (n + 1) xs) (hro : refsv.ownBlock ≠ some bo) (hbb : bp ≠ bo)
    (hpre : Lib.hasPrefix (s.extract pos s.size).data.toList (ByteArray.mk #[40, 63]).data.toList = false) :
    Calls Try.prog 54 #[.pointer (some ⟨bp, 0, none⟩)] w fun e w' => e = .returned (.tuple #[]) ∧ EnterR w bp bo n ocap #[.string s, .int .i64 (pos : Int), .slice (some ⟨bo, 0, none⟩) (n + 1) ocap, .int .i64 (groups : Int), begun, .int .i64 0, refsv] (groups + 1) pos refsv rs xs w' := by
  have c0 : w.cell? ⟨bp, 0, none⟩ = some (.string s) := by rw [cell_of_blk hblk]; rfl
  have c1 : w.cell? ⟨bp, 1, none⟩ = some (.int .i64 (pos : Int)) := by rw [cell_of_blk hblk]; rfl
  have c3 : w.cell? ⟨bp, 3, none⟩ = some (.int .i64 (groups : Int)) := by rw [cell_of_blk hblk]; rfl
  have c4 : w.cell? ⟨bp, 4, none⟩ = some begun := by rw [cell_of_blk hblk]; rfl
  have c5 : w.cell? ⟨bp, 5, none⟩ = some (.int .i64 0) := by rw [cell_of_blk hblk]; rfl
  have c6 : w.cell? ⟨bp, 6, none⟩ = some refsv := by rw [cell_of_blk hblk]; rfl
  have f3 := free_of_blk hblk 3
  have f4 := free_of_blk hblk 4
  have lbp : bp < w.heap.size := World.block_lt_of_cell? w _ c0
  have lbo : bo < w.heap.size := (hopn.lt bo rfl).2
  have hps' : (pos : Int) ≤ (s.size : Int) := by omega
  have HB := Lib.hid hblk
  have HP := Lib.hid hpre
  have HR := Lib.hid hrefs
  have HO := Lib.hid hopn
  clear hblk hpre hrefs hopn
  obtain ⟨i0, hi, hz0, hz1, hz2⟩ := info_parts info4
  obtain ⟨i1, hj, hy0, hy1, hy2⟩ := info_parts info111
  go_enter Try.func54, Try.ntmps54
  go_wp2
  go_quiet ((go_at_call 77; exact Calls.quiet_of_same (prefix_at (s.extract pos s.size) (ByteArray.mk #[40, 63]) false HP.out _)))
  go_wp2_with (at_builtin; go_loud (refine gen_world (EnterW w bp _ _) (enter_world w bp _ HB.out lbp 0 nq _) ?_; intro W HW; refine wpList_append_tag rfl (.tmp 96) (.tmp 97) 63 rfl 0 4 i0 (.bool false) 1 1 Try.underlying63 hi hz0 hz1 hz2 rfl (by decide) refsv rs.length rs rfl (ownsRow_agree HR.out fun j hj => HW.but.block j (HR.out.lt j hj).2 (fun e => hrb (by rw [← e]; exact hj))) ⟨w.heap.size + 1, 0, none⟩ 1 1 [.bool false] (by simp [Act.eval]) rfl (bool_new _ _ HW.one) bool_cell (by simp only [maxLen]; omega) (by omega) (Nat.zero_le _) ?_; intro v' w1 hown' hgrow htag; obtain ⟨g', cap', rfl⟩ := ownsRow_succ' hown'; have Hlt := enter_lt HW; have Hb1 := enter_blk HW hgrow Hlt hrb; have e1 : w1.cell? ⟨bp, 1, none⟩ = some (.int .i64 (pos : Int)) := (cell_of_blk Hb1 1).trans rfl; have e2 : w1.cell? ⟨bp, 2, none⟩ = some (.slice (some ⟨bo, 0, none⟩) (n + 1) ocap) := (cell_of_blk Hb1 2).trans rfl; have e6 : w1.cell? ⟨bp, 6, none⟩ = some refsv := (cell_of_blk Hb1 6).trans rfl; have d1 := free_of_blk Hb1 1; have d2 := free_of_blk Hb1 2; have d6 := free_of_blk Hb1 6; have Hbx := enter_box HW hgrow (HR.out.lt) ; have x0 : w1.cell? ⟨w.heap.size, 0, none⟩ = some (.int .u8 40) := (cell_of_blk Hbx 0).trans rfl; have x1 : w1.cell? ⟨w.heap.size, 1, none⟩ = some (.int .i64 ((groups : Int) + 1)) := (cell_of_blk Hbx 1).trans rfl; have x2 : w1.cell? ⟨w.heap.size, 2, none⟩ = some (.slice none 0 0) := (cell_of_blk Hbx 2).trans rfl; have x3 : w1.cell? ⟨w.heap.size, 3, none⟩ = some (.slice none 0 0) := (cell_of_blk Hbx 3).trans rfl; have x4 : w1.cell? ⟨w.heap.size, 4, none⟩ = some (.bool false) := (cell_of_blk Hbx 4).trans rfl; have l1 : w.heap.size < w1.heap.size := World.block_lt_of_cell? w1 _ x0; have HG := Lib.hid hgrow; have HT := Lib.hid htag; have HN := Lib.hid hown'; clear hgrow htag hown' Hb1 Hbx))
  have hO1 : (w1.setCell ⟨bp, 6, none⟩ (.slice (some ⟨g', 0, none⟩) (rs.length + 1) cap')).ownsRow 0 111 5 (.slice (some ⟨bo, 0, none⟩) (n + 1) ocap) (n + 1) xs := by
    refine ownsRow_agree HO.out fun j hj => ?_
    simp only [Value.ownBlock, Option.some.injEq] at hj
    subst hj
    rw [heap_setCell_other _ _ _ _ (by simp; omega), HG.out.block bo (by omega) (fun e => hro e.symm), HW.but.block bo lbo (fun e => hbb e.symm)]
  have H1 := Lib.hid hO1
  clear hO1
  generalize hW2 : (w1.setCell ⟨bp, 6, none⟩ (.slice (some ⟨g', 0, none⟩) (rs.length + 1) cap')) = W2 at *
  have k1 : W2.cell? ⟨bp, 1, none⟩ = some (.int .i64 (pos : Int)) := by rw [← hW2, cell_set_other _ _ _ _ (by simp)]; exact e1
  have k2 : W2.cell? ⟨bp, 2, none⟩ = some (.slice (some ⟨bo, 0, none⟩) (n + 1) ocap) := by rw [← hW2, cell_set_other _ _ _ _ (by simp)]; exact e2
  have m1 : W2.frozen? ⟨bp, 1, none⟩ = false := by rw [← hW2]; simp; exact d1
  have m2 : W2.frozen? ⟨bp, 2, none⟩ = false := by rw [← hW2]; simp; exact d2
  have y0 : W2.cell? ⟨w.heap.size, 0, none⟩ = some (.int .u8 40) := by rw [← hW2, cell_set_other _ _ _ _ (by simp)]; exact x0
  have y1 : W2.cell? ⟨w.heap.size, 1, none⟩ = some (.int .i64 ((groups : Int) + 1)) := by rw [← hW2, cell_set_other _ _ _ _ (by simp)]; exact x1
  have y2 : W2.cell? ⟨w.heap.size, 2, none⟩ = some (.slice none 0 0) := by rw [← hW2, cell_set_other _ _ _ _ (by simp)]; exact x2
  have y3 : W2.cell? ⟨w.heap.size, 3, none⟩ = some (.slice none 0 0) := by rw [← hW2, cell_set_other _ _ _ _ (by simp)]; exact x3
  have y4 : W2.cell? ⟨w.heap.size, 4, none⟩ = some (.bool false) := by rw [← hW2, cell_set_other _ _ _ _ (by simp)]; exact x4
  have lb2 : bp < W2.heap.size := by rw [← hW2]; simp; omega
  have l2 : w.heap.size < W2.heap.size := by rw [← hW2]; simpa using l1
  have HW2 := Lib.hid hW2
  clear hW2 e1 e2 e6 d1 d2 d6 x0 x1 x2 x3 x4 c0 c1 c3 c4 c5 c6 f3 f4 l1
  go_region_law (refine step_append_tag rfl (.tmp 115) (.tmp 117) 112 rfl 0 111 i1 _ 5 72 Try.underlying112 hj hy0 hy1 hy2 rfl (by decide) (.slice (some ⟨bo, 0, none⟩) (n + 1) ocap) (n + 1) xs rfl (by exact World.ownsRow.alloc (w := W2.drew) H1.out _) ⟨W2.heap.size, 0, none⟩ 1 1 (frNew (groups + 1)).toList rfl rfl (by exact fr_new W2.drew _) (by exact fr_cell _) (by simp only [maxLen]; omega) (by omega) (Nat.zero_le _) ?_; intro v' w2 ho2 hg2 ht2; obtain ⟨g2, cap2, rfl⟩ := ownsRow_succ' ho2; have hg3 := grown_undrew (grown_past (w := W2.drew) hg2); have ht3 := tag_past (w := W2.drew) ht2; have k12 := grown_cell0 (w := W2) (nq := 0) hg3 k1 (fun e => hbb (Option.some.inj e).symm); have k22 := grown_cell0 (w := W2) (nq := 0) hg3 k2 (fun e => hbb (Option.some.inj e).symm); have m12 := grown_frozen0 hg3 k1 m1 (fun e => hbb (Option.some.inj e).symm); have m22 := grown_frozen0 hg3 k2 m2 (fun e => hbb (Option.some.inj e).symm); have HG3 := Lib.hid hg3; have HT3 := Lib.hid ht3; have HO2 := Lib.hid ho2; clear hg2 ht2 hg3 ht3 ho2)
  all_goals
    go_wp2
    go_end0
    have hG3 := HG3.out
    have hT3 := HT3.out
    rw [← HW2.out] at hG3 hT3
    exact ⟨rfl, W, w1, _, w2, _, by exact_mod_cast HW, HN.out, HG.out, HT.out, by exact_mod_cast HO2.out, hG3, hT3, by push_cast; rfl⟩

end Go.Proofs.Ytfgghbideoehjaa

namespace Go.Proofs.Ytfgghbideoehjaa
open Go.ChangeShapes Go.WideShapes Go.ChangeAt Go.RowKit
set_option linter.unusedVariables false
set_option maxRecDepth 100000

def PSt.enter (st : PSt) : PSt :=
  { st with low := st.low ++ [st.top], top := ⟨40, st.groups + 1, [], [], false⟩, groups := st.groups + 1, begun := st.groups + 1, refs := st.refs ++ [false], pos := st.pos + 1 }

theorem SameOrNew.back {w W : World} {v v' : Value} (h : SameOrNew W v v') (hs : w.heap.size ≤ W.heap.size) : SameOrNew w v v' :=
  h.elim .inl fun h => .inr fun k hk => Nat.le_trans hs (h k hk)

theorem ownsRow_split {w : World} {e size g n cap : Nat} {xs : List Value} (h : w.ownsRow 0 e size (.slice (some ⟨g, 0, none⟩) n cap) n xs) :
    ∃ ys, w.heap[g]? = some (.cells (xs ++ ys).toArray e (0, 0)) ∧ n ≤ cap ∧ cap ≤ maxLen ∧ (xs ++ ys).length = cap * size := by
  obtain ⟨hl, h | ⟨g', cap', cur, e1, hb, hg, h1, h2, h3, h4⟩⟩ := h
  · cases h.1
  · cases e1
    refine ⟨cur.toList.drop (n * size), ?_, h1, h2, ?_⟩
    · rw [← h4, List.take_append_drop, Array.toArray_toList]; exact hg
    · rw [← h4, List.take_append_drop, Array.length_toList]; exact h3

theorem ownsRow_join {w : World} {e size g n cap : Nat} {xs ys : List Value} (hg : w.heap[g]? = some (.cells (xs ++ ys).toArray e (0, 0))) (hl : xs.length = n * size) (h1 : n ≤ cap) (h2 : cap ≤ maxLen) (h3 : (xs ++ ys).length = cap * size) :
    w.ownsRow 0 e size (.slice (some ⟨g, 0, none⟩) n cap) n xs :=
  ⟨hl, .inr ⟨g, cap, _, rfl, Nat.zero_le _, hg, h1, h2, by rw [List.size_toArray]; exact h3, by simp [← hl]⟩⟩

set_option maxHeartbeats 1000000 in
theorem enter_group {base : Nat} {g : Tags} {w : World} {bp : Nat} {st : PSt} (h : PInv base g w bp st) (hs : st.Small) (hbase : base ≤ w.heap.size) (hp : st.pos < st.s.size) (hlk : st.looks = 0)
    (hpre : Lib.hasPrefix (st.s.extract st.pos st.s.size).data.toList (ByteArray.mk #[40, 63]).data.toList = false) :
    Calls Try.prog 54 #[.pointer (some ⟨bp, 0, none⟩)] w (PPost base g w bp (.ok st.enter)) := by
  obtain ⟨x, h⟩ := h
  have hblk := h.blk
  rw [hlk] at hblk
  have hrl : (st.refs.map Value.bool).length = st.refs.length := by simp
  have hll := h.low.length
  have lbp := (h.tags _ _ h.gp).2
  have lbo := (h.tags _ _ h.gob).2
  have hbb : bp ≠ x.bo := tag_ne h.gp h.gob (by simp)
  have hrb : x.refsv.ownBlock ≠ some bp := fun e => tag_ne (h.grefs _ e) h.gp (by simp) rfl
  have hro : x.refsv.ownBlock ≠ some x.bo := fun e => tag_ne (h.grefs _ e) h.gob (by simp) rfl
  have hopn : w.ownsRow 0 111 5 (.slice (some ⟨x.bo, 0, none⟩) (st.low.length + 1) x.ocap) (st.low.length + 1) (x.lowc ++ frCells st.top x.bv x.pv) := by
    have ho := h.opn
    have hc := h.cap3
    rw [← List.append_assoc] at ho hc
    exact ownsRow_join ho (by simp [hll, frCells]; omega) h.cap1 h.cap2 hc
  have hrefs := h.refs
  rw [← hrl] at hrefs
  refine (enter_walk w st.s bp x.bo st.pos st.groups st.low.length x.ocap x.refsv _ (by have := hs.pos; omega) hp (by have := hs.groups; omega) (by have := hs.low; omega) hblk _ hrefs (by rw [hrl]; have := hs.refs; omega) hrb _ hopn hro hbb hpre).mono ?_
  rintro e w' ⟨rfl, W, w1, refsv', w2, openv', HW, ho1, hg1, ht1, ho2, hg2, ht2, rfl⟩
  have sW := HW.but.size
  have s1 := hg1.size
  have s2 := hg2.size
  simp only [World.size_setCell] at s2
  obtain ⟨go, ocap', rfl⟩ := ownsRow_succ' ho2
  -- tags
  have t1 := ht1.back sW
  have K1 := upd_keeps h.tags h.grefs t1
  have T1 := upd_tags h.tags hbase h.grefs t1 ho1 (by omega)
  have T1' : ∀ b t, upd g refsv' .refs b = some t → base ≤ b ∧ b < (w1.setCell ⟨bp, 6, none⟩ refsv').heap.size := by simpa using T1
  have hgo : ∀ k, (Value.slice (some ⟨x.bo, 0, none⟩) (st.low.length + 1) x.ocap).ownBlock = some k → upd g refsv' .refs k = some .opn := by
    intro k hk; simp only [Value.ownBlock, Option.some.injEq] at hk; subst hk; exact K1 _ _ h.gob
  have K2 := upd_keeps T1' hgo ht2
  have T2 := upd_tags T1' (by simp; omega) hgo ht2 ho2 (by simp; omega)
  have keep : ∀ b t, g b = some t → upd (upd g refsv' .refs) (.slice (some ⟨go, 0, none⟩) (st.low.length + 2) ocap') .opn b = some t := fun b t hb => K2 b t (K1 b t hb)
  have gbo' : upd (upd g refsv' .refs) (.slice (some ⟨go, 0, none⟩) (st.low.length + 2) ocap') .opn go = some .opn := upd_new go rfl
  have hbgo : bp ≠ go := tag_ne (keep _ _ h.gp) gbo' (by simp)
  -- blocks
  have rest : ∀ b, b ≠ bp → (((w2.setCell ⟨bp, 2, none⟩ (.slice (some ⟨go, 0, none⟩) (st.low.length + 2) ocap')).setCell ⟨bp, 1, none⟩ (.int .i64 ((st.pos + 1 : Nat) : Int)))).heap[b]? = w2.heap[b]? := fun b hb =>
    (heap_setCell_other _ _ b _ (by exact hb)).trans (heap_setCell_other _ _ b _ (by exact hb))
  have mid : ∀ b, b < w1.heap.size → b ≠ bp → b ≠ x.bo → w2.heap[b]? = w1.heap[b]? := fun b hl hb hn =>
    (hg2.block b (by simp; omega) (fun e => hn (Option.some.inj e))).trans (heap_setCell_other _ _ b _ (by exact hb))
  have other : ∀ b t, g b = some t → t ≠ .parser → t ≠ .opn → t ≠ .refs → (((w2.setCell ⟨bp, 2, none⟩ (.slice (some ⟨go, 0, none⟩) (st.low.length + 2) ocap')).setCell ⟨bp, 1, none⟩ (.int .i64 ((st.pos + 1 : Nat) : Int)))).heap[b]? = w.heap[b]? ∧ upd (upd g refsv' .refs) (.slice (some ⟨go, 0, none⟩) (st.low.length + 2) ocap') .opn b = g b := by
    intro b t hb n1 n2 n3
    have hl := (h.tags b t hb).2
    have hn1 := tag_ne hb h.gp n1
    refine ⟨(rest b hn1).trans ((mid b (by omega) hn1 (tag_ne hb h.gob n2)).trans ((hg1.block b (by omega) (fun e => tag_ne hb (h.grefs b e.symm) n3 rfl)).trans (HW.but.block b hl hn1))), ?_⟩
    rw [keep b t hb, hb]
  have bp1 : w1.heap[bp]? = _ := enter_blk HW hg1 (enter_lt HW) hrb
  have bp2 := heap_setCell_same _ _ 6 _ _ refsv' bp1
  have bp3 := (hg2.block bp (by simp; omega) (fun e => hbb (Option.some.inj e))).trans bp2
  have bp4 := heap_setCell_same _ _ 2 _ _ (.slice (some ⟨go, 0, none⟩) (st.low.length + 2) ocap') bp3
  have bp5 := heap_setCell_same _ _ 1 _ _ (.int .i64 ((st.pos + 1 : Nat) : Int)) bp4
  obtain ⟨spare, hsp, hc1, hc2, hc3⟩ := ownsRow_split ho2
  have hsz : w2.heap.size = ((w2.setCell ⟨bp, 2, none⟩ (.slice (some ⟨go, 0, none⟩) (st.low.length + 2) ocap')).setCell ⟨bp, 1, none⟩ (.int .i64 ((st.pos + 1 : Nat) : Int))).heap.size := by simp
  have hopn' := (rest go (fun e => hbgo e.symm)).trans hsp
  have href' : ∀ j, refsv'.ownBlock = some j → ((w2.setCell ⟨bp, 2, none⟩ (.slice (some ⟨go, 0, none⟩) (st.low.length + 2) ocap')).setCell ⟨bp, 1, none⟩ (.int .i64 ((st.pos + 1 : Nat) : Int))).heap[j]? = w1.heap[j]? := by
    intro j hj
    have hgj : upd g refsv' .refs j = some .refs := upd_new j hj
    have n1 : j ≠ bp := tag_ne hgj (K1 _ _ h.gp) (by simp)
    exact (rest j n1).trans (mid j (T1 _ _ hgj).2 n1 (tag_ne hgj (K1 _ _ h.gob) (by simp)))
  have B : Below base w (((w2.setCell ⟨bp, 2, none⟩ (.slice (some ⟨go, 0, none⟩) (st.low.length + 2) ocap')).setCell ⟨bp, 1, none⟩ (.int .i64 ((st.pos + 1 : Nat) : Int)))) := by
    have bb := (h.tags _ _ h.gp).1
    have B1 := (HW.but.below bb hbase).grown hg1 (by omega) fun k hk => (h.tags k _ (h.grefs k hk)).1
    have B2 := (B1.setCell (p := ⟨bp, 6, none⟩) bb refsv').grown hg2 (by simp; omega) fun k hk => by cases hk; exact (h.tags _ _ h.gob).1
    exact (B2.setCell (p := ⟨bp, 2, none⟩) bb _).setCell (p := ⟨bp, 1, none⟩) bb _
  generalize hWf : ((w2.setCell ⟨bp, 2, none⟩ (.slice (some ⟨go, 0, none⟩) (st.low.length + 2) ocap')).setCell ⟨bp, 1, none⟩ (.int .i64 ((st.pos + 1 : Nat) : Int))) = Wf at *
  clear hWf
  have otree : ∀ b, isTree g b → Wf.heap[b]? = w.heap[b]? ∧ upd (upd g refsv' .refs) (.slice (some ⟨go, 0, none⟩) (st.low.length + 2) ocap') .opn b = g b := fun b hb => other b .tree hb (by simp) (by simp) (by simp)
  refine ⟨rfl, upd (upd g refsv' .refs) (.slice (some ⟨go, 0, none⟩) (st.low.length + 2) ocap') .opn, ⟨⟨go, ocap', spare, refsv', x.lowc ++ frCells st.top x.bv x.pv, .slice none 0 0, .slice none 0 0⟩, ?_⟩, ⟨fun b hb => ⟨keep b _ hb, (otree b hb).1⟩, B⟩⟩
  exact {
    tags := by rw [← hsz]; exact T2
    gp := keep _ _ h.gp
    blk := by rw [bp5]; simp [PSt.enter, hlk]
    gob := gbo'
    opn := by rw [hopn']; simp [PSt.enter, frCells]
    cap1 := by simp [PSt.enter]; omega
    cap2 := hc2
    cap3 := by simpa [PSt.enter, frCells] using hc3
    refs := by
      have := ownsRow_agree ho1 href'
      simpa [PSt.enter] using this
    grefs := fun j hj => K2 _ _ (upd_new j hj)
    low := by
      refine (FrsAt.snoc 0 st.low st.top _).2 ⟨x.lowc, x.bv, x.pv, rfl, h.low.agree 0 _ _ fun b hb => ?_, ?_⟩
      · rcases hb with hb | ⟨j, _, _, hb | hb⟩
        · exact otree b hb
        · exact other b _ hb (by simp) (by simp) (by simp)
        · exact other b _ hb (by simp) (by simp) (by simp)
      · rw [Nat.zero_add]
        exact h.top.agree fun b hb => by
          rcases hb with hb | hb | hb
          · exact otree b hb
          · exact other b _ hb (by simp) (by simp) (by simp)
          · exact other b _ hb (by simp) (by simp) (by simp)
    top := ⟨⟨[], ⟨World.ownsRow_nil _ _ _ _, fun k hk => by cases hk⟩, rfl⟩, ⟨[], ⟨World.ownsRow_nil _ _ _ _, fun k hk => by cases hk⟩, rfl⟩⟩ }

end Go.Proofs.Ytfgghbideoehjaa
