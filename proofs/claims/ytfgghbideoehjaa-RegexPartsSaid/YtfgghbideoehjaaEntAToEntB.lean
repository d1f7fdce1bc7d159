/-
  The parser: enter at '(?:', '(?=' and '(?!'; where enter fails.
  The parser: enter at '(?', on states; where it fails.
-/
import Derived.Test.YtfgghbideoehjaaStepBToReadA
import Derived.Deep.RegionLaw
namespace Go.Proofs.Ytfgghbideoehjaa
open Go.ChangeShapes Go.WideShapes Go.ChangeAt Go.RowKit
set_option linter.unusedVariables false
set_option maxRecDepth 100000

theorem yes_prefix {s : ByteArray} {k : Nat} (h : byte s k = 40) (hk : k < s.size) (hp : pre2 s k = true) : Lib.hasPrefix (s.extract k s.size).data.toList (ByteArray.mk #[40, 63]).data.toList = true := by
  have hk1 : k + 1 < s.size ∧ byte s (k + 1) = 63 := by
    simp only [pre2, Bool.and_eq_true, decide_eq_true_eq, beq_iff_eq] at hp
    exact ⟨by omega, hp.2⟩
  refine List.isPrefixOf_iff_prefix.2 ⟨(s.extract (k + 2) s.size).data.toList, ?_⟩
  have e0 : s[k]'hk = 40 := by
    have := h; unfold byte at this; rw [dif_pos hk] at this; exact UInt8.toNat_inj.1 this
  have e1 : s[k + 1]'hk1.1 = 63 := by
    have := hk1.2; unfold byte at this; rw [dif_pos hk1.1] at this; exact UInt8.toNat_inj.1 this
  apply List.ext_getElem?
  intro i
  rcases i with _ | _ | i
  · simp [List.getElem?_take, List.getElem?_drop]
    refine ⟨by omega, ?_⟩
    rw [Array.getElem?_eq_getElem (by simpa using hk)]
    exact congrArg some e0.symm
  · simp [List.getElem?_take, List.getElem?_drop]
    refine ⟨by omega, ?_⟩
    rw [Array.getElem?_eq_getElem (by simpa using hk1.1)]
    exact congrArg some e1.symm
  · simp [List.getElem?_take, List.getElem?_drop]
    have : k + (i + 2) = k + 2 + i := by omega
    simp only [Nat.add_assoc] at *
    have c : (i < s.size - (k + 2)) ↔ (i + 1 + 1 < s.size - k) := by omega
    by_cases hc : i < s.size - (k + 2)
    · rw [if_pos hc, if_pos (c.1 hc)]; congr 1; omega
    · rw [if_neg hc, if_neg (fun h => hc (c.2 h))]

abbrev frK (k : Nat) : Array Value := #[.int .u8 (k : Int), .int .i64 0, .slice none 0 0, .slice none 0 0, .bool false]

theorem frK_new (w : World) (G : Nat) : ∀ j u, (frK G).toList[j]? = some u → (w.alloc (.cells (frK G) 111)).cell? ((⟨w.heap.size, 0, none⟩ : Addr).add j) = some u := by
  intro j u hj
  rw [show ((⟨w.heap.size, 0, none⟩ : Addr).add j) = ⟨w.heap.size, j, none⟩ from (by unfold Addr.add; simp; omega), cell_of_blk (heap_alloc_new w _)]
  simpa using hj
theorem frK_cell (G : Nat) : ∀ x ∈ (frK G).toList, x.oneCell' = true := by
  intro x hx; simp at hx; rcases hx with rfl | rfl | rfl | rfl <;> rfl

/-- What enter leaves at '(?'. -/
def EnterK (w : World) (bp bo n ocap : Nat) (c : Array Value) (K L pos : Nat) (xs : List Value) (w' : World) : Prop :=
  ∃ W w2 openv', But bp w W ∧ W.heap[bp]? = some (.cells (c.setIfInBounds 5 (.int .i64 (L : Int))) 114 (0, 0)) ∧
    w2.ownsRow 0 111 5 openv' (n + 2) (xs ++ (frK K).toList) ∧ W.grownBy w2 (some bo) ∧ SameOrNew W (.slice (some ⟨bo, 0, none⟩) (n + 1) ocap) openv' ∧
    w' = (w2.setCell ⟨bp, 2, none⟩ openv').setCell ⟨bp, 1, none⟩ (.int .i64 ((pos + 3 : Nat) : Int))

theorem index3 (c : Nat) (r : Int) (h : Lib.indexByte [58, 61, 33] (c : Int).toNat.toUInt8 = r) (w : World) :
    Calls Try.prog 65 #[.string (ByteArray.mk #[58, 61, 33]), .int .u8 (c : Int)] w fun e w' => e = .returned (.int .i64 r) ∧ w' = w := by
  refine (indexByte_at (ByteArray.mk #[58, 61, 33]) (c : Int) r h w).mono ?_
  rintro e w' ⟨h1, h2⟩
  exact ⟨h1, h2⟩

/-- The world behind the box of enter's frame. -/
structure BoxW (w : World) (bp : Nat) (c : Array Value) (W : World) : Prop where
  but : But bp w W
  blk : W.heap[bp]? = some (.cells c 114 (0, 0))
  box : W.heap[w.heap.size]? = some (.cells (frNew 0) 111 (0, 0))

theorem box_world (w : World) (bp : Nat) (c : Array Value) (hblk : w.heap[bp]? = some (.cells c 114 (0, 0))) (hb : bp < w.heap.size) (n : Nat) : BoxW w bp c ((w.alloc (.cells (frNew 0) 111)).drewN n) :=
  ⟨((But.refl bp w).alloc _).drewN n, (heap_alloc_old w _ hb).trans hblk, heap_alloc_new w _⟩

structure BoxK (w : World) (bp : Nat) (c : Array Value) (K : Nat) (W : World) : Prop where
  but : But bp w W
  blk : W.heap[bp]? = some (.cells c 114 (0, 0))
  box : W.heap[w.heap.size]? = some (.cells (frK K) 111 (0, 0))

theorem boxK_world {w : World} {bp : Nat} {c : Array Value} {W W' : World} (h : BoxW w bp c W) (hb : bp < w.heap.size) (hW : W'.heap = W.heap) (hs : W'.os = W.os) (ht : W'.tape = W.tape) (ho : W'.output = W.output) (K : Nat) :
    BoxK w bp c K (W'.setCell ⟨w.heap.size, 0, none⟩ (.int .u8 (K : Int))) := by
  have hB : But bp w W' := ⟨hs.trans h.but.os, ht.trans h.but.tape, ho.trans h.but.output, by rw [hW]; exact h.but.size, fun k hk hn => by rw [hW]; exact h.but.block k hk hn⟩
  refine ⟨hB.setNew (Nat.le_refl _) 0 _, (heap_setCell_other _ _ _ _ (by simp; omega)).trans (by rw [hW]; exact h.blk), ?_⟩
  exact (heap_setCell_same _ _ 0 _ _ (.int .u8 (K : Int)) (by rw [hW]; exact h.box)).trans rfl

theorem boxK_looks {w : World} {bp : Nat} {c : Array Value} {K : Nat} {W W' : World} (h : BoxK w bp c K W) (hb : bp < w.heap.size) (L : Int) (hW : W'.heap = W.heap) (hs : W'.os = W.os) (ht : W'.tape = W.tape) (ho : W'.output = W.output) :
    BoxK w bp (c.setIfInBounds 5 (.int .i64 L)) K (W'.setCell ⟨bp, 5, none⟩ (.int .i64 L)) := by
  have hB : But bp w W' := ⟨hs.trans h.but.os, ht.trans h.but.tape, ho.trans h.but.output, by rw [hW]; exact h.but.size, fun k hk hn => by rw [hW]; exact h.but.block k hk hn⟩
  exact ⟨hB.set 5 _, heap_setCell_same _ _ 5 _ _ (.int .i64 L) (by rw [hW]; exact h.blk), (heap_setCell_other _ _ _ _ (by simp; omega)).trans (by rw [hW]; exact h.box)⟩

set_option maxHeartbeats 1000000 in
theorem enterK_walk (w : World) (s : ByteArray) (bp bo pos n ocap looks K : Nat) (hK : K = 58 ∨ K = 61 ∨ K = 33) (refsv gv begun : Value) (hpos : pos ≤ 1000000) (hps : pos + 2 < s.size) (hlk : looks ≤ 1000000) (hn : n ≤ 1000000) (hk2 : byte s (pos + 2) = K)
    (hblk : w.heap[bp]? = some (.cells #[.string s, .int .i64 (pos : Int), .slice (some ⟨bo, 0, none⟩) (n + 1) ocap, gv, begun, .int .i64 (looks : Int), refsv] 114 (0, 0)))
    (xs : List Value) (hopn : w.ownsRow 0 111 5 (.slice (some ⟨bo, 0, none⟩) (n + 1) ocap) (n + 1) xs) (hbb : bp ≠ bo)
    (hpre : Lib.hasPrefix (s.extract pos s.size).data.toList (ByteArray.mk #[40, 63]).data.toList = true) :
    Calls Try.prog 54 #[.pointer (some ⟨bp, 0, none⟩)] w fun e w' => e = .returned (.tuple #[]) ∧ EnterK w bp bo n ocap #[.string s, .int .i64 (pos : Int), .slice (some ⟨bo, 0, none⟩) (n + 1) ocap, gv, begun, .int .i64 (looks : Int), refsv] K (looks + if K = 58 then 0 else 1) pos xs w' := by
  have c0 : w.cell? ⟨bp, 0, none⟩ = some (.string s) := by rw [cell_of_blk hblk]; rfl
  have c1 : w.cell? ⟨bp, 1, none⟩ = some (.int .i64 (pos : Int)) := by rw [cell_of_blk hblk]; rfl
  have c2 : w.cell? ⟨bp, 2, none⟩ = some (.slice (some ⟨bo, 0, none⟩) (n + 1) ocap) := by rw [cell_of_blk hblk]; rfl
  have c5 : w.cell? ⟨bp, 5, none⟩ = some (.int .i64 (looks : Int)) := by rw [cell_of_blk hblk]; rfl
  have f1 := free_of_blk hblk 1
  have f2 := free_of_blk hblk 2
  have f5 := free_of_blk hblk 5
  have lbp : bp < w.heap.size := World.block_lt_of_cell? w _ c0
  have lbo : bo < w.heap.size := (hopn.lt bo rfl).2
  have hby := get_byte s
  have hps' : (pos : Int) + 2 < (s.size : Int) := by omega
  have hps2 : (pos : Int) ≤ (s.size : Int) := by omega
  have t2 : ((pos : Int) + 2 == (s.size : Int)) = false := by simp; omega
  have hidx : ∃ r : Int, 0 ≤ r ∧ Lib.indexByte [58, 61, 33] ((byte s (pos + 2) : Nat) : Int).toNat.toUInt8 = r := by
    rw [hk2]
    rcases hK with rfl | rfl | rfl
    · exact ⟨0, by decide, by decide⟩
    · exact ⟨1, by decide, by decide⟩
    · exact ⟨2, by decide, by decide⟩
  obtain ⟨r, hr0, hr⟩ := hidx
  have hr1 : ¬ (r < 0) := by omega
  have HB := Lib.hid hblk
  have HP := Lib.hid hpre
  have HO := Lib.hid hopn
  have HI := Lib.hid hr
  have HK2 := Lib.hid hk2
  clear hblk hpre hopn hr hk2
  obtain ⟨i1, hj, hy0, hy1, hy2⟩ := info_parts info111
  go_enter Try.func54, Try.ntmps54
  go_wp2
  go_quiet ((go_at_call 77; exact Calls.quiet_of_same (prefix_at (s.extract pos s.size) (ByteArray.mk #[40, 63]) true HP.out _)))
  go_wp2
  refine gen_code (BoxW w bp _) (box_world w bp _ HB.out lbp nq) ?_
  intro W HW
  have l0 : w.heap.size < W.heap.size := (Array.getElem?_eq_some_iff.1 HW.box).1
  have d0 : W.cell? ⟨bp, 0, none⟩ = some (.string s) := (cell_of_blk HW.blk 0).trans rfl
  have d1 : W.cell? ⟨bp, 1, none⟩ = some (.int .i64 (pos : Int)) := (cell_of_blk HW.blk 1).trans rfl
  have d2 : W.cell? ⟨bp, 2, none⟩ = some (.slice (some ⟨bo, 0, none⟩) (n + 1) ocap) := (cell_of_blk HW.blk 2).trans rfl
  have d5 : W.cell? ⟨bp, 5, none⟩ = some (.int .i64 (looks : Int)) := (cell_of_blk HW.blk 5).trans rfl
  have g1 := free_of_blk HW.blk 1
  have g2 := free_of_blk HW.blk 2
  have g5 := free_of_blk HW.blk 5
  have x0 : W.cell? ⟨w.heap.size, 0, none⟩ = some (.int .u8 40) := (cell_of_blk HW.box 0).trans rfl
  have x1 : W.cell? ⟨w.heap.size, 1, none⟩ = some (.int .i64 0) := (cell_of_blk HW.box 1).trans rfl
  have x2 : W.cell? ⟨w.heap.size, 2, none⟩ = some (.slice none 0 0) := (cell_of_blk HW.box 2).trans rfl
  have x3 : W.cell? ⟨w.heap.size, 3, none⟩ = some (.slice none 0 0) := (cell_of_blk HW.box 3).trans rfl
  have x4 : W.cell? ⟨w.heap.size, 4, none⟩ = some (.bool false) := (cell_of_blk HW.box 4).trans rfl
  have gx := free_of_blk HW.box 0
  have HWl := Lib.hid HW
  clear c0 c1 c2 c5 f1 f2 f5 HW
  go_quiet ((go_at_call 65; exact Calls.quiet_of_same (index3 _ r HI.out _)))
  go_wp2
  have hks : (byte s (pos + 2) = 58 ∧ K = 58) ∨ (byte s (pos + 2) = 61 ∧ K = 61) ∨ (byte s (pos + 2) = 33 ∧ K = 33) := by rw [HK2.out]; omega
  clear hK
  rcases hks with ⟨b1, k1⟩ | ⟨b1, k1⟩ | ⟨b1, k1⟩
  · subst k1
    go_region
    have hV : BoxK w bp _ 58 ((W.drewN (nq + 1)).setCell ⟨w.heap.size, 0, none⟩ (.int .u8 58)) := boxK_world HWl.out lbp (by rfl) (by rfl) (by rfl) (by rfl) 58
    generalize (W.drewN (nq + 1)).setCell ⟨w.heap.size, 0, none⟩ (.int .u8 58) = V at hV ⊢
    have z0 : V.cell? ⟨w.heap.size, 0, none⟩ = some (.int .u8 58) := (cell_of_blk hV.box 0).trans rfl
    have HV := Lib.hid hV
    clear hV d0 d1 d2 d5 g1 g2 g5 x0 x1 x2 x3 x4 gx
    have hV2 := HV.out
    go_wp2
    have HV2 := Lib.hid hV2
    generalize hWV : V = W2 at *
    clear hWV
    clear hV2
    have k1 : W2.cell? ⟨bp, 1, none⟩ = some (.int .i64 (pos : Int)) := (cell_of_blk HV2.out.blk 1).trans rfl
    have k2 : W2.cell? ⟨bp, 2, none⟩ = some (.slice (some ⟨bo, 0, none⟩) (n + 1) ocap) := (cell_of_blk HV2.out.blk 2).trans rfl
    have m1 := free_of_blk HV2.out.blk 1
    have m2 := free_of_blk HV2.out.blk 2
    have y1 : W2.cell? ⟨w.heap.size, 1, none⟩ = some (.int .i64 0) := (cell_of_blk HV2.out.box 1).trans rfl
    have y2 : W2.cell? ⟨w.heap.size, 2, none⟩ = some (.slice none 0 0) := (cell_of_blk HV2.out.box 2).trans rfl
    have y3 : W2.cell? ⟨w.heap.size, 3, none⟩ = some (.slice none 0 0) := (cell_of_blk HV2.out.box 3).trans rfl
    have y4 : W2.cell? ⟨w.heap.size, 4, none⟩ = some (.bool false) := (cell_of_blk HV2.out.box 4).trans rfl
    have lb2 : bp < W2.heap.size := (Array.getElem?_eq_some_iff.1 HV2.out.blk).1
    have l2 : w.heap.size < W2.heap.size := (Array.getElem?_eq_some_iff.1 HV2.out.box).1
    have hO1 : W2.ownsRow 0 111 5 (.slice (some ⟨bo, 0, none⟩) (n + 1) ocap) (n + 1) xs := by
      refine ownsRow_agree HO.out fun j hj => ?_
      simp only [Value.ownBlock, Option.some.injEq] at hj
      subst hj
      exact HV2.out.but.block _ lbo (fun e => hbb e.symm)
    have H1 := Lib.hid hO1
    clear hO1
    go_region_law (refine step_append_tag rfl (.tmp 115) (.tmp 117) 112 rfl 0 111 i1 _ 5 72 Try.underlying112 hj hy0 hy1 hy2 rfl (by decide) (.slice (some ⟨bo, 0, none⟩) (n + 1) ocap) (n + 1) xs rfl (by exact World.ownsRow.alloc (w := W2.drew) H1.out _) ⟨W2.heap.size, 0, none⟩ 1 1 (frK 58).toList rfl rfl (by exact frK_new W2.drew _) (by exact frK_cell _) (by simp only [maxLen]; omega) (by omega) (Nat.zero_le _) ?_; intro v' w2 ho2 hg2 ht2; obtain ⟨g2, cap2, rfl⟩ := ownsRow_succ' ho2; have hg3 := grown_undrew (grown_past (w := W2.drew) hg2); have ht3 := tag_past (w := W2.drew) ht2; have k12 := grown_cell0 (w := W2) (nq := 0) hg3 k1 (fun e => hbb (Option.some.inj e).symm); have k22 := grown_cell0 (w := W2) (nq := 0) hg3 k2 (fun e => hbb (Option.some.inj e).symm); have m12 := grown_frozen0 hg3 k1 m1 (fun e => hbb (Option.some.inj e).symm); have m22 := grown_frozen0 hg3 k2 m2 (fun e => hbb (Option.some.inj e).symm); have HG3 := Lib.hid hg3; have HT3 := Lib.hid ht3; have HO2 := Lib.hid ho2; clear hg2 ht2 hg3 ht3 ho2)
    all_goals
      go_wp2
      go_end0
      exact ⟨rfl, W2, w2, _, HV2.out.but, by have := HV2.out.blk; simpa using this, HO2.out, HG3.out, HT3.out, by push_cast; rfl⟩
  · subst k1
    go_region
    have hV : BoxK w bp _ 61 ((W.drewN (nq + 1)).setCell ⟨w.heap.size, 0, none⟩ (.int .u8 61)) := boxK_world HWl.out lbp (by rfl) (by rfl) (by rfl) (by rfl) 61
    generalize (W.drewN (nq + 1)).setCell ⟨w.heap.size, 0, none⟩ (.int .u8 61) = V at hV ⊢
    have z0 : V.cell? ⟨w.heap.size, 0, none⟩ = some (.int .u8 61) := (cell_of_blk hV.box 0).trans rfl
    have HV := Lib.hid hV
    clear hV d0 d1 d2 d5 g1 g2 g5 x0 x1 x2 x3 x4 gx
    have d5 : V.cell? ⟨bp, 5, none⟩ = some (.int .i64 (looks : Int)) := (cell_of_blk HV.out.blk 5).trans rfl
    have g5 := free_of_blk HV.out.blk 5
    go_wp2
    have hV2 : BoxK w bp _ 61 (V.setCell ⟨bp, 5, none⟩ (.int .i64 ((looks : Int) + 1))) := boxK_looks HV.out lbp _ (by rfl) (by rfl) (by rfl) (by rfl)
    generalize V.setCell ⟨bp, 5, none⟩ (.int .i64 ((looks : Int) + 1)) = W2 at hV2 ⊢
    have z0 : W2.cell? ⟨w.heap.size, 0, none⟩ = some (.int .u8 61) := (cell_of_blk hV2.box 0).trans rfl
    have HV2 := Lib.hid hV2
    clear hV2
    have k1 : W2.cell? ⟨bp, 1, none⟩ = some (.int .i64 (pos : Int)) := (cell_of_blk HV2.out.blk 1).trans rfl
    have k2 : W2.cell? ⟨bp, 2, none⟩ = some (.slice (some ⟨bo, 0, none⟩) (n + 1) ocap) := (cell_of_blk HV2.out.blk 2).trans rfl
    have m1 := free_of_blk HV2.out.blk 1
    have m2 := free_of_blk HV2.out.blk 2
    have y1 : W2.cell? ⟨w.heap.size, 1, none⟩ = some (.int .i64 0) := (cell_of_blk HV2.out.box 1).trans rfl
    have y2 : W2.cell? ⟨w.heap.size, 2, none⟩ = some (.slice none 0 0) := (cell_of_blk HV2.out.box 2).trans rfl
    have y3 : W2.cell? ⟨w.heap.size, 3, none⟩ = some (.slice none 0 0) := (cell_of_blk HV2.out.box 3).trans rfl
    have y4 : W2.cell? ⟨w.heap.size, 4, none⟩ = some (.bool false) := (cell_of_blk HV2.out.box 4).trans rfl
    have lb2 : bp < W2.heap.size := (Array.getElem?_eq_some_iff.1 HV2.out.blk).1
    have l2 : w.heap.size < W2.heap.size := (Array.getElem?_eq_some_iff.1 HV2.out.box).1
    have hO1 : W2.ownsRow 0 111 5 (.slice (some ⟨bo, 0, none⟩) (n + 1) ocap) (n + 1) xs := by
      refine ownsRow_agree HO.out fun j hj => ?_
      simp only [Value.ownBlock, Option.some.injEq] at hj
      subst hj
      exact HV2.out.but.block _ lbo (fun e => hbb e.symm)
    have H1 := Lib.hid hO1
    clear hO1
    go_region_law (refine step_append_tag rfl (.tmp 115) (.tmp 117) 112 rfl 0 111 i1 _ 5 72 Try.underlying112 hj hy0 hy1 hy2 rfl (by decide) (.slice (some ⟨bo, 0, none⟩) (n + 1) ocap) (n + 1) xs rfl (by exact World.ownsRow.alloc (w := W2.drew) H1.out _) ⟨W2.heap.size, 0, none⟩ 1 1 (frK 61).toList rfl rfl (by exact frK_new W2.drew _) (by exact frK_cell _) (by simp only [maxLen]; omega) (by omega) (Nat.zero_le _) ?_; intro v' w2 ho2 hg2 ht2; obtain ⟨g2, cap2, rfl⟩ := ownsRow_succ' ho2; have hg3 := grown_undrew (grown_past (w := W2.drew) hg2); have ht3 := tag_past (w := W2.drew) ht2; have k12 := grown_cell0 (w := W2) (nq := 0) hg3 k1 (fun e => hbb (Option.some.inj e).symm); have k22 := grown_cell0 (w := W2) (nq := 0) hg3 k2 (fun e => hbb (Option.some.inj e).symm); have m12 := grown_frozen0 hg3 k1 m1 (fun e => hbb (Option.some.inj e).symm); have m22 := grown_frozen0 hg3 k2 m2 (fun e => hbb (Option.some.inj e).symm); have HG3 := Lib.hid hg3; have HT3 := Lib.hid ht3; have HO2 := Lib.hid ho2; clear hg2 ht2 hg3 ht3 ho2)
    all_goals
      go_wp2
      go_end0
      exact ⟨rfl, W2, w2, _, HV2.out.but, by have := HV2.out.blk; simpa using this, HO2.out, HG3.out, HT3.out, by push_cast; rfl⟩
  · subst k1
    go_region
    have hV : BoxK w bp _ 33 ((W.drewN (nq + 1)).setCell ⟨w.heap.size, 0, none⟩ (.int .u8 33)) := boxK_world HWl.out lbp (by rfl) (by rfl) (by rfl) (by rfl) 33
    generalize (W.drewN (nq + 1)).setCell ⟨w.heap.size, 0, none⟩ (.int .u8 33) = V at hV ⊢
    have z0 : V.cell? ⟨w.heap.size, 0, none⟩ = some (.int .u8 33) := (cell_of_blk hV.box 0).trans rfl
    have HV := Lib.hid hV
    clear hV d0 d1 d2 d5 g1 g2 g5 x0 x1 x2 x3 x4 gx
    have d5 : V.cell? ⟨bp, 5, none⟩ = some (.int .i64 (looks : Int)) := (cell_of_blk HV.out.blk 5).trans rfl
    have g5 := free_of_blk HV.out.blk 5
    go_wp2
    have hV2 : BoxK w bp _ 33 (V.setCell ⟨bp, 5, none⟩ (.int .i64 ((looks : Int) + 1))) := boxK_looks HV.out lbp _ (by rfl) (by rfl) (by rfl) (by rfl)
    generalize V.setCell ⟨bp, 5, none⟩ (.int .i64 ((looks : Int) + 1)) = W2 at hV2 ⊢
    have z0 : W2.cell? ⟨w.heap.size, 0, none⟩ = some (.int .u8 33) := (cell_of_blk hV2.box 0).trans rfl
    have HV2 := Lib.hid hV2
    clear hV2
    have k1 : W2.cell? ⟨bp, 1, none⟩ = some (.int .i64 (pos : Int)) := (cell_of_blk HV2.out.blk 1).trans rfl
    have k2 : W2.cell? ⟨bp, 2, none⟩ = some (.slice (some ⟨bo, 0, none⟩) (n + 1) ocap) := (cell_of_blk HV2.out.blk 2).trans rfl
    have m1 := free_of_blk HV2.out.blk 1
    have m2 := free_of_blk HV2.out.blk 2
    have y1 : W2.cell? ⟨w.heap.size, 1, none⟩ = some (.int .i64 0) := (cell_of_blk HV2.out.box 1).trans rfl
    have y2 : W2.cell? ⟨w.heap.size, 2, none⟩ = some (.slice none 0 0) := (cell_of_blk HV2.out.box 2).trans rfl
    have y3 : W2.cell? ⟨w.heap.size, 3, none⟩ = some (.slice none 0 0) := (cell_of_blk HV2.out.box 3).trans rfl
    have y4 : W2.cell? ⟨w.heap.size, 4, none⟩ = some (.bool false) := (cell_of_blk HV2.out.box 4).trans rfl
    have lb2 : bp < W2.heap.size := (Array.getElem?_eq_some_iff.1 HV2.out.blk).1
    have l2 : w.heap.size < W2.heap.size := (Array.getElem?_eq_some_iff.1 HV2.out.box).1
    have hO1 : W2.ownsRow 0 111 5 (.slice (some ⟨bo, 0, none⟩) (n + 1) ocap) (n + 1) xs := by
      refine ownsRow_agree HO.out fun j hj => ?_
      simp only [Value.ownBlock, Option.some.injEq] at hj
      subst hj
      exact HV2.out.but.block _ lbo (fun e => hbb e.symm)
    have H1 := Lib.hid hO1
    clear hO1
    go_region_law (refine step_append_tag rfl (.tmp 115) (.tmp 117) 112 rfl 0 111 i1 _ 5 72 Try.underlying112 hj hy0 hy1 hy2 rfl (by decide) (.slice (some ⟨bo, 0, none⟩) (n + 1) ocap) (n + 1) xs rfl (by exact World.ownsRow.alloc (w := W2.drew) H1.out _) ⟨W2.heap.size, 0, none⟩ 1 1 (frK 33).toList rfl rfl (by exact frK_new W2.drew _) (by exact frK_cell _) (by simp only [maxLen]; omega) (by omega) (Nat.zero_le _) ?_; intro v' w2 ho2 hg2 ht2; obtain ⟨g2, cap2, rfl⟩ := ownsRow_succ' ho2; have hg3 := grown_undrew (grown_past (w := W2.drew) hg2); have ht3 := tag_past (w := W2.drew) ht2; have k12 := grown_cell0 (w := W2) (nq := 0) hg3 k1 (fun e => hbb (Option.some.inj e).symm); have k22 := grown_cell0 (w := W2) (nq := 0) hg3 k2 (fun e => hbb (Option.some.inj e).symm); have m12 := grown_frozen0 hg3 k1 m1 (fun e => hbb (Option.some.inj e).symm); have m22 := grown_frozen0 hg3 k2 m2 (fun e => hbb (Option.some.inj e).symm); have HG3 := Lib.hid hg3; have HT3 := Lib.hid ht3; have HO2 := Lib.hid ho2; clear hg2 ht2 hg3 ht3 ho2)
    all_goals
      go_wp2
      go_end0
      exact ⟨rfl, W2, w2, _, HV2.out.but, by have := HV2.out.blk; simpa using this, HO2.out, HG3.out, HT3.out, by push_cast; rfl⟩

end Go.Proofs.Ytfgghbideoehjaa

namespace Go.Proofs.Ytfgghbideoehjaa
open Go.ChangeShapes Go.WideShapes Go.ChangeAt Go.RowKit
set_option linter.unusedVariables false
set_option maxRecDepth 100000

def PSt.enterK (st : PSt) (k : UInt8) : PSt :=
  { st with low := st.low ++ [st.top], top := ⟨k, 0, [], [], false⟩, looks := st.looks + (if k.toNat = 58 then 0 else 1), pos := st.pos + 3 }

set_option maxHeartbeats 1000000 in
theorem enter_kind {base : Nat} {g : Tags} {w : World} {bp : Nat} {st : PSt} (h : PInv base g w bp st) (hs : st.Small) (hbase : base ≤ w.heap.size) (hp : st.pos + 2 < st.s.size) {k : UInt8} (hk : k.toNat = 58 ∨ k.toNat = 61 ∨ k.toNat = 33) (hk2 : byte st.s (st.pos + 2) = k.toNat)
    (hpre : Lib.hasPrefix (st.s.extract st.pos st.s.size).data.toList (ByteArray.mk #[40, 63]).data.toList = true) :
    Calls Try.prog 54 #[.pointer (some ⟨bp, 0, none⟩)] w (PPost base g w bp (.ok (st.enterK k))) := by
  obtain ⟨x, h⟩ := h
  have hblk := h.blk
  have hll := h.low.length
  have lbp := (h.tags _ _ h.gp).2
  have lbo := (h.tags _ _ h.gob).2
  have hbb : bp ≠ x.bo := tag_ne h.gp h.gob (by simp)
  have hopn : w.ownsRow 0 111 5 (.slice (some ⟨x.bo, 0, none⟩) (st.low.length + 1) x.ocap) (st.low.length + 1) (x.lowc ++ frCells st.top x.bv x.pv) := by
    have ho := h.opn
    have hc := h.cap3
    rw [← List.append_assoc] at ho hc
    exact ownsRow_join ho (by simp [hll, frCells]; omega) h.cap1 h.cap2 hc
  refine (enterK_walk w st.s bp x.bo st.pos st.low.length x.ocap st.looks k.toNat hk x.refsv _ _ (by have := hs.pos; omega) hp (by have := hs.looks; omega) (by have := hs.low; omega) hk2 hblk _ hopn hbb hpre).mono ?_
  rintro e w' ⟨rfl, W, w2, openv', HWb, HWblk, ho2, hg2, ht2, rfl⟩
  have sW := HWb.size
  have s2 := hg2.size
  obtain ⟨go, ocap', rfl⟩ := ownsRow_succ' ho2
  have ht2' := ht2.back sW
  have hgo : ∀ j, (Value.slice (some ⟨x.bo, 0, none⟩) (st.low.length + 1) x.ocap).ownBlock = some j → g j = some .opn := by
    intro j hj; simp only [Value.ownBlock, Option.some.injEq] at hj; subst hj; exact h.gob
  have keep := upd_keeps h.tags hgo ht2'
  have T2 := upd_tags h.tags hbase hgo ht2' ho2 (by omega)
  have gbo' : upd g (.slice (some ⟨go, 0, none⟩) (st.low.length + 2) ocap') .opn go = some .opn := upd_new go rfl
  have hbgo : bp ≠ go := tag_ne (keep _ _ h.gp) gbo' (by simp)
  have rest : ∀ b, b ≠ bp → (((w2.setCell ⟨bp, 2, none⟩ (.slice (some ⟨go, 0, none⟩) (st.low.length + 2) ocap')).setCell ⟨bp, 1, none⟩ (.int .i64 ((st.pos + 3 : Nat) : Int)))).heap[b]? = w2.heap[b]? := fun b hb =>
    (heap_setCell_other _ _ b _ (by exact hb)).trans (heap_setCell_other _ _ b _ (by exact hb))
  have other : ∀ b t, g b = some t → t ≠ .parser → t ≠ .opn → (((w2.setCell ⟨bp, 2, none⟩ (.slice (some ⟨go, 0, none⟩) (st.low.length + 2) ocap')).setCell ⟨bp, 1, none⟩ (.int .i64 ((st.pos + 3 : Nat) : Int)))).heap[b]? = w.heap[b]? ∧ upd g (.slice (some ⟨go, 0, none⟩) (st.low.length + 2) ocap') .opn b = g b := by
    intro b t hb n1 n2
    have hl := (h.tags b t hb).2
    have hn1 := tag_ne hb h.gp n1
    refine ⟨(rest b hn1).trans ((hg2.block b (by omega) (fun e => tag_ne hb h.gob n2 (Option.some.inj e))).trans (HWb.block b hl hn1)), ?_⟩
    rw [keep b t hb, hb]
  have bp3 := (hg2.block bp (by omega) (fun e => hbb (Option.some.inj e))).trans HWblk
  have bp4 := heap_setCell_same _ _ 2 _ _ (.slice (some ⟨go, 0, none⟩) (st.low.length + 2) ocap') bp3
  have bp5 := heap_setCell_same _ _ 1 _ _ (.int .i64 ((st.pos + 3 : Nat) : Int)) bp4
  obtain ⟨spare, hsp, hc1, hc2, hc3⟩ := ownsRow_split ho2
  have hsz : w2.heap.size = ((w2.setCell ⟨bp, 2, none⟩ (.slice (some ⟨go, 0, none⟩) (st.low.length + 2) ocap')).setCell ⟨bp, 1, none⟩ (.int .i64 ((st.pos + 3 : Nat) : Int))).heap.size := by simp
  have hopn' := (rest go (fun e => hbgo e.symm)).trans hsp
  have B : Below base w (((w2.setCell ⟨bp, 2, none⟩ (.slice (some ⟨go, 0, none⟩) (st.low.length + 2) ocap')).setCell ⟨bp, 1, none⟩ (.int .i64 ((st.pos + 3 : Nat) : Int)))) := by
    have bb := (h.tags _ _ h.gp).1
    have B1 := (HWb.below bb hbase).grown hg2 (by omega) fun k hk => by cases hk; exact (h.tags _ _ h.gob).1
    exact (B1.setCell (p := ⟨bp, 2, none⟩) bb _).setCell (p := ⟨bp, 1, none⟩) bb _
  generalize hWf : ((w2.setCell ⟨bp, 2, none⟩ (.slice (some ⟨go, 0, none⟩) (st.low.length + 2) ocap')).setCell ⟨bp, 1, none⟩ (.int .i64 ((st.pos + 3 : Nat) : Int))) = Wf at *
  clear hWf
  have otree : ∀ b, isTree g b → Wf.heap[b]? = w.heap[b]? ∧ upd g (.slice (some ⟨go, 0, none⟩) (st.low.length + 2) ocap') .opn b = g b := fun b hb => other b .tree hb (by simp) (by simp)
  refine ⟨rfl, upd g (.slice (some ⟨go, 0, none⟩) (st.low.length + 2) ocap') .opn, ⟨⟨go, ocap', spare, x.refsv, x.lowc ++ frCells st.top x.bv x.pv, .slice none 0 0, .slice none 0 0⟩, ?_⟩, ⟨fun b hb => ⟨keep b _ hb, (otree b hb).1⟩, B⟩⟩
  exact {
    tags := by rw [← hsz]; exact T2
    gp := keep _ _ h.gp
    blk := by rw [bp5]; simp [PSt.enterK]
    gob := gbo'
    opn := by rw [hopn']; simp [PSt.enterK, frCells]
    cap1 := by simp [PSt.enterK]; omega
    cap2 := hc2
    cap3 := by simpa [PSt.enterK, frCells] using hc3
    refs := ownsRow_agree h.refs fun j hj => (other j _ (h.grefs j hj) (by simp) (by simp)).1
    grefs := fun j hj => keep _ _ (h.grefs j hj)
    low := by
      refine (FrsAt.snoc 0 st.low st.top _).2 ⟨x.lowc, x.bv, x.pv, rfl, h.low.agree 0 _ _ fun b hb => ?_, ?_⟩
      · rcases hb with hb | ⟨j, _, _, hb | hb⟩
        · exact otree b hb
        · exact other b _ hb (by simp) (by simp)
        · exact other b _ hb (by simp) (by simp)
      · rw [Nat.zero_add]
        exact h.top.agree fun b hb => by
          rcases hb with hb | hb | hb
          · exact otree b hb
          · exact other b _ hb (by simp) (by simp)
          · exact other b _ hb (by simp) (by simp)
    top := ⟨⟨[], ⟨World.ownsRow_nil _ _ _ _, fun k hk => by cases hk⟩, rfl⟩, ⟨[], ⟨World.ownsRow_nil _ _ _ _, fun k hk => by cases hk⟩, rfl⟩⟩ }

theorem index3_none (c : Nat) (hc : c < 256) (h : c ≠ 58 ∧ c ≠ 61 ∧ c ≠ 33) : Lib.indexByte [58, 61, 33] (c : Int).toNat.toUInt8 = -1 := by
  refine indexByte_none _ _ ?_
  intro hm
  simp only [List.mem_cons, List.not_mem_nil, or_false] at hm
  rcases hm with e | e | e
  · exact toUInt8_ne hc (k := 58) (by decide) h.1 e
  · exact toUInt8_ne hc (k := 61) (by decide) h.2.1 e
  · exact toUInt8_ne hc (k := 33) (by decide) h.2.2 e

set_option maxHeartbeats 1000000 in
/-- '(?' with no letter of ':', '=', '!' behind it. -/
theorem enter_wrong {base : Nat} {g : Tags} {w : World} {bp : Nat} {st : PSt} (h : PInv base g w bp st) (hs : st.Small) (hbase : base ≤ w.heap.size) (hp : st.pos + 1 < st.s.size)
    (hw : st.pos + 2 = st.s.size ∨ st.pos + 2 < st.s.size ∧ byte st.s (st.pos + 2) ≠ 58 ∧ byte st.s (st.pos + 2) ≠ 61 ∧ byte st.s (st.pos + 2) ≠ 33)
    (hpre : Lib.hasPrefix (st.s.extract st.pos st.s.size).data.toList (ByteArray.mk #[40, 63]).data.toList = true) :
    Calls Try.prog 54 #[.pointer (some ⟨bp, 0, none⟩)] w (PPost base g w bp (.bad (st.pos + 1))) := by
  obtain ⟨x, hx⟩ := h
  obtain ⟨gbp, lbp⟩ := hx.tags _ _ hx.gp
  have hsm := hs.pos
  have HB := Lib.hid hx.blk
  have HP := Lib.hid hpre
  have c0 : w.cell? ⟨bp, 0, none⟩ = some (.string st.s) := by rw [cell_of_blk hx.blk]; rfl
  have c1 : w.cell? ⟨bp, 1, none⟩ = some (.int .i64 (st.pos : Int)) := by rw [cell_of_blk hx.blk]; rfl
  have hby := get_byte st.s
  have hps2 : (st.pos : Int) ≤ (st.s.size : Int) := by omega
  clear hpre hx
  rcases hw with hw | ⟨hw, hw2⟩
  · have t2 : ((st.pos : Int) + 2 == (st.s.size : Int)) = true := by simp; omega
    clear hw
    go_enter Try.func54, Try.ntmps54
    go_wp2
    go_quiet ((go_at_call 77; exact Calls.quiet_of_same (prefix_at (st.s.extract st.pos st.s.size) (ByteArray.mk #[40, 63]) true HP.out _)))
    go_wp2
    refine gen_code (BoxW w bp _) (box_world w bp _ HB.out lbp nq) ?_
    intro W HW
    have d0 : W.cell? ⟨bp, 0, none⟩ = some (.string st.s) := (cell_of_blk HW.blk 0).trans rfl
    have d1 : W.cell? ⟨bp, 1, none⟩ = some (.int .i64 (st.pos : Int)) := (cell_of_blk HW.blk 1).trans rfl
    have HWl := Lib.hid HW
    clear c0 c1 HW
    go_quiet (fail)
    go_wp2_with (go_at_call 61; refine (fail_any _ _ _).mono ?_; rintro e w' ⟨rfl, rfl⟩)
    exact ⟨rfl, by simp [wrongAt], below_drewN (HWl.out.but.below gbp hbase) _⟩
  · have t2 : ((st.pos : Int) + 2 == (st.s.size : Int)) = false := by simp; omega
    have hr := index3_none _ (byte_lt st.s (st.pos + 2)) hw2
    have HI := Lib.hid hr
    clear hw2 hr
    have hw3 : (st.pos : Int) + 2 < (st.s.size : Int) := by omega
    go_enter Try.func54, Try.ntmps54
    go_wp2
    go_quiet ((go_at_call 77; exact Calls.quiet_of_same (prefix_at (st.s.extract st.pos st.s.size) (ByteArray.mk #[40, 63]) true HP.out _)))
    go_wp2
    refine gen_code (BoxW w bp _) (box_world w bp _ HB.out lbp nq) ?_
    intro W HW
    have d0 : W.cell? ⟨bp, 0, none⟩ = some (.string st.s) := (cell_of_blk HW.blk 0).trans rfl
    have d1 : W.cell? ⟨bp, 1, none⟩ = some (.int .i64 (st.pos : Int)) := (cell_of_blk HW.blk 1).trans rfl
    have HWl := Lib.hid HW
    clear c0 c1 HW
    go_quiet ((go_at_call 65; exact Calls.quiet_of_same (index3 _ _ HI.out _)))
    go_wp2_with (go_at_call 61; refine (fail_any _ _ _).mono ?_; rintro e w' ⟨rfl, rfl⟩)
    exact ⟨rfl, by simp [wrongAt], below_drewN (HWl.out.but.below gbp hbase) _⟩

set_option maxHeartbeats 1000000 in
/-- '(' where a look ahead is open. -/
theorem enter_inner {base : Nat} {g : Tags} {w : World} {bp : Nat} {st : PSt} (h : PInv base g w bp st) (hs : st.Small) (hbase : base ≤ w.heap.size) (hp : st.pos < st.s.size) (hlk : 0 < st.looks)
    (hpre : Lib.hasPrefix (st.s.extract st.pos st.s.size).data.toList (ByteArray.mk #[40, 63]).data.toList = false) :
    Calls Try.prog 54 #[.pointer (some ⟨bp, 0, none⟩)] w (PPost base g w bp (.bad st.pos)) := by
  obtain ⟨x, hx⟩ := h
  obtain ⟨gbp, lbp⟩ := hx.tags _ _ hx.gp
  have hsm := hs.pos
  have hsl := hs.looks
  have HB := Lib.hid hx.blk
  have HP := Lib.hid hpre
  have c0 : w.cell? ⟨bp, 0, none⟩ = some (.string st.s) := by rw [cell_of_blk hx.blk]; rfl
  have c1 : w.cell? ⟨bp, 1, none⟩ = some (.int .i64 (st.pos : Int)) := by rw [cell_of_blk hx.blk]; rfl
  have hby := get_byte st.s
  have hps2 : (st.pos : Int) ≤ (st.s.size : Int) := by omega
  have hl0 : (0 : Int) < (st.looks : Int) := by omega
  clear hpre hx
  go_enter Try.func54, Try.ntmps54
  go_wp2
  go_quiet ((go_at_call 77; exact Calls.quiet_of_same (prefix_at (st.s.extract st.pos st.s.size) (ByteArray.mk #[40, 63]) false HP.out _)))
  have HW : BoxW w bp _ ((w.alloc (.cells #[.int .u8 40, .int .i64 0, .slice none 0 0, .slice none 0 0, .bool false] 111)).drewN nq) := box_world w bp _ HB.out lbp nq
  generalize ((w.alloc (.cells #[.int .u8 40, .int .i64 0, .slice none 0 0, .slice none 0 0, .bool false] 111)).drewN nq) = W at HW ⊢
  have d0 : W.cell? ⟨bp, 0, none⟩ = some (.string st.s) := (cell_of_blk HW.blk 0).trans rfl
  have d1 : W.cell? ⟨bp, 1, none⟩ = some (.int .i64 (st.pos : Int)) := (cell_of_blk HW.blk 1).trans rfl
  have d5 : W.cell? ⟨bp, 5, none⟩ = some (.int .i64 (st.looks : Int)) := (cell_of_blk HW.blk 5).trans rfl
  have x0 : W.cell? ⟨w.heap.size, 0, none⟩ = some (.int .u8 40) := (cell_of_blk HW.box 0).trans rfl
  have HWl := Lib.hid HW
  clear c0 c1 HW
  go_wp2_with (go_at_call 61; refine (fail_any _ _ _).mono ?_; rintro e w' ⟨rfl, rfl⟩)
  exact ⟨rfl, rfl, HWl.out.but.below gbp hbase⟩

end Go.Proofs.Ytfgghbideoehjaa
