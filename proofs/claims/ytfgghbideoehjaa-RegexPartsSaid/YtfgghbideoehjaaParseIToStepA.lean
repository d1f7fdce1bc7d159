/-
  The parser: repeat at a star.
  The parser: repeat at a star, on states.
  The parser: the bar, on states.
  The parser's steps as a plain function: what is read at '\\' before a byte that stands for itself, '(', ')', '|', '*', '.', and any other byte.
-/
import Derived.Test.YtfgghbideoehjaaParseEToParseH
namespace Go.Proofs.Ytfgghbideoehjaa
open Go.ChangeShapes Go.WideShapes Go.ChangeAt Go.RowKit
set_option linter.unusedVariables false
set_option maxRecDepth 100000

theorem results_tmp4 {fn : Func} {t u v x : Tmp} (h : fn.results = #[.tmp t, .tmp u, .tmp v, .tmp x]) (tmps : Array Value) (P : Program) (w : World) :
    (results fn tmps).run P w = .ok (.tuple #[tmps.getD t undef, tmps.getD u undef, tmps.getD v undef, tmps.getD x undef]) w := by
  simp [results, h]

set_option maxHeartbeats 400000 in
theorem star_any (w : World) (s : ByteArray) (bp pos : Nat) (hpos : pos ≤ 1000000) (hps : pos < s.size) (hb : byte s pos = 42)
    (c0 : w.cell? ⟨bp, 0, none⟩ = some (.string s)) (c1 : w.cell? ⟨bp, 1, none⟩ = some (.int .i64 (pos : Int))) :
    Calls Try.prog 78 #[.pointer (some ⟨bp, 0, none⟩)] w fun e w' => e = .returned (.tuple #[.int .i64 0, .int .i64 (-1), .int .i64 ((pos : Int) + 1), .bool true]) ∧ ∃ k, w' = w.drewN k := by
  have hby := get_byte s
  have hps' : (pos : Int) < (s.size : Int) := by omega
  go_enter Try.func78, Try.ntmps78
  go_wp2
  go_quiet (fail)
  go_wp2
  go_quiet (fail)
  go_wp2
  (try simp only [Exit.inBlock, Exit.then]); refine bodyPost_ret (results_tmp4 rfl _ _ _) rfl ?_
  exact ⟨rfl, _, by rw [World.drewN_drewN]⟩

set_option maxHeartbeats 1000000 in
theorem repeat_walk (w : World) (s : ByteArray) (bp bo pos n ocap gp m cap : Nat) (hpos : pos ≤ 1000000) (hps : pos < s.size) (hn : n + 1 ≤ 1000000) (hm : m ≤ 1000000) (hmc : m + 1 ≤ cap) (hb : byte s pos = 42) (hb1 : pos + 1 = s.size ∨ (pos + 1 < s.size ∧ byte s (pos + 1) ≠ 63))
    (c0 : w.cell? ⟨bp, 0, none⟩ = some (.string s)) (c1 : w.cell? ⟨bp, 1, none⟩ = some (.int .i64 (pos : Int))) (c2 : w.cell? ⟨bp, 2, none⟩ = some (.slice (some ⟨bo, 0, none⟩) (n + 1) ocap))
    (f1 : w.frozen? ⟨bp, 1, none⟩ = false) (k3 : w.cell? ⟨bo, n * 5 + 3, none⟩ = some (.slice (some ⟨gp, 0, none⟩) (m + 1) cap)) (k4 : w.cell? ⟨bo, n * 5 + 4, none⟩ = some (.bool true)) (f4 : w.frozen? ⟨bo, n * 5 + 4, none⟩ = false)
    (t : TypeId) (u : Value) (p1 : w.cell? ⟨gp, m, none⟩ = some (.iface t u)) (fp : w.frozen? ⟨gp, m, none⟩ = false) (n1 : gp ≠ bp) (n2 : gp ≠ bo) (n3 : bp ≠ bo) :
    Calls Try.prog 57 #[.pointer (some ⟨bp, 0, none⟩)] w fun e w' => e = .returned (.tuple #[]) ∧
      ∃ W, Below w.heap.size w W ∧ w' = ((W.setCell ⟨gp, m, none⟩ (.iface 139 (.agg #[.iface t u, .int .i64 0, .int .i64 (-1), .bool false]))).setCell ⟨bo, n * 5 + 4, none⟩ (.bool false)).setCell ⟨bp, 1, none⟩ (.int .i64 ((pos : Int) + 1)) := by
  have hby := get_byte s
  have lbp : bp < w.heap.size := World.block_lt_of_cell? w _ c0
  have lbo : bo < w.heap.size := World.block_lt_of_cell? w _ k3
  have lgp : gp < w.heap.size := World.block_lt_of_cell? w _ p1
  have t0 : ((m : Int) + 1 - 1) = m := by omega
  go_enter Try.func57, Try.ntmps57
  go_wp2_with (first | (go_at_call 56; refine (top_any _ _ _ _ _ hn c2).mono ?_; rintro e w' ⟨rfl, nq, rfl⟩))
  refine (star_any _ s bp pos hpos hps hb (by exact c0) (by exact c1)).mono ?_
  rintro e w0 ⟨rfl, nq1, hw0⟩
  have hB : Below w.heap.size w w0 := by rw [hw0]; exact below_drewN (below_drewN (Below.refl _ _) _) _
  have d0 : w0.cell? ⟨bp, 0, none⟩ = some (.string s) := by rw [hw0]; exact c0
  have d1 : w0.cell? ⟨bp, 1, none⟩ = some (.int .i64 (pos : Int)) := by rw [hw0]; exact c1
  have g1 : w0.frozen? ⟨bp, 1, none⟩ = false := by rw [hw0]; exact f1
  have e3 : w0.cell? ⟨bo, n * 5 + 3, none⟩ = some (.slice (some ⟨gp, 0, none⟩) (m + 1) cap) := by rw [hw0]; exact k3
  have e4 : w0.cell? ⟨bo, n * 5 + 4, none⟩ = some (.bool true) := by rw [hw0]; exact k4
  have g4 : w0.frozen? ⟨bo, n * 5 + 4, none⟩ = false := by rw [hw0]; exact f4
  have q1 : w0.cell? ⟨gp, m, none⟩ = some (.iface t u) := by rw [hw0]; exact p1
  have gq : w0.frozen? ⟨gp, m, none⟩ = false := by rw [hw0]; exact fp
  have mbp : bp < w0.heap.size := by rw [hw0]; exact lbp
  have mbo : bo < w0.heap.size := by rw [hw0]; exact lbo
  have mgp : gp < w0.heap.size := by rw [hw0]; exact lgp
  have hs0 : w0.heap.size = w.heap.size := by rw [hw0]; rfl
  have HBl := Lib.hid hB
  clear hw0 hB c0 c1 c2 f1 k3 k4 f4 p1 fp
  go_wp2
  go_region
  have hbox : (World.drew (w0.alloc (.cells #[.iface t u, .int .i64 0, .int .i64 (-1), .bool false] 139))).heap[w0.heap.size]? = some (.cells #[.iface t u, .int .i64 0, .int .i64 (-1), .bool false] 139 (0, 0)) := heap_alloc_new w0 _
  have hbel : Below w.heap.size w (World.drew (w0.alloc (.cells #[.iface t u, .int .i64 0, .int .i64 (-1), .bool false] 139))) := (HBl.out.alloc (by omega) _).drew
  have a0 : (World.drew (w0.alloc (.cells #[.iface t u, .int .i64 0, .int .i64 (-1), .bool false] 139))).cell? ⟨bp, 0, none⟩ = some (.string s) := (World.cell?_alloc_lt w0 _ _ mbp).trans d0
  have a1 : (World.drew (w0.alloc (.cells #[.iface t u, .int .i64 0, .int .i64 (-1), .bool false] 139))).cell? ⟨bp, 1, none⟩ = some (.int .i64 (pos : Int)) := (World.cell?_alloc_lt w0 _ _ mbp).trans d1
  have a3 : (World.drew (w0.alloc (.cells #[.iface t u, .int .i64 0, .int .i64 (-1), .bool false] 139))).cell? ⟨bo, n * 5 + 3, none⟩ = some (.slice (some ⟨gp, 0, none⟩) (m + 1) cap) := (World.cell?_alloc_lt w0 _ _ mbo).trans e3
  have a4 : (World.drew (w0.alloc (.cells #[.iface t u, .int .i64 0, .int .i64 (-1), .bool false] 139))).cell? ⟨bo, n * 5 + 4, none⟩ = some (.bool true) := (World.cell?_alloc_lt w0 _ _ mbo).trans e4
  have aq : (World.drew (w0.alloc (.cells #[.iface t u, .int .i64 0, .int .i64 (-1), .bool false] 139))).cell? ⟨gp, m, none⟩ = some (.iface t u) := (World.cell?_alloc_lt w0 _ _ mgp).trans q1
  have b1 : (World.drew (w0.alloc (.cells #[.iface t u, .int .i64 0, .int .i64 (-1), .bool false] 139))).frozen? ⟨bp, 1, none⟩ = false := (World.frozen?_alloc_old w0 _ _ (Nat.ne_of_lt mbp)).trans g1
  have b4 : (World.drew (w0.alloc (.cells #[.iface t u, .int .i64 0, .int .i64 (-1), .bool false] 139))).frozen? ⟨bo, n * 5 + 4, none⟩ = false := (World.frozen?_alloc_old w0 _ _ (Nat.ne_of_lt mbo)).trans g4
  have bq : (World.drew (w0.alloc (.cells #[.iface t u, .int .i64 0, .int .i64 (-1), .bool false] 139))).frozen? ⟨gp, m, none⟩ = false := (World.frozen?_alloc_old w0 _ _ (Nat.ne_of_lt mgp)).trans gq
  generalize hW : (World.drew (w0.alloc (.cells #[.iface t u, .int .i64 0, .int .i64 (-1), .bool false] 139))) = W at *
  clear hW d0 d1 g1 e3 e4 g4 q1 gq
  have x0 : W.cell? ⟨w0.heap.size, 0, none⟩ = some (.iface t u) := (cell_of_blk hbox 0).trans rfl
  have x1 : W.cell? ⟨w0.heap.size, 1, none⟩ = some (.int .i64 0) := (cell_of_blk hbox 1).trans rfl
  have x2 : W.cell? ⟨w0.heap.size, 2, none⟩ = some (.int .i64 (-1)) := (cell_of_blk hbox 2).trans rfl
  have x3 : W.cell? ⟨w0.heap.size, 3, none⟩ = some (.bool false) := (cell_of_blk hbox 3).trans rfl
  rw [hs0] at x0 x1 x2 x3
  have HB2 := Lib.hid hbel
  clear hbox hbel
  rcases hb1 with h1 | ⟨h1, h2⟩
  · have t1 : ¬ ((pos : Int) + 1 < (s.size : Int)) := by omega
    go_wp2
    go_region
    all_goals
      go_wp2
      go_end0
      exact ⟨rfl, W.drew, HB2.out.drew, rfl⟩
  · have t1 : (pos : Int) + 1 < (s.size : Int) := by omega
    have t2 : ((byte s (pos + 1) : Int) == 63) = false := by simp; omega
    go_wp2
    go_region
    all_goals
      go_wp2
      go_end0
      exact ⟨rfl, W.drew, HB2.out.drew, rfl⟩

end Go.Proofs.Ytfgghbideoehjaa

namespace Go.Proofs.Ytfgghbideoehjaa
open Go.ChangeShapes Go.WideShapes Go.ChangeAt Go.RowKit
set_option linter.unusedVariables false
set_option maxRecDepth 100000

theorem NodesAt.last {G : Nat → Prop} {w : World} {t : Nd} : ∀ (l : List Nd) (vs : List Value), NodesAt G w (l ++ [t]) vs → ∃ vs1 v, vs = vs1 ++ [v] ∧ NodesAt G w l vs1 ∧ NodeAt G w t v
  | [], vs, h => by
    simp only [List.nil_append, NodesAt] at h
    obtain ⟨v, vs', rfl, h1, rfl⟩ := h
    exact ⟨[], v, rfl, rfl, h1⟩
  | a :: l, vs, h => by
    simp only [List.cons_append, NodesAt] at h
    obtain ⟨u, vs', rfl, h1, h2⟩ := h
    obtain ⟨vs1, v, rfl, h3, h4⟩ := NodesAt.last l vs' h2
    exact ⟨u :: vs1, v, rfl, ⟨u, vs1, rfl, h1, h3⟩, h4⟩

def PSt.star (st : PSt) (pre : List Nd) (y : Nd) : PSt :=
  { st with pos := st.pos + 1, top := { st.top with pcs := pre ++ [.times y 0 (-1) false], single := false } }

set_option maxHeartbeats 1000000 in
theorem repeat_star {base : Nat} {g : Tags} {w : World} {bp : Nat} {st : PSt} (h : PInv base g w bp st) (hs : st.Small) (hbase : base ≤ w.heap.size) (hp : st.pos < st.s.size)
    (hb : byte st.s st.pos = 42) (hb1 : st.pos + 1 = st.s.size ∨ (st.pos + 1 < st.s.size ∧ byte st.s (st.pos + 1) ≠ 63)) (hsg : st.top.single = true) {pre : List Nd} {y : Nd} (hpcs : st.top.pcs = pre ++ [y]) :
    Calls Try.prog 57 #[.pointer (some ⟨bp, 0, none⟩)] w (PPost base g w bp (.ok (st.star pre y))) := by
  obtain ⟨x, h⟩ := h
  obtain ⟨hbr, ⟨pvs, hp1, hp2⟩⟩ := h.top
  have hlow := h.low.length
  have hpl := hp2.length
  rw [hpcs] at hp2
  obtain ⟨pvs1, v, rfl, hn1, hn2⟩ := NodesAt.last _ _ hp2
  obtain ⟨T, u, rfl⟩ := hn2.iface
  have hown := hp1.1
  simp only [List.length_append, List.length_cons, List.length_nil, Nat.zero_add] at hown
  obtain ⟨gp, cap, hpv⟩ := ownsRow_succ' hown
  have hgp : g gp = some (.pc st.low.length) := hp1.2 gp (by rw [hpv]; rfl)
  rw [hpv] at hown
  have hbb : bp ≠ x.bo := tag_ne h.gp h.gob (by simp)
  have n1 : gp ≠ bp := tag_ne hgp h.gp (by simp)
  have n2 : gp ≠ x.bo := tag_ne hgp h.gob (by simp)
  obtain ⟨_, _, hmc, _, _⟩ := ownsRow_split hown
  have hm := hs.pcs
  have hpl2 : pvs1.length + 1 = st.top.pcs.length := by simpa using hpl
  refine (repeat_walk w st.s bp x.bo st.pos st.low.length x.ocap gp pvs1.length cap (by have := hs.pos; omega) hp (by have := hs.low; omega) (by omega) hmc hb hb1
    (by rw [cell_of_blk h.blk]; rfl) (by rw [cell_of_blk h.blk]; rfl) (by rw [cell_of_blk h.blk]; rfl) (free_of_blk h.blk 1)
    (by rw [cell_of_blk h.opn, top_cell 3 hlow (by simp [frCells]), ← hpv]; rfl) (by rw [cell_of_blk h.opn, top_cell 4 hlow (by simp [frCells]), ← hsg]; rfl)
    (free_of_blk h.opn _) T u (by rw [hown.cellAt _ (by simp)]; simp) (hown.frozenAt _) n1 n2 hbb).mono ?_
  rintro e w' ⟨rfl, W, hB, rfl⟩
  have ag : ∀ b t, g b = some t → W.heap[b]? = w.heap[b]? := fun b t ht => hB.block b (h.tags b t ht).2
  generalize hv : (Value.iface 139 (.agg #[.iface T u, .int .i64 0, .int .i64 (-1), .bool false])) = v' at *
  have o1 : W.heap[x.bo]? = _ := (ag _ _ h.gob).trans h.opn
  have o2 : (W.setCell ⟨gp, pvs1.length, none⟩ v').heap[x.bo]? = _ := (heap_setCell_other _ _ _ _ (by exact fun e => n2 e.symm)).trans o1
  have o3 := heap_setCell_same _ _ (st.low.length * 5 + 4) _ _ (.bool false) o2
  rw [top_set 4 _ hlow (by simp [frCells])] at o3
  have o4 := (heap_setCell_other _ ⟨bp, 1, none⟩ x.bo (.int .i64 ((st.pos : Int) + 1)) (by exact fun e => hbb e.symm)).trans o3
  have b1 : ((W.setCell ⟨gp, pvs1.length, none⟩ v').setCell ⟨x.bo, st.low.length * 5 + 4, none⟩ (.bool false)).heap[bp]? = _ :=
    (heap_setCell_other _ _ bp _ (by exact hbb)).trans ((heap_setCell_other _ _ bp _ (by exact fun e => n1 e.symm)).trans ((ag _ _ h.gp).trans h.blk))
  have b2 := heap_setCell_same _ _ 1 _ _ (.int .i64 ((st.pos : Int) + 1)) b1
  have p0 : W.ownsRow 0 62 1 (.slice (some ⟨gp, 0, none⟩) (pvs1.length + 1) cap) (pvs1.length + 1) (pvs1 ++ [.iface T u]) := ownsRow_agree hown fun j hj => by cases hj; exact ag _ _ hgp
  have p1 := p0.stored pvs1.length v'
  have hset : (pvs1 ++ [Value.iface T u]).set pvs1.length v' = pvs1 ++ [v'] := by rw [List.set_append_right _ _ (Nat.le_refl _)]; simp
  rw [hset] at p1
  have rest : ∀ b t, g b = some t → t ≠ .parser → t ≠ .opn → t ≠ .pc st.low.length → (((W.setCell ⟨gp, pvs1.length, none⟩ v').setCell ⟨x.bo, st.low.length * 5 + 4, none⟩ (.bool false)).setCell ⟨bp, 1, none⟩ (.int .i64 ((st.pos : Int) + 1))).heap[b]? = w.heap[b]? := by
    intro b t hb m1 m2 m3
    exact (heap_setCell_other _ _ b _ (by exact tag_ne hb h.gp m1)).trans ((heap_setCell_other _ _ b _ (by exact tag_ne hb h.gob m2)).trans ((heap_setCell_other _ _ b _ (by exact tag_ne hb hgp m3)).trans (ag _ _ hb)))
  have p2 : (((W.setCell ⟨gp, pvs1.length, none⟩ v').setCell ⟨x.bo, st.low.length * 5 + 4, none⟩ (.bool false)).setCell ⟨bp, 1, none⟩ (.int .i64 ((st.pos : Int) + 1))).ownsRow 0 62 1 (.slice (some ⟨gp, 0, none⟩) (pvs1.length + 1) cap) (pvs1.length + 1) (pvs1 ++ [v']) :=
    ownsRow_agree p1.1 fun j hj => by
      cases hj
      exact (heap_setCell_other _ _ gp _ (by exact n1)).trans (heap_setCell_other _ _ gp _ (by exact n2))
  have B : Below base w (((W.setCell ⟨gp, pvs1.length, none⟩ v').setCell ⟨x.bo, st.low.length * 5 + 4, none⟩ (.bool false)).setCell ⟨bp, 1, none⟩ (.int .i64 ((st.pos : Int) + 1))) :=
    (((hB.mono hbase).setCell (h.tags _ _ hgp).1 _).setCell (h.tags _ _ h.gob).1 _).setCell (h.tags _ _ h.gp).1 _
  have hsz : w.heap.size ≤ (((W.setCell ⟨gp, pvs1.length, none⟩ v').setCell ⟨x.bo, st.low.length * 5 + 4, none⟩ (.bool false)).setCell ⟨bp, 1, none⟩ (.int .i64 ((st.pos : Int) + 1))).heap.size := by have := hB.size; simpa using this
  generalize hWf : (((W.setCell ⟨gp, pvs1.length, none⟩ v').setCell ⟨x.bo, st.low.length * 5 + 4, none⟩ (.bool false)).setCell ⟨bp, 1, none⟩ (.int .i64 ((st.pos : Int) + 1))) = Wf at *
  clear hWf
  have agT : Agree w Wf (isTree g) := fun b hb => rest b .tree hb (by simp) (by simp) (by simp)
  refine ⟨rfl, g, ⟨{ x with pv := .slice (some ⟨gp, 0, none⟩) (pvs1.length + 1) cap }, ?_⟩, ⟨fun b hb => ⟨hb, agT b hb⟩, B⟩⟩
  exact {
    tags := fun b t hb => by have := h.tags b t hb; omega
    gp := h.gp
    blk := by rw [b2]; simp [PSt.star]
    gob := h.gob
    opn := by rw [o4]; simp [PSt.star, frCells, hpv]
    cap1 := h.cap1
    cap2 := h.cap2
    cap3 := by have := h.cap3; simpa [frCells] using this
    refs := ownsRow_agree h.refs fun j hj => rest j _ (h.grefs j hj) (by simp) (by simp) (by simp)
    grefs := h.grefs
    low := h.low.agree 0 _ _ fun b hb => by
      rcases hb with hb | ⟨j, _, h2, hb | hb⟩
      · exact ⟨agT b hb, rfl⟩
      · exact ⟨rest b _ hb (by simp) (by simp) (by simp), rfl⟩
      · exact ⟨rest b _ hb (by simp) (by simp) (by simp at h2 ⊢; omega), rfl⟩
    top := by
      refine ⟨?_, pvs1 ++ [v'], ⟨?_, fun k hk => by cases hk; exact hgp⟩, ?_⟩
      · obtain ⟨bvs, h1, h2⟩ := hbr
        exact ⟨bvs, h1.agree (fun b hb => rest b _ hb (by simp) (by simp) (by simp)) (fun b hb => hb), NodesAt.agree agT (fun b hb => hb) _ _ h2⟩
      · simpa using p2
      · refine NodesAt.snoc ?_ _ _ (NodesAt.agree agT (fun b hb => hb) _ _ hn1)
        exact ⟨.iface T u, hv.symm, NodeAt.agree agT (fun b hb => hb) _ _ hn2⟩ }

end Go.Proofs.Ytfgghbideoehjaa

namespace Go.Proofs.Ytfgghbideoehjaa
open Go.ChangeShapes Go.WideShapes Go.ChangeAt Go.RowKit
set_option linter.unusedVariables false
set_option maxRecDepth 100000

def PSt.bar (st : PSt) : PSt :=
  { st with pos := st.pos + 1, top := { st.top with brs := st.top.brs ++ [.pieces st.top.pcs], pcs := [], single := false } }

def barred (g : Tags) (i : Nat) (bv' : Value) : Tags := fun b =>
  if bv'.ownBlock = some b then some (.br i) else if g b = some (.pc i) then some .tree else g b

theorem barred_other {base : Nat} {g : Tags} {w : World} (tags : ∀ b t, g b = some t → base ≤ b ∧ b < w.heap.size) {bv bv' : Value} {i : Nat}
    (hbt : ∀ k, bv.ownBlock = some k → g k = some (.br i)) (hs : SameOrNew w bv bv') {b : Nat} {t : Tag} (hb : g b = some t) (h2 : t ≠ .pc i) : barred g i bv' b = some t := by
  unfold barred
  split
  · rename_i e
    rcases hs with hs | hs
    · rw [hs] at e; have := hbt b e; rw [hb] at this; rw [← this]
    · have := hs b e; have := (tags b t hb).2; omega
  · rw [hb]; simp [h2]

theorem barred_pc {base : Nat} {g : Tags} {w : World} (tags : ∀ b t, g b = some t → base ≤ b ∧ b < w.heap.size) {bv bv' : Value} {i : Nat}
    (hbt : ∀ k, bv.ownBlock = some k → g k = some (.br i)) (hs : SameOrNew w bv bv') {b : Nat} (hb : g b = some (.pc i)) : barred g i bv' b = some .tree := by
  unfold barred
  split
  · rename_i e
    rcases hs with hs | hs
    · rw [hs] at e; have := hbt b e; rw [hb] at this; simp at this
    · have := hs b e; have := (tags b _ hb).2; omega
  · rfl
theorem barred_new {g : Tags} {i : Nat} {bv' : Value} {b : Nat} (hb : bv'.ownBlock = some b) : barred g i bv' b = some (.br i) := by
  unfold barred; rw [if_pos hb]

abbrev barWorld (w3 : World) (bp bo n : Nat) (bv' : Value) (pos : Nat) : World :=
  (((w3.setCell ⟨bo, n * 5 + 2, none⟩ bv').setCell ⟨bo, n * 5 + 3, none⟩ (.slice none 0 0)).setCell ⟨bo, n * 5 + 4, none⟩ (.bool false)).setCell ⟨bp, 1, none⟩ (.int .i64 ((pos : Int) + 1))

set_option maxHeartbeats 1000000 in
theorem bar_inv {base : Nat} {g : Tags} {w W w3 : World} {bp : Nat} {st : PSt} {x : PV} (h : PAt base g w bp st x) (hbase : base ≤ w.heap.size) (hB : Below w.heap.size w W)
    {bvs : List Value} {bv' : Value} (hb1 : RowAt (fun b => g b = some (.br st.low.length)) w x.bv bvs) (hb2 : NodesAt (isTree g) w st.top.brs bvs)
    (ho : w3.ownsRow 0 62 1 bv' (bvs.length + 1) (bvs ++ [.iface 109 x.pv])) (hg : W.grownBy w3 x.bv.ownBlock) (ht : SameOrNew W x.bv bv') :
    ∃ g', PInv base g' (barWorld w3 bp x.bo st.low.length bv' st.pos) bp st.bar ∧ Keeps base g w g' (barWorld w3 bp x.bo st.low.length bv' st.pos) := by
  obtain ⟨_, ⟨pvs, hp1, hp2⟩⟩ := h.top
  have hlow := h.low.length
  have sW := hB.size
  have s3 := hg.size
  have t1 := ht.back sW
  have hbt := hb1.2
  have hbb : bp ≠ x.bo := tag_ne h.gp h.gob (by simp)
  have keep : ∀ b t, g b = some t → t ≠ .pc st.low.length → barred g st.low.length bv' b = some t := fun b t hb n2 => barred_other h.tags hbt t1 hb n2
  have w3b : ∀ b t, g b = some t → t ≠ .br st.low.length → w3.heap[b]? = w.heap[b]? := fun b t hb n1 => by
    have hlt := (h.tags b t hb).2
    rw [hg.block b (by omega) (fun e => tag_ne hb (hbt b e.symm) n1 rfl), hB.block b hlt]
  have rest : ∀ b, b ≠ bp → b ≠ x.bo → (barWorld w3 bp x.bo st.low.length bv' st.pos).heap[b]? = w3.heap[b]? := fun b n1 n2 =>
    (heap_setCell_other _ _ b _ (by exact n1)).trans ((heap_setCell_other _ _ b _ (by exact n2)).trans ((heap_setCell_other _ _ b _ (by exact n2)).trans (heap_setCell_other _ _ b _ (by exact n2))))
  have other : ∀ b t, g b = some t → t ≠ .parser → t ≠ .opn → t ≠ .br st.low.length → (barWorld w3 bp x.bo st.low.length bv' st.pos).heap[b]? = w.heap[b]? := fun b t hb n1 n2 n3 =>
    (rest b (tag_ne hb h.gp n1) (tag_ne hb h.gob n2)).trans (w3b b t hb n3)
  have o1 : w3.heap[x.bo]? = _ := (w3b _ _ h.gob (by simp)).trans h.opn
  have o2 := heap_setCell_same _ _ (st.low.length * 5 + 2) _ _ bv' o1
  rw [top_set 2 _ hlow (by simp [frCells])] at o2
  have o3 := heap_setCell_same _ _ (st.low.length * 5 + 3) _ _ (.slice none 0 0) o2
  rw [top_set 3 _ hlow (by simp [frCells])] at o3
  have o4 := heap_setCell_same _ _ (st.low.length * 5 + 4) _ _ (.bool false) o3
  rw [top_set 4 _ hlow (by simp [frCells])] at o4
  have o5 : (barWorld w3 bp x.bo st.low.length bv' st.pos).heap[x.bo]? = _ := (heap_setCell_other _ _ x.bo _ (by exact fun e => hbb e.symm)).trans o4
  have b1 : ((((w3.setCell ⟨x.bo, st.low.length * 5 + 2, none⟩ bv').setCell ⟨x.bo, st.low.length * 5 + 3, none⟩ (.slice none 0 0)).setCell ⟨x.bo, st.low.length * 5 + 4, none⟩ (.bool false))).heap[bp]? = _ :=
    (heap_setCell_other _ _ bp _ (by exact hbb)).trans ((heap_setCell_other _ _ bp _ (by exact hbb)).trans ((heap_setCell_other _ _ bp _ (by exact hbb)).trans ((w3b _ _ h.gp (by simp)).trans h.blk)))
  have b2 : (barWorld w3 bp x.bo st.low.length bv' st.pos).heap[bp]? = _ := heap_setCell_same _ _ 1 _ _ (.int .i64 ((st.pos : Int) + 1)) b1
  have B : Below base w (barWorld w3 bp x.bo st.low.length bv' st.pos) :=
    (((((hB.mono hbase).grown hg (by omega) fun k hk => (h.tags k _ (hbt k hk)).1).setCell (h.tags _ _ h.gob).1 _).setCell (h.tags _ _ h.gob).1 _).setCell (h.tags _ _ h.gob).1 _).setCell (h.tags _ _ h.gp).1 _
  have hsz : w3.heap.size = (barWorld w3 bp x.bo st.low.length bv' st.pos).heap.size := by simp
  generalize hWf : barWorld w3 bp x.bo st.low.length bv' st.pos = Wf at *
  clear hWf
  have agT : Agree w Wf (isTree g) := fun b hb => other b .tree hb (by simp) (by simp) (by simp)
  have moT : ∀ b, isTree g b → isTree (barred g st.low.length bv') b := fun b hb => keep b _ hb (by simp)
  refine ⟨barred g st.low.length bv', ⟨{ x with bv := bv', pv := .slice none 0 0 }, ?_⟩, ⟨fun b hb => ⟨moT b hb, agT b hb⟩, B⟩⟩
  exact {
    tags := by
      intro b t hb
      rw [← hsz]
      unfold barred at hb
      split at hb
      · rename_i e
        refine ⟨?_, (ho.lt b e).2⟩
        rcases t1 with t1 | t1
        · rw [t1] at e; exact (h.tags b _ (hbt b e)).1
        · have := t1 b e; omega
      · split at hb
        · rename_i e; have := h.tags b _ e; omega
        · have := h.tags b t hb; omega
    gp := keep _ _ h.gp (by simp)
    blk := by rw [b2]; simp [PSt.bar]
    gob := keep _ _ h.gob (by simp)
    opn := by rw [o5]; simp [PSt.bar, frCells]
    cap1 := h.cap1
    cap2 := h.cap2
    cap3 := by have := h.cap3; simpa [frCells] using this
    refs := ownsRow_agree h.refs fun j hj => other j _ (h.grefs j hj) (by simp) (by simp) (by simp)
    grefs := fun j hj => keep _ _ (h.grefs j hj) (by simp)
    low := h.low.agree 0 _ _ fun b hb => by
      rcases hb with hb | ⟨j, _, h2, hb | hb⟩
      · exact ⟨agT b hb, by rw [moT b hb, hb]⟩
      · have hn : j ≠ st.low.length := by omega
        exact ⟨other b _ hb (by simp) (by simp) (by simpa using hn), by rw [keep b _ hb (by simp), hb]⟩
      · have hn : j ≠ st.low.length := by omega
        exact ⟨other b _ hb (by simp) (by simp) (by simp), by rw [keep b _ hb (by simpa using hn), hb]⟩
    top := by
      refine ⟨⟨bvs ++ [.iface 109 x.pv], ⟨?_, fun k hk => barred_new hk⟩, ?_⟩, ⟨[], ⟨World.ownsRow_nil _ _ _ _, fun k hk => by cases hk⟩, rfl⟩⟩
      · rw [List.length_append]
        refine ownsRow_agree ho fun j hj => rest j ?_ ?_
        · exact tag_ne (barred_new hj) (keep _ _ h.gp (by simp)) (by simp)
        · exact tag_ne (barred_new hj) (keep _ _ h.gob (by simp)) (by simp)
      · refine NodesAt.snoc ?_ _ _ (NodesAt.agree agT moT _ _ hb2)
        refine ⟨x.pv, pvs, rfl, ⟨?_, fun k hk => barred_pc h.tags hbt t1 (hp1.2 k hk)⟩, NodesAt.agree agT moT _ _ hp2⟩
        exact ownsRow_agree hp1.1 fun k hk => other k _ (hp1.2 k hk) (by simp) (by simp) (by simp) }

end Go.Proofs.Ytfgghbideoehjaa

namespace Go.Proofs.Ytfgghbideoehjaa
set_option linter.unusedVariables false

def pre2 (s : ByteArray) (k : Nat) : Bool := k + 1 < s.size && byte s (k + 1) == 63

def PSt.step (st : PSt) : Option PSt :=
  let c := byte st.s st.pos
  if c = 92 then
    if st.pos + 1 < st.s.size ∧ classOf (byte st.s (st.pos + 1)) = none ∧ (plainOf (byte st.s (st.pos + 1))).2 = true then
      some (st.put (.one (BSet.zero.range (plainOf (byte st.s (st.pos + 1))).1 (plainOf (byte st.s (st.pos + 1))).1) .zero) true 2)
    else none
  else if c = 40 then if st.looks = 0 ∧ pre2 st.s st.pos = false then some st.enter else none
  else if c = 41 then
    match st.low.getLast? with
    | some f => if st.top.kind = 40 then some ((st.pop st.low.dropLast f).put (.group st.top.num st.top.whole) true 1) else none
    | none => none
  else if c = 124 then some st.bar
  else if c = 42 then
    match st.top.pcs.getLast? with
    | some y => if st.top.single = true ∧ (st.pos + 1 = st.s.size ∨ st.pos + 1 < st.s.size ∧ byte st.s (st.pos + 1) ≠ 63) then some (st.star st.top.pcs.dropLast y) else none
    | none => none
  else if c = 46 then some (st.put (.one .zero BSet.zero.not) true 1)
  else if c = 91 ∨ c = 43 ∨ c = 63 ∨ c = 123 ∨ c = 94 ∨ c = 36 then none
  else some (st.put (.one (BSet.zero.range c c) .zero) true 1)

def deeper (st st' : PSt) (d : Nat) : Nat := if byte st.s st.pos = 40 then max d st'.low.length else d

def PSt.smallB (st : PSt) : Bool :=
  st.pos ≤ 100000 && st.low.length ≤ 100000 && st.top.brs.length ≤ 100000 && st.top.pcs.length ≤ 100000 && st.groups ≤ 100000 && st.begun ≤ 100000 && st.looks ≤ 100000 && st.refs.length ≤ 100000 && st.top.num ≤ 100000 &&
    (match st.low.getLast? with | some f => f.brs.length ≤ 100000 && f.pcs.length ≤ 100000 | none => true)

/-- From one state to the end, by steps. -/
inductive Runs : PSt → Nat → PSt → Nat → Prop
  | done {st : PSt} {d : Nat} (h : st.pos = st.s.size) (hs : st.smallB = true) : Runs st d st d
  | more {st st' fin : PSt} {d e : Nat} (h : st.pos < st.s.size) (hs : st.smallB = true) (hd : d ≤ 100000) (hst : st.step = some st') (k : Runs st' (deeper st st' d) fin e) : Runs st d fin e

theorem PSt.smallB.small {st : PSt} (h : st.smallB = true) : st.Small ∧ st.top.num ≤ 100000 := by
  simp only [PSt.smallB, Bool.and_eq_true, decide_eq_true_eq] at h
  exact ⟨⟨by omega, by omega, by omega, by omega, by omega, by omega, by omega, by omega⟩, by omega⟩
theorem PSt.smallB.last {st : PSt} (h : st.smallB = true) {f : Fr} (hf : st.low.getLast? = some f) : (st.pop st.low.dropLast f).Small := by
  have h' := h
  simp only [PSt.smallB, Bool.and_eq_true, decide_eq_true_eq, hf] at h
  exact ⟨by simp only [PSt.pop]; omega, by simp only [PSt.pop, List.length_dropLast]; omega, by simp only [PSt.pop]; omega, by simp only [PSt.pop]; omega, by simp only [PSt.pop]; omega, by simp only [PSt.pop]; omega, by simp only [PSt.pop]; omega, by simp only [PSt.pop]; omega⟩

theorem step_s {st st' : PSt} (h : st.step = some st') : st'.s = st.s ∧ st.pos < st'.pos := by
  unfold PSt.step at h
  simp only [] at h
  repeat' split at h
  all_goals (try (cases h; done))
  all_goals (simp only [Option.some.injEq] at h; subst h; simp [PSt.put, PSt.enter, PSt.pop, PSt.bar, PSt.star])

theorem Runs.s {st fin : PSt} {d e : Nat} (h : Runs st d fin e) : fin.s = st.s := by
  induction h with
  | done => rfl
  | more _ _ _ hst _ ih => rw [ih, (step_s hst).1]

def runsN : Nat → PSt → Nat → Option (PSt × Nat)
  | 0, _, _ => none
  | n + 1, st, d =>
    if st.smallB = true ∧ d ≤ 100000 then
      if st.pos = st.s.size then some (st, d)
      else if st.pos < st.s.size then
        match st.step with
        | some st' => runsN n st' (deeper st st' d)
        | none => none
      else none
    else none

theorem runsN_runs : ∀ (n : Nat) (st : PSt) (d : Nat) (r : PSt × Nat), runsN n st d = some r → Runs st d r.1 r.2
  | 0, _, _, _, h => by simp [runsN] at h
  | n + 1, st, d, r, h => by
    unfold runsN at h
    split at h
    · rename_i hs
      split at h
      · rename_i hp; cases h; exact .done hp hs.1
      · split at h
        · rename_i hp
          split at h
          · rename_i st' hst
            exact .more hp hs.1 hs.2 hst (runsN_runs n _ _ _ h)
          · cases h
        · cases h
    · cases h

end Go.Proofs.Ytfgghbideoehjaa
