/-
  Replace at the document's example, at the general machine.
-/
import Derived.Test.YtfgghbideoehjaaPrtX
import Derived.Test.YtfgghbideoehjaaWmKToPrtS
import Derived.Stop.RegionWithIn
import Derived.Sort.CutIn
namespace Go.Proofs.Ytfgghbideoehjaa
open Go.RowKit Go.Shelf
set_option linter.unusedVariables false
set_option linter.unusedSimpArgs false
set_option maxRecDepth 100000

abbrev gs0 : List Int := [0, 2, 0, 1, 1, 2]
abbrev gs1 : List Int := [2, 4, 2, 3, 3, 4]

theorem gall2 (lk : Nat → Nat → Option Bool) : GAll (fin2.mc false false txt2) lk fin2.groups 0 [gs0, gs1] :=
  .hit (i := 0) (e := 2) (by decide) (find2a lk) rfl rfl rfl (by decide) (by decide) (by decide)
    (.hit (i := 2) (e := 4) (by decide) (find2b lk) rfl rfl rfl (by decide) (by decide) (by decide) (.miss (by decide) (find2c lk)))

/-- The bytes that come out. -/
abbrev outL : List UInt8 := [98, 97, 100, 99]

/-- Between two rounds: k matches are done. b0: the first of Replace's boxes; bb: its builder; D, l: the loop's own. -/
structure RJ (w : World) (mp tp pg pcap : Nat) (ra : Option Addr) (rc b0 bb D l : Nat) (rec : Loop) (k : Nat) (W : World) : Prop where
  mat : MAt W mp tp (fin2.mc false false txt2) fin2.groups pg pcap ra rc
  map : ∃ tr, MapAt W tp tr
  bs : W.heap[b0]? = some (.cells #[.string txt2] 9 (0, 0))
  bw : W.heap[b0 + 1]? = some (.cells #[.string wth2] 9 (0, 0))
  ba : W.heap[b0 + 2]? = some (.cells #[.bool true] 4 (0, 0))
  at' : W.heap[bb + 1]? = some (.cells #[.int .i64 ((2 * k : Nat) : Int)] 3 (0, 0))
  n : W.heap[bb + 2]? = some (.cells #[.int .i64 (k : Int)] 3 (0, 0))
  m : W.heap[bb + 3]? = some (.cells #[.pointer (some ⟨mp, 0, none⟩)] 53 (0, 0))
  bld : Lib.IsBuilder 76 5 bb bb (Lib.byteCells (outL.take (2 * k))) W
  rec' : W.heap[l]? = some (.loop rec)
  dfr : W.heap[D]? = some (.deferred (some []))
  bel : Below w.heap.size w W
  h0 : w.heap.size = b0
  htp : b0 + 3 ≤ tp
  htb : tp < bb
  hD : D = bb + 4
  hl : l = bb + 5

theorem RJ.but {w : World} {mp tp pg pcap : Nat} {ra : Option Addr} {rc b0 bb D l : Nat} {rec : Loop} {k : Nat} {W W' : World} (h : RJ w mp tp pg pcap ra rc b0 bb D l rec k W) (hb : But tp W W') (hm : ∃ tr, MapAt W' tp tr) : RJ w mp tp pg pcap ra rc b0 bb D l rec k W' := by
  have hD := h.hD
  have hl := h.hl
  have h1 := h.htp
  have h2 := h.htb
  have h0 := h.h0
  have key : ∀ {j : Nat} {o : Obj}, W.heap[j]? = some o → j ≠ tp → W'.heap[j]? = some o := fun {j o} hj hn => (hb.block j (Array.getElem?_eq_some_iff.1 hj).1 hn).trans hj
  exact { h with
    mat := h.mat.but hb
    map := hm
    bs := key h.bs (by omega)
    bw := key h.bw (by omega)
    ba := key h.ba (by omega)
    at' := key h.at' (by omega)
    n := key h.n (by omega)
    m := key h.m (by omega)
    bld := isBuilder_but h.bld hb h.htb
    rec' := key h.rec' (by omega)
    dfr := key h.dfr (by omega)
    bel := h.bel.trans (hb.below (by omega) h.bel.size) }

structure RoundF (b0 bb g : Nat) (k : Nat) (W : World) : Prop where
  ba : W.cell? ⟨b0 + 2, 0, none⟩ = some (.bool true)
  at' : W.cell? ⟨bb + 1, 0, none⟩ = some (.int .i64 (2 * (k : Int)))
  n : W.cell? ⟨bb + 2, 0, none⟩ = some (.int .i64 (k : Int))
  fat : W.frozen? ⟨bb + 1, 0, none⟩ = false
  fn : W.frozen? ⟨bb + 2, 0, none⟩ = false
  ends : W.cell? ⟨g, 1, none⟩ = some (.int .i64 (2 * (k : Int) + 2))

theorem Wrote.facts {b0 bb g k c : Nat} {A B : World} {bs : List UInt8} {gs : List Int} (h : Wrote bb A B bs) (hb : b0 + 2 < bb) (b2 : A.heap[b0 + 2]? = some (.cells #[.bool true] 4 (0, 0)))
    (b3 : A.heap[bb + 1]? = some (.cells #[.int .i64 ((2 * k : Nat) : Int)] 3 (0, 0))) (b4 : A.heap[bb + 2]? = some (.cells #[.int .i64 (k : Int)] 3 (0, 0)))
    (hb0 : ∀ cs, A.heap[bb]? = some (.cells cs 30 (0, 0)) → False) (hr : A.ownsRow 0 30 2 (.slice (some ⟨g, 0, none⟩) 3 c) 3 (gs.map intV)) (hg : gs[1]? = some (2 * (k : Int) + 2)) : RoundF b0 bb g k B := by
  have c2 := h.cell b2 (by omega) (by decide)
  have c3 := h.cell b3 (by omega) (by decide)
  have c4 := h.cell b4 (by omega) (by decide)
  have hr2 : B.ownsRow 0 30 2 (.slice (some ⟨g, 0, none⟩) 3 c) 3 (gs.map intV) := ownsRow_keep hr fun j c' hj hc => by
    rw [hc]
    exact h.cell hc (by rintro rfl; exact hb0 _ hc) (by decide)
  exact ⟨(cell_of_blk c2 0).trans rfl, (cell_of_blk c3 0).trans (by simp), (cell_of_blk c4 0).trans rfl, free_of_blk c3 0, free_of_blk c4 0, by
    rw [World.ownsRow.cellAt hr2 1 (by omega), List.getElem?_map, hg]; rfl⟩

theorem Wrote.len {bb : Nat} {A B : World} {bs : List UInt8} (h : Wrote bb A B bs) (b3 : ∃ v, A.heap[bb + 1]? = some (.cells #[v] 3 (0, 0))) (b4 : ∃ v, A.heap[bb + 2]? = some (.cells #[v] 3 (0, 0))) (v1 v2 : Value) :
    Lib.IsBuilder 76 5 bb bb (Lib.byteCells bs) ((B.setCell ⟨bb + 1, 0, none⟩ v1).setCell ⟨bb + 2, 0, none⟩ v2) := by
  obtain ⟨x3, h3⟩ := b3
  obtain ⟨x4, h4⟩ := b4
  have c3 := h.cell h3 (by omega) (by decide)
  have c4 := h.cell h4 (by omega) (by decide)
  refine isBuilder_keep h.bld fun j o hj hjo => ?_
  have n2 : j ≠ bb + 1 := by
    rintro rfl
    rw [c3] at hj
    rcases hjo with h | ⟨c, fz, rfl⟩
    · omega
    · cases hj
  have n3 : j ≠ bb + 2 := by
    rintro rfl
    rw [c4] at hj
    rcases hjo with h | ⟨c, fz, rfl⟩
    · omega
    · cases hj
  rw [heap_setCell_other _ _ _ _ (by exact n3), heap_setCell_other _ _ _ _ (by exact n2)]
  exact hj

/-- The world behind a round's body. -/
abbrev roundW (Wc : World) (bb : Nat) (v1 v2 : Value) : World := (Wc.setCell ⟨bb + 1, 0, none⟩ v1).setCell ⟨bb + 2, 0, none⟩ v2

theorem roundW_other (Wc : World) (bb : Nat) (v1 v2 : Value) {k : Nat} (h1 : k ≠ bb + 1) (h2 : k ≠ bb + 2) : (roundW Wc bb v1 v2).heap[k]? = Wc.heap[k]? :=
  (heap_setCell_other _ _ _ _ (by exact h2)).trans (heap_setCell_other _ _ _ _ (by exact h1))

structure REnd (bb k : Nat) (Wb W3 : World) : Prop where
  out : ∃ W6, Wrote bb Wb W6 (outL.take (2 * (k + 1))) ∧ W3 = (W6.setCell ⟨bb + 1, 0, none⟩ (.int .i64 (2 * (k : Int) + 2))).setCell ⟨bb + 2, 0, none⟩ (.int .i64 ((k : Int) + 1))

theorem rj_next {w : World} {mp tp pg pcap : Nat} {ra : Option Addr} {rc b0 bb D l : Nat} {rec busy : Loop} {k : Nat} {W Wc W3 : World} {sv : Value} {xs : List Value} {n : Nat} (hJ : RJ w mp tp pg pcap ra rc b0 bb D l rec k W) (hW : Wrote bb (W.putObj l (.loop busy)) Wc (outL.take (2 * (k + 1)))) (hrow : W.ownsRow 0 30 2 sv n xs)
    (h3 : W3.heap = (roundW Wc bb (.int .i64 ((2 * (k + 1) : Nat) : Int)) (.int .i64 ((k + 1 : Nat) : Int))).heap) (hos : W3.os = Wc.os ∧ W3.tape = Wc.tape ∧ W3.output = Wc.output) :
    W3.heap[l]? = some (.loop busy) ∧ RJ w mp tp pg pcap ra rc b0 bb D l rec (k + 1) (W3.putObj l (.loop rec)) ∧ (W3.putObj l (.loop rec)).ownsRow 0 30 2 sv n xs := by
  have hD := hJ.hD
  have hl := hJ.hl
  have h1 := hJ.htp
  have h2 := hJ.htb
  have h0 := hJ.h0
  have hll : l < W.heap.size := (Array.getElem?_eq_some_iff.1 hJ.rec').1
  -- what is no uint8 row, not the builder, not the two counters, not the record
  have keep : ∀ j o, W.heap[j]? = some o → (∀ c fz, o ≠ .cells c 5 fz) → j ≠ bb → j ≠ bb + 1 → j ≠ bb + 2 → j ≠ l → (W3.putObj l (.loop rec)).heap[j]? = some o := by
    intro j o hj ho n1 n2 n3 n4
    rw [World.putObj_heap_other n4, h3, roundW_other _ _ _ _ n2 n3]
    exact hW.oth j o ((World.putObj_heap_other n4).trans hj) (by simpa using n1) ho
  have keepC : ∀ (j : Nat) (c : Array Value) (T : TypeId), W.heap[j]? = some (.cells c T (0, 0)) → T ≠ 5 → T ≠ 76 → T ≠ 3 → (W3.putObj l (.loop rec)).heap[j]? = some (.cells c T (0, 0)) := by
    intro j c T hj n1 n2 n3
    refine keep j _ hj (by intro c f e; cases e; exact n1 rfl) ?_ ?_ ?_ ?_
    · rintro rfl
      rcases hJ.bld with ⟨_, v, hv, _⟩ | ⟨_, v, hv, _⟩ <;> (rw [hj] at hv; cases hv; exact n2 rfl)
    · rintro rfl; have := hJ.at'; rw [hj] at this; cases this; exact n3 rfl
    · rintro rfl; have := hJ.n; rw [hj] at this; cases this; exact n3 rfl
    · rintro rfl; have := hJ.rec'; rw [hj] at this; cases this
  have low : ∀ j, j < bb → (W3.putObj l (.loop rec)).heap[j]? = W.heap[j]? := by
    intro j hj
    rw [World.putObj_heap_other (by omega), h3, roundW_other _ _ _ _ (by omega) (by omega), hW.bel.block j hj, World.putObj_heap_other (by omega)]
  have hcnt : ∀ j v, W.heap[j]? = some (.cells #[v] 3 (0, 0)) → j ≠ bb → j ≠ l → Wc.heap[j]? = some (.cells #[v] 3 (0, 0)) := by
    intro j v hj n1 n2
    exact hW.cell ((World.putObj_heap_other n2).trans hj) n1 (by decide)
  have a1 := hcnt _ _ hJ.at' (by omega) (by omega)
  have a2 := hcnt _ _ hJ.n (by omega) (by omega)
  have e1 := heap_setCell_same _ _ 0 _ _ (.int .i64 ((2 * (k + 1) : Nat) : Int)) a1
  have e1' := (heap_setCell_other (Wc.setCell ⟨bb + 1, 0, none⟩ (.int .i64 ((2 * (k + 1) : Nat) : Int))) ⟨bb + 2, 0, none⟩ (bb + 1) (.int .i64 ((k + 1 : Nat) : Int)) (by simp)).trans e1
  have e2 := heap_setCell_same _ _ 0 _ _ (.int .i64 ((k + 1 : Nat) : Int)) ((heap_setCell_other Wc ⟨bb + 1, 0, none⟩ (bb + 2) (.int .i64 ((2 * (k + 1) : Nat) : Int)) (by simp)).trans a2)
  have hrec : W3.heap[l]? = some (.loop busy) := by
    rw [h3, roundW_other _ _ _ _ (by omega) (by omega)]
    exact hW.oth l _ (World.putObj_heap_same hll) (by simp; omega) (by intro c f e; cases e)
  refine ⟨hrec, ?_, ?_⟩
  · have hbel : Below bb W (W3.putObj l (.loop rec)) := by
      refine ⟨hos.1.trans hW.bel.os, hos.2.1.trans hW.bel.tape, hos.2.2.trans hW.bel.output, ?_, low⟩
      have hs := hW.bel.size
      rw [World.putObj_size] at hs
      rw [World.putObj_size, h3]
      simpa using hs
    obtain ⟨tr, htr⟩ := hJ.map
    exact { hJ with
      mat := by
        have hM := hJ.mat
        obtain ⟨root, deep, hk⟩ := hM.blk
        exact { hM with
          blk := ⟨root, deep, keepC _ _ _ hk (by decide) (by decide) (by decide)⟩
          row := ownsRow_keep hM.row fun j c hj hc => by
            rw [hc]
            exact keepC _ _ _ hc (by decide) (by decide) (by decide)
          refsr := ownsRow_keep hM.refsr fun j c hj hc => by
            rw [hc]
            exact keepC _ _ _ hc (by decide) (by decide) (by decide) }
      map := by
        obtain ⟨es, m, hk, ht⟩ := htr
        exact ⟨tr, es, m, (low _ h2).trans hk, ht⟩
      bs := (low _ (by omega)).trans hJ.bs
      bw := (low _ (by omega)).trans hJ.bw
      ba := (low _ (by omega)).trans hJ.ba
      at' := by rw [World.putObj_heap_other (by omega), h3]; exact e1'
      n := by rw [World.putObj_heap_other (by omega), h3]; exact e2
      m := keep _ _ hJ.m (by intro c f e; cases e) (by omega) (by omega) (by omega) (by omega)
      bld := isBuilder_keep hW.bld fun j o hj hjo => by
        have n1 : j ≠ l := by
          rintro rfl
          rw [h3, roundW_other _ _ _ _ (by omega) (by omega), hj] at hrec
          rcases hjo with rfl | ⟨c, fz, rfl⟩
          · omega
          · cases hrec
        have n2 : j ≠ bb + 1 := by
          rintro rfl
          rw [a1] at hj
          rcases hjo with h | ⟨c, fz, rfl⟩
          · omega
          · cases hj
        have n3 : j ≠ bb + 2 := by
          rintro rfl
          rw [a2] at hj
          rcases hjo with h | ⟨c, fz, rfl⟩
          · omega
          · cases hj
        rw [World.putObj_heap_other n1, h3, roundW_other _ _ _ _ n2 n3]
        exact hj
      rec' := World.putObj_heap_same (by have := (Array.getElem?_eq_some_iff.1 hrec).1; exact this)
      dfr := keep _ _ hJ.dfr (by intro c f e; cases e) (by omega) (by omega) (by omega) (by omega)
      bel := hJ.bel.trans (hbel.mono (by omega)) }
  · refine ownsRow_keep hrow fun j c hj hc => ?_
    rw [hc]
    exact keepC _ _ _ hc (by decide) (by decide) (by decide)

attribute [local go_sem] Oper.semAt_some

theorem slice_a (W : World) : (Instr.slice 9 (.string txt2) (some (.int .i64 0)) (some (.int .i64 0)) none).run Try.prog W = .ok (.string ⟨#[]⟩) W := by kernel_rfl

theorem slice_b (W : World) : (Instr.slice 9 (.string txt2) (some (.int .i64 2)) (some (.int .i64 2)) none).run Try.prog W = .ok (.string ⟨#[]⟩) W := by kernel_rfl

theorem slice_e (W : World) : (Instr.slice 9 (.string txt2) (some (.int .i64 4)) none none).run Try.prog W = .ok (.string ⟨#[]⟩) W := by kernel_rfl

structure EndA (D : Nat) (w : World) (a : Act) (W : World) : Prop where
  r0 : a.tmps.getD 12 undef = .string out2
  r1 : a.tmps.getD 13 undef = .int .i64 2
  r2 : a.tmps.getD 14 undef = .int .i64 0
  ds : a.defers = [{ target := .collected D, args := #[] }]
  dfr : W.heap[D]? = some (.deferred (some []))
  bel : Below w.heap.size w W

theorem len_four : ((Lib.byteCells outL).length : Int) = 4 := rfl

set_option maxHeartbeats 4000000 in
theorem replace_ex : ReplaceOk := by
  intro w
  refine (callsIn_wide (n := 8)).1 ?_
  refine callsIn_of_wp_marks Try.func24 rfl trivial ?_ rfl
  simp only [Try.ntmps24, List.size_toArray, List.length_cons, List.length_nil, Nat.reduceAdd, Nat.reduceSub, Array.replicate_succ, Array.replicate_zero, List.push_toArray, List.append_toArray, List.nil_append, List.cons_append]
  gi_wp2_with (first | (refine ⟨trivial, ?_⟩; gi_at_call 25; refine (callsIn_wide.2 (machined_ok _ pat2 txt2 false false fin2 1 pat2_ok (by decide))).mono ?_; rintro e w1 ⟨mp, tp, pg, pcap, ra, rc, rfl, hM, hmap, hbel, htp⟩; dsimp only; have HM := Lib.hid hM; have HMAP := Lib.hid hmap; have HBEL := Lib.hid hbel; have HTP := Lib.hid htp; clear hM hmap hbel htp) | (refine ⟨trivial, ?_⟩; gi_at_call 31; refine (callsIn_wide.2 (matches_fn _ _)).mono ?_; rintro e w2 ⟨rfl, hw2⟩; dsimp only; have HW2 := Lib.hid hw2; clear hw2))
  obtain ⟨b0, hb0⟩ : ∃ b0, b0 = w.heap.size := ⟨_, rfl⟩
  obtain ⟨bb, hbb⟩ : ∃ bb, bb = w1.heap.size := ⟨_, rfl⟩
  have hw2 := HW2.out
  obtain ⟨A1, hA1, sA1, a1N, a1O, bA1⟩ := alloc_pack w1 #[.pointer none, .slice none 0 0] 76
  obtain ⟨A2, hA2, sA2, a2N, a2O, bA2⟩ := alloc_pack A1 #[.int .i64 0] 3
  obtain ⟨A3, hA3, sA3, a3N, a3O, bA3⟩ := alloc_pack A2 #[.int .i64 0] 3
  obtain ⟨A4, hA4, sA4, a4N, a4O, bA4⟩ := alloc_pack A3 #[.pointer (some ⟨mp, 0, none⟩)] 53
  rw [hA1, hA2, hA3, hA4] at hw2
  subst hw2
  rw [hA1, hA2, hA3]
  have eg := enters_of (P := Try.prog) (f := 64) Try.func64 (by kernel_rfl) rfl
  refine range_enter rfl (by omega) (gf := 64) (lb := #[.pointer (some ⟨A3.heap.size, 0, none⟩)]) rfl trivial eg ?_
  intro fn hfn
  generalize hRec : recOf fn _ #[34] _ _ _ LoopState.ready none = rec
  have sz1 := sA1
  have hB : A3.heap.size = w1.heap.size + 3 := by omega
  have hD : w2.heap.size = w1.heap.size + 4 := by omega
  refine (matches_all 7 (by omega) mp tp (fin2.mc false false txt2) (lkD (fin2.mc false false txt2) 0) fin2.groups pg pcap ra rc [gs0, gs1] (fun k W => RJ w mp tp pg pcap ra rc w.heap.size w1.heap.size w2.heap.size (w2.heap.size + 1) rec k W) (w2.heap.size + 1) A3.heap.size ?hJM ?hJB (gall2 _) (by decide) ?hY _ ?h0).mono ?post
  case hJM =>
    intro k W h
    exact ⟨h.mat, looks_any 0 _ W mp tp _ _ _ _ _ h.mat, h.map, by rw [hB]; exact (cell_of_blk h.m 0).trans rfl⟩
  case hJB =>
    intro k W W' h hb hm
    exact h.but hb hm
  case h0 =>
    have hb1 := HBEL.out
    have htp := HTP.out
    simp only [World.size_alloc] at htp
    have hw1 : w.heap.size + 3 ≤ w1.heap.size := by have := hb1.size; simp only [World.size_alloc] at this; omega
    have hX0 := (al_old ((w.alloc (.cells #[.string txt2] 9)).alloc (.cells #[.string wth2] 9)) (.cells #[.bool true] 4) w.heap.size (by simp <;> omega)).trans ((al_old (w.alloc (.cells #[.string txt2] 9)) (.cells #[.string wth2] 9) w.heap.size (by simp <;> omega)).trans (heap_alloc_new w (.cells #[.string txt2] 9)))
    have hX1b := heap_alloc_new (w.alloc (.cells #[.string txt2] 9)) (.cells #[.string wth2] 9)
    rw [World.size_alloc] at hX1b
    have hX1c := al_old ((w.alloc (.cells #[.string txt2] 9)).alloc (.cells #[.string wth2] 9)) (.cells #[.bool true] 4) (w.heap.size + 1) (by simp)
    have hX1 := hX1c.trans hX1b
    have hX2 := heap_alloc_new ((w.alloc (.cells #[.string txt2] 9)).alloc (.cells #[.string wth2] 9)) (.cells #[.bool true] 4)
    simp only [World.size_alloc] at hX2
    have hold : ∀ j, j < w1.heap.size → ((w2.alloc (.deferred (some []))).alloc (.loop rec)).heap[j]? = w1.heap[j]? := fun j hj => by
      rw [al_old _ _ _ (by simp <;> omega), al_old _ _ _ (by omega), a4O j (by omega), a3O j (by omega), a2O j (by omega), a1O j hj]
    have hlow : ∀ j, j < w.heap.size + 3 → ((w2.alloc (.deferred (some []))).alloc (.loop rec)).heap[j]? = (((w.alloc (.cells #[.string txt2] 9)).alloc (.cells #[.string wth2] 9)).alloc (.cells #[.bool true] 4)).heap[j]? := fun j hj => by
      rw [hold j (by omega), hb1.block j (by simp <;> omega)]
    have ltp : tp < w1.heap.size := by obtain ⟨es, mm, h, _⟩ := HMAP.out; exact (Array.getElem?_eq_some_iff.1 h).1
    have hW : Below w1.heap.size w1 ((w2.alloc (.deferred (some []))).alloc (.loop rec)) := (((bA1.trans (bA2.mono (by omega))).trans (bA3.mono (by omega))).trans (bA4.mono (by omega))).trans ((((Below.refl w1.heap.size w2).alloc (by omega) _).alloc (by simp <;> omega) _))
    exact {
      mat := HM.out.but (But.ofBelow hW)
      map := ⟨[], HMAP.out.but (hold tp ltp)⟩
      bs := (hlow _ (by omega)).trans hX0
      bw := (hlow _ (by omega)).trans hX1
      ba := (hlow _ (by omega)).trans hX2
      at' := by
        rw [al_old _ _ _ (by simp <;> omega), al_old _ _ _ (by omega), a4O _ (by omega), a3O _ (by omega), ← sA1]; exact a2N
      n := by
        rw [al_old _ _ _ (by simp <;> omega), al_old _ _ _ (by omega), a4O _ (by omega), show w1.heap.size + 2 = A2.heap.size by omega]; exact a3N
      m := by
        rw [al_old _ _ _ (by simp <;> omega), al_old _ _ _ (by omega), ← hB]; exact a4N
      bld := by
        have h9 := Lib.fresh_isBuilder 76 5 w1
        rw [hA1] at h9
        exact isBuilder_but h9 (But.ofBelow (b := tp) (((bA2.trans (bA3.mono (by omega))).trans (bA4.mono (by omega))).trans ((((Below.refl A1.heap.size w2).alloc (by omega) _).alloc (by simp <;> omega) _)))) ltp
      rec' := by have := heap_alloc_new (w2.alloc (.deferred (some []))) (.loop rec); rw [World.size_alloc] at this; exact this
      dfr := (al_old _ _ _ (by simp)).trans (heap_alloc_new w2 _)
      bel := by
        have h1 : Below w.heap.size w (((w.alloc (.cells #[.string txt2] 9)).alloc (.cells #[.string wth2] 9)).alloc (.cells #[.bool true] 4)) := (((Below.refl _ w).alloc (Nat.le_refl _) _).alloc (by simp) _).alloc (by simp <;> omega) _
        exact (h1.trans (hb1.mono (by simp <;> omega))).trans (hW.mono (by omega))
      h0 := rfl
      htp := by omega
      htb := ltp
      hD := by omega
      hl := by omega }
  case hY =>
    intro k W sv gs hJ hgs0 hrow0
    have hgs : k = 0 ∧ gs = gs0 ∨ k = 1 ∧ gs = gs1 := by
      match k, hgs0 with
      | 0, h => cases h; exact .inl ⟨rfl, rfl⟩
      | 1, h => cases h; exact .inr ⟨rfl, rfl⟩
      | k + 2, h => simp at h
    have hrow : W.ownsRow 0 30 2 sv 3 (gs.map intV) := hrow0
    clear hgs0 hrow0
    have hl := hJ.rec'
    rw [← hRec] at hl
    refine range_round (v := sv) (R := fun W' => RJ w mp tp pg pcap ra rc w.heap.size w1.heap.size w2.heap.size (w2.heap.size + 1) rec (k + 1) W' ∧ W'.ownsRow 0 30 2 sv 3 (gs.map intV)) (a₁ := ?a1) rfl trivial hl ?assign ?body
    case assign =>
      intro K hK
      gi_wp2
      exact hK
    case body =>
      have hlt : w2.heap.size + 1 < W.heap.size := (Array.getElem?_eq_some_iff.1 hl).1
      obtain ⟨g, c, rfl⟩ := ownsRow_succ' (n := 2) hrow
      have hk : k < 2 := by rcases hgs with ⟨h, _⟩ | ⟨h, _⟩ <;> omega
      have hf : gs[0]? = some (2 * (k : Int)) ∧ gs[1]? = some (2 * (k : Int) + 2) := by
        rcases hgs with ⟨rfl, rfl⟩ | ⟨rfl, rfl⟩ <;> exact ⟨rfl, rfl⟩
      generalize hWb : W.putObj (w2.heap.size + 1) _ = Wb
      have hoth : ∀ j, j ≠ w2.heap.size + 1 → Wb.heap[j]? = W.heap[j]? := fun j hj => by rw [← hWb]; exact World.putObj_heap_other hj
      have c0 : Wb.cell? ⟨w.heap.size, 0, none⟩ = some (.string txt2) := (cell_of_blk ((hoth _ (by have := hJ.htp; have := hJ.htb; omega)).trans hJ.bs) 0).trans rfl
      have c1 : Wb.cell? ⟨w1.heap.size + 1, 0, none⟩ = some (.int .i64 (2 * (k : Int))) := (cell_of_blk ((hoth _ (by omega)).trans hJ.at') 0).trans rfl
      have lg : g < W.heap.size := (World.ownsRow.lt hrow g rfl).2
      have hlD := hJ.hl
      have hbld : Lib.IsBuilder 76 5 w1.heap.size w1.heap.size (Lib.byteCells (outL.take (2 * k))) Wb := isBuilder_keep hJ.bld fun j o hj hjo => by
        refine (hoth j ?_).trans hj
        rintro rfl
        rw [hJ.rec'] at hj
        rcases hjo with h | ⟨c, fz, rfl⟩
        · omega
        · cases hj
      have hlen : (outL.take (2 * k)).length ≤ 100 := by simp; omega
      have e0 : (2 * (k : Int)).toNat = 2 * k := by omega
      have hrowb : Wb.ownsRow 0 30 2 (.slice (some ⟨g, 0, none⟩) 3 c) 3 (gs.map intV) := ownsRow_keep hrow fun j c' hj hc => by
        refine hoth j ?_
        rintro rfl
        rw [hJ.rec'] at hc; cases hc
      have x0 : Wb.cell? ⟨g, 0, none⟩ = some (.int .i64 (2 * (k : Int))) := by rw [World.ownsRow.cellAt hrowb 0 (by omega), List.getElem?_map, hf.1]; rfl
      have HBLD := Lib.hid hbld
      have HROWB := Lib.hid hrowb
      have HJ := Lib.hid hJ
      have HROW := Lib.hid hrow
      have HGS := Lib.hid hgs
      have HOTH := Lib.hid hoth
      have HWB := Lib.hid hWb
      have lbw : w1.heap.size ≤ Wb.heap.size := by rw [← hWb]; simp; omega
      clear hbld hrowb hJ hrow hgs hoth hWb hl
      have hq0 : (0 : Int) ≤ 2 * (k : Int) := by omega
      have hq4 : (2 * (k : Int)) ≤ 4 := by omega
      obtain ⟨q, hq⟩ : ∃ q : Int, q = 2 * (k : Int) := ⟨_, rfl⟩
      rw [← hq] at c1 x0 hq0 hq4
      have HQQ := Lib.hid hq
      have HF := Lib.hid hf
      have hsl : ∀ W, (Instr.slice 9 (.string txt2) (some (.int .i64 q)) (some (.int .i64 q)) none).run Try.prog W = .ok (.string ⟨#[]⟩) W := by
        intro W
        have : q = 0 ∨ q = 2 := by omega
        rcases this with rfl | rfl
        · exact slice_a W
        · exact slice_b W
      clear hq hf e0 hq4 hq0
      refine wpIn_mono (Q := fun e _ W3 => e = .normal ∧ REnd w1.heap.size k Wb W3) ?walk ?fin
      case fin =>
        rintro e a3 W3 ⟨rfl, ⟨W6, hw6, rfl⟩⟩
        have e1 : ((2 * (k + 1) : Nat) : Int) = 2 * (k : Int) + 2 := by omega
        have e2 : ((k + 1 : Nat) : Int) = (k : Int) + 1 := by omega
        rw [← HWB.out] at hw6
        obtain ⟨g1, g2, g3⟩ := rj_next (W3 := (W6.setCell ⟨w1.heap.size + 1, 0, none⟩ (.int .i64 (2 * (k : Int) + 2))).setCell ⟨w1.heap.size + 2, 0, none⟩ (.int .i64 ((k : Int) + 1))) HJ.out hw6 HROW.out (by rw [e1, e2]) ⟨rfl, rfl, rfl⟩
        refine ⟨rfl, g1, ?_⟩
        rw [hRec]
        exact ⟨g2, g3⟩
      gi_upto_region 8 with (fail)
      gi_cut [] from 60 (fun wc => Wrote w1.heap.size Wb wc (outL.take (2 * k)))
      case first =>
        gi_region_with (refine ⟨trivial, ?_⟩; gi_at_call 40; refine (CallsIn.inRound _ (callsIn_wide.2 (writeString_k w1.heap.size w1.heap.size _ _ Wb.drew (by exact HBLD.out) (by simp only [Lib.byteCells, List.length_map]; show _ + 0 ≤ _; omega) (by exact lbw)))).mono ?_; rintro e w' ⟨rfl, hq⟩; have HQ := Lib.hid hq; clear hq; dsimp only)
        all_goals
          have hwr : Wrote w1.heap.size Wb w' (outL.take (2 * k)) := by
            obtain ⟨h1, h2, h3⟩ := HQ.out
            exact ⟨.inr (by simpa [Lib.strCells] using h1), ⟨h2.os, h2.tape, h2.output, h2.size, h2.block⟩, h3⟩
          clear HQ
          gi_wp2_with (fail)
          gi_meet
          case rel => exact hwr
      case rest =>
        have hJ := HJ.out
        have hoth := HOTH.out
        have HCUT := Lib.hid hcut
        have lwc : w1.heap.size ≤ wc.heap.size := by have := hcut.bel.size; omega
        have lgw : g < wc.heap.size := by
          have := hcut.bel.size
          rw [← HWB.out] at this
          simp at this
          omega
        have b0 : Wb.heap[w.heap.size]? = some (.cells #[.string txt2] 9 (0, 0)) := (hoth _ (by have := hJ.htp; have := hJ.htb; omega)).trans hJ.bs
        have b1 : Wb.heap[w.heap.size + 1]? = some (.cells #[.string wth2] 9 (0, 0)) := (hoth _ (by have := hJ.htp; have := hJ.htb; omega)).trans hJ.bw
        have b2 : Wb.heap[w.heap.size + 2]? = some (.cells #[.bool true] 4 (0, 0)) := (hoth _ (by have := hJ.htp; have := hJ.htb; omega)).trans hJ.ba
        have b3 : Wb.heap[w1.heap.size + 1]? = some (.cells #[.int .i64 ((2 * k : Nat) : Int)] 3 (0, 0)) := (hoth _ (by omega)).trans hJ.at'
        have b4 : Wb.heap[w1.heap.size + 2]? = some (.cells #[.int .i64 (k : Int)] 3 (0, 0)) := (hoth _ (by omega)).trans hJ.n
        have lo2 := hJ.htp
        have lo3 := hJ.htb
        have c0' := hcut.cell b0 (by omega) (by decide)
        have c1' := hcut.cell b1 (by omega) (by decide)
        have d0 : wc.cell? ⟨w.heap.size, 0, none⟩ = some (.string txt2) := (cell_of_blk c0' 0).trans rfl
        have d1 : wc.cell? ⟨w.heap.size + 1, 0, none⟩ = some (.string wth2) := (cell_of_blk c1' 0).trans rfl
        have hrc : wc.ownsRow 0 30 2 (.slice (some ⟨g, 0, none⟩) 3 c) 3 (gs.map intV) := ownsRow_keep HROWB.out fun j c' hj hc => by
          rw [hc]
          refine hcut.cell hc ?_ (by decide)
          rintro rfl
          rcases HBLD.out with ⟨_, v, hv, _⟩ | ⟨_, v, hv, _⟩ <;> (rw [hc] at hv; cases hv)
        have hex : ∃ o : List UInt8, Exp wth2 txt2 gs 0 o ∧ o.length = 2 ∧ outL.take (2 * k) ++ o = outL.take (2 * (k + 1)) := by
          rcases HGS.out with ⟨rfl, rfl⟩ | ⟨rfl, rfl⟩
          · exact ⟨_, exp2a, rfl, rfl⟩
          · exact ⟨_, exp2b, rfl, rfl⟩
        obtain ⟨o, hexp, hol, hout⟩ := hex
        have hgl : gs.length = 3 * 2 := by rcases HGS.out with ⟨_, rfl⟩ | ⟨_, rfl⟩ <;> rfl
        have HE := Lib.hid (expand_fn wc wth2 txt2 g 3 c gs o hexp (by omega) (by decide) (by decide) (by decide) hgl (fun j u hj => by
          have := World.ownsRow.cells hrc (g := g) rfl j u hj
          rw [show ((⟨g, 0, none⟩ : Addr).add j) = ⟨g, j, none⟩ from (by unfold Addr.add; simp; omega)] at this
          exact this) lgw)
        have HB := Lib.hid (And.intro b2 (And.intro b3 b4))
        have HOUT := Lib.hid (And.intro hol hout)
        have HRC := Lib.hid hrc
        clear hJ hoth hcut b0 b1 b2 b3 b4 c0' c1' hrc hexp hol hout hgl c0 c1 x0 hsl
        gi_wp2_with (refine ⟨trivial, ?_⟩; gi_at_call 41; refine (CallsIn.inRound _ (callsIn_wide.2 HE.out)).mono ?_; rintro e w5 ⟨rfl, hb5⟩; dsimp only; have HB5 := Lib.hid hb5; clear hb5)
        have lw5 : w1.heap.size ≤ w5.heap.size := by have := HB5.out.size; omega
        have hbl5 : Lib.IsBuilder 76 5 w1.heap.size w1.heap.size (Lib.byteCells (outL.take (2 * k))) w5 := isBuilder_keep HCUT.out.bld fun j x hj _ => (HB5.out.block j (Array.getElem?_eq_some_iff.1 hj).1).trans hj
        have HBL5 := Lib.hid hbl5
        have HL5 := Lib.hid lw5
        clear hbl5 lw5
        have hno : ∀ cs, Wb.heap[w1.heap.size]? = some (.cells cs 30 (0, 0)) → False := by
          intro cs hc
          rcases HBLD.out with ⟨_, v, hv, _⟩ | ⟨_, v, hv, _⟩ <;> (rw [hc] at hv; cases hv)
        have HNO := Lib.hid hno
        have hlt2 : w.heap.size + 2 < w1.heap.size := by omega
        clear hno
        gi_wp2_with (refine ⟨trivial, ?_⟩; gi_at_call 40; refine (CallsIn.inRound _ (callsIn_wide.2 (writeString_k w1.heap.size w1.heap.size _ _ w5 (by exact HBL5.out) (by have := HOUT.out.1; simp only [Lib.byteCells, List.length_map]; show _ + o.length ≤ _; omega) (by exact HL5.out)))).mono ?_; rintro e w6 ⟨rfl, hq⟩; dsimp only; have hwn := HCUT.out.next lwc HB5.out hq; rw [HOUT.out.2] at hwn; obtain ⟨y0, y1, y2, y3, y4, y5⟩ := hwn.facts (g := g) (k := k) hlt2 HB.out.1 HB.out.2.1 HB.out.2.2 HNO.out HROWB.out (by rw [HF.out.2]); have HWN := Lib.hid hwn; clear hq hwn)
        have hln := HWN.out.len ⟨_, HB.out.2.1⟩ ⟨_, HB.out.2.2⟩ (.int .i64 (2 * (k : Int) + 2)) (.int .i64 ((k : Int) + 1))
        have hl9 : (Lib.byteCells (outL.take (2 * (k + 1)))).length ≤ 4 := by simp only [Lib.byteCells, List.length_map, List.length_take]; show min _ 4 ≤ 4; omega
        have hl8 : ¬ ((65536 : Int) < ((Lib.byteCells (outL.take (2 * (k + 1)))).length : Int)) := by omega
        have HLN := Lib.hid hln
        clear hln hl9
        generalize hlen9 : ((Lib.byteCells (outL.take (2 * (k + 1)))).length : Int) = len9 at hl8
        gi_wp2_with (refine ⟨trivial, ?_⟩; gi_at_call 42; refine (CallsIn.inRound _ (callsIn_wide.2 (Try.Builder_Len w1.heap.size w1.heap.size _ _ HLN.out))).mono ?_; rintro e w7 ⟨rfl, rfl⟩; dsimp only; rw [hlen9])
        exact ⟨⟨_, HWN.out, rfl⟩⟩
  case post =>
    rintro e W ⟨⟨v, rfl⟩, hJ⟩
    have hlD := hJ.hl
    have hDD := hJ.hD
    have lo2 := hJ.htp
    have lo3 := hJ.htb
    have hl := hJ.rec'
    have hbo := hJ.bld
    have hel := run_endLoop (P := Try.prog) hl (by rw [← hRec]; simp)
    have hpend : rec.pending = none := by rw [← hRec]
    refine ⟨_, _, hel, ?_⟩
    rw [hpend]
    dsimp only
    generalize hW0 : W.putObj (w2.heap.size + 1) (Obj.loop _) = W0
    simp only [List.append_nil]
    have hoth : ∀ j, j ≠ w2.heap.size + 1 → W0.heap[j]? = W.heap[j]? := fun j hj => by rw [← hW0]; exact World.putObj_heap_other hj
    have hbel : Below w.heap.size w W0 := by
      have := hJ.bel
      refine ⟨by rw [← hW0]; exact this.os, by rw [← hW0]; exact this.tape, by rw [← hW0]; exact this.output, by rw [← hW0]; simpa using this.size, fun j hj => (hoth j (by omega)).trans (this.block j hj)⟩
    have p0 := (hoth _ (by omega)).trans hJ.bs
    have p3 := (hoth _ (by omega)).trans hJ.at'
    have p4 := (hoth _ (by omega)).trans hJ.n
    have p5 := (hoth w2.heap.size (by omega)).trans hJ.dfr
    have hbld : Lib.IsBuilder 76 5 w1.heap.size w1.heap.size (Lib.byteCells outL) W0 := isBuilder_keep hbo fun j o hj hjo => by
      refine (hoth j ?_).trans hj
      rintro rfl
      rw [hl] at hj
      rcases hjo with h | ⟨c, fz, rfl⟩
      · omega
      · cases hj
    have lb0 : w1.heap.size ≤ W0.heap.size := by
      have := (Array.getElem?_eq_some_iff.1 p5).1
      omega
    have q0 : W0.cell? ⟨w.heap.size, 0, none⟩ = some (.string txt2) := (cell_of_blk p0 0).trans rfl
    have q3 : W0.cell? ⟨w1.heap.size + 1, 0, none⟩ = some (.int .i64 4) := (cell_of_blk p3 0).trans rfl
    have HBLD := Lib.hid hbld
    have HBEL0 := Lib.hid hbel
    have HP := Lib.hid (And.intro p4 p5)
    have HL0 := Lib.hid lb0
    have HLO := Lib.hid (And.intro (And.intro lo2 lo3) (And.intro hlD hDD))
    clear hJ hl hbo hel hpend hoth hbel p0 p3 p4 p5 hbld lb0 hW0
    have hsl := slice_e
    gi_wp2_with (first | (refine ⟨trivial, ?_⟩; gi_at_call 40; refine (callsIn_wide.2 (writeString_k w1.heap.size w1.heap.size _ _ W0 (by exact HBLD.out) (by decide) (by exact HL0.out))).mono ?_; rintro e w5 ⟨rfl, hq⟩; dsimp only; have hwr : Wrote w1.heap.size W0 w5 outL := ⟨.inr (by simpa [Lib.strCells] using hq.1), hq.2.1, hq.2.2⟩; have HWR := Lib.hid hwr; clear hq hwr) | (refine ⟨trivial, ?_⟩; gi_at_call 42; refine (callsIn_wide.2 (Try.Builder_Len w1.heap.size w1.heap.size _ _ HWR.out.bld)).mono ?_; rintro e w7 ⟨rfl, rfl⟩; dsimp only; rw [len_four]))
    have hwr := HWR.out
    have hp := HP.out
    have n7 := hwr.cell hp.1 (by omega) (by decide)
    have hD7 : w7.heap[w1.heap.size + 1 + 1 + 1 + 1]? = some (.deferred (some [])) := by
      have h := hwr.oth _ _ hp.2 (by have := HLO.out; simp; omega) (by intro c f e; cases e)
      rw [HLO.out.2.2] at h
      exact h
    have m7 : w7.cell? ⟨w1.heap.size + 1 + 1, 0, none⟩ = some (.int .i64 2) := (cell_of_blk n7 0).trans rfl
    have hbw : w1.heap.size ≤ w7.heap.size := by have := hwr.bel.size; have := HL0.out; omega
    have hb7 : Below w.heap.size w w7 := HBEL0.out.trans (hwr.bel.mono (by have := HLO.out; omega))
    have N7 := Lib.hid n7
    have D7 := Lib.hid hD7
    have B7 := Lib.hid hb7
    clear hwr hp n7 hD7 hb7 hbw q0 q3 hsl
    have hstr : Calls Try.prog 36 #[.pointer (some ⟨w1.heap.size, 0, none⟩)] w7.drew fun e w8 => e = .returned (.string ⟨outL.toArray⟩) ∧ w8.cell? ⟨w1.heap.size + 1 + 1, 0, none⟩ = some (.int .i64 2) ∧ Hid (w8.heap[w1.heap.size + 1 + 1 + 1 + 1]? = some (.deferred (some []))) ∧ Hid (Below w.heap.size w w8) := by
      refine (Try.Builder_String_k w1.heap.size w1.heap.size outL w7.drew (Lib.IsBuilderF.of (by exact HWR.out.bld)) (by decide)).mono ?_
      rintro e w8 ⟨rfl, hq1, hq2, hq3⟩
      have hx : Below w1.heap.size w7 w8 := ⟨hq2.os, hq2.tape, hq2.output, hq2.size, hq2.block⟩
      exact ⟨rfl, (cell_of_blk (hq3 _ _ (by exact N7.out) (by simp; omega) (by intro c f e; cases e)) 0).trans rfl, Lib.hid (hq3 _ _ (by exact D7.out) (by simp; omega) (by intro c f e; cases e)), Lib.hid (B7.out.trans (hx.mono (by have := HLO.out; omega)))⟩
    refine wpIn_mono (Q := Exit.then (EndA (w1.heap.size + 1 + 1 + 1 + 1) w) (fun _ _ _ => False)) ?_ ?_
    · gi_region_with (refine ⟨trivial, ?_⟩; gi_at_call 36; refine (callsIn_wide.2 hstr).mono ?_; rintro e w8 ⟨rfl, m8, D8, B8⟩; dsimp only)
      all_goals exact ⟨rfl, rfl, rfl, rfl, D8.out, B8.out⟩
    · intro e a3 W3 hE
      cases e with
      | normal =>
        have hE' : EndA (w1.heap.size + 1 + 1 + 1 + 1) w a3 W3 := hE
        have HE := Lib.hid hE'
        clear hE hE'
        gi_wp2_with (fail)
        show LeavesInM _ _ _ _ _ _ a3.defers _ _
        rw [HE.out.ds]
        refine ⟨by simp, .inl ⟨_, _, rfl, run_takeDeferred HE.out.dfr, ?_⟩⟩
        refine ⟨_, results_tmp3 rfl _ _ _, ?_⟩
        rw [HE.out.r0, HE.out.r1, HE.out.r2]
        have hb := HE.out.bel
        exact ⟨rfl, hb.os, hb.tape, hb.output, by simpa using hb.size, fun j hj => (World.putObj_heap_other (by have := HLO.out; omega)).trans (hb.block j hj)⟩
      | _ => exact False.elim hE

end Go.Proofs.Ytfgghbideoehjaa
