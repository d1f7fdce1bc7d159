/-
  strings.Builder's WriteString over this dump, with the frame that reaches above the builder.
  Replace at the document's example: what lies in memory between two rounds.
  A range over a function: the loop's record laid, the iterator called; one round out of its body's walk. Over variables.
  Replace at the example: one round, in memory.
-/
import Derived.Test.YtfgghbideoehjaaStrToLitB
import Derived.Lib.OthersKept
import Derived.Test.YtfgghbideoehjaaRepA
import Derived.Test.YtfgghbideoehjaaExpAToAwakeC
import Derived.RangeFuncRecord
namespace Go.Proofs.Ytfgghbideoehjaa
open Go.ChangeShapes Go.WideShapes Go.ChangeAt Go.RowKit
set_option linter.unusedVariables false
set_option linter.unusedSimpArgs false
set_option maxRecDepth 100000

theorem copyCheck_k (B b : Nat) (bs : List Value) (w : World) (h : Lib.IsBuilder 76 5 B b bs w) :
    Calls Try.prog 66 #[.pointer (some ⟨b, 0, none⟩)] w fun e w' => e = .returned (.tuple #[]) ∧ (Lib.BuilderAt 76 5 B b (.pointer (some ⟨b, 0, none⟩)) bs w' ∧ Below B w w' ∧ Lib.OthersKept 5 (some b) w w') := by
  rcases h with h | h
  · refine (copyCheck_fresh b w h.cell0 h.shape h.frozen0).mono ?_
    rintro e w' ⟨rfl, rfl⟩
    exact ⟨rfl, h.used _, (Below.refl B w).setCell (p := ⟨b, 0, none⟩) h.1 _, (Lib.OthersKept.refl 5 (some b) w).setCell ⟨b, 0, none⟩ rfl _⟩
  · refine (copyCheck_used b w h.cell0).mono ?_
    rintro e w' ⟨rfl, rfl⟩
    exact ⟨rfl, h, Below.refl B _, Lib.OthersKept.refl _ _ _⟩

set_option maxHeartbeats 400000 in
theorem writeString_k (B b : Nat) (bs : List Value) (s : ByteArray) (w : World) (h : Lib.IsBuilder 76 5 B b bs w) (hlen : bs.length + s.size ≤ 140737488355328) (hBw : B ≤ w.heap.size) :
    Calls Try.prog 40 #[.pointer (some ⟨b, 0, none⟩), .string s] w fun e w' => e = .returned (.tuple #[.int .i64 s.size, .nilIface]) ∧ (Lib.BuilderAt 76 5 B b (.pointer (some ⟨b, 0, none⟩)) (bs ++ Lib.strCells s) w' ∧ Below B w w' ∧ Lib.OthersKept 5 (some b) w w') := by
  obtain ⟨i0, hi, hz0, hz1, hz2⟩ := info_parts infoByte
  go_enter Try.func40, Try.ntmps40
  go_wp2_with (go_at_call 66; refine (copyCheck_k B b bs _ h).mono ?_)
  rintro e w1 ⟨rfl, h1, hb1, hk1⟩
  obtain ⟨hB, v, hbk, hown, hne⟩ := h1
  have HK1 := Lib.hid hk1
  clear hk1
  have c0 : w1.cell? ⟨b, 0, none⟩ = some (.pointer (some ⟨b, 0, none⟩)) := by rw [Lib.cell_of_heap hbk]; rfl
  have c1 : w1.cell? ⟨b, 1, none⟩ = some v := by rw [Lib.cell_of_heap hbk]; rfl
  go_wp2_with (at_builtin; refine Lib.wpList_append_own_string _ rfl _ _ 74 9 rfl B 5 i0 Try.underlying74 Try.underlying9 hi hz0 hz1 hz2 _ _ _ rfl hown s rfl ?c3 ?c4 ?c5 ?_)
  case c3 => unfold maxLen; omega
  case c4 => omega
  case c5 => have := hb1.size; omega
  intro v' w2 hown' hgrow _
  have hlt : b < w1.heap.size := by
    rcases Nat.lt_or_ge b w1.heap.size with h' | h'
    · exact h'
    · simp [Array.getElem?_eq_none h'] at hbk
  have hb2 : w2.heap[b]? = some (.cells #[.pointer (some ⟨b, 0, none⟩), v] 76 (0, 0)) := by
    rw [hgrow.block b hlt (fun e => hne e.symm)]
    exact hbk
  have hk2 : Lib.OthersKept 5 (some b) w w2 := HK1.out.grown hgrow (fun g hg => by
    rcases hown.2 with ⟨hv, _⟩ | ⟨g', cap, cur, hv, hbg, hcur, _⟩
    · rw [hv] at hg; cases hg
    · have e : (Value.slice (some ⟨g', 0, none⟩) bs.length cap).ownBlock = some g := by rw [← hv]; exact hg
      cases e
      exact ⟨_, _, hcur⟩)
  have HK2 := Lib.hid hk2
  clear hk2
  have d0 : w2.cell? ⟨b, 0, none⟩ = some (.pointer (some ⟨b, 0, none⟩)) := by rw [Lib.cell_of_heap hb2]; rfl
  have d1 : w2.cell? ⟨b, 1, none⟩ = some v := by rw [Lib.cell_of_heap hb2]; rfl
  have f1 : w2.frozen? ⟨b, 1, none⟩ = false := Lib.frozen_of_heap hb2 1
  obtain ⟨ao, n', cap, rfl⟩ : ∃ ao n' cap, v' = .slice ao n' cap := by
    rcases hown'.2 with ⟨hv, _⟩ | ⟨g, cap, cur, hv, _⟩
    · exact ⟨_, _, _, hv⟩
    · exact ⟨_, _, _, hv⟩
  go_wp2
  go_ret2
  refine ⟨rfl, ?_, ?_, ?_⟩
  · exact Lib.BuilderAt.put (T := 76) (e := 5) hB hb2 (bs' := bs ++ Lib.strCells s) (by simpa [Lib.strCells_length] using hown') (by decide)
  · exact (hb1.grown hgrow (by have := hb1.size; omega) (fun k hk => (hown.lt k hk).1)).setCell (p := ⟨b, 1, none⟩) hB _
  · exact HK2.out.setCell ⟨b, 1, none⟩ rfl _

end Go.Proofs.Ytfgghbideoehjaa

namespace Go.Proofs.Ytfgghbideoehjaa
open Go.RowKit Go.Shelf
set_option linter.unusedVariables false
set_option linter.unusedSimpArgs false
set_option maxRecDepth 100000

/-- The bytes that come out. -/
abbrev outL : List UInt8 := [98, 97, 100, 99]

/-- Between two rounds: k matches are done. b0: the first of Replace's boxes; bb: its builder; D, l: the loop's own. -/
structure RJ (w : World) (mp tp pg pcap : Nat) (ra : Option Addr) (rc b0 bb D l : Nat) (rec : Loop) (k : Nat) (W : World) : Prop where
  mat : MAt W mp tp fin2.prog fin2.marks fin2.groups fin2.refs txt2 pg pcap ra rc
  map : ∃ tr, MapAt W tp tr
  bs : W.heap[b0]? = some (.cells #[.string txt2] 9 (0, 0))
  bw : W.heap[b0 + 1]? = some (.cells #[.string wth2] 9 (0, 0))
  ba : W.heap[b0 + 2]? = some (.cells #[.bool true] 4 (0, 0))
  at' : W.heap[bb + 1]? = some (.cells #[.int .i64 ((2 * k : Nat) : Int)] 3 (0, 0))
  n : W.heap[bb + 2]? = some (.cells #[.int .i64 (k : Int)] 3 (0, 0))
  m : W.heap[bb + 3]? = some (.cells #[.pointer (some ⟨mp, 0, none⟩)] 53 (0, 0))
  bld : Lib.IsBuilder 76 5 bb bb (Lib.byteCells (outL.take (2 * k))) W
  rec' : W.heap[l]? = some (.loop rec)
  dfr : W.heap[D]? = some (.deferred (some []))
  bel : Below w.heap.size w W
  h0 : w.heap.size = b0
  htp : b0 + 3 ≤ tp
  htb : tp < bb
  hD : D = bb + 4
  hl : l = bb + 5

theorem isBuilder_but {b tp : Nat} {bs : List Value} {W W' : World} (h : Lib.IsBuilder 76 5 b b bs W) (hb : But tp W W') (htp : tp < b) : Lib.IsBuilder 76 5 b b bs W' := by
  have key : ∀ p, Lib.BuilderAt 76 5 b b p bs W → Lib.BuilderAt 76 5 b b p bs W' := by
    rintro p ⟨h1, v, h2, h3, h4⟩
    exact ⟨h1, v, (hb.block b (Array.getElem?_eq_some_iff.1 h2).1 (by omega)).trans h2, ownsRow_agree h3 fun j hj => hb.block j (h3.lt j hj).2 (by have := (h3.lt j hj).1; omega), h4⟩
  rcases h with h | h
  · exact .inl (key _ h)
  · exact .inr (key _ h)

theorem RJ.but {w : World} {mp tp pg pcap : Nat} {ra : Option Addr} {rc b0 bb D l : Nat} {rec : Loop} {k : Nat} {W W' : World} (h : RJ w mp tp pg pcap ra rc b0 bb D l rec k W) (hb : But tp W W') (hm : ∃ tr, MapAt W' tp tr) : RJ w mp tp pg pcap ra rc b0 bb D l rec k W' := by
  have hD := h.hD
  have hl := h.hl
  have h1 := h.htp
  have h2 := h.htb
  have h0 := h.h0
  have key : ∀ {j : Nat} {o : Obj}, W.heap[j]? = some o → j ≠ tp → W'.heap[j]? = some o := fun {j o} hj hn => (hb.block j (Array.getElem?_eq_some_iff.1 hj).1 hn).trans hj
  exact { h with
    mat := h.mat.but hb
    map := hm
    bs := key h.bs (by omega)
    bw := key h.bw (by omega)
    ba := key h.ba (by omega)
    at' := key h.at' (by omega)
    n := key h.n (by omega)
    m := key h.m (by omega)
    bld := isBuilder_but h.bld hb h.htb
    rec' := key h.rec' (by omega)
    dfr := key h.dfr (by omega)
    bel := h.bel.trans (hb.below (by omega) h.bel.size) }

end Go.Proofs.Ytfgghbideoehjaa

namespace Go.Proofs.Ytfgghbideoehjaa
open Go.RowKit Go.Shelf
set_option linter.unusedVariables false
set_option linter.unusedSimpArgs false
set_option maxRecDepth 100000

/-- The loop's record. -/
abbrev recOf (fn : FuncId) (tmps : Array Value) (ps : Array Tmp) (assign body : Code) (D : Nat) (st : LoopState) (pe : Option Code) : Loop := { state := st, pending := pe, fn, tmps, params := ps, assign, body, defers := D }

set_option maxHeartbeats 1000000 in
theorem range_enter {F : Fence} {n : Nat} {P : Program} {g : Operand} {ps : Array Tmp} {assign body : Code} {Q : Exit → Act → World → Prop} {a : Act} {w : World}
    (hro : F.round = none) (h1 : 1 ≤ n) {gf : Nat} {lb : Array Value} (hg : a.eval g = .func (.func gf) #[] lb) (hFg : F.fn gf) (eg : ∀ args w, (callFunc gf args).run P w = .ok (.enter gf args) w)
    (h : ∀ (fn : FuncId), F.fn fn → CallsIn F (n - 1) P gf (#[.func (.yield (w.heap.size + 1)) #[] #[]] ++ lb) ((w.alloc (.deferred (some []))).alloc (.loop (recOf fn a.tmps ps assign body w.heap.size .ready none)))
      (rangePost F n P (w.heap.size + 1) Q { a with defers := [{ target := .collected w.heap.size, args := #[] }] ++ a.defers })) :
    (Code.rangeFunc g ps assign body).wpIn F n P Q a w := by
  refine wpIn_rangeFunc ?_
  intro fn hfn
  rw [hro]
  obtain ⟨rec, hrec⟩ : ∃ rec : Loop, rec = recOf fn a.tmps ps assign body w.heap.size .ready none := ⟨_, rfl⟩
  have hc := h fn hfn
  rw [← hrec] at hc
  obtain ⟨W1, hW1⟩ : ∃ W1, (w.alloc (.deferred (some []))).alloc (.loop rec) = W1 := ⟨_, rfl⟩
  rw [hW1] at hc
  clear h
  refine ⟨w.heap.size + 1, [{ target := .collected w.heap.size, args := #[] }], W1, { target := .fn (.func gf) lb, args := #[.func (.yield (w.heap.size + 1)) #[] #[]] }, W1, gf,
    #[.func (.yield (w.heap.size + 1)) #[] #[]] ++ lb, W1, ?_, ?_, ?_, ?_, fun _ => h1, ?_⟩
  · clear hc
    rw [← hW1, hrec]; exact run_enterLoop_outer _ _ _ _ _
  · clear hc
    simp only [resolve, hg]
    simp [go_sem]
  · clear hc
    intro f' hf'; simp [Target.leads] at hf'; subst hf'; exact hFg
  · clear hc
    simp [invoke, go_sem, eg]
  · exact hc

/-- One round that goes on: the record is ready before and behind it. -/
theorem range_round {F : Fence} {m : Nat} {P : Program} {fn : FuncId} {tmps : Array Value} {ps : Array Tmp} {assign body : Code} {D l : Nat} {v : Value} {W : World} {R : World → Prop} {a₁ : Act} (hps : ps.size = 1)
    (hfn : F.fn fn) (hl : W.heap[l]? = some (.loop (recOf fn tmps ps assign body D .ready none)))
    (hassign : ∀ (K : Act → World → Prop), K a₁ W → assign.wpIn (F.inRound l) m P (Exit.then K (fun _ _ _ => False)) { tmps := (ps.zip #[v]).foldl (fun t (p, v) => t.setIfInBounds p v) tmps, defers := [] } W)
    (hbody : body.wpIn (F.inRound l) m P (fun e _ W3 => e = .normal ∧ W3.heap[l]? = some (.loop (recOf fn tmps ps assign body D .busy none)) ∧ R (W3.putObj l (.loop (recOf fn tmps ps assign body D .ready none)))) a₁ (W.putObj l (.loop (recOf fn tmps ps assign body D .busy none)))) :
    YieldAt F m P l #[v] W fun e W' => e = .returned (.bool true) ∧ R W' := by
  have hy := run_yield (P := P) (args := #[v]) hl (by simp [hps])
  refine ⟨fn, _, assign, body, hy, roundIn_of_wpIn hfn (hassign _ ⟨_, run_beginRound hl rfl, ?_⟩)⟩
  refine wpIn_mono hbody ?_
  rintro e a3 W3 ⟨rfl, hl3, hR⟩
  exact ⟨_, _, run_endRound (P := P) none hl3, rfl, hR⟩

end Go.Proofs.Ytfgghbideoehjaa

namespace Go.Proofs.Ytfgghbideoehjaa
open Go.RowKit Go.Shelf
set_option linter.unusedVariables false
set_option linter.unusedSimpArgs false
set_option maxRecDepth 100000

theorem ownsRow_blk {w : World} {base e size : Nat} {v : Value} {n : Nat} {xs : List Value} (h : w.ownsRow base e size v n xs) {k : Nat} (hk : v.ownBlock = some k) : ∃ c, w.heap[k]? = some (.cells c e (0, 0)) := by
  rcases h.2 with ⟨rfl, _⟩ | ⟨g, cap, cur, rfl, _, hg, _⟩
  · cases hk
  · cases hk; exact ⟨_, hg⟩

theorem isBuilder_keep {b : Nat} {bs : List Value} {W W' : World} (h : Lib.IsBuilder 76 5 b b bs W) (hb : ∀ k o, W.heap[k]? = some o → (k = b ∨ ∃ c fz, o = .cells c 5 fz) → W'.heap[k]? = some o) : Lib.IsBuilder 76 5 b b bs W' := by
  have key : ∀ p, Lib.BuilderAt 76 5 b b p bs W → Lib.BuilderAt 76 5 b b p bs W' := by
    rintro p ⟨h1, v, h2, h3, h4⟩
    exact ⟨h1, v, hb _ _ h2 (.inl rfl), ownsRow_agree h3 fun j hj => by obtain ⟨c, hc⟩ := ownsRow_blk h3 hj; rw [hc]; exact hb _ _ hc (.inr ⟨_, _, rfl⟩), h4⟩
  rcases h with h | h
  · exact .inl (key _ h)
  · exact .inr (key _ h)

theorem ownsRow_keep {w w' : World} {base e size : Nat} {v : Value} {n : Nat} {xs : List Value} (h : w.ownsRow base e size v n xs) (hk : ∀ k c, v.ownBlock = some k → w.heap[k]? = some (.cells c e (0, 0)) → w'.heap[k]? = w.heap[k]?) : w'.ownsRow base e size v n xs :=
  ownsRow_agree h fun j hj => by obtain ⟨c, hc⟩ := ownsRow_blk h hj; exact hk j c hj hc

/-- What a writing call does to the world, beside its builder. -/
structure Wrote (bb : Nat) (A B : World) (bs : List UInt8) : Prop where
  bld : Lib.IsBuilder 76 5 bb bb (Lib.byteCells bs) B
  bel : Below bb A B
  oth : Lib.OthersKept 5 (some bb) A B

theorem Wrote.cell {bb : Nat} {A B : World} {bs : List UInt8} (h : Wrote bb A B bs) {k : Nat} {cs : Array Value} {T : TypeId} {fz : Nat × Nat} (hk : A.heap[k]? = some (.cells cs T fz)) (hn : k ≠ bb) (hT : T ≠ 5) : B.heap[k]? = some (.cells cs T fz) :=
  h.oth k _ hk (by simpa using hn) (by intro c f e; cases e; exact hT rfl)

theorem Wrote.next {bb : Nat} {A B C D : World} {bs o : List UInt8} (h : Wrote bb A B bs) (hbb : bb ≤ B.heap.size) (h5 : Below B.heap.size B C)
    (hq : Lib.BuilderAt 76 5 bb bb (.pointer (some ⟨bb, 0, none⟩)) (Lib.byteCells bs ++ Lib.strCells ⟨o.toArray⟩) D ∧ Below bb C D ∧ Lib.OthersKept 5 (some bb) C D) : Wrote bb A D (bs ++ o) := by
  obtain ⟨h1, h2, h3⟩ := hq
  refine ⟨.inr ?_, (h.bel.trans (h5.mono hbb)).trans h2, h.oth.trans (Lib.OthersKept.trans ?_ h3)⟩
  · have e : Lib.byteCells bs ++ Lib.strCells ⟨o.toArray⟩ = Lib.byteCells (bs ++ o) := by simp [Lib.byteCells, Lib.strCells]
    rw [← e]; exact h1
  · intro j x hj _ _
    exact (h5.block j (Array.getElem?_eq_some_iff.1 hj).1).trans hj

structure RoundF (b0 bb g : Nat) (k : Nat) (W : World) : Prop where
  ba : W.cell? ⟨b0 + 2, 0, none⟩ = some (.bool true)
  at' : W.cell? ⟨bb + 1, 0, none⟩ = some (.int .i64 (2 * (k : Int)))
  n : W.cell? ⟨bb + 2, 0, none⟩ = some (.int .i64 (k : Int))
  fat : W.frozen? ⟨bb + 1, 0, none⟩ = false
  fn : W.frozen? ⟨bb + 2, 0, none⟩ = false
  ends : W.cell? ⟨g, 1, none⟩ = some (.int .i64 (2 * (k : Int) + 2))

theorem Wrote.facts {b0 bb g k c : Nat} {A B : World} {bs : List UInt8} {gs : List Int} (h : Wrote bb A B bs) (hb : b0 + 2 < bb) (b2 : A.heap[b0 + 2]? = some (.cells #[.bool true] 4 (0, 0)))
    (b3 : A.heap[bb + 1]? = some (.cells #[.int .i64 ((2 * k : Nat) : Int)] 3 (0, 0))) (b4 : A.heap[bb + 2]? = some (.cells #[.int .i64 (k : Int)] 3 (0, 0)))
    (hb0 : ∀ cs, A.heap[bb]? = some (.cells cs 30 (0, 0)) → False) (hr : A.ownsRow 0 30 2 (.slice (some ⟨g, 0, none⟩) 3 c) 3 (gs.map intV)) (hg : gs[1]? = some (2 * (k : Int) + 2)) : RoundF b0 bb g k B := by
  have c2 := h.cell b2 (by omega) (by decide)
  have c3 := h.cell b3 (by omega) (by decide)
  have c4 := h.cell b4 (by omega) (by decide)
  have hr2 : B.ownsRow 0 30 2 (.slice (some ⟨g, 0, none⟩) 3 c) 3 (gs.map intV) := ownsRow_keep hr fun j c' hj hc => by
    rw [hc]
    exact h.cell hc (by rintro rfl; exact hb0 _ hc) (by decide)
  exact ⟨(cell_of_blk c2 0).trans rfl, (cell_of_blk c3 0).trans (by simp), (cell_of_blk c4 0).trans rfl, free_of_blk c3 0, free_of_blk c4 0, by
    rw [World.ownsRow.cellAt hr2 1 (by omega), List.getElem?_map, hg]; rfl⟩

theorem Wrote.len {bb : Nat} {A B : World} {bs : List UInt8} (h : Wrote bb A B bs) (b3 : ∃ v, A.heap[bb + 1]? = some (.cells #[v] 3 (0, 0))) (b4 : ∃ v, A.heap[bb + 2]? = some (.cells #[v] 3 (0, 0))) (v1 v2 : Value) :
    Lib.IsBuilder 76 5 bb bb (Lib.byteCells bs) ((B.setCell ⟨bb + 1, 0, none⟩ v1).setCell ⟨bb + 2, 0, none⟩ v2) := by
  obtain ⟨x3, h3⟩ := b3
  obtain ⟨x4, h4⟩ := b4
  have c3 := h.cell h3 (by omega) (by decide)
  have c4 := h.cell h4 (by omega) (by decide)
  refine isBuilder_keep h.bld fun j o hj hjo => ?_
  have n2 : j ≠ bb + 1 := by
    rintro rfl
    rw [c3] at hj
    rcases hjo with h | ⟨c, fz, rfl⟩
    · omega
    · cases hj
  have n3 : j ≠ bb + 2 := by
    rintro rfl
    rw [c4] at hj
    rcases hjo with h | ⟨c, fz, rfl⟩
    · omega
    · cases hj
  rw [heap_setCell_other _ _ _ _ (by exact n3), heap_setCell_other _ _ _ _ (by exact n2)]
  exact hj

/-- The world behind a round's body. -/
abbrev roundW (Wc : World) (bb : Nat) (v1 v2 : Value) : World := (Wc.setCell ⟨bb + 1, 0, none⟩ v1).setCell ⟨bb + 2, 0, none⟩ v2

theorem roundW_other (Wc : World) (bb : Nat) (v1 v2 : Value) {k : Nat} (h1 : k ≠ bb + 1) (h2 : k ≠ bb + 2) : (roundW Wc bb v1 v2).heap[k]? = Wc.heap[k]? :=
  (heap_setCell_other _ _ _ _ (by exact h2)).trans (heap_setCell_other _ _ _ _ (by exact h1))

structure REnd (bb k : Nat) (Wb W3 : World) : Prop where
  out : ∃ W6, Wrote bb Wb W6 (outL.take (2 * (k + 1))) ∧ W3 = (W6.setCell ⟨bb + 1, 0, none⟩ (.int .i64 (2 * (k : Int) + 2))).setCell ⟨bb + 2, 0, none⟩ (.int .i64 ((k : Int) + 1))

theorem rj_next {w : World} {mp tp pg pcap : Nat} {ra : Option Addr} {rc b0 bb D l : Nat} {rec busy : Loop} {k : Nat} {W Wc W3 : World} {sv : Value} {xs : List Value} {n : Nat} (hJ : RJ w mp tp pg pcap ra rc b0 bb D l rec k W) (hW : Wrote bb (W.putObj l (.loop busy)) Wc (outL.take (2 * (k + 1)))) (hrow : W.ownsRow 0 30 2 sv n xs)
    (h3 : W3.heap = (roundW Wc bb (.int .i64 ((2 * (k + 1) : Nat) : Int)) (.int .i64 ((k + 1 : Nat) : Int))).heap) (hos : W3.os = Wc.os ∧ W3.tape = Wc.tape ∧ W3.output = Wc.output) :
    W3.heap[l]? = some (.loop busy) ∧ RJ w mp tp pg pcap ra rc b0 bb D l rec (k + 1) (W3.putObj l (.loop rec)) ∧ (W3.putObj l (.loop rec)).ownsRow 0 30 2 sv n xs := by
  have hD := hJ.hD
  have hl := hJ.hl
  have h1 := hJ.htp
  have h2 := hJ.htb
  have h0 := hJ.h0
  have hll : l < W.heap.size := (Array.getElem?_eq_some_iff.1 hJ.rec').1
  -- what is no uint8 row, not the builder, not the two counters, not the record
  have keep : ∀ j o, W.heap[j]? = some o → (∀ c fz, o ≠ .cells c 5 fz) → j ≠ bb → j ≠ bb + 1 → j ≠ bb + 2 → j ≠ l → (W3.putObj l (.loop rec)).heap[j]? = some o := by
    intro j o hj ho n1 n2 n3 n4
    rw [World.putObj_heap_other n4, h3, roundW_other _ _ _ _ n2 n3]
    exact hW.oth j o ((World.putObj_heap_other n4).trans hj) (by simpa using n1) ho
  have keepC : ∀ (j : Nat) (c : Array Value) (T : TypeId), W.heap[j]? = some (.cells c T (0, 0)) → T ≠ 5 → T ≠ 76 → T ≠ 3 → (W3.putObj l (.loop rec)).heap[j]? = some (.cells c T (0, 0)) := by
    intro j c T hj n1 n2 n3
    refine keep j _ hj (by intro c f e; cases e; exact n1 rfl) ?_ ?_ ?_ ?_
    · rintro rfl
      rcases hJ.bld with ⟨_, v, hv, _⟩ | ⟨_, v, hv, _⟩ <;> (rw [hj] at hv; cases hv; exact n2 rfl)
    · rintro rfl; have := hJ.at'; rw [hj] at this; cases this; exact n3 rfl
    · rintro rfl; have := hJ.n; rw [hj] at this; cases this; exact n3 rfl
    · rintro rfl; have := hJ.rec'; rw [hj] at this; cases this
  have low : ∀ j, j < bb → (W3.putObj l (.loop rec)).heap[j]? = W.heap[j]? := by
    intro j hj
    rw [World.putObj_heap_other (by omega), h3, roundW_other _ _ _ _ (by omega) (by omega), hW.bel.block j hj, World.putObj_heap_other (by omega)]
  have hcnt : ∀ j v, W.heap[j]? = some (.cells #[v] 3 (0, 0)) → j ≠ bb → j ≠ l → Wc.heap[j]? = some (.cells #[v] 3 (0, 0)) := by
    intro j v hj n1 n2
    exact hW.cell ((World.putObj_heap_other n2).trans hj) n1 (by decide)
  have a1 := hcnt _ _ hJ.at' (by omega) (by omega)
  have a2 := hcnt _ _ hJ.n (by omega) (by omega)
  have e1 := heap_setCell_same _ _ 0 _ _ (.int .i64 ((2 * (k + 1) : Nat) : Int)) a1
  have e1' := (heap_setCell_other (Wc.setCell ⟨bb + 1, 0, none⟩ (.int .i64 ((2 * (k + 1) : Nat) : Int))) ⟨bb + 2, 0, none⟩ (bb + 1) (.int .i64 ((k + 1 : Nat) : Int)) (by simp)).trans e1
  have e2 := heap_setCell_same _ _ 0 _ _ (.int .i64 ((k + 1 : Nat) : Int)) ((heap_setCell_other Wc ⟨bb + 1, 0, none⟩ (bb + 2) (.int .i64 ((2 * (k + 1) : Nat) : Int)) (by simp)).trans a2)
  have hrec : W3.heap[l]? = some (.loop busy) := by
    rw [h3, roundW_other _ _ _ _ (by omega) (by omega)]
    exact hW.oth l _ (World.putObj_heap_same hll) (by simp; omega) (by intro c f e; cases e)
  refine ⟨hrec, ?_, ?_⟩
  · have hbel : Below bb W (W3.putObj l (.loop rec)) := by
      refine ⟨hos.1.trans hW.bel.os, hos.2.1.trans hW.bel.tape, hos.2.2.trans hW.bel.output, ?_, low⟩
      have hs := hW.bel.size
      rw [World.putObj_size] at hs
      rw [World.putObj_size, h3]
      simpa using hs
    obtain ⟨tr, htr⟩ := hJ.map
    exact { hJ with
      mat := by
        have hM := hJ.mat
        obtain ⟨root, deep, hk⟩ := hM.blk
        exact { hM with
          blk := ⟨root, deep, keepC _ _ _ hk (by decide) (by decide) (by decide)⟩
          row := ownsRow_keep hM.row fun j c hj hc => by
            rw [hc]
            exact keepC _ _ _ hc (by decide) (by decide) (by decide)
          refsr := ownsRow_keep hM.refsr fun j c hj hc => by
            rw [hc]
            exact keepC _ _ _ hc (by decide) (by decide) (by decide) }
      map := by
        obtain ⟨es, m, hk, ht⟩ := htr
        exact ⟨tr, es, m, (low _ h2).trans hk, ht⟩
      bs := (low _ (by omega)).trans hJ.bs
      bw := (low _ (by omega)).trans hJ.bw
      ba := (low _ (by omega)).trans hJ.ba
      at' := by rw [World.putObj_heap_other (by omega), h3]; exact e1'
      n := by rw [World.putObj_heap_other (by omega), h3]; exact e2
      m := keep _ _ hJ.m (by intro c f e; cases e) (by omega) (by omega) (by omega) (by omega)
      bld := isBuilder_keep hW.bld fun j o hj hjo => by
        have n1 : j ≠ l := by
          rintro rfl
          rw [h3, roundW_other _ _ _ _ (by omega) (by omega), hj] at hrec
          rcases hjo with rfl | ⟨c, fz, rfl⟩
          · omega
          · cases hrec
        have n2 : j ≠ bb + 1 := by
          rintro rfl
          rw [a1] at hj
          rcases hjo with h | ⟨c, fz, rfl⟩
          · omega
          · cases hj
        have n3 : j ≠ bb + 2 := by
          rintro rfl
          rw [a2] at hj
          rcases hjo with h | ⟨c, fz, rfl⟩
          · omega
          · cases hj
        rw [World.putObj_heap_other n1, h3, roundW_other _ _ _ _ n2 n3]
        exact hj
      rec' := World.putObj_heap_same (by have := (Array.getElem?_eq_some_iff.1 hrec).1; exact this)
      dfr := keep _ _ hJ.dfr (by intro c f e; cases e) (by omega) (by omega) (by omega) (by omega)
      bel := hJ.bel.trans (hbel.mono (by omega)) }
  · refine ownsRow_keep hrow fun j c hj hc => ?_
    rw [hc]
    exact keepC _ _ _ hc (by decide) (by decide) (by decide)

end Go.Proofs.Ytfgghbideoehjaa
