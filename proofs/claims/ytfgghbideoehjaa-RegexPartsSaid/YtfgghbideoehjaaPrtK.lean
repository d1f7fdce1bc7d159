/-
  strings.Builder's WriteString with the frame above the builder; rows and builders that stay; a range over a function: the loop's record, a round.
-/
import Derived.Test.YtfgghbideoehjaaStrToLitB
import Derived.Test.YtfgghbideoehjaaParseEToParseH
import Derived.Lib.OthersKept
import Derived.RangeFuncNested
import Derived.RangeFuncBound
import Derived.RangeFuncCalls
import Derived.RangeFuncLeaves
import Derived.RangeFuncRecord
import Derived.Shelf.Abstract
import Derived.Shelf.RegionOpen
import Derived.WalkKit
import Derived.OwnWalkIn
import Derived.TacticsInMore
import Derived.LoopNIn
import Derived.LoopIn
namespace Go.Proofs.Ytfgghbideoehjaa
open Go.ChangeShapes Go.WideShapes Go.ChangeAt Go.RowKit Go.Shelf
set_option linter.unusedVariables false
set_option linter.unusedSimpArgs false
set_option maxRecDepth 100000
attribute [local go_sem] Oper.semAt_some

theorem copyCheck_k (B b : Nat) (bs : List Value) (w : World) (h : Lib.IsBuilder 76 5 B b bs w) :
    Calls Try.prog 66 #[.pointer (some ⟨b, 0, none⟩)] w fun e w' => e = .returned (.tuple #[]) ∧ (Lib.BuilderAt 76 5 B b (.pointer (some ⟨b, 0, none⟩)) bs w' ∧ Below B w w' ∧ Lib.OthersKept 5 (some b) w w') := by
  rcases h with h | h
  · refine (copyCheck_fresh b w h.cell0 h.shape h.frozen0).mono ?_
    rintro e w' ⟨rfl, rfl⟩
    exact ⟨rfl, h.used _, (Below.refl B w).setCell (p := ⟨b, 0, none⟩) h.1 _, (Lib.OthersKept.refl 5 (some b) w).setCell ⟨b, 0, none⟩ rfl _⟩
  · refine (copyCheck_used b w h.cell0).mono ?_
    rintro e w' ⟨rfl, rfl⟩
    exact ⟨rfl, h, Below.refl B _, Lib.OthersKept.refl _ _ _⟩

set_option maxHeartbeats 400000 in
theorem writeString_k (B b : Nat) (bs : List Value) (s : ByteArray) (w : World) (h : Lib.IsBuilder 76 5 B b bs w) (hlen : bs.length + s.size ≤ 140737488355328) (hBw : B ≤ w.heap.size) :
    Calls Try.prog 40 #[.pointer (some ⟨b, 0, none⟩), .string s] w fun e w' => e = .returned (.tuple #[.int .i64 s.size, .nilIface]) ∧ (Lib.BuilderAt 76 5 B b (.pointer (some ⟨b, 0, none⟩)) (bs ++ Lib.strCells s) w' ∧ Below B w w' ∧ Lib.OthersKept 5 (some b) w w') := by
  obtain ⟨i0, hi, hz0, hz1, hz2⟩ := info_parts infoByte
  go_enter Try.func40, Try.ntmps40
  go_wp2_with (go_at_call 66; refine (copyCheck_k B b bs _ h).mono ?_)
  rintro e w1 ⟨rfl, h1, hb1, hk1⟩
  obtain ⟨hB, v, hbk, hown, hne⟩ := h1
  have HK1 := Lib.hid hk1
  clear hk1
  have c0 : w1.cell? ⟨b, 0, none⟩ = some (.pointer (some ⟨b, 0, none⟩)) := by rw [Lib.cell_of_heap hbk]; rfl
  have c1 : w1.cell? ⟨b, 1, none⟩ = some v := by rw [Lib.cell_of_heap hbk]; rfl
  go_wp2_with (at_builtin; refine Lib.wpList_append_own_string _ rfl _ _ 74 9 rfl B 5 i0 Try.underlying74 Try.underlying9 hi hz0 hz1 hz2 _ _ _ rfl hown s rfl ?c3 ?c4 ?c5 ?_)
  case c3 => unfold maxLen; omega
  case c4 => omega
  case c5 => have := hb1.size; omega
  intro v' w2 hown' hgrow _
  have hlt : b < w1.heap.size := by
    rcases Nat.lt_or_ge b w1.heap.size with h' | h'
    · exact h'
    · simp [Array.getElem?_eq_none h'] at hbk
  have hb2 : w2.heap[b]? = some (.cells #[.pointer (some ⟨b, 0, none⟩), v] 76 (0, 0)) := by
    rw [hgrow.block b hlt (fun e => hne e.symm)]
    exact hbk
  have hk2 : Lib.OthersKept 5 (some b) w w2 := HK1.out.grown hgrow (fun g hg => by
    rcases hown.2 with ⟨hv, _⟩ | ⟨g', cap, cur, hv, hbg, hcur, _⟩
    · rw [hv] at hg; cases hg
    · have e : (Value.slice (some ⟨g', 0, none⟩) bs.length cap).ownBlock = some g := by rw [← hv]; exact hg
      cases e
      exact ⟨_, _, hcur⟩)
  have HK2 := Lib.hid hk2
  clear hk2
  have d0 : w2.cell? ⟨b, 0, none⟩ = some (.pointer (some ⟨b, 0, none⟩)) := by rw [Lib.cell_of_heap hb2]; rfl
  have d1 : w2.cell? ⟨b, 1, none⟩ = some v := by rw [Lib.cell_of_heap hb2]; rfl
  have f1 : w2.frozen? ⟨b, 1, none⟩ = false := Lib.frozen_of_heap hb2 1
  obtain ⟨ao, n', cap, rfl⟩ : ∃ ao n' cap, v' = .slice ao n' cap := by
    rcases hown'.2 with ⟨hv, _⟩ | ⟨g, cap, cur, hv, _⟩
    · exact ⟨_, _, _, hv⟩
    · exact ⟨_, _, _, hv⟩
  go_wp2
  go_ret2
  refine ⟨rfl, ?_, ?_, ?_⟩
  · exact Lib.BuilderAt.put (T := 76) (e := 5) hB hb2 (bs' := bs ++ Lib.strCells s) (by simpa [Lib.strCells_length] using hown') (by decide)
  · exact (hb1.grown hgrow (by have := hb1.size; omega) (fun k hk => (hown.lt k hk).1)).setCell (p := ⟨b, 1, none⟩) hB _
  · exact HK2.out.setCell ⟨b, 1, none⟩ rfl _

theorem isBuilder_but {b tp : Nat} {bs : List Value} {W W' : World} (h : Lib.IsBuilder 76 5 b b bs W) (hb : But tp W W') (htp : tp < b) : Lib.IsBuilder 76 5 b b bs W' := by
  have key : ∀ p, Lib.BuilderAt 76 5 b b p bs W → Lib.BuilderAt 76 5 b b p bs W' := by
    rintro p ⟨h1, v, h2, h3, h4⟩
    exact ⟨h1, v, (hb.block b (Array.getElem?_eq_some_iff.1 h2).1 (by omega)).trans h2, ownsRow_agree h3 fun j hj => hb.block j (h3.lt j hj).2 (by have := (h3.lt j hj).1; omega), h4⟩
  rcases h with h | h
  · exact .inl (key _ h)
  · exact .inr (key _ h)

/-- The loop's record. -/
abbrev recOf (fn : FuncId) (tmps : Array Value) (ps : Array Tmp) (assign body : Code) (D : Nat) (st : LoopState) (pe : Option Code) : Loop := { state := st, pending := pe, fn, tmps, params := ps, assign, body, defers := D }

set_option maxHeartbeats 1000000 in
theorem range_enter {F : Fence} {n : Nat} {P : Program} {g : Operand} {ps : Array Tmp} {assign body : Code} {Q : Exit → Act → World → Prop} {a : Act} {w : World}
    (hro : F.round = none) (h1 : 1 ≤ n) {gf : Nat} {lb : Array Value} (hg : a.eval g = .func (.func gf) #[] lb) (hFg : F.fn gf) (eg : ∀ args w, (callFunc gf args).run P w = .ok (.enter gf args) w)
    (h : ∀ (fn : FuncId), F.fn fn → CallsIn F (n - 1) P gf (#[.func (.yield (w.heap.size + 1)) #[] #[]] ++ lb) ((w.alloc (.deferred (some []))).alloc (.loop (recOf fn a.tmps ps assign body w.heap.size .ready none)))
      (rangePost F n P (w.heap.size + 1) Q { a with defers := [{ target := .collected w.heap.size, args := #[] }] ++ a.defers })) :
    (Code.rangeFunc g ps assign body).wpIn F n P Q a w := by
  refine wpIn_rangeFunc ?_
  intro fn hfn
  rw [hro]
  obtain ⟨rec, hrec⟩ : ∃ rec : Loop, rec = recOf fn a.tmps ps assign body w.heap.size .ready none := ⟨_, rfl⟩
  have hc := h fn hfn
  rw [← hrec] at hc
  obtain ⟨W1, hW1⟩ : ∃ W1, (w.alloc (.deferred (some []))).alloc (.loop rec) = W1 := ⟨_, rfl⟩
  rw [hW1] at hc
  clear h
  refine ⟨w.heap.size + 1, [{ target := .collected w.heap.size, args := #[] }], W1, { target := .fn (.func gf) lb, args := #[.func (.yield (w.heap.size + 1)) #[] #[]] }, W1, gf,
    #[.func (.yield (w.heap.size + 1)) #[] #[]] ++ lb, W1, ?_, ?_, ?_, ?_, fun _ => h1, ?_⟩
  · clear hc
    rw [← hW1, hrec]; exact run_enterLoop_outer _ _ _ _ _
  · clear hc
    simp only [resolve, hg]
    simp [go_sem]
  · clear hc
    intro f' hf'; simp [Target.leads] at hf'; subst hf'; exact hFg
  · clear hc
    simp [invoke, go_sem, eg]
  · exact hc

/-- One round that goes on: the record is ready before and behind it. -/
theorem range_round {F : Fence} {m : Nat} {P : Program} {fn : FuncId} {tmps : Array Value} {ps : Array Tmp} {assign body : Code} {D l : Nat} {v : Value} {W : World} {R : World → Prop} {a₁ : Act} (hps : ps.size = 1)
    (hfn : F.fn fn) (hl : W.heap[l]? = some (.loop (recOf fn tmps ps assign body D .ready none)))
    (hassign : ∀ (K : Act → World → Prop), K a₁ W → assign.wpIn (F.inRound l) m P (Exit.then K (fun _ _ _ => False)) { tmps := (ps.zip #[v]).foldl (fun t (p, v) => t.setIfInBounds p v) tmps, defers := [] } W)
    (hbody : body.wpIn (F.inRound l) m P (fun e _ W3 => e = .normal ∧ W3.heap[l]? = some (.loop (recOf fn tmps ps assign body D .busy none)) ∧ R (W3.putObj l (.loop (recOf fn tmps ps assign body D .ready none)))) a₁ (W.putObj l (.loop (recOf fn tmps ps assign body D .busy none)))) :
    YieldAt F m P l #[v] W fun e W' => e = .returned (.bool true) ∧ R W' := by
  have hy := run_yield (P := P) (args := #[v]) hl (by simp [hps])
  refine ⟨fn, _, assign, body, hy, roundIn_of_wpIn hfn (hassign _ ⟨_, run_beginRound hl rfl, ?_⟩)⟩
  refine wpIn_mono hbody ?_
  rintro e a3 W3 ⟨rfl, hl3, hR⟩
  exact ⟨_, _, run_endRound (P := P) none hl3, rfl, hR⟩

theorem ownsRow_blk {w : World} {base e size : Nat} {v : Value} {n : Nat} {xs : List Value} (h : w.ownsRow base e size v n xs) {k : Nat} (hk : v.ownBlock = some k) : ∃ c, w.heap[k]? = some (.cells c e (0, 0)) := by
  rcases h.2 with ⟨rfl, _⟩ | ⟨g, cap, cur, rfl, _, hg, _⟩
  · cases hk
  · cases hk; exact ⟨_, hg⟩

theorem isBuilder_keep {b : Nat} {bs : List Value} {W W' : World} (h : Lib.IsBuilder 76 5 b b bs W) (hb : ∀ k o, W.heap[k]? = some o → (k = b ∨ ∃ c fz, o = .cells c 5 fz) → W'.heap[k]? = some o) : Lib.IsBuilder 76 5 b b bs W' := by
  have key : ∀ p, Lib.BuilderAt 76 5 b b p bs W → Lib.BuilderAt 76 5 b b p bs W' := by
    rintro p ⟨h1, v, h2, h3, h4⟩
    exact ⟨h1, v, hb _ _ h2 (.inl rfl), ownsRow_agree h3 fun j hj => by obtain ⟨c, hc⟩ := ownsRow_blk h3 hj; rw [hc]; exact hb _ _ hc (.inr ⟨_, _, rfl⟩), h4⟩
  rcases h with h | h
  · exact .inl (key _ h)
  · exact .inr (key _ h)

theorem ownsRow_keep {w w' : World} {base e size : Nat} {v : Value} {n : Nat} {xs : List Value} (h : w.ownsRow base e size v n xs) (hk : ∀ k c, v.ownBlock = some k → w.heap[k]? = some (.cells c e (0, 0)) → w'.heap[k]? = w.heap[k]?) : w'.ownsRow base e size v n xs :=
  ownsRow_agree h fun j hj => by obtain ⟨c, hc⟩ := ownsRow_blk h hj; exact hk j c hj hc

/-- What a writing call does to the world, beside its builder. -/
structure Wrote (bb : Nat) (A B : World) (bs : List UInt8) : Prop where
  bld : Lib.IsBuilder 76 5 bb bb (Lib.byteCells bs) B
  bel : Below bb A B
  oth : Lib.OthersKept 5 (some bb) A B

theorem Wrote.cell {bb : Nat} {A B : World} {bs : List UInt8} (h : Wrote bb A B bs) {k : Nat} {cs : Array Value} {T : TypeId} {fz : Nat × Nat} (hk : A.heap[k]? = some (.cells cs T fz)) (hn : k ≠ bb) (hT : T ≠ 5) : B.heap[k]? = some (.cells cs T fz) :=
  h.oth k _ hk (by simpa using hn) (by intro c f e; cases e; exact hT rfl)

theorem Wrote.next {bb : Nat} {A B C D : World} {bs o : List UInt8} (h : Wrote bb A B bs) (hbb : bb ≤ B.heap.size) (h5 : Below B.heap.size B C)
    (hq : Lib.BuilderAt 76 5 bb bb (.pointer (some ⟨bb, 0, none⟩)) (Lib.byteCells bs ++ Lib.strCells ⟨o.toArray⟩) D ∧ Below bb C D ∧ Lib.OthersKept 5 (some bb) C D) : Wrote bb A D (bs ++ o) := by
  obtain ⟨h1, h2, h3⟩ := hq
  refine ⟨.inr ?_, (h.bel.trans (h5.mono hbb)).trans h2, h.oth.trans (Lib.OthersKept.trans ?_ h3)⟩
  · have e : Lib.byteCells bs ++ Lib.strCells ⟨o.toArray⟩ = Lib.byteCells (bs ++ o) := by simp [Lib.byteCells, Lib.strCells]
    rw [← e]; exact h1
  · intro j x hj _ _
    exact (h5.block j (Array.getElem?_eq_some_iff.1 hj).1).trans hj

end Go.Proofs.Ytfgghbideoehjaa
