/-
  The runner: run. Conditions: none.
-/
import Derived.Test.YtfkeeieoapimlaaGreatDoorBM2ToBM10
import Derived.Deep.WholeRow
set_option linter.unusedVariables false
set_option linter.unusedSimpArgs false
set_option linter.unusedSectionVars false
set_option linter.deprecated false
section
namespace Go.Proofs.YtfkeeieoapimlaaGreatDoor
open Go.ChangeShapes Go.WideShapes Go.ChangeAt Go.RowKit Go.Xe Go.Xe.Cards
set_option maxRecDepth 100000
def deeds0 : Array Value := #[.nilFunc, .nilFunc, .nilFunc, .nilFunc, .nilFunc, .nilFunc, .nilFunc, .nilFunc, .nilFunc, .nilFunc, .nilFunc, .nilFunc, .nilFunc, .nilFunc, .nilFunc]
theorem zgj {P : Program} {ops : Array Oper} {rest : List Oper} {op : Oper} {a : Act} {w : World} {Q : Exit → Act → World → Prop} (t : TypeId) (x y : Operand) (c c' : Array Value) (hgd : op.guard = none) (hd : op.dst = none) (ho : op.op = .store t x y)
  (hx : a.eval x = .pointer (some ⟨w.heap.size, 0, none⟩)) (hy : a.eval y = .agg c') (hi : (P.info? t).map (·.size) = some c'.size) (hs : c.size = c'.size) (h1 : c'.all (·.oneCell') = true)
  (h : wpList P ops Q rest a (w.alloc (.cells c' t))) : wpList P ops Q (op :: rest) a (w.alloc (.cells c t)) :=
 wpList_plain hgd fun _ hK => by
  have hp : a.put op.dst undef = a := by rw [hd]; rfl
  rw [← hp] at h
  unfold Oper.wp execOp
  simp only [ho, hx, hy, run_storeAt_new w t c c' hi hs h1, Sem.run_bind, Sem.run_pure, Result.andThen_ok]
  exact hK _ _ h
theorem one141 : (deedsC.all fun x => x.oneCell') = true := by unfold deedsC; simp [Value.oneCell']
structure RunI (w : World) (xv : Value) (D : Nat) (ws : List (List UInt8)) (k : Nat) (wr : World) : Prop where
 t4 : wr.heap[w.heap.size]? = some (.cells #[.int .i64 0, .int .i64 0, .string ⟨#[]⟩] 31 (0, 0))
 dd : wr.heap[D]? = some (.cells deedsC 141 (0, 0))
 ph : (k = 0 ∧ wr.heap[w.heap.size + 1]? = some (.cells #[xv, .int .i64 0, .slice none 0 0, .slice none 0 0] 139 (0, 0))) ∨ (∃ j, k = j * 2 + 1 ∧ j ≤ ws.length ∧ RBx w w.heap.size (w.heap.size + 1) xv (k : Int) [] (ws.take j) wr) ∨
  (∃ j wd, k = j * 2 + 2 ∧ ws[j]? = some wd ∧ RBx w w.heap.size (w.heap.size + 1) xv (k : Int) [bt wd] (ws.take j) wr)
 below : Below w.heap.size w wr
def RunF (m C : Nat) (want : List UInt8) (e : Env) (w : World) (xv : Value) (K : Nat) (wr : World) : Prop :=
 ∃ e' n' l' vt' vw', FinS m C want n' l' ∧ MS n' l' e' wr ∧ StepB w.heap.size e (zad 365 (lS4 m C)) w e' (zad n' l') wr ∧ wr.heap[w.heap.size + 1]? = some (.cells #[xv, .int .i64 (K : Int), vt', vw'] 139 (0, 0)) ∧ wr.ownsRow w.heap.size 9 1 vt' 1 [.string (bt want)] ∧
   wr.heap[w.heap.size]? = some (.cells #[.int .i64 0, .int .i64 0, .string ⟨#[]⟩] 31 (0, 0)) ∧ ¬ Xe.Own e' (zad n' l') w.heap.size
structure StartR (w : World) (xv : Value) (A : World) : Prop where
 size : A.heap.size = w.heap.size + 1 + 1
 t4 : A.heap[w.heap.size]? = some (.cells #[.int .i64 0, .int .i64 0, .string ⟨#[]⟩] 31 (0, 0))
 r : A.heap[w.heap.size + 1]? = some (.cells #[xv, .int .i64 0, .slice none 0 0, .slice none 0 0] 139 (0, 0))
 below : Below w.heap.size w A
theorem start_run (w : World) (xv : Value) {A : World} (h : (w.alloc (.cells #[.int .i64 0, .int .i64 0, .string ⟨#[]⟩] 31)).alloc (.cells #[xv, .int .i64 0, .slice none 0 0, .slice none 0 0] 139) = A) : StartR w xv A := by
 obtain ⟨A1, hA1, sA1, aN1, aO1, bA1⟩ := zag w #[.int .i64 0, .int .i64 0, .string ⟨#[]⟩] 31
 obtain ⟨A2, hA2, sA2, aN2, aO2, bA2⟩ := zag A1 #[xv, .int .i64 0, .slice none 0 0, .slice none 0 0] 139
 have : A = A2 := by rw [← h, hA1, hA2]
 subst this
 refine ⟨by omega, (aO2 _ (by omega)).trans aN1, ?_, bA1.trans (bA2.mono (by omega))⟩
 rw [← sA1]; exact aN2
theorem RunI.next {w : World} {xv : Value} {D : Nat} {ws : List (List UInt8)} {k : Nat} {wr : World} (h : RunI w xv D ws k wr) : ∃ vt vw, wr.heap[w.heap.size + 1]? = some (.cells #[xv, .int .i64 (k : Int), vt, vw] 139 (0, 0)) := by
 rcases h.ph with ⟨h1, h0⟩ | ⟨j, _, _, vt, vw, u, h0⟩ | ⟨j, wd, _, _, vt, vw, u, h0⟩
 ·subst h1; exact ⟨_, _, h0⟩
 ·exact ⟨_, _, h0.hR⟩
 ·exact ⟨_, _, h0.hR⟩
theorem RunI.start {w A w2 A2 : World} {xv : Value} {ws : List (List UInt8)} (h : StartR w xv A) (hb : Below A.heap.size A w2) (hA : w2.alloc (.cells deedsC 141) = A2) : RunI w xv w2.heap.size ws 0 A2 := by
 obtain ⟨A3, hA3, sA3, aN3, aO3, bA3⟩ := zag w2 deedsC 141
 rw [hA3] at hA
 subst hA
 have hs := h.size
 have hb2 := hb.size
 exact ⟨(aO3 _ (by omega)).trans ((hb.block _ (by omega)).trans h.t4), aN3, .inl ⟨rfl, (aO3 _ (by omega)).trans ((hb.block _ (by omega)).trans h.r)⟩, (h.below.trans (hb.mono (by omega))).trans (bA3.mono (by omega))⟩
theorem code_at {w W : World} {b g n c : Nat} {l : List (Nat × ByteArray)} (h : CodeAt w b (.slice (some ⟨g, 0, none⟩) n c) l) (hb : Below w.heap.size w W) {k : Nat} {p : Nat × ByteArray} (hk : l[k]? = some p) :
  W.cell? ⟨g, k * 3, none⟩ = some (.int .i64 (p.1 : Int)) ∧ W.cell? ⟨g, k * 3 + 1, none⟩ = some (.int .i64 0) ∧ W.cell? ⟨g, k * 3 + 2, none⟩ = some (.string p.2) := by
 obtain ⟨a1, a2, a3⟩ := insC_at l hk
 have hc := h.cells (g := g) rfl
 have hlt := (h.lt g rfl).2
 have e1 : ∀ j, (⟨g, 0, none⟩ : Addr).add j = (⟨g, j, none⟩ : Addr) := fun j => by simp [Addr.add]; omega
 refine ⟨?_, ?_, ?_⟩ <;> rw [hb.cell (p := ⟨g, _, none⟩) hlt]
 ·have := hc _ _ a1; rw [e1] at this; exact this
 ·have := hc _ _ a2; rw [e1] at this; exact this
 ·have := hc _ _ a3; rw [e1] at this; exact this
theorem RunI.ins {w : World} {xv : Value} {D : Nat} {ws : List (List UInt8)} {k : Nat} {wr : World} (h : RunI w xv D ws k wr) : ∃ p, (zbe ws)[k]? = some p := by
 rcases h.ph with ⟨h1, _⟩ | ⟨j, h1, hj, _⟩ | ⟨j, wd, h1, hj, _⟩
 ·subst h1; exact ⟨_, codeC_0 ws⟩
 ·subst h1
  rcases Nat.lt_or_ge j ws.length with hlt | hge
  ·exact ⟨_, (zeg ws (List.getElem?_eq_getElem hlt)).1⟩
  ·have : j = ws.length := by omega
   subst this
   exact ⟨_, codeC_call ws⟩
 ·subst h1; exact ⟨_, (zeg ws hj).2⟩
theorem RunI.of6 {w V w6 : World} {xv : Value} {D k : Nat} {ws : List (List UInt8)} (h4 : V.heap[w.heap.size]? = some (.cells #[.int .i64 0, .int .i64 0, .string ⟨#[]⟩] 31 (0, 0))) (hd : V.heap[D]? = some (.cells deedsC 141 (0, 0))) (hK : KeepU V w6)
  (ph : (∃ j, k = j * 2 + 1 ∧ j ≤ ws.length ∧ RBx w w.heap.size (w.heap.size + 1) xv (k : Int) [] (ws.take j) w6) ∨ (∃ j wd, k = j * 2 + 2 ∧ ws[j]? = some wd ∧ RBx w w.heap.size (w.heap.size + 1) xv (k : Int) [bt wd] (ws.take j) w6)) : RunI w xv D ws k w6 := by
 refine ⟨hK _ _ _ (by decide) (by decide) (by decide) h4, hK _ _ _ (by decide) (by decide) (by decide) hd, .inr ph, ?_⟩
 rcases ph with ⟨j, _, _, vt, vw, u, h⟩ | ⟨j, wd, _, _, vt, vw, u, h⟩
 ·exact h.below
 ·exact h.below
theorem RunI.past {w : World} {xv : Value} {D : Nat} {ws : List (List UInt8)} {k : Nat} {wr W : World} (h : RunI w xv D ws k wr) (hb : Below wr.heap.size wr W) : RunI w xv D ws k W := by
 refine ⟨(hb.block _ (Array.getElem?_eq_some_iff.1 h.t4).1).trans h.t4, (hb.block _ (Array.getElem?_eq_some_iff.1 h.dd).1).trans h.dd, ?_, h.below.trans (hb.mono h.below.size)⟩
 rcases h.ph with ⟨h1, h0⟩ | ⟨j, h1, h2, vt, vw, u, h0⟩ | ⟨j, wd, h1, h2, vt, vw, u, h0⟩
 ·exact .inl ⟨h1, (hb.block _ (Array.getElem?_eq_some_iff.1 h0).1).trans h0⟩
 ·exact .inr (.inl ⟨j, h1, h2, vt, vw, u, h0.past hb⟩)
 ·exact .inr (.inr ⟨j, wd, h1, h2, vt, vw, u, h0.past hb⟩)
theorem RunI.out {w : World} {xv : Value} {D : Nat} {ws : List (List UInt8)} {k : Nat} {wr : World} (h : RunI w xv D ws k wr) {T i : Nat} {cs : Array Value} {a : Value} (hT : wr.heap[T]? = some (.cells cs 31 (0, 0))) (hlt : w.heap.size < T) : RunI w xv D ws k (wr.setCell ⟨T, i, none⟩ a) := by
 have far : ∀ j, j ≠ T → (wr.setCell ⟨T, i, none⟩ a).heap[j]? = wr.heap[j]? := fun j hj => heap_setCell_other wr ⟨T, i, none⟩ j a (by exact hj)
 have hD : D ≠ T := fun e => by have h' := h.dd; rw [e, hT] at h'; cases h'
 refine ⟨(far _ (by omega)).trans h.t4, (far _ hD).trans h.dd, ?_, h.below.setCell (p := ⟨T, i, none⟩) (Nat.le_of_lt hlt) a⟩
 rcases h.ph with ⟨h1, h0⟩ | ⟨j, h1, h2, vt, vw, u, h0⟩ | ⟨j, wd, h1, h2, vt, vw, u, h0⟩
 ·have hR : w.heap.size + 1 ≠ T := fun e => by rw [e, hT] at h0; cases h0
  exact .inl ⟨h1, (far _ hR).trans h0⟩
 ·exact .inr (.inl ⟨j, h1, h2, vt, vw, u, h0.out hT (Nat.le_of_lt hlt) i a⟩)
 ·exact .inr (.inr ⟨j, wd, h1, h2, vt, vw, u, h0.out hT (Nat.le_of_lt hlt) i a⟩)
theorem run_step {w wr W5 : World} {xv vt vw : Value} {D k op : Nat} {tx : ByteArray} {ws : List (List UInt8)} (h : RunI w xv D ws k wr) (hR : wr.heap[w.heap.size + 1]? = some (.cells #[xv, .int .i64 (k : Int), vt, vw] 139 (0, 0)))
  (h5 : (wr.setCell ⟨w.heap.size + 1, 1, none⟩ (.int .i64 ((k : Int) + 1))).alloc (.cells #[.int .i64 (op : Int), .int .i64 0, .string tx] 144) = W5) :
  W5.heap[w.heap.size]? = some (.cells #[.int .i64 0, .int .i64 0, .string ⟨#[]⟩] 31 (0, 0)) ∧ W5.heap[D]? = some (.cells deedsC 141 (0, 0)) ∧ W5.heap[wr.heap.size]? = some (.cells #[.int .i64 (op : Int), .int .i64 0, .string tx] 144 (0, 0)) ∧ Below w.heap.size w W5 ∧
  W5.heap[w.heap.size + 1]? = some (.cells #[xv, .int .i64 ((k : Int) + 1), vt, vw] 139 (0, 0)) ∧ (∀ ts l, RBx w w.heap.size (w.heap.size + 1) xv (k : Int) ts l wr → RBx w w.heap.size (w.heap.size + 1) xv ((k : Int) + 1) ts l W5) := by
 obtain ⟨A, hA, sA, aN, aO, bA⟩ := zag (wr.setCell ⟨w.heap.size + 1, 1, none⟩ (.int .i64 ((k : Int) + 1))) #[.int .i64 (op : Int), .int .i64 0, .string tx] 144
 rw [hA] at h5
 subst h5
 have hsz : (wr.setCell ⟨w.heap.size + 1, 1, none⟩ (.int .i64 ((k : Int) + 1))).heap.size = wr.heap.size := by simp
 rw [hsz] at aN
 have lR := (Array.getElem?_eq_some_iff.1 hR).1
 have far : ∀ j, j < wr.heap.size → j ≠ w.heap.size + 1 → A.heap[j]? = wr.heap[j]? := fun j hj hne => (aO j (by omega)).trans (heap_setCell_other wr ⟨w.heap.size + 1, 1, none⟩ j _ (by exact hne))
 have hD : D ≠ w.heap.size + 1 := fun e => by have := h.dd; rw [e, hR] at this; cases this
 have hb : Below w.heap.size w A := ((h.below.setCell (p := ⟨w.heap.size + 1, 1, none⟩) (by show w.heap.size ≤ w.heap.size + 1; omega) _)).trans (bA.mono (by rw [hsz]; exact h.below.size))
 refine ⟨(far _ (by omega) (by omega)).trans h.t4, (far _ (Array.getElem?_eq_some_iff.1 h.dd).1 hD).trans h.dd, aN, hb, (aO _ (by omega)).trans (heap_setCell_same wr (w.heap.size + 1) 1 _ _ _ hR), ?_⟩
 rintro ts l ⟨vt', vw', u', hr⟩
 exact ⟨vt', vw', u', (hr.setR (i := 1) (at' := (k : Int) + 1) (vt' := vt') (ts' := ts) rfl hr.rt (fun _ hk => hk)).past bA⟩
theorem wantT_len : ∀ (l : List (Bool × Nat)) (last : Bool), (zaE l last).length ≤ 1
 | [], last => by unfold zaE; split <;> simp
 | p :: r, last => by
   unfold zaE
   split
   ·simp
   ·exact wantT_len r last
def KeepB (base : Nat) (V W : World) : Prop := ∀ k cs U, KF base V k cs U → W.heap[k]? = some (.cells cs U (0, 0))
theorem KeepU.toB {V W : World} (h : KeepU V W) (base : Nat) : KeepB base V W := fun k cs U hf => h k cs U hf.2.1 hf.2.2.1 hf.2.2.2.1 hf.2.2.2.2
theorem RBx.past {w0 : World} {base R : Nat} {xv : Value} {at_ : Int} {ts : List ByteArray} {l : List (List UInt8)} {W W' : World} (h : RBx w0 base R xv at_ ts l W) (hb : Below W.heap.size W W') : RBx w0 base R xv at_ ts l W' := by
 obtain ⟨a, b, c, h⟩ := h
 exact ⟨a, b, c, h.past hb⟩
theorem run_begin {w W5 V : World} {xv : Value} {D : Nat} {ws : List (List UInt8)} (s4 : W5.heap[w.heap.size]? = some (.cells #[.int .i64 0, .int .i64 0, .string ⟨#[]⟩] 31 (0, 0))) (sD : W5.heap[D]? = some (.cells deedsC 141 (0, 0)))
  (sR : W5.heap[w.heap.size + 1]? = some (.cells #[xv, .int .i64 (((0 : Nat) : Int) + 1), .slice none 0 0, .slice none 0 0] 139 (0, 0))) (sBel : Below w.heap.size w W5) (hV : Below W5.heap.size W5 V) :
  Calls Tryz.prog 142 #[.pointer (some ⟨w.heap.size + 1, 0, none⟩), insV 5 ⟨#[]⟩] V fun en w' => en = .returned (okV ⟨#[]⟩) ∧ RunI w xv D ws (0 + 1) w' ∧ KeepB w.heap.size V w' := by
 refine (begin_any w V ((hV.block _ (Array.getElem?_eq_some_iff.1 sR).1).trans sR) (sBel.trans (hV.mono sBel.size)) (Nat.le_trans sBel.size hV.size) (Nat.le_succ _)).mono ?_
 rintro en w' ⟨h1, h2, h3⟩
 exact ⟨h1, RunI.of6 ((hV.block _ (Array.getElem?_eq_some_iff.1 s4).1).trans s4) ((hV.block _ (Array.getElem?_eq_some_iff.1 sD).1).trans sD) h3 (.inl ⟨0, rfl, Nat.zero_le _, h2⟩), h3.toB _⟩
theorem run_push {w W5 V : World} {xv : Value} {D k j : Nat} {ws : List (List UInt8)} {wd : List UInt8} (s4 : W5.heap[w.heap.size]? = some (.cells #[.int .i64 0, .int .i64 0, .string ⟨#[]⟩] 31 (0, 0))) (sD : W5.heap[D]? = some (.cells deedsC 141 (0, 0)))
  (hr : RBx w w.heap.size (w.heap.size + 1) xv ((k : Int) + 1) [] (ws.take j) W5) (hk : k = j * 2 + 1) (hj : ws[j]? = some wd) (hV : Below W5.heap.size W5 V) :
  Calls Tryz.prog 138 #[.pointer (some ⟨w.heap.size + 1, 0, none⟩), insV 1 (bt wd)] V fun en w' => en = .returned (okV (bt wd)) ∧ RunI w xv D ws (k + 1) w' ∧ KeepB w.heap.size V w' := by
 refine (doPush_any w V (hr.past hV) (bt wd)).mono ?_
 rintro en w' ⟨h1, h2, h3⟩
 exact ⟨h1, RunI.of6 ((hV.block _ (Array.getElem?_eq_some_iff.1 s4).1).trans s4) ((hV.block _ (Array.getElem?_eq_some_iff.1 sD).1).trans sD) h3 (.inr ⟨j, wd, by omega, hj, h2⟩), h3.toB _⟩
theorem run_add {w W5 V : World} {xv : Value} {D k j : Nat} {ws : List (List UInt8)} {wd : List UInt8} (s4 : W5.heap[w.heap.size]? = some (.cells #[.int .i64 0, .int .i64 0, .string ⟨#[]⟩] 31 (0, 0))) (sD : W5.heap[D]? = some (.cells deedsC 141 (0, 0)))
  (hr : RBx w w.heap.size (w.heap.size + 1) xv ((k : Int) + 1) [bt wd] (ws.take j) W5) (hk : k = j * 2 + 2) (hj : ws[j]? = some wd) (hwd : wd.length ≤ 65536) (hl : ws.length ≤ 100000) (hV : Below W5.heap.size W5 V) :
  Calls Tryz.prog 143 #[.pointer (some ⟨w.heap.size + 1, 0, none⟩), insV 6 ⟨#[]⟩] V fun en w' => en = .returned (okV ⟨#[]⟩) ∧ RunI w xv D ws (k + 1) w' ∧ KeepB w.heap.size V w' := by
 refine (add143_any w V wd (hr.past hV) hwd (by rw [List.length_take]; omega)).mono ?_
 rintro en w' ⟨h1, h2, h3⟩
 have hlt := (List.getElem?_eq_some_iff.1 hj).1
 refine ⟨h1, RunI.of6 ((hV.block _ (Array.getElem?_eq_some_iff.1 s4).1).trans s4) ((hV.block _ (Array.getElem?_eq_some_iff.1 sD).1).trans sD) h3 (.inl ⟨j + 1, by omega, hlt, ?_⟩), h3.toB _⟩
 rw [List.take_succ, hj]
 exact h2
def RunG (m C : Nat) (want : List UInt8) (e : Env) (w : World) (xv : Value) (K : Nat) (V wr : World) : Prop :=
 ∃ e' n' l' vt' vw', FinS m C want n' l' ∧ MS n' l' e' wr ∧ StepB w.heap.size e (zad 365 (lS4 m C)) w e' (zad n' l') wr ∧ wr.heap[w.heap.size + 1]? = some (.cells #[xv, .int .i64 (K : Int), vt', vw'] 139 (0, 0)) ∧ wr.ownsRow w.heap.size 9 1 vt' 1 [.string (bt want)] ∧
   wr.heap[w.heap.size]? = some (.cells #[.int .i64 0, .int .i64 0, .string ⟨#[]⟩] 31 (0, 0)) ∧ ¬ Xe.Own e' (zad n' l') w.heap.size ∧ ∀ k cs U, KF w.heap.size V k cs U → ¬ Xe.Own e' (zad n' l') k
theorem RunG.toF {m C : Nat} {want : List UInt8} {e : Env} {w : World} {xv : Value} {K : Nat} {V wr : World} (h : RunG m C want e w xv K V wr) : RunF m C want e w xv K wr := by
 obtain ⟨e', n', l', vt', vw', h1, h2, h3, h4, h5, h6, h7, h8⟩ := h
 exact ⟨e', n', l', vt', vw', h1, h2, h3, h4, h5, h6, h7⟩
theorem RunG.past {m C : Nat} {want : List UInt8} {e : Env} {w : World} {xv : Value} {K : Nat} {V wr W : World} (h : RunG m C want e w xv K V wr) (hb : Below wr.heap.size wr W) : RunG m C want e w xv K V W := by
 obtain ⟨e', n', l', vt', vw', h1, h2, h3, h4, h5, h6, h7, h8⟩ := h
 have hsz := h3.size
 exact ⟨e', n', l', vt', vw', h1, h2.below hb, h3.trans (StepB.of_below (hb.mono hsz)), (hb.block _ (Array.getElem?_eq_some_iff.1 h4).1).trans h4, zaz h5 hb, (hb.block _ (Array.getElem?_eq_some_iff.1 h6).1).trans h6, h7, h8⟩
theorem RunG.out {m C : Nat} {want : List UInt8} {e : Env} {w : World} {xv : Value} {K : Nat} {V wr : World} (h : RunG m C want e w xv K V wr) {T i : Nat} {cs cs0 : Array Value} {a : Value} (hV : KF w.heap.size V T cs0 31) (hT : wr.heap[T]? = some (.cells cs 31 (0, 0))) (hlt : w.heap.size < T) : RunG m C want e w xv K V (wr.setCell ⟨T, i, none⟩ a) := by
 obtain ⟨e', n', l', vt', vw', h1, h2, h3, h4, h5, h6, h7, h8⟩ := h
 have far : ∀ j, j ≠ T → (wr.setCell ⟨T, i, none⟩ a).heap[j]? = wr.heap[j]? := fun j hj => heap_setCell_other wr ⟨T, i, none⟩ j a (by exact hj)
 have hR : w.heap.size + 1 ≠ T := fun e => by rw [e, hT] at h4; cases h4
 have hbB : Below w.heap.size wr (wr.setCell ⟨T, i, none⟩ a) := (Below.refl w.heap.size wr).setCell (p := ⟨T, i, none⟩) (Nat.le_of_lt hlt) a
 refine ⟨e', n', l', vt', vw', h1, h2.others hbB.size fun k hk hx => far k fun hkT => ?_, h3.trans (StepB.of_below hbB), (far _ hR).trans h4, zak h5 fun k hk => far k fun hkT => ?_, (far _ (by omega)).trans h6, h7, h8⟩
 ·subst hkT
  rcases hx with hx | hx
  ·have hx0 : k = 0 := hx
   omega
  ·exact h8 _ _ _ hV hx
 ·subst hkT
  obtain ⟨c, hc⟩ := zal h5 hk
  rw [hT] at hc
  cases hc
theorem run_call (m C : Nat) {e : Env} {w : World} (ms : MS 365 (lS4 m C) e w) {X ext : Nat} (hX : e.loc 24 = some ⟨X, 0, ext⟩) {t : Bool} {ts : List Bool} {last : Bool} (hn : ts.length ≤ 100) {want : List UInt8} (hwant : want = zaE (t :: ts).zipIdx last) {k j : Nat} {W5 V : World}
  (s4 : W5.heap[w.heap.size]? = some (.cells #[.int .i64 0, .int .i64 0, .string ⟨#[]⟩] 31 (0, 0))) (hr : RBx w w.heap.size (w.heap.size + 1) (.pointer (some ⟨X, 0, none⟩)) ((k : Int) + 1) [] ((wdsL (t :: ts) last).take j) W5) (hj : j = (wdsL (t :: ts) last).length) (sBel : Below w.heap.size w W5) (hV : Below W5.heap.size W5 V) :
  Calls Tryz.prog 145 #[.pointer (some ⟨w.heap.size + 1, 0, none⟩), insV 8 ⟨#[]⟩] V fun en w' => en = .returned (okV (bt want)) ∧ RunG m C want e w (.pointer (some ⟨X, 0, none⟩)) (k + 1) V w' ∧ KeepB w.heap.size V w' := by
 subst hwant
 have hr' := hr.past hV
 rw [hj, List.take_length] at hr'
 have hb : Below w.heap.size w V := sBel.trans (hV.mono sBel.size)
 refine (call145_any m C (ms.below hb) hX hn hr' (fun k hk => ms.lt hk) (HasG.pos (w := w) ms.g)).mono ?_
 rintro en w' ⟨e', n', l', vt', vw', h1, h2, h3, h4, h5, h6, h7⟩
 have k4 : KF w.heap.size V w.heap.size #[.int .i64 0, .int .i64 0, .string ⟨#[]⟩] 31 := ⟨Nat.le_refl _, by decide, by decide, by decide, (hV.block _ (Array.getElem?_eq_some_iff.1 s4).1).trans s4⟩
 exact ⟨h1, ⟨e', n', l', vt', vw', h2, h3, (StepB.of_below hb).trans h4, h5, h6, (h7 _ _ _ k4).1, (h7 _ _ _ k4).2, fun k cs U hf => (h7 k cs U hf).2⟩, fun k cs U hf => (h7 k cs U hf).1⟩
end Go.Proofs.YtfkeeieoapimlaaGreatDoor
end
