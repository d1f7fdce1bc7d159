/-
  The iterator over elements is made; The program's Split: what its loop keeps; Slices of texts, read; the document's Same; small; Append with 'the same block or a new one'; two rows side by side; The document's Same; small; The words of an if; rounds over lists: plain functions; The document's Conditions; The program's Conditions: what it keeps; the closure that takes a word. Conditions: none.
-/
import Derived.Test.YtjibdoofogmkcaaGreatDoorWi
import Derived.Laws.Tables
import Derived.Laws.CopyOwn
import Derived.Maps.AppendAt
import Derived.Test.YtjibdoofogmkcaaGreatDoorUnaToWe
set_option linter.unusedVariables false
set_option linter.unusedSimpArgs false
set_option linter.unusedSectionVars false
set_option linter.deprecated false
section
namespace Go.Proofs.YtjibdoofogmkcaaGreatDoor
open Go.ChangeShapes Go.WideShapes Go.ChangeAt Go.RowKit
set_option maxRecDepth 100000
theorem rdrs_store (W : World) : ∃ W', (storeCells ⟨W.heap.size, 0, none⟩ rdrs.toList).run Tryz.prog (W.alloc (.cells #[.nilFunc, .nilFunc, .nilFunc] 118)) = .ok () W' ∧ W'.heap[W.heap.size]? = some (.cells rdrs 118 (0, 0)) ∧ Below W.heap.size W W' ∧ W'.heap.size = W.heap.size + 1 := by
  have h := run_storeCells_from (P := Tryz.prog) W.heap.size 118 rdrs.toList 0 #[.nilFunc, .nilFunc, .nilFunc] (W.alloc (.cells #[.nilFunc, .nilFunc, .nilFunc] 118)) (heap_alloc_new W _) rfl (by intro v hv; simp [rdrs] at hv; rcases hv with rfl | rfl | rfl <;> rfl)
  refine ⟨_, h, ?_, ?_, ?_⟩
  · exact setRow_heap _ _ _ _ _ _ (heap_alloc_new W _)
  · exact below_setRow ((Below.refl _ W).alloc (Nat.le_refl _) _) (Nat.le_refl _) _
  · simp
set_option maxHeartbeats 1000000 in
theorem readers_any (w : World) : Calls Tryz.prog 80 #[] w fun e w' => e = .returned (.agg rdrs) ∧ Below w.heap.size w w' := by
  obtain ⟨W', h1, h2, h3, h4⟩ := rdrs_store w
  simp [rdrs, storeCells, Addr.add] at h1
  go_enter Tryz.func80, Tryz.ntmps80
  go_wp2
  refine bodyPost_ret (results_cell_row (p := 0) (ty := 118) (by kernel_rfl) _ _ w.heap.size 118 _ (0, 0) _ rfl h2 Tryz.underlying118 (by kernel_rfl) (by kernel_rfl)) rfl ⟨rfl, h3⟩
set_option maxHeartbeats 1000000 in
theorem elements_any (s : ByteArray) (w : World) : Calls Tryz.prog 28 #[.string s] w fun e w' => ∃ B1 B2, e = .returned (.func (.func 81) #[] #[.pointer (some ⟨B1, 0, none⟩), .pointer (some ⟨B2, 0, none⟩)]) ∧ Caps s B1 B2 w' ∧ w.heap.size ≤ B1 ∧ w.heap.size ≤ B2 ∧ Below w.heap.size w w' := by
  have hmf : ∀ (fn : Fn) (first cap : Array Value) (w : World), (Instr.makeFunc fn first cap).run Tryz.prog w = .ok (.func fn first cap) w := fun _ _ _ _ => rfl
  obtain ⟨A, hA, sA, aN, aO, bA⟩ := alloc_pack w #[.string s] 9
  have HA := Lib.hid hA
  have HB := Lib.hid bA
  have HN := Lib.hid aN
  clear hA bA aN aO
  go_enter Tryz.func28, Tryz.ntmps28
  go_wp2_with (go_at_call 80; refine (readers_any _).mono ?_; rintro e w1 ⟨rfl, hb1⟩; dsimp only; have HB1 := Lib.hid hb1; clear hb1)
  have hb1 := HB1.out
  rw [HA.out] at hb1
  obtain ⟨W', h1, h2, h3, h4⟩ := rdrs_store w1
  rw [h1]
  simp only [Result.andThen]
  rw [Oper.upon_skip]
  have H2 := Lib.hid h2
  have H3 := Lib.hid h3
  have HBB := Lib.hid hb1
  clear h1 h2 h3 hb1
  go_wp2
  go_ret
  have hs1 := HBB.out.size
  have hwt : Below w.heap.size w W' := (HB.out.trans (HBB.out.mono (by omega))).trans (H3.out.mono (by omega))
  have k1 : W'.heap[w.heap.size]? = some (.cells #[.string s] 9 (0, 0)) := ((H3.out.block _ (by omega)).trans (HBB.out.block _ (by omega))).trans HN.out
  exact ⟨_, _, rfl, ⟨k1, H2.out⟩, by omega, by omega, hwt⟩
end Go.Proofs.YtjibdoofogmkcaaGreatDoor
end
section
namespace Go.Proofs.YtjibdoofogmkcaaGreatDoor
open Go.RowKit Go.Shelf
attribute [local go_sem] Oper.semAt_some
set_option maxRecDepth 100000
def strV (t : List UInt8) : Value := .string ⟨t.toArray⟩
theorem Keep2.refl (B1 B2 : Nat) (W : World) : Keep2 B1 B2 W W := ⟨rfl, rfl⟩
theorem keep2_put {w : World} {B1 B2 : Nat} (h1 : B1 < w.heap.size) (h2 : B2 < w.heap.size) (W : World) (l : Nat) (o o' : Obj) (hl : w.heap.size ≤ l) (h : W.heap[l]? = some o) (_ : o.isCells = false) (_ : o.isWalk = false) : Keep2 B1 B2 W (W.putObj l o') :=
  ⟨World.putObj_heap_other (by omega), World.putObj_heap_other (by omega)⟩
theorem ownsRow_rebase {W : World} {b b' : Nat} {e : TypeId} {size : Nat} {v : Value} {n : Nat} {xs : List Value} (h : W.ownsRow b e size v n xs) (hk : ∀ k, v.ownBlock = some k → b' ≤ k) : W.ownsRow b' e size v n xs := by
  refine ⟨h.1, ?_⟩
  rcases h.2 with h2 | ⟨g, cap, cur, rfl, _, h3⟩
  · exact .inl h2
  · exact .inr ⟨g, cap, cur, rfl, hk g rfl, h3⟩
theorem ownsRow_form {W : World} {b : Nat} {e : TypeId} {size : Nat} {v : Value} {n : Nat} {xs : List Value} (h : W.ownsRow b e size v n xs) : ∃ a c, v = .slice a n c := by
  rcases h.2 with ⟨rfl, rfl⟩ | ⟨g, cap, cur, rfl, _⟩
  · exact ⟨_, _, rfl⟩
  · exact ⟨_, _, rfl⟩
structure SpI (w : World) (m b : Nat) (pre : List El) (W : World) : Prop where
  ok : pre.all (·.ok) = true
  row : ∃ v, Boxed W b 22 v ∧ W.ownsRow m 9 1 v pre.length (pre.map fun x => strV x.tx) ∧ True
  at_ : Boxed W (b + 1) 3 (.int .i64 0)
  err : Boxed W (b + 2) 25 (.int .i64 0)
  many : Boxed W (b + 3) 4 (.bool false)
  bel : Below w.heap.size w W
  sz : m ≤ W.heap.size
structure SpX (w : World) (b : Nat) (c : Code) (pre : List El) (W : World) : Prop where
  jump : c = .ret
  bad : ¬ pre.all (·.ok) = true
  row : Boxed W b 22 (.slice none 0 0)
  at_ : ∃ k, Boxed W (b + 1) 3 (.int .i64 k)
  err : Boxed W (b + 2) 25 (.int .i64 2)
  bel : Below w.heap.size w W
theorem spI_own (w : World) (m b : Nat) (hm : w.heap.size ≤ m) : OwnFrom m (SpI w m b) := by
  intro s W W' row h hg hr
  have hr' := fun r e => (hr r e).2
  exact {
    ok := h.ok
    row := holdsRow_own m b 22 9 1 (fun pre : List El => pre.length) (fun pre => pre.map fun x => strV x.tx) (fun _ _ => True) s W W' row h.row hg hr'
    at_ := boxed_own (b + 1) 3 (fun _ : Unit => .int .i64 0) () W W' row h.at_ hg hr'
    err := boxed_own (b + 2) 25 (fun _ : Unit => .int .i64 0) () W W' row h.err hg hr'
    many := boxed_own (b + 3) 4 (fun _ : Unit => .bool false) () W W' row h.many hg hr'
    bel := h.bel.grown hg h.bel.size (fun k e => Nat.le_trans hm (hr k e).1)
    sz := Nat.le_trans h.sz hg.size }
theorem spX_own (w : World) (m b : Nat) (hm : w.heap.size ≤ m) (c : Code) : OwnFrom m (SpX w b c) := by
  intro s W W' row h hg hr
  have hr' := fun r e => (hr r e).2
  obtain ⟨k, hk⟩ := h.at_
  exact {
    jump := h.jump
    bad := h.bad
    row := boxed_own b 22 (fun _ : Unit => .slice none 0 0) () W W' row h.row hg hr'
    at_ := ⟨k, boxed_own (b + 1) 3 (fun _ : Unit => .int .i64 k) () W W' row hk hg hr'⟩
    err := boxed_own (b + 2) 25 (fun _ : Unit => .int .i64 2) () W W' row h.err hg hr'
    bel := h.bel.grown hg h.bel.size (fun k e => Nat.le_trans hm (hr k e).1) }
def ElAt (W : World) (Bx : Nat) (x : El) : Prop := W.heap[Bx]? = some (.cells #[.string ⟨x.tx.toArray⟩, .bool x.ok] 55 (0, 0))
theorem elAt_own (m Bx : Nat) (x : El) : OwnFrom m (fun (_ : Unit) W => ElAt W Bx x) := by
  intro s W W' row h hg hr
  exact (grownBy_keeps_cells hg (fun r e => (hr r e).2) h rfl).trans h
theorem results_cells3 {fn : Func} {p q r : Tmp} (h : fn.results = #[.cell p 22, .cell q 3, .cell r 25]) (tmps : Array Value) (w : World) {a b c : Addr} {x y z : Value} (hp : tmps.getD p undef = .pointer (some a)) (hq : tmps.getD q undef = .pointer (some b)) (hr : tmps.getD r undef = .pointer (some c))
    (ha : w.cell? a = some x) (hb : w.cell? b = some y) (hc : w.cell? c = some z) : (results fn tmps).run Tryz.prog w = .ok (.tuple #[x, y, z]) w := by
  rw [Array.getD_eq_getD_getElem?] at hp hq hr
  simp [results, h, hp, hq, hr, asAddr, loadVar, Tryz.isAgg22, Tryz.isAgg3, Tryz.isAgg25, run_load, ha, hb, hc, Result.andThen]
theorem ownsRow_blk {w : World} {base e size : Nat} {v : Value} {n : Nat} {xs : List Value} (h : w.ownsRow base e size v n xs) {k : Nat} (hk : v.ownBlock = some k) : ∃ c, w.heap[k]? = some (.cells c e (0, 0)) := by
  rcases h.2 with ⟨rfl, _⟩ | ⟨g, cap, cur, rfl, _, hg, _⟩
  · cases hk
  · cases hk; exact ⟨_, hg⟩
theorem boxed_put {W : World} {B D : Nat} {t : TypeId} {v : Value} {ds : Option (List Deferred)} (h : Boxed W B t v) (hK : W.heap[D]? = some (.deferred ds)) (o : Obj) : Boxed (W.putObj D o) B t v := by
  have hne : B ≠ D := by
    rintro rfl
    rw [show W.heap[B]? = _ from h] at hK
    cases hK
  exact (World.putObj_heap_other hne).trans h
theorem SpI.step {w W w2 : World} {m b : Nat} {pre : List El} {x : El} {v v' : Value} {tmp : Obj} (h : SpI w m b pre W) (hm : b + 4 ≤ m) (hbw : w.heap.size ≤ b) (hv : Boxed W b 22 v) (hrow : W.ownsRow m 9 1 v pre.length (pre.map fun x => strV x.tx))
    (hown' : w2.ownsRow m 9 1 v' (pre.length + 1) (pre.map (fun x => strV x.tx) ++ [strV x.tx])) (hgrow : (W.alloc tmp).grownBy w2 v.ownBlock) (hok : x.ok = true) :
    Boxed w2 b 22 v ∧ SpI w m b (pre ++ [x]) (w2.setCell ⟨b, 0, none⟩ v') ∧ KeepsOthers W (w2.setCell ⟨b, 0, none⟩ v') ∧ ∀ B, B < m → B ≠ b → (w2.setCell ⟨b, 0, none⟩ v').heap[B]? = W.heap[B]? := by
  have hne : ∀ B, B < m → some B ≠ v.ownBlock := fun B hB e => by
    have := (hrow.lt B e.symm).1
    omega
  obtain ⟨a1, a2, a3, a4, a5⟩ := hv.appended (n₀ := w.heap.size) (by decide) (ownsRow_mono hrow (by omega)) h.bel.size hbw (ownsRow_mono hown' (by omega)) hgrow
  have hsz := h.sz
  refine ⟨a1, ?_, a4, ?_⟩
  · exact {
      ok := by simp [h.ok, hok]
      row := ⟨v', a2, by
        have := ownsRow_rebase (b' := m) a3 (fun k hk => (hown'.lt k hk).1)
        simpa using this, trivial⟩
      at_ := ((h.at_.alloc tmp).kept hgrow (hne _ (by omega))).other (by omega) _
      err := ((h.err.alloc tmp).kept hgrow (hne _ (by omega))).other (by omega) _
      many := ((h.many.alloc tmp).kept hgrow (hne _ (by omega))).other (by omega) _
      bel := h.bel.trans a5
      sz := by
        have := hgrow.size
        simp at this ⊢; omega }
  · intro B hB hb
    rw [heap_setCell_other _ _ _ _ (by exact hb), hgrow.block B (by simp; omega) (hne B hB), heap_alloc_old W _ (by omega)]
theorem info9 : (Tryz.prog.info? 9).map (fun i => (i.zero, i.size, i.bytes)) = some (some (.string ⟨#[]⟩), 1, 16) := by kernel_rfl
set_option maxHeartbeats 4000000 in
theorem split_any (s : ByteArray) (hs : s.size ≤ 1000) (w : World) : Calls Tryz.prog 17 #[.string s] w fun e w' =>
    (∀ xs, spl (L s) = some xs → ∃ sv, e = .returned (.tuple #[sv, .int .i64 0, .int .i64 0]) ∧ w'.ownsRow w.heap.size 9 1 sv xs.length (xs.map strV)) ∧
    (spl (L s) = none → ∃ at_ : Int, e = .returned (.tuple #[.slice none 0 0, .int .i64 at_, .int .i64 2])) ∧ Below w.heap.size w w' := by
  refine (callsIn_wide (n := 8)).1 ?_
  refine callsIn_of_wp_marks Tryz.func17 rfl trivial ?_ rfl
  simp only [Tryz.ntmps17, List.size_toArray, List.length_cons, List.length_nil, Nat.reduceAdd, Nat.reduceSub, Array.replicate_succ, Array.replicate_zero, List.push_toArray, List.append_toArray, List.nil_append, List.cons_append]
  gi_wp2_with (refine ⟨trivial, ?_⟩; gi_at_call 28; refine (callsIn_wide.2 (elements_any s _)).mono ?_; rintro e w1 ⟨B1, B2, rfl, hcaps, hB1, hB2, hbel⟩; dsimp only; have HC := Lib.hid hcaps; have HBB := Lib.hid hbel; have HB1 := Lib.hid hB1; have HB2 := Lib.hid hB2; clear hcaps hbel hB1 hB2)
  obtain ⟨A1, hA1, sA1, n1, o1, b1⟩ := alloc_pack w #[.slice none 0 0] 22
  obtain ⟨A2, hA2, sA2, n2, o2, b2⟩ := alloc_pack A1 #[.int .i64 0] 3
  obtain ⟨A3, hA3, sA3, n3, o3, b3⟩ := alloc_pack A2 #[.int .i64 0] 25
  obtain ⟨A4, hA4, sA4, n4, o4, b4⟩ := alloc_pack A3 #[.bool false] 4
  have hbel := HBB.out
  have hB1 := HB1.out
  have hB2 := HB2.out
  rw [hA1, hA2, hA3, hA4] at hbel hB1 hB2
  have hcaps := HC.out
  have hk1 := (Array.getElem?_eq_some_iff.1 hcaps.b1).1
  have hk2 := (Array.getElem?_eq_some_iff.1 hcaps.b2).1
  have hsz := hbel.size
  have hw1 : Below w.heap.size w w1 := (((b1.trans (b2.mono (by omega))).trans (b3.mono (by omega))).trans (b4.mono (by omega))).trans (hbel.mono (by omega))
  have k0 : w1.heap[w.heap.size]? = some (.cells #[.slice none 0 0] 22 (0, 0)) := by rw [hbel.block _ (by omega), o4 _ (by omega), o3 _ (by omega), o2 _ (by omega)]; exact n1
  have k1 : w1.heap[w.heap.size + 1]? = some (.cells #[.int .i64 0] 3 (0, 0)) := by rw [hbel.block _ (by omega), o4 _ (by omega), o3 _ (by omega), ← sA1]; exact n2
  have k2 : w1.heap[w.heap.size + 2]? = some (.cells #[.int .i64 0] 25 (0, 0)) := by rw [hbel.block _ (by omega), o4 _ (by omega), show w.heap.size + 2 = A2.heap.size by omega]; exact n3
  have k3 : w1.heap[w.heap.size + 3]? = some (.cells #[.bool false] 4 (0, 0)) := by rw [hbel.block _ (by omega), show w.heap.size + 3 = A3.heap.size by omega]; exact n4
  have hI0 : SpI w w1.heap.size w.heap.size [] w1 := ⟨rfl, ⟨_, k0, World.ownsRow_nil w1 _ 9 1, trivial⟩, k1, k2, k3, hw1, Nat.le_refl _⟩
  have hm : w.heap.size ≤ w1.heap.size := hw1.size
  clear n1 o1 b1 n2 o2 b2 n3 o3 b3 n4 o4 b4 hA1 hA2 hA3 hA4 hbel k0 k1 k2 k3 HBB HB1 HB2 HC
  refine wpIn_rangeFunc_ownH rfl (by omega) (gf := 81) (lb := #[.pointer (some ⟨B1, 0, none⟩), .pointer (some ⟨B2, 0, none⟩)]) rfl trivial (enters_of Tryz.func81 (by kernel_rfl) rfl)
    (elements_stops 7 (by omega) s (by omega) B1 B2 w1 hcaps) Keep2.trans (keep2_put hk1 hk2) (Below.refl _ _) (fun _ => rfl)
    (SpI w w1.heap.size w.heap.size) (SpX w w.heap.size) (spI_own w _ _ hm) (spX_own w _ _ hm) hI0
    (fun x a' W => ∃ Bx, w1.heap.size ≤ Bx ∧ ElAt W Bx x ∧ a' = { tmps := #[.string s, undef, .pointer (some ⟨w.heap.size, 0, none⟩), .pointer (some ⟨w.heap.size + 1, 0, none⟩), .pointer (some ⟨w.heap.size + 1 + 1, 0, none⟩), .pointer (some ⟨w.heap.size + 1 + 1 + 1, 0, none⟩), .int .i64 (x.at_ : Int), .pointer (some ⟨Bx, 0, none⟩), .string s, .func (.func 81) #[] #[.pointer (some ⟨B1, 0, none⟩), .pointer (some ⟨B2, 0, none⟩)], .int .i64 (x.at_ : Int), .agg #[.string ⟨x.tx.toArray⟩, .bool x.ok], undef, undef, undef, undef, undef, undef, undef, undef, undef, undef, undef, undef, undef, undef, undef, undef], defers := [] })
    ?hAx ?assign ?body ?done ?stop
  case hAx =>
    rintro x a' u W W' row ⟨Bx, h1, h2, h3⟩ hg hr
    exact ⟨Bx, h1, elAt_own _ Bx x () W W' row h2 hg hr, h3⟩
  case assign =>
    intro l pre x W K hI hK
    have HI := Lib.hid hI
    have HK := Lib.hid hK
    have hsW := hI.sz
    clear hI hK
    dsimp only [encE]
    gi_wp2
    exact HK.out _ _ ((KeepsOthers.alloc _ _).from _) ⟨heap_alloc_old W _ (by omega), heap_alloc_old W _ (by omega)⟩ ((spI_own w _ _ hm).alloc _ HI.out) ⟨W.heap.size, hsW, heap_alloc_new W _, rfl⟩
  case body =>
    rintro l pre x a' W hl hr hI ⟨Bx, hBx, hxb, rfl⟩ hN
    have hxb0 := cell_of_row W Bx 0 _ _ _ hxb
    have hxb1 := cell_of_row W Bx 1 _ _ _ hxb
    obtain ⟨v, hv, hrow, _⟩ := hI.row
    have cv := hv.cell
    have fv := hv.frozen
    have c1 := hI.at_.cell
    have f1 := hI.at_.frozen
    have c2 := hI.err.cell
    have f2 := hI.err.frozen
    have hsW := hI.bel.size
    have hsz' := hI.sz
    obtain ⟨va, vc, hvf⟩ := ownsRow_form hrow
    have HI := Lib.hid hI
    have HV := Lib.hid hv
    have HR := Lib.hid hrow
    have hlen : pre.length ≤ 1000 := by omega
    clear hI hxb
    obtain ⟨xa, xt, xo⟩ := x
    cases xo with
    | false =>
      clear hv hrow
      simp at hxb1
      subst hvf
      gi_wp2
      have h := HI.out
      refine ⟨((KeepsOthers.setCell _ _ _).trans ((KeepsOthers.setCell _ _ _).trans (KeepsOthers.setCell _ _ _))).from _, rfl, by simp, ?_, ⟨xa, ?_⟩, ?_, ?_⟩
      · exact ((HV.out.set _).other (by omega) _).other (by omega) _
      · exact ((h.at_.other (by omega) _).set _).other (by omega) _
      · exact ((h.err.other (by omega) _).other (by omega) _).set _
      · exact ((h.bel.setCell (p := ⟨w.heap.size, 0, none⟩) (Nat.le_refl _) _).setCell (p := ⟨w.heap.size + 1, 0, none⟩) (by simp) _).setCell (p := ⟨w.heap.size + 1 + 1, 0, none⟩) (by simp; omega) _
    | true =>
      simp at hxb1 hxb0
      subst hvf
      obtain ⟨i0, hi, hz0, hz1, hz2⟩ := info_parts info9
      have hl0 : ((pre.length : Int) == 10000) = false := by simp; omega
      clear hv hrow
      gi_wp2_with (gi_at_builtin; refine wpListIn_append_own _ rfl _ _ 22 rfl w1.heap.size 9 i0 (.string ⟨#[]⟩) 1 16 Tryz.underlying22 hi hz0 hz1 hz2 rfl (by decide) _ _ _ rfl (HR.out.alloc _) ⟨W.heap.size, 0, none⟩ 1 1 [.string ⟨xt.toArray⟩] rfl rfl (cell_one_new _ _ _) (by simp [Value.oneCell']) (by simp only [maxLen]; omega) (by omega) (by simp; omega) ?_; intro v' w2 hown' hgrow _; obtain ⟨g', cap', rfl⟩ := ownsRow_succ hown'; obtain ⟨q1, q2, q3, q4⟩ := SpI.step (x := ⟨xa, xt, true⟩) HI.out (by omega) (Nat.le_refl _) HV.out HR.out hown' hgrow rfl; have hc1 := q1.cell; have hf1 := q1.frozen; have Q2 := Lib.hid q2; have Q3 := Lib.hid q3; have Q4 := Lib.hid q4; clear q1 q2 q3 q4 hown' hgrow)
      exact ⟨Q3.out.from _, ⟨Q4.out _ hk1 (by omega), Q4.out _ hk2 (by omega)⟩, Q2.out⟩
  case done =>
    rintro D ys W hD rfl hI hK
    obtain ⟨v, hv, hrow, _⟩ := hI.row
    obtain ⟨va, vc, rfl⟩ := ownsRow_form hrow
    have cv := hv.cell
    have fv := hv.frozen
    have c1 := hI.at_.cell
    have f1 := hI.at_.frozen
    have c2 := hI.err.cell
    have f2 := hI.err.frozen
    have c3 := hI.many.cell
    have HI := Lib.hid hI
    have HV := Lib.hid hv
    have HR := Lib.hid hrow
    have hsp := spl_evs (L s).length (L s) 0 (Nat.le_refl _)
    rw [if_pos hI.ok] at hsp
    have HSP := Lib.hid hsp
    clear hI hv hrow hsp
    gi_wp2
    have hI := HI.out
    have hv' := ((HV.out.set (.slice va (evs (L s) 0).length vc)).other (B' := w.heap.size + 1) (by omega) (.int .i64 0)).other (B' := w.heap.size + 1 + 1) (by omega) (.int .i64 0)
    have ha' := ((hI.at_.other (B' := w.heap.size) (by omega) (.slice va (evs (L s) 0).length vc)).set (.int .i64 0)).other (B' := w.heap.size + 1 + 1) (by omega) (.int .i64 0)
    have he' := ((hI.err.other (B' := w.heap.size) (by omega) (.slice va (evs (L s) 0).length vc)).other (B' := w.heap.size + 1) (by omega) (.int .i64 0)).set (.int .i64 0)
    have hK' : (((W.setCell ⟨w.heap.size, 0, none⟩ (.slice va (evs (L s) 0).length vc)).setCell ⟨w.heap.size + 1, 0, none⟩ (.int .i64 0)).setCell ⟨w.heap.size + 1 + 1, 0, none⟩ (.int .i64 0)).heap[D]? = some (.deferred (some [])) :=
      ((KeepsOthers.setCell W ⟨w.heap.size, 0, none⟩ (.slice va (evs (L s) 0).length vc)).trans ((KeepsOthers.setCell _ ⟨w.heap.size + 1, 0, none⟩ (.int .i64 0)).trans (KeepsOthers.setCell _ ⟨w.heap.size + 1 + 1, 0, none⟩ (.int .i64 0)))).same D _ hK rfl
    have hbel := ((hI.bel.setCell (p := ⟨w.heap.size, 0, none⟩) (Nat.le_refl _) (.slice va (evs (L s) 0).length vc)).setCell (p := ⟨w.heap.size + 1, 0, none⟩) (by simp) (.int .i64 0)).setCell (p := ⟨w.heap.size + 1 + 1, 0, none⟩) (by simp; omega) (.int .i64 0)
    refine ⟨by simp, .inl ⟨_, _, rfl, run_takeDeferred hK', ?_⟩⟩
    refine ⟨_, results_cells3 rfl _ _ rfl rfl rfl (boxed_put hv' hK' _).cell (boxed_put ha' hK' _).cell (boxed_put he' hK' _).cell, ?_, ?_, ?_⟩
    · intro xs hxs
      rw [HSP.out] at hxs
      cases hxs
      refine ⟨_, rfl, ?_⟩
      have hr := HR.out
      have hr2 := ownsRow_agree (w' := ((((W.setCell ⟨w.heap.size, 0, none⟩ (.slice va (evs (L s) 0).length vc)).setCell ⟨w.heap.size + 1, 0, none⟩ (.int .i64 0)).setCell ⟨w.heap.size + 1 + 1, 0, none⟩ (.int .i64 0)).putObj D (.deferred none))) hr fun k hk => by
        have hlt := (hr.lt k hk).1
        obtain ⟨c, hc⟩ := ownsRow_blk hr hk
        have hkD : k ≠ D := by rintro rfl; rw [hc] at hK; cases hK
        rw [World.putObj_heap_other hkD, heap_setCell_other _ _ _ _ (by simp; omega), heap_setCell_other _ _ _ _ (by simp; omega), heap_setCell_other _ _ _ _ (by simp; omega)]
      rw [List.length_map, List.map_map]
      exact ownsRow_mono hr2 hm
    · intro h
      rw [HSP.out] at h
      cases h
    · exact hbel.trans (belowK_b (w := w) (Nat.le_refl _) _ D _ _ (by omega) hK' rfl rfl)
  case stop =>
    rintro D c pre W hD hpre hX hK
    obtain ⟨rfl, hbad, hv, ⟨k, hk⟩, herr, hbel⟩ := hX
    have cv := hv.cell
    have c1 := hk.cell
    have c2 := herr.cell
    have HBEL := Lib.hid hbel
    have HBAD := Lib.hid hbad
    have HPRE := Lib.hid hpre
    clear hbel hbad hpre
    gi_wp2
    refine ⟨by simp, .inl ⟨_, _, rfl, run_takeDeferred hK, ?_⟩⟩
    refine ⟨_, results_cells3 rfl _ _ rfl rfl rfl (boxed_put hv hK _).cell (boxed_put hk hK _).cell (boxed_put herr hK _).cell, ?_, ?_, ?_⟩
    · intro xs hxs
      rw [spl_evs (L s).length (L s) 0 (Nat.le_refl _)] at hxs
      obtain ⟨r, hr⟩ := HPRE.out
      rw [if_neg] at hxs
      · cases hxs
      · rw [← hr, List.all_append]
        intro h
        exact HBAD.out (by simp only [Bool.and_eq_true] at h; exact h.1)
    · intro _
      exact ⟨k, rfl⟩
    · exact HBEL.out.trans (belowK_b (w := w) (Nat.le_refl _) _ D _ _ (by omega) hK rfl rfl)
end Go.Proofs.YtjibdoofogmkcaaGreatDoor
end
section
namespace Go.Proofs.YtjibdoofogmkcaaGreatDoor
open Go.ChangeShapes Go.WideShapes Go.ChangeAt Go.RowKit
set_option maxRecDepth 100000
def StrRow (w : World) (v : Value) (l : List (List UInt8)) : Prop :=
  (v = .slice none 0 0 ∧ l = []) ∨ ∃ (a : Addr) (c : Nat), v = .slice (some a) l.length c ∧ ∀ i t, l[i]? = some t → w.cell? (a.add i) = some (strV t)
theorem cell_later {w w' : World} {p : Addr} {v : Value} (h : w.cell? p = some v) (hb : Below w.heap.size w w') : w'.cell? p = some v := by
  obtain ⟨o, ho, _⟩ := cells_of_cell h
  exact (World.cell?_of_block (hb.block _ (Array.getElem?_eq_some_iff.1 ho).1)).trans h
theorem StrRow.later {w w' : World} {v : Value} {l : List (List UInt8)} (h : StrRow w v l) (hb : Below w.heap.size w w') : StrRow w' v l := by
  rcases h with h | ⟨a, c, h1, h2⟩
  · exact .inl h
  · exact .inr ⟨a, c, h1, fun i t hi => cell_later (h2 i t hi) hb⟩
theorem ownsRow_str {w : World} {b : Nat} {v : Value} {l : List (List UInt8)} (h : w.ownsRow b 9 1 v l.length (l.map strV)) : StrRow w v l := by
  rcases h.2 with ⟨hv, h0⟩ | ⟨g, cap, cur, rfl, h1, h2, h3⟩
  · exact .inl ⟨by rw [hv], List.eq_nil_of_length_eq_zero h0⟩
  · refine .inr ⟨⟨g, 0, none⟩, cap, rfl, fun i t hi => ?_⟩
    have := h.cells (g := g) rfl i (strV t) (by rw [List.getElem?_map, hi]; rfl)
    exact this
theorem StrRow.form {w : World} {v : Value} {l : List (List UInt8)} (h : StrRow w v l) : ∃ a c, v = .slice a l.length c ∧ ∀ i t, l[i]? = some t → ∃ p, a = some p ∧ w.cell? (p.add i) = some (strV t) := by
  rcases h with ⟨rfl, rfl⟩ | ⟨a, c, h1, h2⟩
  · exact ⟨none, 0, rfl, fun i t hi => by simp at hi⟩
  · exact ⟨some a, c, h1, fun i t hi => ⟨a, rfl, h2 i t hi⟩⟩
def bulk (l : List (List UInt8)) : Nat := (l.map fun t => t.length + 1).sum
theorem strV_size (t : List UInt8) : (⟨t.toArray⟩ : ByteArray).size = t.length := by simp [ByteArray.size]
end Go.Proofs.YtjibdoofogmkcaaGreatDoor
end
section
namespace Go.Proofs.YtjibdoofogmkcaaGreatDoor
open Go.ChangeShapes Go.WideShapes Go.ChangeAt Go.RowKit
section
variable {P : Program} {w : World}
def SameOrNew (w : World) (v v' : Value) : Prop := v'.ownBlock = v.ownBlock ∨ ∀ k, v'.ownBlock = some k → w.heap.size ≤ k
theorem run_append_tag (base : Nat) (t ty e : TypeId) (i : TypeInfo) (z : Value) (size bytes : Nat) (ht : P.underlying t = some (.slice e)) (hi : P.info? e = some i) (hz : i.zero = some z)
    (hsize : i.size = size) (hby : i.bytes = bytes) (hzs : z.cells.size = size) (hsz : 0 < size)
    (v : Value) (n : Nat) (xs : List Value) (hown : w.ownsRow base e size v n xs)
    (a : Addr) (m c : Nat) (news : List Value) (hl : news.length = m * size) (hnews : ∀ j u, news[j]? = some u → w.cell? (a.add j) = some u) (h1 : ∀ u ∈ news, u.oneCell' = true)
    (h63 : n + m ≤ maxLen) (hbytes : (n + m) * bytes ≤ 140737488355328) (hbase : base ≤ w.heap.size) :
    ∃ v' w', (Builtin.append_ #[t, t] ty #[v, .slice (some a) m c]).run P w = .ok v' w' ∧ w'.ownsRow base e size v' (n + m) (xs ++ news) ∧ w.grownBy w' v.ownBlock ∧ SameOrNew w v v' := by
  obtain ⟨v', w', hr, h2, h3, h4⟩ := run_append_own (P := P) w base t ty e i z size bytes ht hi hz hsize hby hzs hsz v n xs hown a m c news hl hnews h1 h63 hbytes hbase
  refine ⟨v', w', hr, h2, h3, ?_⟩
  subst hsize
  rcases hown.2 with ⟨rfl, rfl⟩ | ⟨g, cap, cur, rfl, hbg, hg, hnc, hcm, hcs, htake⟩
  ·
    have hx : xs = [] := List.eq_nil_of_length_eq_zero (by simpa using hown.1)
    subst hx
    obtain ⟨v2, w2, hr2, g2, g3, g4⟩ := run_append_own (P := P) w w.heap.size t ty e i z i.size bytes ht hi hz rfl hby hzs hsz (.slice none 0 0) 0 [] (World.ownsRow_nil w _ e i.size) a m c news hl hnews h1 h63 hbytes (Nat.le_refl _)
    rw [hr] at hr2
    cases hr2
    exact .inr fun k hk => (g2.lt k hk).1
  · by_cases hroom : n + m ≤ cap
    · have hfit : n * i.size + news.length ≤ cur.size := by rw [hl, hcs, ← Nat.add_mul]; exact Nat.mul_le_mul_right _ hroom
      have hr2 := run_append_room (P := P) w t ty e i ht hi g n cap cur hg a m c news hl hnews h1 hroom hfit
      rw [hr] at hr2
      cases hr2
      exact .inl rfl
    · have holds : ∀ j u, xs[j]? = some u → w.cell? ((⟨g, 0, none⟩ : Addr).add j) = some u := hown.cells (g := g) rfl
      have hm' : n + m ≤ 9223372036854775807 := by simp only [maxLen] at h63; omega
      have hr2 := run_append_grow (P := P) w t ty e i z ht hi hz ⟨g, 0, none⟩ n cap xs hown.1 holds a m c news hl hnews (by omega) (by omega) (growslice_fits (by omega) (by rw [hby]; exact hbytes))
      rw [hr] at hr2
      cases hr2
      exact .inr fun k hk => by simp [Value.ownBlock] at hk; omega
theorem wp_append_tag {o : Oper} {a : Act} {K : Act → World → Prop} {Q : Exit → Act → World → Prop} (s x : Operand) (t : TypeId)
    (ho : o.op = .call { callee := .builtin .append, args := #[s, x], argTypes := #[t, t] })
    (base : Nat) (e : TypeId) (i : TypeInfo) (z : Value) (size bytes : Nat) (ht : P.underlying t = some (.slice e)) (hi : P.info? e = some i) (hz : i.zero = some z)
    (hsize : i.size = size) (hby : i.bytes = bytes) (hzs : z.cells.size = size) (hsz : 0 < size)
    (v : Value) (n : Nat) (xs : List Value) (hs : a.eval s = v) (hown : w.ownsRow base e size v n xs)
    (ad : Addr) (m c : Nat) (news : List Value) (hx : a.eval x = .slice (some ad) m c) (hl : news.length = m * size) (hnews : ∀ j u, news[j]? = some u → w.cell? (ad.add j) = some u) (h1 : ∀ u ∈ news, u.oneCell' = true)
    (h63 : n + m ≤ maxLen) (hbytes : (n + m) * bytes ≤ 140737488355328) (hbase : base ≤ w.heap.size)
    (h : ∀ v' w', w'.ownsRow base e size v' (n + m) (xs ++ news) → w.grownBy w' v.ownBlock → SameOrNew w v v' → K (a.put o.dst v') w') : o.wp P a w K Q := by
  obtain ⟨v', w', hr, h2, h3, h4⟩ := run_append_tag (P := P) (w := w) base t o.type e i z size bytes ht hi hz hsize hby hzs hsz v n xs hown ad m c news hl hnews h1 h63 hbytes hbase
  unfold Oper.wp execOp
  simp only [ho, resolve, invoke, builtin, Sem.run_bind, Sem.run_pure, Result.andThen_ok, List.map_toArray, List.map_cons, List.map_nil, hs, hx, hr]
  exact h v' w' h2 h3 h4
theorem wpList_append_tag {ops : Array Oper} {rest : List Oper} {o : Oper} {a : Act} {Q : Exit → Act → World → Prop} (hgd : o.guard = none) (s x : Operand) (t : TypeId)
    (ho : o.op = .call { callee := .builtin .append, args := #[s, x], argTypes := #[t, t] })
    (base : Nat) (e : TypeId) (i : TypeInfo) (z : Value) (size bytes : Nat) (ht : P.underlying t = some (.slice e)) (hi : P.info? e = some i) (hz : i.zero = some z)
    (hsize : i.size = size) (hby : i.bytes = bytes) (hzs : z.cells.size = size) (hsz : 0 < size)
    (v : Value) (n : Nat) (xs : List Value) (hs : a.eval s = v) (hown : w.ownsRow base e size v n xs)
    (ad : Addr) (m c : Nat) (news : List Value) (hx : a.eval x = .slice (some ad) m c) (hl : news.length = m * size) (hnews : ∀ j u, news[j]? = some u → w.cell? (ad.add j) = some u) (h1 : ∀ u ∈ news, u.oneCell' = true)
    (h63 : n + m ≤ maxLen) (hbytes : (n + m) * bytes ≤ 140737488355328) (hbase : base ≤ w.heap.size)
    (h : ∀ v' w', w'.ownsRow base e size v' (n + m) (xs ++ news) → w.grownBy w' v.ownBlock → SameOrNew w v v' → wpList P ops Q rest (a.put o.dst v') w') : wpList P ops Q (o :: rest) a w :=
  wpList_plain hgd fun _ hK => wp_append_tag s x t ho base e i z size bytes ht hi hz hsize hby hzs hsz v n xs hs hown ad m c news hx hl hnews h1 h63 hbytes hbase fun v' w' h2 h3 h4 => hK _ _ (h v' w' h2 h3 h4)
end
def OwnTx (w : World) (m : Nat) (v : Value) (l : List (List UInt8)) : Prop := w.ownsRow m 9 1 v l.length (l.map strV)
theorem OwnTx.str {w : World} {m : Nat} {v : Value} {l : List (List UInt8)} (h : OwnTx w m v l) : StrRow w v l := ownsRow_str h
theorem OwnTx.later {w w' : World} {m : Nat} {v : Value} {l : List (List UInt8)} (h : OwnTx w m v l) (hb : Below w.heap.size w w') : OwnTx w' m v l := ownsRow_below h hb
theorem OwnTx.alloc {w : World} {m : Nat} {v : Value} {l : List (List UInt8)} (h : OwnTx w m v l) (o : Obj) : (w.alloc o).ownsRow m 9 1 v l.length (l.map strV) := World.ownsRow.alloc h o
theorem OwnTx.nil (w : World) (m : Nat) : OwnTx w m (.slice none 0 0) [] := World.ownsRow_nil w m 9 1
def Apart (u v : Value) : Prop := ∀ k, u.ownBlock = some k → v.ownBlock ≠ some k
theorem Apart.symm {u v : Value} (h : Apart u v) : Apart v u := fun k h1 h2 => h k h2 h1
theorem apart_nil (v : Value) : Apart (.slice none 0 0) v := fun k h => by cases h
theorem apart_grown {w w0 w' : World} {m : Nat} {u u' v : Value} {l : List (List UInt8)} (hv : OwnTx w m v l) (ha : Apart u v) (hs : w.heap.size ≤ w0.heap.size) (hold : ∀ k, k < w.heap.size → w0.heap[k]? = w.heap[k]?)
    (hg : w0.grownBy w' u.ownBlock) (hn : SameOrNew w0 u u') : OwnTx w' m v l ∧ Apart u' v := by
  refine ⟨ownsRow_agree hv fun k hk => ?_, fun k hk hk2 => ?_⟩
  · have hlt := (hv.lt k hk).2
    rw [hg.block k (by omega) (fun e => ha k e.symm hk), hold k hlt]
  · rcases hn with h | h
    · exact ha k (by rw [← h]; exact hk) hk2
    · have := h k hk
      have := (hv.lt k hk2).2
      omega
theorem own_below {w wr w2 : World} {u : Value} {cs : List (List UInt8)} {tmp : Obj} (hB : Below w.heap.size w wr) (hU : OwnTx wr w.heap.size u cs) (hg : (wr.alloc tmp).grownBy w2 u.ownBlock) : Below w.heap.size w w2 :=
  hB.trans (((Below.refl w.heap.size wr).alloc hB.size _).grown hg (by have := hB.size; simp; omega) (fun k hk => (hU.lt k hk).1))
theorem OwnTx.snoc {w : World} {m : Nat} {v : Value} {l : List (List UInt8)} {x : List UInt8} (h : w.ownsRow m 9 1 v (l.length + 1) (l.map strV ++ [.string ⟨x.toArray⟩])) : OwnTx w m v (l ++ [x]) := by
  unfold OwnTx
  simpa [strV] using h
end Go.Proofs.YtjibdoofogmkcaaGreatDoor
end
section
namespace Go.Proofs.YtjibdoofogmkcaaGreatDoor
open Go.ChangeShapes Go.WideShapes Go.ChangeAt Go.RowKit
set_option maxRecDepth 100000
theorem take_eq_succ {α : Type} {l m : List α} {i : Nat} (h : l.take i = m.take i) {x : α} (h1 : l[i]? = some x) (h2 : m[i]? = some x) : l.take (i + 1) = m.take (i + 1) := by
  rw [List.take_succ, List.take_succ, h, h1, h2]
theorem tx_beq (x y : List UInt8) : ((⟨x.toArray⟩ : ByteArray).toList == (⟨y.toArray⟩ : ByteArray).toList) = decide (x = y) := by
  rw [Lib.toList_data, Lib.toList_data]
  rw [Bool.eq_iff_iff]
  simp
set_option maxHeartbeats 1000000 in
theorem same_any (w : World) (u v : Value) (l m : List (List UInt8)) (hu : StrRow w u l) (hv : StrRow w v m) (hl : l.length ≤ 1000000) (hm : m.length ≤ 1000000) :
    Calls Tryz.prog 10 #[u, v] w fun e w' => e = .returned (.bool (decide (l = m))) ∧ Below w.heap.size w w' := by
  obtain ⟨a, c, rfl, ha⟩ := hu.form
  obtain ⟨b, d, rfl, hb⟩ := hv.form
  have HA := Lib.hid ha
  have HB := Lib.hid hb
  clear ha hb hu hv
  by_cases hlen : l.length = m.length
  · have t1 : ((l.length : Int) == (m.length : Int)) = true := by simp; omega
    have HLN := Lib.hid hlen
    go_enter Tryz.func10, Tryz.ntmps10
    go_wp2
    go_loopg [13] l.length (fun k iv wr => ∃ i : Nat, iv = .int .i64 (i : Int) ∧ k = l.length - i ∧ i ≤ l.length ∧ l.take i = m.take i ∧ Below w.heap.size w wr)
    case atStart => exact ⟨0, rfl, rfl, by omega, by simp, Below.refl _ _⟩
    case round =>
      obtain ⟨i, rfl, hk, hi, heq, hbel⟩ := hrel
      have HK := Lib.hid hk
      have HEQ := Lib.hid heq
      have HBEL := Lib.hid hbel
      clear hk heq
      by_cases hlt : i < l.length
      · have t2 : (i : Int) < (l.length : Int) := by omega
        have t3 : (i : Int) < (m.length : Int) := by omega
        have t4 : i < m.length := by omega
        obtain ⟨x, hx⟩ : ∃ x, l[i]? = some x := ⟨_, List.getElem?_eq_getElem hlt⟩
        obtain ⟨y, hy⟩ : ∃ y, m[i]? = some y := ⟨_, List.getElem?_eq_getElem t4⟩
        obtain ⟨p, rfl, hp⟩ := HA.out i x hx
        obtain ⟨q, rfl, hq⟩ := HB.out i y hy
        have c1 := cell_later hp hbel
        have c2 := cell_later hq hbel
        unfold strV at c1 c2
        have HX := Lib.hid hx
        have HY := Lib.hid hy
        clear hx hy hp hq hbel hlen
        have hbq := tx_beq x y
        by_cases hxy : x = y
        · subst hxy
          clear hbq
          go_wp2
          go_region
          go_wp2
          go_roundg (l.length - (i + 1))
          case measure => rw [HK.out]; omega
          case rel => exact ⟨i + 1, by go_num, rfl, by omega, take_eq_succ HEQ.out HX.out HY.out, HBEL.out.drew⟩
        · have t5 : (x == y) = false := by simp [hxy]
          have HXY := Lib.hid hxy
          clear hbq hxy
          go_wp2
          go_region
          go_wp2
          go_ret
          refine ⟨ret_bool ?_, HBEL.out.drew⟩
          have : ¬ l = m := by
            rintro rfl
            have := HX.out.symm.trans HY.out
            exact HXY.out (Option.some.inj this)
          simp [this]
      · have hil : i = l.length := by omega
        have t2 : ¬ (i : Int) < (l.length : Int) := by omega
        have t3 : ¬ (i : Int) < (m.length : Int) := by omega
        have HIL := Lib.hid hil
        clear hil
        go_wp2
        go_ret
        refine ⟨ret_bool ?_, HBEL.out⟩
        have h := HEQ.out
        rw [HIL.out, List.take_of_length_le (Nat.le_refl _), List.take_of_length_le (by have := HLN.out; omega)] at h
        simp [h]
  · have t1 : ((l.length : Int) == (m.length : Int)) = false := by simp; omega
    have HLN := Lib.hid hlen
    clear hlen
    go_enter Tryz.func10, Tryz.ntmps10
    go_wp2
    go_ret
    refine ⟨ret_bool ?_, Below.refl _ _⟩
    have : ¬ l = m := fun h => HLN.out (by rw [h])
    simp [this]
theorem bulk_snoc (l : List (List UInt8)) (t : List UInt8) : bulk (l ++ [t]) = bulk l + (t.length + 1) := by simp [bulk]
theorem bulk_take {l : List (List UInt8)} {i : Nat} {t : List UInt8} (h : l[i]? = some t) : bulk (l.take (i + 1)) = bulk (l.take i) + (t.length + 1) := by
  rw [List.take_succ, h]
  exact bulk_snoc _ _
theorem bulk_le (l : List (List UInt8)) (i : Nat) : bulk (l.take i) ≤ bulk l := by
  conv => rhs; rw [← List.take_append_drop i l]
  unfold bulk
  rw [List.map_append, List.sum_append]
  omega
set_option maxHeartbeats 1000000 in
theorem small_any (w : World) (u : Value) (l : List (List UInt8)) (hu : StrRow w u l) (hb : bulk l ≤ 10000000) :
    Calls Tryz.prog 4 #[u] w fun e w' => e = .returned (.bool (decide (bulk l ≤ 800))) ∧ w = w' := by
  obtain ⟨a, c, rfl, ha⟩ := hu.form
  have HA := Lib.hid ha
  have hlb : l.length ≤ bulk l := by
    clear ha hu HA hb
    induction l with
    | nil => simp [bulk]
    | cons t l ih => simp only [bulk, List.map_cons, List.sum_cons, List.length_cons] at ih ⊢; omega
  clear ha hu
  go_enter Tryz.func4, Tryz.ntmps4
  go_wp2
  go_loopg [3, 8] l.length (fun k nv iv wr => ∃ (n i : Nat), nv = .int .i64 (n : Int) ∧ iv = .int .i64 (i : Int) ∧ k = l.length - i ∧ i ≤ l.length ∧ n = bulk (l.take i) ∧ w = wr)
  case atStart => exact ⟨0, 0, rfl, rfl, rfl, by omega, by simp [bulk], rfl⟩
  case round =>
    obtain ⟨n, i, rfl, rfl, hk, hi, hn, rfl⟩ := hrel
    have HK := Lib.hid hk
    have hnb := bulk_le l i
    rw [← hn] at hnb
    have HN := Lib.hid hn
    clear hk hn
    by_cases hlt : i < l.length
    · have t2 : (i : Int) < (l.length : Int) := by omega
      obtain ⟨x, hx⟩ : ∃ x, l[i]? = some x := ⟨_, List.getElem?_eq_getElem hlt⟩
      obtain ⟨p, rfl, hp⟩ := HA.out i x hx
      have hb2 := bulk_take hx
      have hb3 := bulk_le l (i + 1)
      have hsx := strV_size x
      unfold strV at hp
      have HB2 := Lib.hid hb2
      have hxl : x.length ≤ 10000000 := by have := HN.out; omega
      clear hx hb2
      go_wp2
      go_roundg (l.length - (i + 1))
      case measure => rw [HK.out]; omega
      case rel =>
        refine ⟨n + (x.length + 1), i + 1, ?_, by go_num, rfl, by omega, by rw [HB2.out, ← HN.out], rfl⟩
        first | go_num | (simp [hsx]; omega)
    · have t2 : ¬ (i : Int) < (l.length : Int) := by omega
      have hil : l.take i = l := List.take_of_length_le (by omega)
      rw [hil] at HN
      by_cases h8 : n ≤ 800
      · have t8 : (n : Int) ≤ 800 := by omega
        go_wp2
        go_ret
        refine ⟨ret_bool ?_, rfl⟩
        have := HN.out
        simp; omega
      · have t8 : ¬ (n : Int) ≤ 800 := by omega
        go_wp2
        go_ret
        refine ⟨ret_bool ?_, rfl⟩
        have := HN.out
        simp; omega
end Go.Proofs.YtjibdoofogmkcaaGreatDoor
end
section
namespace Go.Proofs.YtjibdoofogmkcaaGreatDoor
abbrev Tx := List UInt8
def dropIf (w : Tx) : List Tx → List Tx
  | [] => []
  | c :: r => if c = w then r else c :: r
def wThen : Tx := [116, 104, 101, 110]
def wElseif : Tx := [101, 108, 115, 101, 105, 102]
def wElse : Tx := [101, 108, 115, 101]
theorem dropIf_len (w : Tx) (l : List Tx) : (dropIf w l).length ≤ l.length := by
  unfold dropIf
  split
  · simp
  · split <;> simp
def cnd (l : List Tx) : Option (List Tx × List Tx) :=
  match l with
  | [] => none
  | c :: r => match hd : dropIf wThen r with
    | [] => none
    | [b] => some ([c], [b])
    | b :: x :: r3 => if x = wElseif then (cnd r3).map fun p => (c :: p.1, b :: p.2)
      else match dropIf wElse (x :: r3) with
        | [z] => some ([c], [b, z])
        | _ => none
termination_by l.length
decreasing_by
  have := dropIf_len wThen r
  rw [hd] at this
  simp at this ⊢; omega
theorem cnd_len : ∀ (n : Nat) (l : List Tx), l.length ≤ n → ∀ p, cnd l = some p → p.2.length = p.1.length ∨ p.2.length = p.1.length + 1 := by
  intro n
  induction n with
  | zero => intro l h p hp; have : l = [] := List.eq_nil_of_length_eq_zero (by omega); subst this; simp [cnd] at hp
  | succ n ih =>
    intro l h p hp
    rw [cnd.eq_def] at hp
    cases l with
    | nil => cases hp
    | cons c r =>
      simp only at hp
      split at hp
      · cases hp
      · cases hp; simp
      · rename_i b x r3 hd
        have := dropIf_len wThen r
        rw [hd] at this
        split at hp
        · obtain ⟨q, hq, rfl⟩ := Option.map_eq_some_iff.1 hp
          have := ih r3 (by simp at this h ⊢; omega) q hq
          simp; omega
        · split at hp
          · cases hp; simp
          · cases hp
def rowOf (k : Nat) (v l : List Tx) : List Tx := (List.range v.length).map fun j => (l[k * v.length + j]?).getD []
def rowAll (k : Nat) (vs ls : List (List Tx)) : List Tx := (vs.zip ls).flatMap fun p => rowOf k p.1 p.2
def most (vs ls : List (List Tx)) : Nat := (vs.zip ls).foldl (fun m p => max m ((p.2.length + p.1.length - 1) / p.1.length)) 0
def splAll : List Tx → Option (List (List Tx))
  | [] => some []
  | s :: r => match spl s, splAll r with
    | some x, some y => some (x :: y)
    | _, _ => none
def rnd (names lists : List Tx) : Except Int (List (List Tx)) :=
  if names.length ≠ lists.length ∨ names.length = 0 then .error 1
  else match splAll names, splAll lists with
    | some vs, some ls => if vs.any (·.isEmpty) then .error 8 else .ok ((List.range (most vs ls)).map fun k => rowAll k vs ls)
    | _, _ => .error 2
end Go.Proofs.YtjibdoofogmkcaaGreatDoor
end
section
namespace Go.Proofs.YtjibdoofogmkcaaGreatDoor
open Go.ChangeShapes Go.WideShapes Go.ChangeAt Go.RowKit
set_option maxRecDepth 100000
def CondR (w : World) (l : List (List UInt8)) (e : Ending) (w' : World) : Prop :=
  (∀ cs bs, cnd l = some (cs, bs) → ∃ u v, e = .returned (.tuple #[u, v, .int .i64 0]) ∧ OwnTx w' w.heap.size u cs ∧ OwnTx w' w.heap.size v bs) ∧
  (cnd l = none → e = .returned (.tuple #[.slice none 0 0, .slice none 0 0, .int .i64 2])) ∧ Below w.heap.size w w'
theorem CondR.some {w w' : World} {l : List (List UInt8)} {cs bs : List (List UInt8)} {u v : Value} (h : cnd l = some (cs, bs)) (h1 : OwnTx w' w.heap.size u cs) (h2 : OwnTx w' w.heap.size v bs) (hb : Below w.heap.size w w') :
    CondR w l (.returned (.tuple #[u, v, .int .i64 0])) w' :=
  ⟨fun cs' bs' h' => by rw [h] at h'; cases h'; exact ⟨u, v, rfl, h1, h2⟩, fun h' => by (rw [h] at h'; cases h'), hb⟩
theorem CondR.none {w w' : World} {l : List (List UInt8)} (h : cnd l = none) (hb : Below w.heap.size w w') : CondR w l (.returned (.tuple #[.slice none 0 0, .slice none 0 0, .int .i64 2])) w' :=
  ⟨fun cs' bs' h' => by (rw [h] at h'; cases h'), fun _ => rfl, hb⟩
theorem cnd_nil : cnd [] = none := by simp [cnd]
theorem cnd_one (c : List UInt8) : cnd [c] = none := by rw [cnd.eq_def]; simp [dropIf]
theorem dropIf_hit (w : List UInt8) (r : List (List UInt8)) : dropIf w (w :: r) = r := by simp [dropIf]
theorem dropIf_miss {w x : List UInt8} (r : List (List UInt8)) (h : ¬ x = w) : dropIf w (x :: r) = x :: r := by simp [dropIf, h]
theorem cnd_then_end (c : List UInt8) : cnd [c, wThen] = none := by
  rw [cnd.eq_def]; simp only
  have h := dropIf_hit wThen []
  split <;> simp_all
theorem cnd_body {c b : List UInt8} {r r1 : List (List UInt8)} (h : dropIf wThen r1 = b :: r) : cnd (c :: r1) =
    match r with
    | [] => some ([c], [b])
    | x :: r3 => if x = wElseif then (cnd r3).map fun p => (c :: p.1, b :: p.2)
      else match dropIf wElse (x :: r3) with
        | [z] => some ([c], [b, z])
        | _ => none := by
  rw [cnd.eq_def]; simp only
  split
  · rename_i h2; rw [h] at h2; cases h2
  · rename_i h2; rw [h] at h2; cases h2; rfl
  · rename_i h2; rw [h] at h2; cases h2; rfl
theorem drop_head {l r : List (List UInt8)} {i : Nat} {c : List UInt8} (h : l.drop i = c :: r) : l[i]? = some c ∧ l.drop (i + 1) = r ∧ i < l.length := by
  have hi : i < l.length := by
    rcases Nat.lt_or_ge i l.length with h' | h'
    · exact h'
    · rw [List.drop_eq_nil_of_le h'] at h; cases h
  rw [List.drop_eq_getElem_cons hi] at h
  injection h with h1 h2
  exact ⟨by rw [List.getElem?_eq_getElem hi, h1], h2, hi⟩
theorem drop_nil {l : List (List UInt8)} {i : Nat} (h : l.drop i = []) : l.length ≤ i := by
  rcases Nat.lt_or_ge i l.length with h' | h'
  · rw [List.drop_eq_getElem_cons h'] at h; cases h
  · exact h'
end Go.Proofs.YtjibdoofogmkcaaGreatDoor
end
section
namespace Go.Proofs.YtjibdoofogmkcaaGreatDoor
open Go.ChangeShapes Go.WideShapes Go.ChangeAt Go.RowKit
set_option maxRecDepth 100000
structure CI (w : World) (b : Nat) (tv : Value) (i e : Int) (u v : Value) (cs bs : List (List UInt8)) (W : World) : Prop where
  wd : Boxed W b 22 tv
  er : Boxed W (b + 1) 25 (.int .i64 e)
  ix : Boxed W (b + 2) 3 (.int .i64 i)
  ru : OwnTx W (b + 3) u cs
  rv : OwnTx W (b + 3) v bs
  ap : Apart u v
  bel : Below w.heap.size w W
  hb : w.heap.size ≤ b
  sz : b + 3 ≤ W.heap.size
theorem OwnTx.setBox {W : World} {m B : Nat} {v x : Value} {l : List (List UInt8)} (h : OwnTx W m v l) (hB : B < m) : OwnTx (W.setCell ⟨B, 0, none⟩ x) m v l :=
  ownsRow_agree h fun k hk => heap_setCell_other _ _ _ _ (by have := (h.lt k hk).1; simp; omega)
theorem CI.cast {w W : World} {b : Nat} {i j e : Int} {tv u v : Value} {cs bs : List (List UInt8)} (h : CI w b tv i e u v cs bs W) (hj : j = i) : CI w b tv j e u v cs bs W := hj ▸ h
theorem CI.step {w W : World} {b : Nat} {i e : Int} {tv u v : Value} {cs bs : List (List UInt8)} (h : CI w b tv i e u v cs bs W) (j : Int) : CI w b tv j e u v cs bs (W.setCell ⟨b + 2, 0, none⟩ (.int .i64 j)) := by
  have hb := h.hb
  exact {
    wd := h.wd.other (by omega) _
    er := h.er.other (by omega) _
    ix := h.ix.set _
    ru := h.ru.setBox (by omega)
    rv := h.rv.setBox (by omega)
    ap := h.ap
    bel := h.bel.setCell (p := ⟨b + 2, 0, none⟩) (by simp; omega) _
    hb := hb
    sz := by have := h.sz; simp; exact this }
theorem CI.fail {w W : World} {b : Nat} {i e : Int} {tv u v : Value} {cs bs : List (List UInt8)} (h : CI w b tv i e u v cs bs W) : CI w b tv i 2 u v cs bs (W.setCell ⟨b + 1, 0, none⟩ (.int .i64 2)) := by
  have hb := h.hb
  exact {
    wd := h.wd.other (by omega) _
    er := h.er.set _
    ix := h.ix.other (by omega) _
    ru := h.ru.setBox (by omega)
    rv := h.rv.setBox (by omega)
    ap := h.ap
    bel := h.bel.setCell (p := ⟨b + 1, 0, none⟩) (by simp; omega) _
    hb := hb
    sz := by have := h.sz; simp; exact this }
theorem CI.fail0 {w W : World} {b : Nat} {i e : Int} {tv u v : Value} {cs bs : List (List UInt8)} (h : CI w b tv i e u v cs bs W) : CI w b tv i 0 u v cs bs (W.setCell ⟨b + 1, 0, none⟩ (.int .i64 0)) := by
  have hb := h.hb
  exact {
    wd := h.wd.other (by omega) _
    er := h.er.set _
    ix := h.ix.other (by omega) _
    ru := h.ru.setBox (by omega)
    rv := h.rv.setBox (by omega)
    ap := h.ap
    bel := h.bel.setCell (p := ⟨b + 1, 0, none⟩) (by simp; omega) _
    hb := hb
    sz := by have := h.sz; simp; exact this }
theorem CI.swap {w W : World} {b : Nat} {i e : Int} {tv u v : Value} {cs bs : List (List UInt8)} (h : CI w b tv i e u v cs bs W) : CI w b tv i e v u bs cs W :=
  ⟨h.wd, h.er, h.ix, h.rv, h.ru, h.ap.symm, h.bel, h.hb, h.sz⟩
theorem CI.app {w W w2 : World} {b : Nat} {i e : Int} {tv u v u' : Value} {cs bs : List (List UInt8)} {x : List UInt8} {tmp : Obj} (h : CI w b tv i e u v cs bs W)
    (o : w2.ownsRow (b + 3) 9 1 u' (cs.length + 1) (cs.map strV ++ [.string ⟨x.toArray⟩])) (g : (W.alloc tmp).grownBy w2 u.ownBlock) (n : SameOrNew (W.alloc tmp) u u') : CI w b tv i e u' v (cs ++ [x]) bs w2 := by
  have hne : ∀ B, B < b + 3 → some B ≠ u.ownBlock := fun B hB he => by
    have := (h.ru.lt B he.symm).1
    omega
  obtain ⟨h1, h2⟩ := apart_grown h.rv h.ap (by simp) (fun k hk => heap_alloc_old _ _ hk) g n
  have hsz := h.sz
  exact {
    wd := (h.wd.alloc tmp).kept g (hne _ (by omega))
    er := (h.er.alloc tmp).kept g (hne _ (by omega))
    ix := (h.ix.alloc tmp).kept g (hne _ (by omega))
    ru := by unfold OwnTx; simpa [strV] using o
    rv := h1
    ap := h2
    bel := h.bel.trans (((Below.refl w.heap.size W).alloc h.bel.size _).grown g (by have := h.bel.size; simp; omega) (fun k hk => by have := (h.ru.lt k hk).1; have := h.hb; omega))
    hb := h.hb
    sz := by have := g.size; simp at this; omega }
set_option maxHeartbeats 400000 in
theorem next_hit (W : World) (b i : Nat) (a : Option Addr) (len cap : Nat) (x : List UInt8) (p : Addr) (hpb : p.block < b) (ha : a = some p) (hx : W.cell? (p.add i) = some (.string ⟨x.toArray⟩)) (hi : i < len) (hl : len ≤ 1000000)
    (c0 : W.cell? ⟨b, 0, none⟩ = some (.slice a len cap)) (c2 : W.cell? ⟨b + 2, 0, none⟩ = some (.int .i64 (i : Int))) (f2 : W.frozen? ⟨b + 2, 0, none⟩ = false) :
    Calls Tryz.prog 15 #[.pointer (some ⟨b + 2, 0, none⟩), .pointer (some ⟨b, 0, none⟩), .pointer (some ⟨b + 1, 0, none⟩)] W fun e w' => e = .returned (.string ⟨x.toArray⟩) ∧ w' = W.setCell ⟨b + 2, 0, none⟩ (.int .i64 ((i : Int) + 1)) := by
  subst ha
  have t1 : ¬ (len : Int) ≤ (i : Int) := by omega
  have t2 : (i : Int) < (len : Int) := by omega
  have hx2 : (W.setCell ⟨b + 2, 0, none⟩ (.int .i64 ((i : Int) + 1))).cell? (p.add i) = some (.string ⟨x.toArray⟩) := by
    refine (World.cell?_of_block ?_).trans hx
    rw [show (p.add i).block = p.block by unfold Addr.add; split <;> rfl]
    exact heap_setCell_other _ _ _ _ (by simp; omega)
  go_enter Tryz.func15, Tryz.ntmps15
  go_wp2
  go_ret
  exact ⟨rfl, rfl⟩
set_option maxHeartbeats 400000 in
theorem next_fail (W : World) (b i : Nat) (a : Option Addr) (len cap : Nat) (hi : len ≤ i) (hl : i ≤ 1000000)
    (c0 : W.cell? ⟨b, 0, none⟩ = some (.slice a len cap)) (c2 : W.cell? ⟨b + 2, 0, none⟩ = some (.int .i64 (i : Int))) (e : Int) (c1 : W.cell? ⟨b + 1, 0, none⟩ = some (.int .i64 e)) (f1 : W.frozen? ⟨b + 1, 0, none⟩ = false) :
    Calls Tryz.prog 15 #[.pointer (some ⟨b + 2, 0, none⟩), .pointer (some ⟨b, 0, none⟩), .pointer (some ⟨b + 1, 0, none⟩)] W fun e w' => e = .returned (.string ⟨#[]⟩) ∧ w' = W.setCell ⟨b + 1, 0, none⟩ (.int .i64 2) := by
  have t1 : (len : Int) ≤ (i : Int) := by omega
  go_enter Tryz.func15, Tryz.ntmps15
  go_wp2
  go_ret
  exact ⟨rfl, rfl⟩
def CellsOf (w : World) (p : Addr) (l : List (List UInt8)) : Prop := ∀ W, Below w.heap.size w W → ∀ j y, l[j]? = some y → W.cell? (p.add j) = some (.string ⟨y.toArray⟩)
theorem CI.hit {w W : World} {b : Nat} {i e : Int} {u v : Value} {cs bs l : List (List UInt8)} {p : Addr} {c : Nat} {x : List UInt8} (h : CI w b (.slice (some p) l.length c) i e u v cs bs W) (hc : CellsOf w p l) (hpb : p.block < b) (hl : l.length ≤ 1000)
    (k : Nat) (hk : i = (k : Int)) (hx : l[k]? = some x) :
    Calls Tryz.prog 15 #[.pointer (some ⟨b + 2, 0, none⟩), .pointer (some ⟨b, 0, none⟩), .pointer (some ⟨b + 1, 0, none⟩)] W fun e' W' => e' = .returned (.string ⟨x.toArray⟩) ∧ CI w b (.slice (some p) l.length c) (i + 1) e u v cs bs W' := by
  subst hk
  have hlt : k < l.length := (List.getElem?_eq_some_iff.1 hx).1
  refine (next_hit W b k (some p) l.length c x p hpb rfl (hc W h.bel k x hx) hlt (by omega) h.wd.cell h.ix.cell h.ix.frozen).mono ?_
  rintro e' W' ⟨rfl, rfl⟩
  exact ⟨rfl, h.step _⟩
theorem CI.miss {w W : World} {b : Nat} {i e : Int} {u v : Value} {cs bs l : List (List UInt8)} {a : Option Addr} {c : Nat} (h : CI w b (.slice a l.length c) i e u v cs bs W)
    (k : Nat) (hk : i = (k : Int)) (hlk : l.length ≤ k) (hk2 : k ≤ 1000000) :
    Calls Tryz.prog 15 #[.pointer (some ⟨b + 2, 0, none⟩), .pointer (some ⟨b, 0, none⟩), .pointer (some ⟨b + 1, 0, none⟩)] W fun e' W' => e' = .returned (.string ⟨#[]⟩) ∧ CI w b (.slice a l.length c) i 2 u v cs bs W' := by
  subst hk
  refine (next_fail W b k a l.length c hlk hk2 h.wd.cell h.ix.cell e h.er.cell h.er.frozen).mono ?_
  rintro e' W' ⟨rfl, rfl⟩
  exact ⟨rfl, h.fail⟩
theorem results_ttc {fn : Func} {p q r : Tmp} (h : fn.results = #[.tmp p, .tmp q, .cell r 25]) (tmps : Array Value) (w : World) {c : Addr} {z : Value} (hr : tmps.getD r undef = .pointer (some c)) (hc : w.cell? c = some z) :
    (results fn tmps).run Tryz.prog w = .ok (.tuple #[tmps.getD p undef, tmps.getD q undef, z]) w := by
  rw [Array.getD_eq_getD_getElem?] at hr
  simp [results, h, hr, asAddr, loadVar, Tryz.isAgg25, run_load, hc, Result.andThen]
end Go.Proofs.YtjibdoofogmkcaaGreatDoor
end
