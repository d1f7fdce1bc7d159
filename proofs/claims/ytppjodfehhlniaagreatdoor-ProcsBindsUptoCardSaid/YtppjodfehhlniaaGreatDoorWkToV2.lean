/-
  The iterator over elements is made; The program's Split: what its loop keeps; Slices of texts, read; the document's Same; small; The iterator's map of. Conditions: none.
-/
import Derived.Test.YtppjodfehhlniaaGreatDoorWi
import Derived.Laws.Tables
import Derived.Laws.CopyOwn
import Derived.Maps.AppendAt
import Derived.Test.YtppjodfehhlniaaGreatDoorUnaToVt3
import Derived.OwnWalk
import Derived.Test.YtppjodfehhlniaaGreatDoorWe2ToWi0
import Derived.Shelf.Strings.Builder1
import Derived.Shelf.LaysM
import Derived.Shelf.Strings.Search3
import Derived.Shelf.Small.Wraps
import Derived.Shelf.Strings.SlTrimAscii
import Derived.Shelf.Strconv.Atoi
import Derived.Test.YtppjodfehhlniaaGreatDoorProg
set_option linter.unusedVariables false
set_option linter.unusedSimpArgs false
set_option linter.unusedSectionVars false
set_option linter.deprecated false
section
namespace Go.Proofs.YtppjodfehhlniaaGreatDoor
open Go.ChangeShapes Go.WideShapes Go.ChangeAt Go.RowKit
set_option maxRecDepth 100000
theorem zj4 (W : World) : ∃ W', (storeCells ⟨W.heap.size, 0, none⟩ rdrs.toList).run Tryz.prog (W.alloc (.cells #[.nilFunc, .nilFunc, .nilFunc] 156)) = .ok () W' ∧ W'.heap[W.heap.size]? = some (.cells rdrs 156 (0, 0)) ∧ Below W.heap.size W W' ∧ W'.heap.size = W.heap.size + 1 := by
 have h := run_storeCells_from (P := Tryz.prog) W.heap.size 156 rdrs.toList 0 #[.nilFunc, .nilFunc, .nilFunc] (W.alloc (.cells #[.nilFunc, .nilFunc, .nilFunc] 156)) (heap_alloc_new W _) rfl (by intro v hv; simp [rdrs] at hv; rcases hv with rfl | rfl | rfl <;> rfl)
 refine ⟨_, h, ?_, ?_, ?_⟩
 ·exact setRow_heap _ _ _ _ _ _ (heap_alloc_new W _)
 ·exact below_setRow ((Below.refl _ W).alloc (Nat.le_refl _) _) (Nat.le_refl _) _
 ·simp
set_option maxHeartbeats 1000000 in
theorem zod (w : World) : Calls Tryz.prog 98 #[] w fun e w' => e = .returned (.agg rdrs) ∧ Below w.heap.size w w' := by
 obtain ⟨W', h1, h2, h3, h4⟩ := zj4 w
 simp [rdrs, storeCells, Addr.add] at h1
 go_enter Tryz.func98, Tryz.ntmps98
 go_wp2
 refine bodyPost_ret (results_cell_row (p := 0) (ty := 156) (by kernel_rfl) _ _ w.heap.size 156 _ (0, 0) _ rfl h2 Tryz.underlying156 (by kernel_rfl) (by kernel_rfl)) rfl ⟨rfl, h3⟩
set_option maxHeartbeats 1000000 in
theorem zmA (s : ByteArray) (w : World) : Calls Tryz.prog 35 #[.string s] w fun e w' => ∃ B1 B2, e = .returned (.func (.func 99) #[] #[.pointer (some ⟨B1, 0, none⟩), .pointer (some ⟨B2, 0, none⟩)]) ∧ Caps s B1 B2 w' ∧ w.heap.size ≤ B1 ∧ w.heap.size ≤ B2 ∧ Below w.heap.size w w' := by
 have hmf : ∀ (fn : Fn) (first cap : Array Value) (w : World), (Instr.makeFunc fn first cap).run Tryz.prog w = .ok (.func fn first cap) w := fun _ _ _ _ => rfl
 obtain ⟨A, hA, sA, aN, aO, bA⟩ := zaH w #[.string s] 9
 have HA := Lib.hid hA
 have HB := Lib.hid bA
 have HN := Lib.hid aN
 clear hA bA aN aO
 go_enter Tryz.func35, Tryz.ntmps35
 go_wp2_with (go_at_call 98; refine (zod _).mono ?_; rintro e w1 ⟨rfl, hb1⟩; dsimp only; have HB1 := Lib.hid hb1; clear hb1)
 have hb1 := HB1.out
 rw [HA.out] at hb1
 obtain ⟨W', h1, h2, h3, h4⟩ := zj4 w1
 rw [h1]
 simp only [Result.andThen]
 rw [Oper.upon_skip]
 have H2 := Lib.hid h2
 have H3 := Lib.hid h3
 have HBB := Lib.hid hb1
 clear h1 h2 h3 hb1
 go_wp2
 go_ret
 have hs1 := HBB.out.size
 have hwt : Below w.heap.size w W' := (HB.out.trans (HBB.out.mono (by omega))).trans (H3.out.mono (by omega))
 have k1 : W'.heap[w.heap.size]? = some (.cells #[.string s] 9 (0, 0)) := ((H3.out.block _ (by omega)).trans (HBB.out.block _ (by omega))).trans HN.out
 exact ⟨_, _, rfl, ⟨k1, H2.out⟩, by omega, by omega, hwt⟩
end Go.Proofs.YtppjodfehhlniaaGreatDoor
end
section
namespace Go.Proofs.YtppjodfehhlniaaGreatDoor
open Go.RowKit Go.Shelf
attribute [local go_sem] Oper.semAt_some
set_option maxRecDepth 100000
def strV (t : List UInt8) : Value := .string ⟨t.toArray⟩
theorem Keep2.refl (B1 B2 : Nat) (W : World) : Keep2 B1 B2 W W := ⟨rfl, rfl⟩
theorem zrD {w : World} {B1 B2 : Nat} (h1 : B1 < w.heap.size) (h2 : B2 < w.heap.size) (W : World) (l : Nat) (o o' : Obj) (hl : w.heap.size ≤ l) (h : W.heap[l]? = some o) (_ : o.isCells = false) (_ : o.isWalk = false) : Keep2 B1 B2 W (W.putObj l o') :=
 ⟨World.putObj_heap_other (by omega), World.putObj_heap_other (by omega)⟩
theorem zjo {W : World} {b b' : Nat} {e : TypeId} {size : Nat} {v : Value} {n : Nat} {xs : List Value} (h : W.ownsRow b e size v n xs) (hk : ∀ k, v.ownBlock = some k → b' ≤ k) : W.ownsRow b' e size v n xs := by
 refine ⟨h.1, ?_⟩
 rcases h.2 with h2 | ⟨g, cap, cur, rfl, _, h3⟩
 ·exact .inl h2
 ·exact .inr ⟨g, cap, cur, rfl, hk g rfl, h3⟩
theorem zan {W : World} {b : Nat} {e : TypeId} {size : Nat} {v : Value} {n : Nat} {xs : List Value} (h : W.ownsRow b e size v n xs) : ∃ a c, v = .slice a n c := by
 rcases h.2 with ⟨rfl, rfl⟩ | ⟨g, cap, cur, rfl, _⟩
 ·exact ⟨_, _, rfl⟩
 ·exact ⟨_, _, rfl⟩
structure SpI (w : World) (m b : Nat) (pre : List El) (W : World) : Prop where
 ok : pre.all (·.ok) = true
 row : ∃ v, Boxed W b 22 v ∧ W.ownsRow m 9 1 v pre.length (pre.map fun x => strV x.tx) ∧ True
 at_ : Boxed W (b + 1) 3 (.int .i64 0)
 err : Boxed W (b + 2) 26 (.int .i64 0)
 many : Boxed W (b + 3) 4 (.bool false)
 bel : Below w.heap.size w W
 sz : m ≤ W.heap.size
structure SpX (w : World) (b : Nat) (c : Code) (pre : List El) (W : World) : Prop where
 jump : c = .ret
 bad : ¬ pre.all (·.ok) = true
 row : Boxed W b 22 (.slice none 0 0)
 at_ : ∃ k, Boxed W (b + 1) 3 (.int .i64 k)
 err : Boxed W (b + 2) 26 (.int .i64 2)
 bel : Below w.heap.size w W
theorem zrE (w : World) (m b : Nat) (hm : w.heap.size ≤ m) : OwnFrom m (SpI w m b) := by
 intro s W W' row h hg hr
 have hr' := fun r e => (hr r e).2
 exact {
  ok := h.ok
  row := holdsRow_own m b 22 9 1 (fun pre : List El => pre.length) (fun pre => pre.map fun x => strV x.tx) (fun _ _ => True) s W W' row h.row hg hr'
  at_ := boxed_own (b + 1) 3 (fun _ : Unit => .int .i64 0) () W W' row h.at_ hg hr'
  err := boxed_own (b + 2) 26 (fun _ : Unit => .int .i64 0) () W W' row h.err hg hr'
  many := boxed_own (b + 3) 4 (fun _ : Unit => .bool false) () W W' row h.many hg hr'
  bel := h.bel.grown hg h.bel.size (fun k e => Nat.le_trans hm (hr k e).1)
  sz := Nat.le_trans h.sz hg.size }
theorem zuP (w : World) (m b : Nat) (hm : w.heap.size ≤ m) (c : Code) : OwnFrom m (SpX w b c) := by
 intro s W W' row h hg hr
 have hr' := fun r e => (hr r e).2
 obtain ⟨k, hk⟩ := h.at_
 exact {
  jump := h.jump
  bad := h.bad
  row := boxed_own b 22 (fun _ : Unit => .slice none 0 0) () W W' row h.row hg hr'
  at_ := ⟨k, boxed_own (b + 1) 3 (fun _ : Unit => .int .i64 k) () W W' row hk hg hr'⟩
  err := boxed_own (b + 2) 26 (fun _ : Unit => .int .i64 2) () W W' row h.err hg hr'
  bel := h.bel.grown hg h.bel.size (fun k e => Nat.le_trans hm (hr k e).1) }
def ElAt (W : World) (Bx : Nat) (x : El) : Prop := W.heap[Bx]? = some (.cells #[.string ⟨x.tx.toArray⟩, .bool x.ok] 68 (0, 0))
theorem ztf (m Bx : Nat) (x : El) : OwnFrom m (fun (_ : Unit) W => ElAt W Bx x) := by
 intro s W W' row h hg hr
 exact (grownBy_keeps_cells hg (fun r e => (hr r e).2) h rfl).trans h
theorem zfa {fn : Func} {p q r : Tmp} (h : fn.results = #[.cell p 22, .cell q 3, .cell r 26]) (tmps : Array Value) (w : World) {a b c : Addr} {x y z : Value} (hp : tmps.getD p undef = .pointer (some a)) (hq : tmps.getD q undef = .pointer (some b)) (hr : tmps.getD r undef = .pointer (some c))
  (ha : w.cell? a = some x) (hb : w.cell? b = some y) (hc : w.cell? c = some z) : (results fn tmps).run Tryz.prog w = .ok (.tuple #[x, y, z]) w := by
 rw [Array.getD_eq_getD_getElem?] at hp hq hr
 simp [results, h, hp, hq, hr, asAddr, loadVar, Tryz.isAgg22, Tryz.isAgg3, Tryz.isAgg26, run_load, ha, hb, hc, Result.andThen]
theorem zbm {w : World} {base e size : Nat} {v : Value} {n : Nat} {xs : List Value} (h : w.ownsRow base e size v n xs) {k : Nat} (hk : v.ownBlock = some k) : ∃ c, w.heap[k]? = some (.cells c e (0, 0)) := by
 rcases h.2 with ⟨rfl, _⟩ | ⟨g, cap, cur, rfl, _, hg, _⟩
 ·cases hk
 ·cases hk; exact ⟨_, hg⟩
theorem zaW {W : World} {B D : Nat} {t : TypeId} {v : Value} {ds : Option (List Deferred)} (h : Boxed W B t v) (hK : W.heap[D]? = some (.deferred ds)) (o : Obj) : Boxed (W.putObj D o) B t v := by
 have hne : B ≠ D := by
  rintro rfl
  rw [show W.heap[B]? = _ from h] at hK
  cases hK
 exact (World.putObj_heap_other hne).trans h
theorem SpI.step {w W w2 : World} {m b : Nat} {pre : List El} {x : El} {v v' : Value} {tmp : Obj} (h : SpI w m b pre W) (hm : b + 4 ≤ m) (hbw : w.heap.size ≤ b) (hv : Boxed W b 22 v) (hrow : W.ownsRow m 9 1 v pre.length (pre.map fun x => strV x.tx))
  (hown' : w2.ownsRow m 9 1 v' (pre.length + 1) (pre.map (fun x => strV x.tx) ++ [strV x.tx])) (hgrow : (W.alloc tmp).grownBy w2 v.ownBlock) (hok : x.ok = true) :
  Boxed w2 b 22 v ∧ SpI w m b (pre ++ [x]) (w2.setCell ⟨b, 0, none⟩ v') ∧ KeepsOthers W (w2.setCell ⟨b, 0, none⟩ v') ∧ ∀ B, B < m → B ≠ b → (w2.setCell ⟨b, 0, none⟩ v').heap[B]? = W.heap[B]? := by
 have hne : ∀ B, B < m → some B ≠ v.ownBlock := fun B hB e => by
  have := (hrow.lt B e.symm).1
  omega
 obtain ⟨a1, a2, a3, a4, a5⟩ := hv.appended (n₀ := w.heap.size) (by decide) (zaN hrow (by omega)) h.bel.size hbw (zaN hown' (by omega)) hgrow
 have hsz := h.sz
 refine ⟨a1, ?_, a4, ?_⟩
 ·exact {
   ok := by simp [h.ok, hok]
   row := ⟨v', a2, by
    have := zjo (b' := m) a3 (fun k hk => (hown'.lt k hk).1)
    simpa using this, trivial⟩
   at_ := ((h.at_.alloc tmp).kept hgrow (hne _ (by omega))).other (by omega) _
   err := ((h.err.alloc tmp).kept hgrow (hne _ (by omega))).other (by omega) _
   many := ((h.many.alloc tmp).kept hgrow (hne _ (by omega))).other (by omega) _
   bel := h.bel.trans a5
   sz := by
    have := hgrow.size
    simp at this ⊢; omega }
 ·intro B hB hb
  rw [heap_setCell_other _ _ _ _ (by exact hb), hgrow.block B (by simp; omega) (hne B hB), heap_alloc_old W _ (by omega)]
theorem zoe : (Tryz.prog.info? 9).map (fun i => (i.zero, i.size, i.bytes)) = some (some (.string ⟨#[]⟩), 1, 16) := by kernel_rfl
set_option maxHeartbeats 4000000 in
theorem zbE (s : ByteArray) (hs : s.size ≤ 1000) (w : World) : Calls Tryz.prog 17 #[.string s] w fun e w' =>
  (∀ xs, spl (L s) = some xs → ∃ sv, e = .returned (.tuple #[sv, .int .i64 0, .int .i64 0]) ∧ w'.ownsRow w.heap.size 9 1 sv xs.length (xs.map strV)) ∧
  (spl (L s) = none → ∃ at_ : Int, e = .returned (.tuple #[.slice none 0 0, .int .i64 at_, .int .i64 2])) ∧ Below w.heap.size w w' := by
 refine (callsIn_wide (n := 8)).1 ?_
 refine callsIn_of_wp_marks Tryz.func17 rfl trivial ?_ rfl
 simp only [Tryz.ntmps17, List.size_toArray, List.length_cons, List.length_nil, Nat.reduceAdd, Nat.reduceSub, Array.replicate_succ, Array.replicate_zero, List.push_toArray, List.append_toArray, List.nil_append, List.cons_append]
 gi_wp2_with (refine ⟨trivial, ?_⟩; gi_at_call 35; refine (callsIn_wide.2 (zmA s _)).mono ?_; rintro e w1 ⟨B1, B2, rfl, hcaps, hB1, hB2, hbel⟩; dsimp only; have HC := Lib.hid hcaps; have HBB := Lib.hid hbel; have HB1 := Lib.hid hB1; have HB2 := Lib.hid hB2; clear hcaps hbel hB1 hB2)
 obtain ⟨A1, hA1, sA1, n1, o1, b1⟩ := zaH w #[.slice none 0 0] 22
 obtain ⟨A2, hA2, sA2, n2, o2, b2⟩ := zaH A1 #[.int .i64 0] 3
 obtain ⟨A3, hA3, sA3, n3, o3, b3⟩ := zaH A2 #[.int .i64 0] 26
 obtain ⟨A4, hA4, sA4, n4, o4, b4⟩ := zaH A3 #[.bool false] 4
 have hbel := HBB.out
 have hB1 := HB1.out
 have hB2 := HB2.out
 rw [hA1, hA2, hA3, hA4] at hbel hB1 hB2
 have hcaps := HC.out
 have hk1 := (Array.getElem?_eq_some_iff.1 hcaps.b1).1
 have hk2 := (Array.getElem?_eq_some_iff.1 hcaps.b2).1
 have hsz := hbel.size
 have hw1 : Below w.heap.size w w1 := (((b1.trans (b2.mono (by omega))).trans (b3.mono (by omega))).trans (b4.mono (by omega))).trans (hbel.mono (by omega))
 have k0 : w1.heap[w.heap.size]? = some (.cells #[.slice none 0 0] 22 (0, 0)) := by rw [hbel.block _ (by omega), o4 _ (by omega), o3 _ (by omega), o2 _ (by omega)]; exact n1
 have k1 : w1.heap[w.heap.size + 1]? = some (.cells #[.int .i64 0] 3 (0, 0)) := by rw [hbel.block _ (by omega), o4 _ (by omega), o3 _ (by omega), ← sA1]; exact n2
 have k2 : w1.heap[w.heap.size + 2]? = some (.cells #[.int .i64 0] 26 (0, 0)) := by rw [hbel.block _ (by omega), o4 _ (by omega), show w.heap.size + 2 = A2.heap.size by omega]; exact n3
 have k3 : w1.heap[w.heap.size + 3]? = some (.cells #[.bool false] 4 (0, 0)) := by rw [hbel.block _ (by omega), show w.heap.size + 3 = A3.heap.size by omega]; exact n4
 have hI0 : SpI w w1.heap.size w.heap.size [] w1 := ⟨rfl, ⟨_, k0, World.ownsRow_nil w1 _ 9 1, trivial⟩, k1, k2, k3, hw1, Nat.le_refl _⟩
 have hm : w.heap.size ≤ w1.heap.size := hw1.size
 clear n1 o1 b1 n2 o2 b2 n3 o3 b3 n4 o4 b4 hA1 hA2 hA3 hA4 hbel k0 k1 k2 k3 HBB HB1 HB2 HC
 refine wpIn_rangeFunc_ownH rfl (by omega) (gf := 99) (lb := #[.pointer (some ⟨B1, 0, none⟩), .pointer (some ⟨B2, 0, none⟩)]) rfl trivial (enters_of Tryz.func99 (by kernel_rfl) rfl)
  (zjn 7 (by omega) s (by omega) B1 B2 w1 hcaps) Keep2.trans (zrD hk1 hk2) (Below.refl _ _) (fun _ => rfl)
  (SpI w w1.heap.size w.heap.size) (SpX w w.heap.size) (zrE w _ _ hm) (zuP w _ _ hm) hI0
  (fun x a' W => ∃ Bx, w1.heap.size ≤ Bx ∧ ElAt W Bx x ∧ a' = { tmps := #[.string s, undef, .pointer (some ⟨w.heap.size, 0, none⟩), .pointer (some ⟨w.heap.size + 1, 0, none⟩), .pointer (some ⟨w.heap.size + 1 + 1, 0, none⟩), .pointer (some ⟨w.heap.size + 1 + 1 + 1, 0, none⟩), .int .i64 (x.at_ : Int), .pointer (some ⟨Bx, 0, none⟩), .string s, .func (.func 99) #[] #[.pointer (some ⟨B1, 0, none⟩), .pointer (some ⟨B2, 0, none⟩)], .int .i64 (x.at_ : Int), .agg #[.string ⟨x.tx.toArray⟩, .bool x.ok], undef, undef, undef, undef, undef, undef, undef, undef, undef, undef, undef, undef, undef, undef, undef, undef], defers := [] })
  ?hAx ?assign ?body ?done ?stop
 case hAx =>
  rintro x a' u W W' row ⟨Bx, h1, h2, h3⟩ hg hr
  exact ⟨Bx, h1, ztf _ Bx x () W W' row h2 hg hr, h3⟩
 case assign =>
  intro l pre x W K hI hK
  have HI := Lib.hid hI
  have HK := Lib.hid hK
  have hsW := hI.sz
  clear hI hK
  dsimp only [encE]
  gi_wp2
  exact HK.out _ _ ((KeepsOthers.alloc _ _).from _) ⟨heap_alloc_old W _ (by omega), heap_alloc_old W _ (by omega)⟩ ((zrE w _ _ hm).alloc _ HI.out) ⟨W.heap.size, hsW, heap_alloc_new W _, rfl⟩
 case body =>
  rintro l pre x a' W hl hr hI ⟨Bx, hBx, hxb, rfl⟩ hN
  have hxb0 := cell_of_row W Bx 0 _ _ _ hxb
  have hxb1 := cell_of_row W Bx 1 _ _ _ hxb
  obtain ⟨v, hv, hrow, _⟩ := hI.row
  have cv := hv.cell
  have fv := hv.frozen
  have c1 := hI.at_.cell
  have f1 := hI.at_.frozen
  have c2 := hI.err.cell
  have f2 := hI.err.frozen
  have hsW := hI.bel.size
  have hsz' := hI.sz
  obtain ⟨va, vc, hvf⟩ := zan hrow
  have HI := Lib.hid hI
  have HV := Lib.hid hv
  have HR := Lib.hid hrow
  have hlen : pre.length ≤ 1000 := by omega
  clear hI hxb
  obtain ⟨xa, xt, xo⟩ := x
  cases xo with
  | false =>
    clear hv hrow
    simp at hxb1
    subst hvf
    gi_wp2
    have h := HI.out
    refine ⟨((KeepsOthers.setCell _ _ _).trans ((KeepsOthers.setCell _ _ _).trans (KeepsOthers.setCell _ _ _))).from _, rfl, by simp, ?_, ⟨xa, ?_⟩, ?_, ?_⟩
    ·exact ((HV.out.set _).other (by omega) _).other (by omega) _
    ·exact ((h.at_.other (by omega) _).set _).other (by omega) _
    ·exact ((h.err.other (by omega) _).other (by omega) _).set _
    ·exact ((h.bel.setCell (p := ⟨w.heap.size, 0, none⟩) (Nat.le_refl _) _).setCell (p := ⟨w.heap.size + 1, 0, none⟩) (by simp) _).setCell (p := ⟨w.heap.size + 1 + 1, 0, none⟩) (by simp; omega) _
  | true =>
    simp at hxb1 hxb0
    subst hvf
    obtain ⟨i0, hi, hz0, hz1, hz2⟩ := info_parts zoe
    have hl0 : ((pre.length : Int) == 10000) = false := by simp; omega
    clear hv hrow
    gi_wp2_with (gi_at_builtin; refine wpListIn_append_own _ rfl _ _ 22 rfl w1.heap.size 9 i0 (.string ⟨#[]⟩) 1 16 Tryz.underlying22 hi hz0 hz1 hz2 rfl (by decide) _ _ _ rfl (HR.out.alloc _) ⟨W.heap.size, 0, none⟩ 1 1 [.string ⟨xt.toArray⟩] rfl rfl (cell_one_new _ _ _) (by simp [Value.oneCell']) (by simp only [maxLen]; omega) (by omega) (by simp; omega) ?_; intro v' w2 hown' hgrow _; obtain ⟨g', cap', rfl⟩ := ownsRow_succ hown'; obtain ⟨q1, q2, q3, q4⟩ := SpI.step (x := ⟨xa, xt, true⟩) HI.out (by omega) (Nat.le_refl _) HV.out HR.out hown' hgrow rfl; have hc1 := q1.cell; have hf1 := q1.frozen; have Q2 := Lib.hid q2; have Q3 := Lib.hid q3; have Q4 := Lib.hid q4; clear q1 q2 q3 q4 hown' hgrow)
    exact ⟨Q3.out.from _, ⟨Q4.out _ hk1 (by omega), Q4.out _ hk2 (by omega)⟩, Q2.out⟩
 case done =>
  rintro D ys W hD rfl hI hK
  obtain ⟨v, hv, hrow, _⟩ := hI.row
  obtain ⟨va, vc, rfl⟩ := zan hrow
  have cv := hv.cell
  have fv := hv.frozen
  have c1 := hI.at_.cell
  have f1 := hI.at_.frozen
  have c2 := hI.err.cell
  have f2 := hI.err.frozen
  have c3 := hI.many.cell
  have HI := Lib.hid hI
  have HV := Lib.hid hv
  have HR := Lib.hid hrow
  have hsp := zrB (L s).length (L s) 0 (Nat.le_refl _)
  rw [if_pos hI.ok] at hsp
  have HSP := Lib.hid hsp
  clear hI hv hrow hsp
  gi_wp2
  have hI := HI.out
  have hv' := ((HV.out.set (.slice va (evs (L s) 0).length vc)).other (B' := w.heap.size + 1) (by omega) (.int .i64 0)).other (B' := w.heap.size + 1 + 1) (by omega) (.int .i64 0)
  have ha' := ((hI.at_.other (B' := w.heap.size) (by omega) (.slice va (evs (L s) 0).length vc)).set (.int .i64 0)).other (B' := w.heap.size + 1 + 1) (by omega) (.int .i64 0)
  have he' := ((hI.err.other (B' := w.heap.size) (by omega) (.slice va (evs (L s) 0).length vc)).other (B' := w.heap.size + 1) (by omega) (.int .i64 0)).set (.int .i64 0)
  have hK' : (((W.setCell ⟨w.heap.size, 0, none⟩ (.slice va (evs (L s) 0).length vc)).setCell ⟨w.heap.size + 1, 0, none⟩ (.int .i64 0)).setCell ⟨w.heap.size + 1 + 1, 0, none⟩ (.int .i64 0)).heap[D]? = some (.deferred (some [])) :=
   ((KeepsOthers.setCell W ⟨w.heap.size, 0, none⟩ (.slice va (evs (L s) 0).length vc)).trans ((KeepsOthers.setCell _ ⟨w.heap.size + 1, 0, none⟩ (.int .i64 0)).trans (KeepsOthers.setCell _ ⟨w.heap.size + 1 + 1, 0, none⟩ (.int .i64 0)))).same D _ hK rfl
  have hbel := ((hI.bel.setCell (p := ⟨w.heap.size, 0, none⟩) (Nat.le_refl _) (.slice va (evs (L s) 0).length vc)).setCell (p := ⟨w.heap.size + 1, 0, none⟩) (by simp) (.int .i64 0)).setCell (p := ⟨w.heap.size + 1 + 1, 0, none⟩) (by simp; omega) (.int .i64 0)
  refine ⟨by simp, .inl ⟨_, _, rfl, run_takeDeferred hK', ?_⟩⟩
  refine ⟨_, zfa rfl _ _ rfl rfl rfl (zaW hv' hK' _).cell (zaW ha' hK' _).cell (zaW he' hK' _).cell, ?_, ?_, ?_⟩
  ·intro xs hxs
   rw [HSP.out] at hxs
   cases hxs
   refine ⟨_, rfl, ?_⟩
   have hr := HR.out
   have hr2 := zbl (w' := ((((W.setCell ⟨w.heap.size, 0, none⟩ (.slice va (evs (L s) 0).length vc)).setCell ⟨w.heap.size + 1, 0, none⟩ (.int .i64 0)).setCell ⟨w.heap.size + 1 + 1, 0, none⟩ (.int .i64 0)).putObj D (.deferred none))) hr fun k hk => by
    have hlt := (hr.lt k hk).1
    obtain ⟨c, hc⟩ := zbm hr hk
    have hkD : k ≠ D := by rintro rfl; rw [hc] at hK; cases hK
    rw [World.putObj_heap_other hkD, heap_setCell_other _ _ _ _ (by simp; omega), heap_setCell_other _ _ _ _ (by simp; omega), heap_setCell_other _ _ _ _ (by simp; omega)]
   rw [List.length_map, List.map_map]
   exact zaN hr2 hm
  ·intro h
   rw [HSP.out] at h
   cases h
  ·exact hbel.trans (belowK_b (w := w) (Nat.le_refl _) _ D _ _ (by omega) hK' rfl rfl)
 case stop =>
  rintro D c pre W hD hpre hX hK
  obtain ⟨rfl, hbad, hv, ⟨k, hk⟩, herr, hbel⟩ := hX
  have cv := hv.cell
  have c1 := hk.cell
  have c2 := herr.cell
  have HBEL := Lib.hid hbel
  have HBAD := Lib.hid hbad
  have HPRE := Lib.hid hpre
  clear hbel hbad hpre
  gi_wp2
  refine ⟨by simp, .inl ⟨_, _, rfl, run_takeDeferred hK, ?_⟩⟩
  refine ⟨_, zfa rfl _ _ rfl rfl rfl (zaW hv hK _).cell (zaW hk hK _).cell (zaW herr hK _).cell, ?_, ?_, ?_⟩
  ·intro xs hxs
   rw [zrB (L s).length (L s) 0 (Nat.le_refl _)] at hxs
   obtain ⟨r, hr⟩ := HPRE.out
   rw [if_neg] at hxs
   ·cases hxs
   ·rw [← hr, List.all_append]
    intro h
    exact HBAD.out (by simp only [Bool.and_eq_true] at h; exact h.1)
  ·intro _
   exact ⟨k, rfl⟩
  ·exact HBEL.out.trans (belowK_b (w := w) (Nat.le_refl _) _ D _ _ (by omega) hK rfl rfl)
end Go.Proofs.YtppjodfehhlniaaGreatDoor
end
section
namespace Go.Proofs.YtppjodfehhlniaaGreatDoor
open Go.ChangeShapes Go.WideShapes Go.ChangeAt Go.RowKit
set_option maxRecDepth 100000
def StrRow (w : World) (v : Value) (l : List (List UInt8)) : Prop :=
 (v = .slice none 0 0 ∧ l = []) ∨ ∃ (a : Addr) (c : Nat), v = .slice (some a) l.length c ∧ ∀ i t, l[i]? = some t → w.cell? (a.add i) = some (strV t)
theorem zaf {w w' : World} {p : Addr} {v : Value} (h : w.cell? p = some v) (hb : Below w.heap.size w w') : w'.cell? p = some v := by
 obtain ⟨o, ho, _⟩ := cells_of_cell h
 exact (World.cell?_of_block (hb.block _ (Array.getElem?_eq_some_iff.1 ho).1)).trans h
theorem StrRow.later {w w' : World} {v : Value} {l : List (List UInt8)} (h : StrRow w v l) (hb : Below w.heap.size w w') : StrRow w' v l := by
 rcases h with h | ⟨a, c, h1, h2⟩
 ·exact .inl h
 ·exact .inr ⟨a, c, h1, fun i t hi => zaf (h2 i t hi) hb⟩
theorem zaB {w : World} {b : Nat} {v : Value} {l : List (List UInt8)} (h : w.ownsRow b 9 1 v l.length (l.map strV)) : StrRow w v l := by
 rcases h.2 with ⟨hv, h0⟩ | ⟨g, cap, cur, rfl, h1, h2, h3⟩
 ·exact .inl ⟨by rw [hv], List.eq_nil_of_length_eq_zero h0⟩
 ·refine .inr ⟨⟨g, 0, none⟩, cap, rfl, fun i t hi => ?_⟩
  have := h.cells (g := g) rfl i (strV t) (by rw [List.getElem?_map, hi]; rfl)
  exact this
theorem StrRow.form {w : World} {v : Value} {l : List (List UInt8)} (h : StrRow w v l) : ∃ a c, v = .slice a l.length c ∧ ∀ i t, l[i]? = some t → ∃ p, a = some p ∧ w.cell? (p.add i) = some (strV t) := by
 rcases h with ⟨rfl, rfl⟩ | ⟨a, c, h1, h2⟩
 ·exact ⟨none, 0, rfl, fun i t hi => by simp at hi⟩
 ·exact ⟨some a, c, h1, fun i t hi => ⟨a, rfl, h2 i t hi⟩⟩
def bulk (l : List (List UInt8)) : Nat := (l.map fun t => t.length + 1).sum
theorem zf9 (t : List UInt8) : (⟨t.toArray⟩ : ByteArray).size = t.length := by simp [ByteArray.size]
end Go.Proofs.YtppjodfehhlniaaGreatDoor
end
section
namespace Go.Proofs.YtppjodfehhlniaaGreatDoor
open Go.ChangeShapes Go.WideShapes Go.ChangeAt Go.RowKit
set_option maxRecDepth 100000
theorem zrF : Tryz.prog.underlying 70 = some (.map 9 4) := by kernel_rfl
theorem zvy : Tryz.prog.underlying 9 = some .string := by kernel_rfl
theorem zmB (b : Bool) (q : ByteArray) (w : World) : (Instr.checkKey b 10000 9 (.string q)).run Tryz.prog w = .ok () w := by cases b <;> kernel_rfl
def zhr (es : List MapEntry) (met : List (List UInt8)) : Prop := es.map (fun e => (e.key, e.val)) = met.map fun m => (strV m, .bool true)
theorem ziR (q : ByteArray) (m : List UInt8) : (q == (⟨m.toArray⟩ : ByteArray)) = (m == L q) := by
 have h : (q == (⟨m.toArray⟩ : ByteArray)) = (q.data == m.toArray) := rfl
 rw [h, Bool.eq_iff_iff, beq_iff_eq, beq_iff_eq]
 unfold L
 constructor
 ·intro e; rw [e]
 ·rintro rfl; simp
theorem zpd (q : ByteArray) : ∀ (es : List MapEntry) (met : List (List UInt8)) (i : Nat), zhr es met → ∃ r, Instr.findNow .string (.string q) es i = some r ∧
  ((met.contains (L q) = true ∧ ∃ j, r = some (j, .bool true)) ∨ (met.contains (L q) = false ∧ r = none))
 | [], [], i, _ => ⟨none, rfl, .inr ⟨rfl, rfl⟩⟩
 | [], _ :: _, i, h => by simp [zhr] at h
 | _ :: _, [], i, h => by simp [zhr] at h
 | e :: es, m :: met, i, h => by
   simp only [zhr, List.map_cons, List.cons.injEq, Prod.mk.injEq] at h
   obtain ⟨⟨hk, hv⟩, h⟩ := h
   obtain ⟨r, hr, hc⟩ := zpd q es met (i + 1) h
   simp only [Instr.findNow, hk, strV, Instr.sameNow, ziR]
   have e0 : (m :: met).contains (L q) = (L q == m || met.contains (L q)) := rfl
   have e1 : (L q == m) = (m == L q) := by rw [Bool.eq_iff_iff, beq_iff_eq, beq_iff_eq]; exact ⟨Eq.symm, Eq.symm⟩
   rw [e0, e1]
   cases hpa : (m == L q)
   ·exact ⟨r, hr, by simpa using hc⟩
   ·exact ⟨_, rfl, .inl ⟨rfl, i, by rw [hv]⟩⟩
theorem zrG (q : ByteArray) (w : World) (es : List MapEntry) (met : List (List UInt8)) (h : zhr es met) : ∃ r, (Instr.findKey 9 (.string q) es).run Tryz.prog w = .ok r w ∧
  ((met.contains (L q) = true ∧ ∃ j, r = some (j, .bool true)) ∨ (met.contains (L q) = false ∧ r = none)) := by
 obtain ⟨r, hr, hc⟩ := zpd q es met 0 h
 refine ⟨r, ?_, hc⟩
 simp only [Instr.findKey, Sem.run_bind, run_underlying zvy, Result.andThen_ok, hr, Sem.run_pure]
theorem zla (w : World) (tp : Nat) (q : ByteArray) (es : Array MapEntry) (n : Nat) (met : List (List UInt8)) (hb : w.heap[tp]? = some (.map es n)) (h : zhr es.toList met) :
  (Instr.lookup 70 (.map (some tp)) (.string q) false).run Tryz.prog w = .ok (.bool (met.contains (L q))) w := by
 obtain ⟨r, hr, hc⟩ := zrG q w es.toList met h
 have hz : (zeroValue 4).run Tryz.prog w = .ok (.bool false) w := by kernel_rfl
 simp only [Instr.lookup, Sem.run_bind, run_underlying zrF, Result.andThen_ok, MapKept.run_getObj_map hb, Sem.run_pure, zmB, hr]
 rcases hc with ⟨hc, j, rfl⟩ | ⟨hc, rfl⟩
 ·rw [hc]; simp
 ·rw [hc]; simp [hz]
theorem zuQ (w : World) (tp : Nat) (q : ByteArray) (es : Array MapEntry) (n : Nat) (met : List (List UInt8)) (hb : w.heap[tp]? = some (.map es n)) (h : zhr es.toList met) (hn : met.contains (L q) = false) :
  (Instr.mapUpdate 70 (.map (some tp)) (.string q) (.bool true)).run Tryz.prog w = .ok () { w with heap := w.heap.setIfInBounds tp (.map (es.push { key := .string q, val := .bool true, born := n }) (n + 1)) } ∧
   zhr (es.push { key := .string q, val := .bool true, born := n }).toList (met ++ [L q]) := by
 obtain ⟨r, hr, hc⟩ := zrG q w es.toList met h
 rcases hc with ⟨hc, _⟩ | ⟨_, rfl⟩
 ·rw [hc] at hn; cases hn
 ·refine ⟨?_, ?_⟩
  ·simp only [Instr.mapUpdate, Sem.run_bind, run_underlying zrF, Result.andThen_ok, MapKept.run_getObj_map hb, zmB, hr, MapKept.run_setObj_map _ hb]
  ·have : (.string q : Value) = strV (L q) := by unfold strV L; cases q; simp
   simp only [zhr, Array.toList_push, List.map_append, List.map_cons, List.map_nil] at h ⊢
   rw [h, this]
end Go.Proofs.YtppjodfehhlniaaGreatDoor
end
section
namespace Go.Proofs.YtppjodfehhlniaaGreatDoor
open Go.ChangeShapes Go.WideShapes Go.ChangeAt Go.RowKit
set_option maxRecDepth 100000
theorem zuR (s sep : ByteArray) (i : Nat) (h1 : sep.size = 1) (his : i < s.size) : ((s.extract i (i + 1)).toList == sep.toList) = (byte s i == byte sep 0) := by
 rw [Lib.toList_data, Lib.toList_data]
 have a : (s.extract i (i + 1)).data.toList = [ub s i] := by
  have := ze0 s i (i + 1)
  rw [zak s his, show i + 1 - i = 1 by omega] at this
  exact this
 have b : sep.data.toList = [ub sep 0] := by
  have := zak sep (show 0 < sep.size by omega)
  rw [List.drop_zero, zas sep (by omega)] at this
  exact this
 rw [a, b, ← zaE s i, ← zaE sep 0]
 rw [Bool.eq_iff_iff]
 simp only [beq_iff_eq, List.cons.injEq, and_true]
 exact ⟨fun h => by rw [h], fun h => UInt8.toNat.inj h⟩
set_option maxHeartbeats 1000000 in
theorem zj5 (sep s : ByteArray) (i : Nat) (h1 : sep.size = 1) (his : i < s.size) (hs : s.size ≤ 1000000) (w : World) :
  Calls Tryz.prog 219 #[.string sep, .string s, .int .i64 (i : Int)] w fun e w' => e = .returned (.bool (byte s i == byte sep 0)) ∧ w = w' := by
 have t1 : (0 : Int) ≤ (i : Int) := by omega
 have t2 : (sep.size : Int) = 1 := by omega
 have t3 : (i : Int) ≤ (s.size : Int) - 1 := by omega
 have t4 : (i : Int) + 1 ≤ (s.size : Int) := by omega
 have t5 : (i : Int) ≤ (i : Int) + 1 := by omega
 have t6 : (0 : Int) ≤ (i : Int) + 1 := by omega
 have HB := Lib.hid (zuR s sep i h1 his)
 clear h1 his
 go_enter Tryz.func219, Tryz.ntmps219
 go_wp2
 go_ret
 exact ⟨zap HB.out, rfl⟩
def fst : List UInt8 → UInt8 → Option Nat
 | [], _ => none
 | b :: l, c => if b = c then some 0 else (fst l c).map (· + 1)
def fstV : Option Nat → Int
 | none => -1
 | some k => (k : Int)
set_option maxHeartbeats 1000000 in
theorem ziS (sep s : ByteArray) (h1 : sep.size = 1) (hs : s.size ≤ 1000000) (w : World) :
  Calls Tryz.prog 104 #[.string sep, .string s, .int .i64 0] w fun e w' => e = .returned (.int .i64 (fstV (fst (L s) (ub sep 0)))) ∧ w = w' := by
 have t5 := zaI sep (by omega)
 have H1 := Lib.hid h1
 clear h1
 go_enter Tryz.func104, Tryz.ntmps104
 go_wp2
 go_loopg [10] s.size (fun k n wr => ∃ i : Nat, n = .int .i64 (i : Int) ∧ k = s.size - i ∧ i ≤ s.size ∧ fst (L s) (ub sep 0) = (fst ((L s).drop i) (ub sep 0)).map (· + i) ∧ w = wr)
 case atStart => exact ⟨0, rfl, rfl, by omega, by simp, rfl⟩
 case round =>
  obtain ⟨i, rfl, hk, his, heq, rfl⟩ := hrel
  have HK := Lib.hid hk
  have HEQ := Lib.hid heq
  clear hk heq
  by_cases hlt : i < s.size
  ·have t7 : (i : Int) < (s.size : Int) := by omega
   have t8 : (0 : Int) ≤ (i : Int) := by omega
   by_cases hb : ub s i = ub sep 0
   ·have hbb : (byte s i == byte sep 0) = true := by rw [← zaE, ← zaE, hb]; simp
    have HB := Lib.hid hb
    clear hb
    go_wp2_with (go_at_call 219; refine (zj5 _ _ _ H1.out hlt hs _).mono ?_; rintro e w' ⟨rfl, rfl⟩; rw [hbb])
    go_ret
    refine ⟨?_, rfl⟩
    rw [HEQ.out, zak s hlt, HB.out]
    simp [fst, fstV]
   ·have hbb : (byte s i == byte sep 0) = false := by
     rw [← zaE, ← zaE]
     have h2 : ¬ (ub s i).toNat = (ub sep 0).toNat := fun e => hb (UInt8.toNat.inj e)
     simp [h2]
    have HB := Lib.hid hb
    clear hb
    go_wp2_with (go_at_call 219; refine (zj5 _ _ _ H1.out hlt hs _).mono ?_; rintro e w' ⟨rfl, rfl⟩; rw [hbb])
    go_roundg (s.size - (i + 1))
    case measure => rw [HK.out]; omega
    case rel =>
     refine ⟨i + 1, by go_num, rfl, by omega, ?_, rfl⟩
     rw [HEQ.out, zak s hlt]
     simp only [fst, if_neg HB.out, Option.map_map]
     congr 1
     funext x; simp; omega
  ·have t7 : ¬ (i : Int) < (s.size : Int) := by omega
   go_wp2
   go_ret
   refine ⟨?_, rfl⟩
   rw [HEQ.out, zas s (by omega)]
   simp [fst, fstV]
theorem zuS (c : UInt8) : (∃ k : Nat, k < 7 ∧ fst [97, 98, 102, 110, 114, 116, 118] c = some k ∧ ltr c = ([7, 8, 12, 10, 13, 9, 11] : List UInt8)[k]?) ∨ (fst [97, 98, 102, 110, 114, 116, 118] c = none ∧ ltr c = none) := by
 by_cases h1 : c = 97
 ·subst h1; exact .inl ⟨0, by decide, rfl, rfl⟩
 by_cases h2 : c = 98
 ·subst h2; exact .inl ⟨1, by decide, rfl, rfl⟩
 by_cases h3 : c = 116
 ·subst h3; exact .inl ⟨5, by decide, rfl, rfl⟩
 by_cases h4 : c = 110
 ·subst h4; exact .inl ⟨3, by decide, rfl, rfl⟩
 by_cases h5 : c = 118
 ·subst h5; exact .inl ⟨6, by decide, rfl, rfl⟩
 by_cases h6 : c = 102
 ·subst h6; exact .inl ⟨2, by decide, rfl, rfl⟩
 by_cases h7 : c = 114
 ·subst h7; exact .inl ⟨4, by decide, rfl, rfl⟩
 refine .inr ⟨?_, ?_⟩
 ·have q : ∀ n : UInt8, c ≠ n → ¬ n = c := fun n h e => h e.symm
  simp [fst, q _ h1, q _ h2, q _ h3, q _ h4, q _ h5, q _ h6, q _ h7]
 ·unfold ltr
  rw [if_neg h1, if_neg h2, if_neg h3, if_neg h4, if_neg h5, if_neg h6, if_neg h7]
end Go.Proofs.YtppjodfehhlniaaGreatDoor
end
section
namespace Go.Proofs
open Go.Shelf
def Tryz.lays144_ren : Go.Shelf.Ren := ⟨fun | 144 => 37 | 143 => 102 | 219 => 216 | 217 => 332 | 225 => 333 | 224 => 334 | 267 => 335 | 266 => 416 | 314 => 417 | n => n, fun | 9 => 9 | 4 => 4 | 3 => 3 | 5 => 5 | 46 => 101 | 146 => 451 | 51 => 214 | n => n, fun | 1 => 2 | n => n⟩
theorem Tryz.lays144 : Go.Proofs.Lays.n144 Tryz.prog Tryz.lays144_ren := {
 mixed := by kernel_rfl
 f143 := Tryz.func102.trans (congrArg some (by kernel_rfl))
 f144 := Tryz.func37.trans (congrArg some (by kernel_rfl))
 f217 := Tryz.func332.trans (congrArg some (by kernel_rfl))
 f219 := Tryz.func216.trans (congrArg some (by kernel_rfl))
 f224 := Tryz.func334.trans (congrArg some (by kernel_rfl))
 f225 := Tryz.func333.trans (congrArg some (by kernel_rfl))
 f266 := Tryz.func416.trans (congrArg some (by kernel_rfl))
 f267 := Tryz.func335.trans (congrArg some (by kernel_rfl))
 f314 := Tryz.func417.trans (congrArg some (by kernel_rfl))
 t3 := Tryz.underlying3
 a3 := Tryz.isAgg3
 z3 := Tryz.sizeOf3
 v3 := Tryz.zeroValue3
 t4 := Tryz.underlying4
 a4 := Tryz.isAgg4
 z4 := Tryz.sizeOf4
 v4 := Tryz.zeroValue4
 t5 := Tryz.underlying5
 a5 := Tryz.isAgg5
 z5 := Tryz.sizeOf5
 v5 := Tryz.zeroValue5
 t9 := Tryz.underlying9
 a9 := Tryz.isAgg9
 z9 := Tryz.sizeOf9
 v9 := Tryz.zeroValue9
 t46 := Tryz.underlying101
 a46 := Tryz.isAgg101
 z46 := Tryz.sizeOf101
 v46 := Tryz.zeroValue101
 t51 := Tryz.underlying214
 a51 := Tryz.isAgg214
 z51 := Tryz.sizeOf214
 v51 := Tryz.zeroValue214
 t146 := Tryz.underlying451
 a146 := Tryz.isAgg451
 z146 := Tryz.sizeOf451
 v146 := Tryz.zeroValue451
 g1 := by kernel_rfl }
open Go.RowKit Go.Lib in
theorem Tryz.strings_Contains (s sub : ByteArray) (m : Int) (w : World) (hs : s.size < 4294967281) (hm : w.cell? ⟨2, 0, none⟩ = some (.int .i64 m)) :
  Calls Tryz.prog 37 #[.string s, .string sub] w fun e w' => e = .returned (.bool (Lib.contains s.data.toList sub.data.toList)) ∧ w' = w := Any.strings_Contains Tryz.lays144 s sub m w hs hm
def Tryz.lays219_ren : Go.Shelf.Ren := ⟨fun | 219 => 216 | 217 => 332 | 225 => 333 | 224 => 334 | 267 => 335 | 266 => 416 | 314 => 417 | n => n, fun | 9 => 9 | 3 => 3 | 4 => 4 | 5 => 5 | 46 => 101 | 146 => 451 | 51 => 214 | n => n, fun | 1 => 2 | n => n⟩
theorem Tryz.lays219 : Go.Proofs.Lays.n219 Tryz.prog Tryz.lays219_ren := {
 mixed := by kernel_rfl
 f217 := Tryz.func332.trans (congrArg some (by kernel_rfl))
 f219 := Tryz.func216.trans (congrArg some (by kernel_rfl))
 f224 := Tryz.func334.trans (congrArg some (by kernel_rfl))
 f225 := Tryz.func333.trans (congrArg some (by kernel_rfl))
 f266 := Tryz.func416.trans (congrArg some (by kernel_rfl))
 f267 := Tryz.func335.trans (congrArg some (by kernel_rfl))
 f314 := Tryz.func417.trans (congrArg some (by kernel_rfl))
 t3 := Tryz.underlying3
 a3 := Tryz.isAgg3
 z3 := Tryz.sizeOf3
 v3 := Tryz.zeroValue3
 t4 := Tryz.underlying4
 a4 := Tryz.isAgg4
 z4 := Tryz.sizeOf4
 v4 := Tryz.zeroValue4
 t5 := Tryz.underlying5
 a5 := Tryz.isAgg5
 z5 := Tryz.sizeOf5
 v5 := Tryz.zeroValue5
 t9 := Tryz.underlying9
 a9 := Tryz.isAgg9
 z9 := Tryz.sizeOf9
 v9 := Tryz.zeroValue9
 t46 := Tryz.underlying101
 a46 := Tryz.isAgg101
 z46 := Tryz.sizeOf101
 v46 := Tryz.zeroValue101
 t51 := Tryz.underlying214
 a51 := Tryz.isAgg214
 z51 := Tryz.sizeOf214
 v51 := Tryz.zeroValue214
 t146 := Tryz.underlying451
 a146 := Tryz.isAgg451
 z146 := Tryz.sizeOf451
 v146 := Tryz.zeroValue451
 g1 := by kernel_rfl }
open Go.RowKit Go.Lib in
theorem Tryz.stringslite_Index (s sub : ByteArray) (m : Int) (w : World) (hs : s.size < 4294967281) (hm : w.cell? ⟨2, 0, none⟩ = some (.int .i64 m)) :
  Calls Tryz.prog 216 #[.string s, .string sub] w fun e w' => e = .returned (.int .i64 (Lib.index s.data.toList sub.data.toList)) ∧ w' = w := Any.stringslite_Index Tryz.lays219 s sub m w hs hm
def Tryz.lays103_ren : Go.Shelf.Ren := ⟨fun | 103 => 22 | 210 => 45 | 206 => 109 | n => n, fun | 9 => 9 | 4 => 4 | 24 => 49 | 3 => 3 | n => n, fun | n => n⟩
theorem Tryz.lays103 : Go.Proofs.Lays.n103 Tryz.prog Tryz.lays103_ren := {
 mixed := by kernel_rfl
 f103 := Tryz.func22.trans (congrArg some (by kernel_rfl))
 f206 := Tryz.func109.trans (congrArg some (by kernel_rfl))
 f210 := Tryz.func45.trans (congrArg some (by kernel_rfl))
 t3 := Tryz.underlying3
 a3 := Tryz.isAgg3
 z3 := Tryz.sizeOf3
 v3 := Tryz.zeroValue3
 t4 := Tryz.underlying4
 a4 := Tryz.isAgg4
 z4 := Tryz.sizeOf4
 v4 := Tryz.zeroValue4
 t9 := Tryz.underlying9
 a9 := Tryz.isAgg9
 z9 := Tryz.sizeOf9
 v9 := Tryz.zeroValue9
 t24 := Tryz.underlying49
 a24 := Tryz.isAgg49
 z24 := Tryz.sizeOf49
 v24 := Tryz.zeroValue49 }
open Go.RowKit Go.Lib in
theorem Tryz.strings_CutPrefix (s p : ByteArray) (w : World) :
  Calls Tryz.prog 22 #[.string s, .string p] w fun e w' => e = .returned (.tuple #[.string ⟨(Lib.trimPrefix s.data.toList p.data.toList).toArray⟩, .bool (Lib.hasPrefix s.data.toList p.data.toList)]) ∧ w' = w := Any.strings_CutPrefix Tryz.lays103 s p w
def Tryz.lays160_ren : Go.Shelf.Ren := ⟨fun | 160 => 23 | 232 => 47 | 231 => 46 | 227 => 48 | 234 => 50 | 233 => 49 | 236 => 52 | 235 => 51 | 228 => 110 | 271 => 113 | 151 => 112 | 197 => 111 | 120 => 225 | 152 => 224 | 260 => 223 | 137 => 221 | 119 => 343 | 224 => 334 | 225 => 333 | 217 => 332 | 266 => 416 | n => n, fun | 9 => 9 | 4 => 4 | 3 => 3 | 5 => 5 | 117 => 90 | 116 => 89 | 0 => 0 | 124 => 93 | 21 => 21 | 105 => 165 | 46 => 101 | 119 => 382 | 139 => 385 | 138 => 384 | n => n, fun | 3 => 3 | 4 => 4 | n => n⟩
theorem Tryz.lays160 : Go.Proofs.Lays.n160 Tryz.prog Tryz.lays160_ren := {
 mixed := by kernel_rfl
 f119 := Tryz.func343.trans (congrArg some (by kernel_rfl))
 f120 := Tryz.func225.trans (congrArg some (by kernel_rfl))
 f137 := Tryz.func221.trans (congrArg some (by kernel_rfl))
 f151 := Tryz.func112.trans (congrArg some (by kernel_rfl))
 f152 := Tryz.func224.trans (congrArg some (by kernel_rfl))
 f160 := Tryz.func23.trans (congrArg some (by kernel_rfl))
 f197 := Tryz.func111.trans (congrArg some (by kernel_rfl))
 f217 := Tryz.func332.trans (congrArg some (by kernel_rfl))
 f224 := Tryz.func334.trans (congrArg some (by kernel_rfl))
 f225 := Tryz.func333.trans (congrArg some (by kernel_rfl))
 f227 := Tryz.func48.trans (congrArg some (by kernel_rfl))
 f228 := Tryz.func110.trans (congrArg some (by kernel_rfl))
 f231 := Tryz.func46.trans (congrArg some (by kernel_rfl))
 f232 := Tryz.func47.trans (congrArg some (by kernel_rfl))
 f233 := Tryz.func49.trans (congrArg some (by kernel_rfl))
 f234 := Tryz.func50.trans (congrArg some (by kernel_rfl))
 f235 := Tryz.func51.trans (congrArg some (by kernel_rfl))
 f236 := Tryz.func52.trans (congrArg some (by kernel_rfl))
 f260 := Tryz.func223.trans (congrArg some (by kernel_rfl))
 f266 := Tryz.func416.trans (congrArg some (by kernel_rfl))
 f271 := Tryz.func113.trans (congrArg some (by kernel_rfl))
 t0 := Tryz.underlying0
 a0 := Tryz.isAgg0
 z0 := Tryz.sizeOf0
 v0 := Tryz.zeroValue0
 t3 := Tryz.underlying3
 a3 := Tryz.isAgg3
 z3 := Tryz.sizeOf3
 v3 := Tryz.zeroValue3
 t4 := Tryz.underlying4
 a4 := Tryz.isAgg4
 z4 := Tryz.sizeOf4
 v4 := Tryz.zeroValue4
 t5 := Tryz.underlying5
 a5 := Tryz.isAgg5
 z5 := Tryz.sizeOf5
 v5 := Tryz.zeroValue5
 t9 := Tryz.underlying9
 a9 := Tryz.isAgg9
 z9 := Tryz.sizeOf9
 v9 := Tryz.zeroValue9
 t21 := Tryz.underlying21
 a21 := Tryz.isAgg21
 z21 := Tryz.sizeOf21
 v21 := Tryz.zeroValue21
 t46 := Tryz.underlying101
 a46 := Tryz.isAgg101
 z46 := Tryz.sizeOf101
 v46 := Tryz.zeroValue101
 t105 := Tryz.underlying165
 a105 := Tryz.isAgg165
 z105 := Tryz.sizeOf165
 v105 := Tryz.zeroValue165
 t116 := Tryz.underlying89
 a116 := Tryz.isAgg89
 z116 := Tryz.sizeOf89
 t117 := Tryz.underlying90
 a117 := Tryz.isAgg90
 z117 := Tryz.sizeOf90
 v117 := Tryz.zeroValue90
 t119 := Tryz.underlying382
 a119 := Tryz.isAgg382
 z119 := Tryz.sizeOf382
 t124 := Tryz.underlying93
 a124 := Tryz.isAgg93
 z124 := Tryz.sizeOf93
 v124 := Tryz.zeroValue93
 t138 := Tryz.underlying384
 a138 := Tryz.isAgg384
 z138 := Tryz.sizeOf384
 v138 := Tryz.zeroValue384
 t139 := Tryz.underlying385
 a139 := Tryz.isAgg385
 z139 := Tryz.sizeOf385
 v139 := Tryz.zeroValue385
 g3 := by kernel_rfl
 g4 := by kernel_rfl }
open Go.RowKit Go.Lib in
theorem Tryz.strings_Trim (s cutset : ByteArray) (w : World) (hs : s.size ≤ 9223372036854775807) (hcs : cutset.size < 4294967281) (hascii : ∀ (j : Nat) (b : UInt8), cutset.data.toList[j]? = some b → b.toNat < 128) :
  Calls Tryz.prog 23 #[.string s, .string cutset] w fun e w' => e = .returned (.string ⟨(Lib.trimS s.data.toList cutset.data.toList).toArray⟩) ∧ Below w.heap.size w w' := Any.strings_Trim_laid Tryz.lays160 (by kernel_rfl) s cutset w hs hcs hascii
def Tryz.lays170_ren : Go.Shelf.Ren := ⟨fun | 170 => 42 | n => n, fun | 70 => 77 | 3 => 3 | 0 => 0 | 72 => 80 | 37 => 78 | 5 => 5 | n => n, fun | n => n⟩
theorem Tryz.lays170 : Go.Proofs.Lays.n170 Tryz.prog Tryz.lays170_ren := {
 mixed := by kernel_rfl
 f170 := Tryz.func42.trans (congrArg some (by kernel_rfl))
 t0 := Tryz.underlying0
 a0 := Tryz.isAgg0
 z0 := Tryz.sizeOf0
 v0 := Tryz.zeroValue0
 t3 := Tryz.underlying3
 a3 := Tryz.isAgg3
 z3 := Tryz.sizeOf3
 v3 := Tryz.zeroValue3
 t37 := Tryz.underlying78
 a37 := Tryz.isAgg78
 z37 := Tryz.sizeOf78
 v37 := Tryz.zeroValue78
 t70 := Tryz.underlying77
 a70 := Tryz.isAgg77
 z70 := Tryz.sizeOf77
 v70 := Tryz.zeroValue77
 t72 := Tryz.underlying80
 a72 := Tryz.isAgg80
 z72 := Tryz.sizeOf80
 v72 := Tryz.zeroValue80 }
open Go.RowKit in
theorem Tryz.Builder_Len (B b : Nat) (bs : List Value) (w : World) (h : Lib.IsBuilder 80 5 B b bs w) :
  Calls Tryz.prog 42 #[.pointer (some ⟨b, 0, none⟩)] w fun e w' => e = .returned (.int .i64 bs.length) ∧ w' = w := Any.Builder_Len Tryz.lays170 B b bs w h
def Tryz.lays172_ren : Go.Shelf.Ren := ⟨fun | 172 => 24 | 244 => 53 | 245 => 54 | 247 => 114 | 279 => 115 | 280 => 116 | 281 => 117 | 282 => 118 | 287 => 226 | 316 => 227 | 171 => 229 | 205 => 228 | 321 => 344 | 322 => 345 | 243 => 346 | 246 => 418 | 283 => 476 | 284 => 477 | 285 => 478 | 286 => 479 | 129 => 173 | 317 => 540 | 318 => 541 | 319 => 542 | 320 => 543 | 337 => 609 | 338 => 610 | n => n, fun | 9 => 9 | 3 => 3 | 75 => 53 | 76 => 54 | 4 => 4 | 5 => 5 | 167 => 168 | 37 => 78 | 0 => 0 | 85 => 169 | 2 => 2 | 168 => 171 | 53 => 216 | 175 => 258 | 46 => 101 | 210 => 261 | 127 => 164 | 145 => 390 | 143 => 388 | 21 => 21 | 171 => 504 | 173 => 506 | 212 => 561 | 51 => 214 | 20 => 20 | 213 => 562 | 232 => 628 | 233 => 629 | 80 => 84 | n => n, fun | 15 => 0 | 16 => 1 | 17 => 5 | 18 => 6 | 19 => 7 | n => n⟩
theorem Tryz.lays172 : Go.Proofs.Lays.n172 Tryz.prog Tryz.lays172_ren := {
 mixed := by kernel_rfl
 f129 := Tryz.func173.trans (congrArg some (by kernel_rfl))
 f171 := Tryz.func229.trans (congrArg some (by kernel_rfl))
 f172 := Tryz.func24.trans (congrArg some (by kernel_rfl))
 f205 := Tryz.func228.trans (congrArg some (by kernel_rfl))
 f243 := Tryz.func346.trans (congrArg some (by kernel_rfl))
 f244 := Tryz.func53.trans (congrArg some (by kernel_rfl))
 f245 := Tryz.func54.trans (congrArg some (by kernel_rfl))
 f246 := Tryz.func418.trans (congrArg some (by kernel_rfl))
 f247 := Tryz.func114.trans (congrArg some (by kernel_rfl))
 f279 := Tryz.func115.trans (congrArg some (by kernel_rfl))
 f280 := Tryz.func116.trans (congrArg some (by kernel_rfl))
 f281 := Tryz.func117.trans (congrArg some (by kernel_rfl))
 f282 := Tryz.func118.trans (congrArg some (by kernel_rfl))
 f283 := Tryz.func476.trans (congrArg some (by kernel_rfl))
 f284 := Tryz.func477.trans (congrArg some (by kernel_rfl))
 f285 := Tryz.func478.trans (congrArg some (by kernel_rfl))
 f286 := Tryz.func479.trans (congrArg some (by kernel_rfl))
 f287 := Tryz.func226.trans (congrArg some (by kernel_rfl))
 f316 := Tryz.func227.trans (congrArg some (by kernel_rfl))
 f317 := Tryz.func540.trans (congrArg some (by kernel_rfl))
 f318 := Tryz.func541.trans (congrArg some (by kernel_rfl))
 f319 := Tryz.func542.trans (congrArg some (by kernel_rfl))
 f320 := Tryz.func543.trans (congrArg some (by kernel_rfl))
 f321 := Tryz.func344.trans (congrArg some (by kernel_rfl))
 f322 := Tryz.func345.trans (congrArg some (by kernel_rfl))
 f337 := Tryz.func609.trans (congrArg some (by kernel_rfl))
 f338 := Tryz.func610.trans (congrArg some (by kernel_rfl))
 t0 := Tryz.underlying0
 a0 := Tryz.isAgg0
 z0 := Tryz.sizeOf0
 v0 := Tryz.zeroValue0
 t2 := Tryz.underlying2
 a2 := Tryz.isAgg2
 z2 := Tryz.sizeOf2
 v2 := Tryz.zeroValue2
 t3 := Tryz.underlying3
 a3 := Tryz.isAgg3
 z3 := Tryz.sizeOf3
 v3 := Tryz.zeroValue3
 t4 := Tryz.underlying4
 a4 := Tryz.isAgg4
 z4 := Tryz.sizeOf4
 v4 := Tryz.zeroValue4
 t5 := Tryz.underlying5
 a5 := Tryz.isAgg5
 z5 := Tryz.sizeOf5
 v5 := Tryz.zeroValue5
 t9 := Tryz.underlying9
 a9 := Tryz.isAgg9
 z9 := Tryz.sizeOf9
 v9 := Tryz.zeroValue9
 t20 := Tryz.underlying20
 a20 := Tryz.isAgg20
 z20 := Tryz.sizeOf20
 v20 := Tryz.zeroValue20
 t21 := Tryz.underlying21
 a21 := Tryz.isAgg21
 z21 := Tryz.sizeOf21
 v21 := Tryz.zeroValue21
 t37 := Tryz.underlying78
 a37 := Tryz.isAgg78
 z37 := Tryz.sizeOf78
 v37 := Tryz.zeroValue78
 t46 := Tryz.underlying101
 a46 := Tryz.isAgg101
 z46 := Tryz.sizeOf101
 v46 := Tryz.zeroValue101
 t51 := Tryz.underlying214
 a51 := Tryz.isAgg214
 z51 := Tryz.sizeOf214
 v51 := Tryz.zeroValue214
 t53 := Tryz.underlying216
 a53 := Tryz.isAgg216
 z53 := Tryz.sizeOf216
 v53 := Tryz.zeroValue216
 t75 := Tryz.underlying53
 a75 := Tryz.isAgg53
 z75 := Tryz.sizeOf53
 v75 := Tryz.zeroValue53
 t76 := Tryz.underlying54
 a76 := Tryz.isAgg54
 z76 := Tryz.sizeOf54
 v76 := Tryz.zeroValue54
 t85 := Tryz.underlying169
 a85 := Tryz.isAgg169
 z85 := Tryz.sizeOf169
 v85 := Tryz.zeroValue169
 t127 := Tryz.underlying164
 a127 := Tryz.isAgg164
 z127 := Tryz.sizeOf164
 v127 := Tryz.zeroValue164
 t143 := Tryz.underlying388
 a143 := Tryz.isAgg388
 z143 := Tryz.sizeOf388
 v143 := Tryz.zeroValue388
 t145 := Tryz.underlying390
 a145 := Tryz.isAgg390
 z145 := Tryz.sizeOf390
 v145 := Tryz.zeroValue390
 t167 := Tryz.underlying168
 a167 := Tryz.isAgg168
 z167 := Tryz.sizeOf168
 v167 := Tryz.zeroValue168
 t168 := Tryz.underlying171
 a168 := Tryz.isAgg171
 z168 := Tryz.sizeOf171
 v168 := Tryz.zeroValue171
 t171 := Tryz.underlying504
 a171 := Tryz.isAgg504
 z171 := Tryz.sizeOf504
 v171 := Tryz.zeroValue504
 t173 := Tryz.underlying506
 a173 := Tryz.isAgg506
 z173 := Tryz.sizeOf506
 v173 := Tryz.zeroValue506
 t175 := Tryz.underlying258
 a175 := Tryz.isAgg258
 z175 := Tryz.sizeOf258
 v175 := Tryz.zeroValue258
 t210 := Tryz.underlying261
 a210 := Tryz.isAgg261
 z210 := Tryz.sizeOf261
 v210 := Tryz.zeroValue261
 t212 := Tryz.underlying561
 a212 := Tryz.isAgg561
 z212 := Tryz.sizeOf561
 v212 := Tryz.zeroValue561
 t213 := Tryz.underlying562
 a213 := Tryz.isAgg562
 z213 := Tryz.sizeOf562
 t232 := Tryz.underlying628
 a232 := Tryz.isAgg628
 z232 := Tryz.sizeOf628
 v232 := Tryz.zeroValue628
 t233 := Tryz.underlying629
 a233 := Tryz.isAgg629
 z233 := Tryz.sizeOf629
 v233 := Tryz.zeroValue629
 g15 := by kernel_rfl
 g16 := by kernel_rfl
 g17 := by kernel_rfl
 g18 := by kernel_rfl
 g19 := by kernel_rfl }
open Go.RowKit Go.Lib in
theorem Tryz.strconv_Atoi (s : ByteArray) (n : Int) (hl : s.size ≤ 18) (h : Lib.atoi s.data.toList = some n) (w : World) :
  Calls Tryz.prog 24 #[.string s] w fun e w' => e = .returned (.tuple #[.int .i64 n, .nilIface]) ∧ ∃ t, w' = Lib.bytesWorld w 5 t := Any.strconv_Atoi Tryz.lays172 s n hl h w
end Go.Proofs
end
section
namespace Go.Proofs.YtppjodfehhlniaaGreatDoor
open Go.ChangeShapes Go.WideShapes Go.ChangeAt Go.RowKit
set_option maxRecDepth 100000
def spc2 (c : Nat) : Bool := c == 34 || c == 92 || c == 123 || c == 125 || c == 36 || c == 91 || c == 93 || c == 59
def spcN (c : Nat) : Bool := whN c || spc2 c
theorem zuT : ∀ c : Fin 256, decide (0 ≤ Lib.indexByte [34, 92, 123, 125, 36, 91, 93, 59] (UInt8.ofNat c.val)) = spc2 c.val := by decide
theorem zvz (c : Nat) (hc : c < 256) : decide (0 ≤ Lib.indexByte [34, 92, 123, 125, 36, 91, 93, 59] (c : Int).toNat.toUInt8) = spc2 c := zuT ⟨c, hc⟩
theorem zof (c : UInt8) : spc c = spcN c.toNat := by
 have h : ∀ n : Nat, n < 256 → (c == UInt8.ofNat n) = (c.toNat == n) := fun n hn => by
  rw [Bool.eq_iff_iff]
  simp only [beq_iff_eq]
  constructor
  ·rintro rfl; simp; omega
  ·intro h; rw [← h]; simp
 have h1 := h 32 (by decide)
 have h2 := h 34 (by decide); have h3 := h 92 (by decide); have h4 := h 123 (by decide); have h5 := h 125 (by decide)
 have h6 := h 36 (by decide); have h7 := h 91 (by decide); have h8 := h 93 (by decide); have h9 := h 59 (by decide)
 unfold spc spcN spc2 wh whN
 simp only [show (UInt8.ofNat 32) = 32 from rfl, show (UInt8.ofNat 34) = 34 from rfl, show (UInt8.ofNat 92) = 92 from rfl, show (UInt8.ofNat 123) = 123 from rfl, show (UInt8.ofNat 125) = 125 from rfl, show (UInt8.ofNat 36) = 36 from rfl,
  show (UInt8.ofNat 91) = 91 from rfl, show (UInt8.ofNat 93) = 93 from rfl, show (UInt8.ofNat 59) = 59 from rfl] at h1 h2 h3 h4 h5 h6 h7 h8 h9
 rw [h1, h2, h3, h4, h5, h6, h7, h8, h9]
 have h0 : (c.toNat == 32) = decide (c.toNat = 32) := by rw [Bool.eq_iff_iff]; simp
 rw [h0]
 simp [Bool.or_assoc]
set_option maxHeartbeats 1000000 in
theorem za0 (c : Nat) (hc : c < 256) (w : World) : Calls Tryz.prog 106 #[.int .u8 (c : Int)] w fun e w' => e = .returned (.bool (spcN c)) ∧ w = w' := by
 have hx := zvz c hc
 cases hw : whN c with
 | true =>
   go_enter Tryz.func106, Tryz.ntmps106
   go_wp2_with (go_at_call 100; refine (zb5 c hc _).mono ?_; rintro e w' ⟨rfl, rfl⟩; rw [hw])
   go_ret
   exact ⟨zap (by simp [spcN, hw]), rfl⟩
 | false =>
   go_enter Tryz.func106, Tryz.ntmps106
   go_wp2_with (first | (go_at_call 100; refine (zb5 c hc _).mono ?_; rintro e w' ⟨rfl, rfl⟩; rw [hw]) | (go_at_call 221; refine (Tryz.strings_IndexByte _ _ _).mono ?_; rintro e w' ⟨rfl, rfl⟩))
   go_ret
   exact ⟨zap (by simpa [spcN, hw] using hx), rfl⟩
end Go.Proofs.YtppjodfehhlniaaGreatDoor
end
section
namespace Go.Proofs.YtppjodfehhlniaaGreatDoor
open Go.ChangeShapes Go.WideShapes Go.ChangeAt Go.RowKit
set_option maxRecDepth 100000
theorem zuU (s sep : ByteArray) (i : Nat) (h2 : sep.size = 2) (his : i + 1 < s.size) : ((s.extract i (i + 2)).toList == sep.toList) = ((byte s i == byte sep 0) && (byte s (i + 1) == byte sep 1)) := by
 rw [Lib.toList_data, Lib.toList_data]
 have a : (s.extract i (i + 2)).data.toList = [ub s i, ub s (i + 1)] := by
  have := ze0 s i (i + 2)
  rw [zak s (show i < s.size by omega), zak s his, show i + 2 - i = 2 by omega] at this
  exact this
 have b : sep.data.toList = [ub sep 0, ub sep 1] := by
  have := zak sep (show 0 < sep.size by omega)
  rw [List.drop_zero, zak sep (show 0 + 1 < sep.size by omega), zas sep (by omega)] at this
  exact this
 rw [a, b, ← zaE s i, ← zaE sep 0, ← zaE s (i + 1), ← zaE sep 1]
 rw [Bool.eq_iff_iff]
 simp only [beq_iff_eq, List.cons.injEq, and_true, Bool.and_eq_true]
 exact ⟨fun ⟨h, k⟩ => ⟨by rw [h], by rw [k]⟩, fun ⟨h, k⟩ => ⟨UInt8.toNat.inj h, UInt8.toNat.inj k⟩⟩
set_option maxHeartbeats 1000000 in
theorem ziT (sep s : ByteArray) (i : Nat) (h2 : sep.size = 2) (his : i < s.size) (hs : s.size ≤ 1000000) (w : World) :
  Calls Tryz.prog 219 #[.string sep, .string s, .int .i64 (i : Int)] w fun e w' => e = .returned (.bool (decide (i + 1 < s.size) && ((byte s i == byte sep 0) && (byte s (i + 1) == byte sep 1)))) ∧ w = w' := by
 have t1 : (0 : Int) ≤ (i : Int) := by omega
 have t2 : (sep.size : Int) = 2 := by omega
 by_cases hlt : i + 1 < s.size
 ·have t3 : (i : Int) ≤ (s.size : Int) - 2 := by omega
  have t4 : (i : Int) + 2 ≤ (s.size : Int) := by omega
  have t5 : (i : Int) ≤ (i : Int) + 2 := by omega
  have t6 : (0 : Int) ≤ (i : Int) + 2 := by omega
  have HB := Lib.hid (zuU s sep i h2 hlt)
  have HL := Lib.hid hlt
  clear h2 hlt
  go_enter Tryz.func219, Tryz.ntmps219
  go_wp2
  go_ret
  exact ⟨zap (by rw [decide_eq_true HL.out, Bool.true_and]; exact HB.out), rfl⟩
 ·have t3 : ¬ (i : Int) ≤ (s.size : Int) - 2 := by omega
  have HL := Lib.hid hlt
  clear h2 hlt
  go_enter Tryz.func219, Tryz.ntmps219
  go_wp2
  go_ret
  exact ⟨zap (by rw [decide_eq_false HL.out]; rfl), rfl⟩
def duo (a b : UInt8) : List UInt8 → Bool
 | [] => false
 | [_] => false
 | x :: y :: r => (x == a && y == b) || duo a b (y :: r)
theorem zog : ∀ l, two l = duo 58 58 l
 | [] => rfl
 | [_] => rfl
 | x :: y :: r => by unfold two duo; rw [zog (y :: r)]
theorem zoh : ∀ l, slf l = duo 92 10 l
 | [] => rfl
 | [_] => rfl
 | x :: y :: r => by unfold slf duo; rw [zoh (y :: r)]
theorem ztg (s : ByteArray) (a b : UInt8) {i : Nat} (hi : i < s.size) :
  duo a b ((L s).drop i) = ((decide (i + 1 < s.size) && ((byte s i == a.toNat) && (byte s (i + 1) == b.toNat))) || duo a b ((L s).drop (i + 1))) := by
 have hq : ∀ (x y : UInt8), (x == y) = (x.toNat == y.toNat) := fun x y => by
  rw [Bool.eq_iff_iff]
  simp only [beq_iff_eq]
  exact ⟨fun h => by rw [h], fun h => UInt8.toNat.inj h⟩
 by_cases h : i + 1 < s.size
 ·rw [zak s hi, zak s h, decide_eq_true h, Bool.true_and]
  show (((ub s i == a) && (ub s (i + 1) == b)) || duo a b (ub s (i + 1) :: (L s).drop (i + 1 + 1))) = _
  rw [hq, hq, zaE, zaE]
 ·rw [zak s hi, zas s (show s.size ≤ i + 1 by omega), decide_eq_false h]
  rfl
def FirstIs (b : Bool) (k : Int) : Prop := if b = true then 0 ≤ k else k = -1
set_option maxHeartbeats 1000000 in
theorem zj6 (sep s : ByteArray) (h2 : sep.size = 2) (hs : s.size ≤ 1000000) (w : World) :
  Calls Tryz.prog 104 #[.string sep, .string s, .int .i64 0] w fun e w' => (∃ k : Int, e = .returned (.int .i64 k) ∧ FirstIs (duo (ub sep 0) (ub sep 1) (L s)) k) ∧ w = w' := by
 have t5 := zaI sep (by omega)
 have H2 := Lib.hid h2
 clear h2
 go_enter Tryz.func104, Tryz.ntmps104
 go_wp2
 go_loopg [10] s.size (fun k n wr => ∃ i : Nat, n = .int .i64 (i : Int) ∧ k = s.size - i ∧ i ≤ s.size ∧ duo (ub sep 0) (ub sep 1) (L s) = duo (ub sep 0) (ub sep 1) ((L s).drop i) ∧ w = wr)
 case atStart => exact ⟨0, rfl, rfl, by omega, by simp, rfl⟩
 case round =>
  obtain ⟨i, rfl, hk, his, heq, rfl⟩ := hrel
  have HK := Lib.hid hk
  have HEQ := Lib.hid heq
  clear hk heq
  by_cases hlt : i < s.size
  ·have t7 : (i : Int) < (s.size : Int) := by omega
   have t8 : (0 : Int) ≤ (i : Int) := by omega
   have HS := Lib.hid (ztg s (ub sep 0) (ub sep 1) hlt)
   cases hb : (decide (i + 1 < s.size) && ((byte s i == byte sep 0) && (byte s (i + 1) == byte sep 1))) with
   | true =>
     have HB := Lib.hid hb
     go_wp2_with (go_at_call 219; refine (ziT _ _ _ H2.out hlt hs _).mono ?_; rintro e w' ⟨rfl, rfl⟩; rw [hb])
     go_ret
     refine ⟨⟨_, rfl, ?_⟩, rfl⟩
     unfold FirstIs
     rw [HEQ.out, HS.out, zaE, zaE, HB.out]
     simp
   | false =>
     have HB := Lib.hid hb
     go_wp2_with (go_at_call 219; refine (ziT _ _ _ H2.out hlt hs _).mono ?_; rintro e w' ⟨rfl, rfl⟩; rw [hb])
     go_roundg (s.size - (i + 1))
     case measure => rw [HK.out]; omega
     case rel =>
      refine ⟨i + 1, by go_num, rfl, by omega, ?_, rfl⟩
      rw [HEQ.out, HS.out, zaE, zaE, HB.out, Bool.false_or]
  ·have t7 : ¬ (i : Int) < (s.size : Int) := by omega
   go_wp2
   go_ret
   refine ⟨⟨_, rfl, ?_⟩, rfl⟩
   unfold FirstIs
   rw [HEQ.out, zas s (by omega)]
   rfl
theorem contains_cons (b : UInt8) (l sub : List UInt8) : Lib.contains (b :: l) sub = (sub.isPrefixOf (b :: l) || Lib.contains l sub) := by
 unfold Lib.contains
 have hge := Lib.index_ge l sub
 by_cases h0 : sub.isPrefixOf (b :: l) = true
 ·rw [show Lib.index (b :: l) sub = 0 by unfold Lib.index; rw [if_pos h0], h0]; rfl
 ·have h0' : sub.isPrefixOf (b :: l) = false := Bool.eq_false_iff.2 h0
  rw [h0', Bool.false_or]
  have h1 : Lib.index (b :: l) sub = if Lib.index l sub == -1 then -1 else Lib.index l sub + 1 := by
   conv => lhs; unfold Lib.index
   rw [h0']; rfl
  rw [h1]
  by_cases h2 : Lib.index l sub = -1
  ·rw [h2]; rfl
  ·have h3 : (Lib.index l sub == -1) = false := by simpa using h2
   rw [h3]
   simp only [Bool.false_eq_true, if_false]
   rw [decide_eq_decide]; omega
theorem zeC (a b : UInt8) : ∀ l : List UInt8, Lib.contains l [a, b] = duo a b l
 | [] => rfl
 | [x] => by
   rw [contains_cons]
   simp [duo, List.isPrefixOf, Lib.contains, Lib.index]
 | x :: y :: r => by
   rw [contains_cons, zeC a b (y :: r)]
   simp only [duo, List.isPrefixOf, Bool.and_true]
   rw [show (a == x) = (x == a) from BEq.comm, show (b == y) = (y == b) from BEq.comm]
theorem zhe (a : UInt8) : ∀ l : List UInt8, Lib.contains l [a] = l.contains a
 | [] => rfl
 | x :: r => by
   rw [contains_cons, zhe a r]
   simp only [List.isPrefixOf, Bool.and_true, List.contains_cons]
end Go.Proofs.YtppjodfehhlniaaGreatDoor
end
