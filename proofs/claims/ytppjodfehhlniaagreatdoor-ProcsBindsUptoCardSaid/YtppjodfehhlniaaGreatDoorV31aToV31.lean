/-
  The iterator over parameters is made; what Params' loop has gathered; The last region of Params: the result is told, in an open order; The program's P. Conditions: none.
-/
import Derived.Test.YtppjodfehhlniaaGreatDoorV31sToUnx
import Derived.Test.YtppjodfehhlniaaGreatDoorV28aToV8r
import Derived.Test.YtppjodfehhlniaaGreatDoorV6aToV26
set_option linter.unusedVariables false
set_option linter.unusedSimpArgs false
set_option linter.unusedSectionVars false
set_option linter.deprecated false
section
namespace Go.Proofs.YtppjodfehhlniaaGreatDoor
open Go.RowKit Go.Shelf
open Go.ChangeShapes Go.WideShapes Go.ChangeAt
set_option maxRecDepth 100000
set_option maxHeartbeats 1000000 in
theorem zr9 (w : World) (a : Option Addr) (n : Nat) (c : Nat) : Calls Tryz.prog 18 #[.slice a n c] w fun e w' =>
  e = .returned (.func (.func 36) #[] #[.pointer (some ⟨w.heap.size, 0, none⟩)]) ∧ Boxed w' w.heap.size 22 (.slice a n c) ∧ Below w.heap.size w w' := by
 have hmf : ∀ (fn : Fn) (first cap : Array Value) (w : World), (Instr.makeFunc fn first cap).run Tryz.prog w = .ok (.func fn first cap) w := fun _ _ _ _ => rfl
 have hB := Boxed.new w 22 (.slice a n c)
 have hb : Below w.heap.size w (w.alloc (.cells #[.slice a n c] 22)) := (Below.refl _ _).alloc (Nat.le_refl _) _
 have HB := Lib.hid hB
 have HL := Lib.hid hb
 clear hB hb
 go_enter Tryz.func18, Tryz.ntmps18
 go_wp2
 go_ret
 exact ⟨rfl, HB.out, HL.out⟩
structure PI (w : World) (m b : Nat) (pre : List It) (W : World) : Prop where
 ok : ∀ x ∈ pre, x.e = 0
 row : ∃ u v c, Boxed W b 22 u ∧ Boxed W (b + 1) 22 v ∧ Boxed W (b + 2) 25 c ∧ Tri W m u v c (pre.map (·.p.name)) (pre.map (·.p.other)) (pre.map (·.p.has))
 rest : Boxed W (b + 3) 4 (.bool false)
 err : Boxed W (b + 4) 26 (.int .i64 0)
 bel : Below w.heap.size w W
 sz : m ≤ W.heap.size
structure PX (w : World) (b : Nat) (c : Code) (pre : List It) (W : World) : Prop where
 jump : c = .ret
 bad : ∃ ys x, pre = ys ++ [x] ∧ (∀ y ∈ ys, y.e = 0) ∧ x.e ≠ 0 ∧ Boxed W (b + 4) 26 (.int .i64 (x.e : Int))
 r0 : Boxed W b 22 (.slice none 0 0)
 r1 : Boxed W (b + 1) 22 (.slice none 0 0)
 r2 : Boxed W (b + 2) 25 (.slice none 0 0)
 r3 : Boxed W (b + 3) 4 (.bool false)
 bel : Below w.heap.size w W
theorem zc7 {W W' : World} {row : Option Nat} {m e n : Nat} {u : Value} {xs : List Value} (h : W.ownsRow m e 1 u n xs) (hg : W.grownBy W' row) (hr : ∀ r, row = some r → ∃ o : Obj, W.heap[r]? = some o ∧ o.isCells = false) : W'.ownsRow m e 1 u n xs :=
 zd2 h hg fun k hk e' => by
  obtain ⟨o, ho, hc⟩ := hr k e'
  obtain ⟨c, hb⟩ := zbm h hk
  rw [hb] at ho; cases ho; cases hc
theorem zor {W W' : World} {row : Option Nat} {m : Nat} {u v c : Value} {us vs : List (List UInt8)} {bs : List Bool} (h : Tri W m u v c us vs bs) (hg : W.grownBy W' row) (hr : ∀ r, row = some r → ∃ o : Obj, W.heap[r]? = some o ∧ o.isCells = false) : Tri W' m u v c us vs bs :=
 ⟨zc7 h.ru hg hr, zc7 h.rv hg hr, zc7 h.rb hg hr, h.uv, h.ub, h.vb⟩
theorem zt9 (w : World) (m b : Nat) (hm : w.heap.size ≤ m) : OwnFrom m (PI w m b) := by
 intro s W W' row h hg hr
 have hr' := fun r e => (hr r e).2
 obtain ⟨u, v, c, q0, q1, q2, q3⟩ := h.row
 exact {
  ok := h.ok
  row := ⟨u, v, c, boxed_own b 22 (fun _ : Unit => u) () W W' row q0 hg hr', boxed_own (b + 1) 22 (fun _ : Unit => v) () W W' row q1 hg hr', boxed_own (b + 2) 25 (fun _ : Unit => c) () W W' row q2 hg hr', zor q3 hg hr'⟩
  rest := boxed_own (b + 3) 4 (fun _ : Unit => .bool false) () W W' row h.rest hg hr'
  err := boxed_own (b + 4) 26 (fun _ : Unit => .int .i64 0) () W W' row h.err hg hr'
  bel := h.bel.grown hg h.bel.size (fun k e => Nat.le_trans hm (hr k e).1)
  sz := Nat.le_trans h.sz hg.size }
theorem zvJ (w : World) (m b : Nat) (hm : w.heap.size ≤ m) (c : Code) : OwnFrom m (PX w b c) := by
 intro s W W' row h hg hr
 have hr' := fun r e => (hr r e).2
 obtain ⟨ys, x, h1, h2, h3, h4⟩ := h.bad
 exact {
  jump := h.jump
  bad := ⟨ys, x, h1, h2, h3, boxed_own (b + 4) 26 (fun _ : Unit => .int .i64 (x.e : Int)) () W W' row h4 hg hr'⟩
  r0 := boxed_own b 22 (fun _ : Unit => .slice none 0 0) () W W' row h.r0 hg hr'
  r1 := boxed_own (b + 1) 22 (fun _ : Unit => .slice none 0 0) () W W' row h.r1 hg hr'
  r2 := boxed_own (b + 2) 25 (fun _ : Unit => .slice none 0 0) () W W' row h.r2 hg hr'
  r3 := boxed_own (b + 3) 4 (fun _ : Unit => .bool false) () W W' row h.r3 hg hr'
  bel := h.bel.grown hg h.bel.size (fun k e => Nat.le_trans hm (hr k e).1) }
def ItAt (W : World) (Bx : Nat) (x : Prm) : Prop := W.heap[Bx]? = some (.cells #[strV x.name, strV x.other, .bool x.has] 46 (0, 0))
theorem ztv (m Bx : Nat) (x : Prm) : OwnFrom m (fun (_ : Unit) W => ItAt W Bx x) := by
 intro s W W' row h hg hr
 exact (grownBy_keeps_cells hg (fun r e => (hr r e).2) h rfl).trans h
theorem zdp {fn : Func} {p0 p1 p2 p3 p4 : Tmp} (h : fn.results = #[.cell p0 22, .cell p1 22, .cell p2 25, .cell p3 4, .cell p4 26]) (tmps : Array Value) (w : World) {a0 a1 a2 a3 a4 : Addr} {x0 x1 x2 x3 x4 : Value}
  (h0 : tmps.getD p0 undef = .pointer (some a0)) (h1 : tmps.getD p1 undef = .pointer (some a1)) (h2 : tmps.getD p2 undef = .pointer (some a2)) (h3 : tmps.getD p3 undef = .pointer (some a3)) (h4 : tmps.getD p4 undef = .pointer (some a4))
  (c0 : w.cell? a0 = some x0) (c1 : w.cell? a1 = some x1) (c2 : w.cell? a2 = some x2) (c3 : w.cell? a3 = some x3) (c4 : w.cell? a4 = some x4) : (results fn tmps).run Tryz.prog w = .ok (.tuple #[x0, x1, x2, x3, x4]) w := by
 rw [Array.getD_eq_getD_getElem?] at h0 h1 h2 h3 h4
 simp [results, h, h0, h1, h2, h3, h4, asAddr, loadVar, Tryz.isAgg22, Tryz.isAgg25, Tryz.isAgg4, Tryz.isAgg26, run_load, c0, c1, c2, c3, c4, Result.andThen]
theorem Boxed.later {A W : World} {B : Nat} {t : TypeId} {v : Value} (h : Boxed A B t v) (hb : Below A.heap.size A W) : Boxed W B t v := (hb.block _ h.lt).trans h
theorem ztw {w : World} {base : Nat} {sa : Option Addr} {sc : Nat} {xs : List (List UInt8)} (h : w.ownsRow base 9 1 (.slice sa xs.length sc) xs.length (xs.map strV)) :
  ∀ i t, xs[i]? = some t → ∃ p, sa = some p ∧ base ≤ (p.add i).block ∧ w.cell? (p.add i) = some (strV t) := by
 intro i t hi
 rcases h.2 with ⟨hv, h0⟩ | ⟨g, cap, cur, hv, h1, h2, h3⟩
 ·have := (List.getElem?_eq_some_iff.1 hi).1
  omega
 ·cases hv
  refine ⟨_, rfl, ?_, ?_⟩
  ·unfold Addr.add; split <;> exact h1
  ·exact h.cells (g := g) rfl i (strV t) (by rw [List.getElem?_map, hi]; rfl)
theorem five (w : World) : ∃ A, ((((w.alloc (.cells #[.slice none 0 0] 22)).alloc (.cells #[.slice none 0 0] 22)).alloc (.cells #[.slice none 0 0] 25)).alloc (.cells #[.bool false] 4)).alloc (.cells #[.int .i64 0] 26) = A ∧
  A.heap.size = w.heap.size + 5 ∧ Boxed A w.heap.size 22 (.slice none 0 0) ∧ Boxed A (w.heap.size + 1) 22 (.slice none 0 0) ∧ Boxed A (w.heap.size + 2) 25 (.slice none 0 0) ∧ Boxed A (w.heap.size + 3) 4 (.bool false) ∧ Boxed A (w.heap.size + 4) 26 (.int .i64 0) ∧ Below w.heap.size w A := by
 obtain ⟨A1, hA1, sA1, n1, o1, b1⟩ := zaH w #[.slice none 0 0] 22
 obtain ⟨A2, hA2, sA2, n2, o2, b2⟩ := zaH A1 #[.slice none 0 0] 22
 obtain ⟨A3, hA3, sA3, n3, o3, b3⟩ := zaH A2 #[.slice none 0 0] 25
 obtain ⟨A4, hA4, sA4, n4, o4, b4⟩ := zaH A3 #[.bool false] 4
 obtain ⟨A5, hA5, sA5, n5, o5, b5⟩ := zaH A4 #[.int .i64 0] 26
 refine ⟨A5, by rw [hA1, hA2, hA3, hA4, hA5], by omega, ?_, ?_, ?_, ?_, ?_, (((b1.trans (b2.mono (by omega))).trans (b3.mono (by omega))).trans (b4.mono (by omega))).trans (b5.mono (by omega))⟩
 ·show A5.heap[_]? = _; rw [o5 _ (by omega), o4 _ (by omega), o3 _ (by omega), o2 _ (by omega)]; exact n1
 ·show A5.heap[_]? = _; rw [o5 _ (by omega), o4 _ (by omega), o3 _ (by omega), ← sA1]; exact n2
 ·show A5.heap[_]? = _; rw [o5 _ (by omega), o4 _ (by omega), show w.heap.size + 2 = A2.heap.size by omega]; exact n3
 ·show A5.heap[_]? = _; rw [o5 _ (by omega), show w.heap.size + 3 = A3.heap.size by omega]; exact n4
 ·show A5.heap[_]? = _; rw [show w.heap.size + 4 = A4.heap.size by omega]; exact n5
structure Five (W : World) (b : Nat) (x0 x1 x2 x3 x4 : Value) : Prop where
 b0 : Boxed W b 22 x0
 b1 : Boxed W (b + 1) 22 x1
 b2 : Boxed W (b + 2) 25 x2
 b3 : Boxed W (b + 3) 4 x3
 b4 : Boxed W (b + 4) 26 x4
theorem Five.err {W : World} {b : Nat} {x0 x1 x2 x3 x4 : Value} (h : Five W b x0 x1 x2 x3 x4) (v : Value) : Five (W.setCell ⟨b + 4, 0, none⟩ v) b x0 x1 x2 x3 v :=
 ⟨h.b0.other (by omega) _, h.b1.other (by omega) _, h.b2.other (by omega) _, h.b3.other (by omega) _, h.b4.set _⟩
theorem Five.all {W : World} {b : Nat} {x0 x1 x2 x3 x4 : Value} (h : Five W b x0 x1 x2 x3 x4) (y0 y1 y2 y3 y4 : Value) :
  Five (((((W.setCell ⟨b, 0, none⟩ y0).setCell ⟨b + 1, 0, none⟩ y1).setCell ⟨b + 2, 0, none⟩ y2).setCell ⟨b + 3, 0, none⟩ y3).setCell ⟨b + 4, 0, none⟩ y4) b y0 y1 y2 y3 y4 := by
 have h0 : Five (W.setCell ⟨b, 0, none⟩ y0) b y0 x1 x2 x3 x4 := ⟨h.b0.set _, h.b1.other (by omega) _, h.b2.other (by omega) _, h.b3.other (by omega) _, h.b4.other (by omega) _⟩
 have h1 : Five ((W.setCell ⟨b, 0, none⟩ y0).setCell ⟨b + 1, 0, none⟩ y1) b y0 y1 x2 x3 x4 := ⟨h0.b0.other (by omega) _, h0.b1.set _, h0.b2.other (by omega) _, h0.b3.other (by omega) _, h0.b4.other (by omega) _⟩
 have h2 : Five (((W.setCell ⟨b, 0, none⟩ y0).setCell ⟨b + 1, 0, none⟩ y1).setCell ⟨b + 2, 0, none⟩ y2) b y0 y1 y2 x3 x4 := ⟨h1.b0.other (by omega) _, h1.b1.other (by omega) _, h1.b2.set _, h1.b3.other (by omega) _, h1.b4.other (by omega) _⟩
 have h3 : Five ((((W.setCell ⟨b, 0, none⟩ y0).setCell ⟨b + 1, 0, none⟩ y1).setCell ⟨b + 2, 0, none⟩ y2).setCell ⟨b + 3, 0, none⟩ y3) b y0 y1 y2 y3 x4 := ⟨h2.b0.other (by omega) _, h2.b1.other (by omega) _, h2.b2.other (by omega) _, h2.b3.set _, h2.b4.other (by omega) _⟩
 exact h3.err y4
theorem zpj {n : Nat} {w W : World} (h : Below n w W) {b : Nat} (hb : n ≤ b) (y0 y1 y2 y3 y4 : Value) :
  Below n w (((((W.setCell ⟨b, 0, none⟩ y0).setCell ⟨b + 1, 0, none⟩ y1).setCell ⟨b + 2, 0, none⟩ y2).setCell ⟨b + 3, 0, none⟩ y3).setCell ⟨b + 4, 0, none⟩ y4) :=
 ((((h.setCell (p := ⟨b, 0, none⟩) hb y0).setCell (p := ⟨b + 1, 0, none⟩) (by simp; omega) y1).setCell (p := ⟨b + 2, 0, none⟩) (by simp; omega) y2).setCell (p := ⟨b + 3, 0, none⟩) (by simp; omega) y3).setCell (p := ⟨b + 4, 0, none⟩) (by simp; omega) y4
theorem zp6 (W : World) (b : Nat) (y0 y1 y2 y3 y4 : Value) : KeepsOthers W (((((W.setCell ⟨b, 0, none⟩ y0).setCell ⟨b + 1, 0, none⟩ y1).setCell ⟨b + 2, 0, none⟩ y2).setCell ⟨b + 3, 0, none⟩ y3).setCell ⟨b + 4, 0, none⟩ y4) :=
 (KeepsOthers.setCell _ _ _).trans ((KeepsOthers.setCell _ _ _).trans ((KeepsOthers.setCell _ _ _).trans ((KeepsOthers.setCell _ _ _).trans (KeepsOthers.setCell _ _ _))))
theorem ParR.bad {s : ByteArray} {w w' : World} {k : Nat} (h : zbu (L s) = .error k) (hk : k ≠ 0) (hb : Below w.heap.size w w') : ParR s w (.returned (.tuple #[.slice none 0 0, .slice none 0 0, .slice none 0 0, .bool false, .int .i64 (k : Int)])) w' :=
 ⟨hb, fun k' h' => by rw [h] at h'; cases h'; exact ⟨hk, rfl⟩, fun ps h' => by rw [h] at h'; cases h'⟩
end Go.Proofs.YtppjodfehhlniaaGreatDoor
end
section
namespace Go.Proofs.YtppjodfehhlniaaGreatDoor
open Go.RowKit Go.Shelf
open Go.ChangeShapes Go.WideShapes Go.ChangeAt
set_option maxRecDepth 100000
def ops11 : Array Oper := #[v11 44 (.load 22 (.tmp 2)) 22 #[] none, v11 45 (.load 22 (.tmp 3)) 22 #[] none, v11 46 (.load 25 (.tmp 4)) 25 #[] none, v11 47 (.move (.tmp 11)) 3 #[] none, v11 48 (.binOp .gtr 3 (.tmp 47) (.const (.int .i64 0)) 3) 4 #[eD 3] none, v11 49 (.move (.tmp 48)) 4 #[eD 4] none, v11 50 (.load 22 (.tmp 2)) 22 #[eQ 5] (some (5, true)), v11 51 (.move (.tmp 11)) 3 #[eQ 5] (some (5, true)), v11 52 (.binOp .sub 3 (.tmp 51) (.const (.int .i64 1)) 3) 3 #[eD 7, eQ 5] (some (5, true)), v11 53 (.indexAddr 22 (.tmp 50) (.tmp 52)) 0 #[eD 6, eD 8, eQ 5] (some (5, true)), v11 54 (.load 9 (.tmp 53)) 9 #[eD 9, eQ 5] (some (5, true)), v11 55 (.binOp .eql 9 (.tmp 54) (.const (.string { data := #[97, 114, 103, 115] })) 9) 4 #[eD 10, eQ 5] (some (5, true)), v11 56 (.pick (.tmp 49) (.tmp 55) (.const (.bool false))) 4 #[eD 5, eD 11] none, v11 57 (.move (.tmp 56)) 4 #[eD 12, eH 5] none, v11 58 (.load 25 (.tmp 4)) 25 #[eQ 13] (some (13, true)), v11 59 (.move (.tmp 11)) 3 #[eQ 13] (some (13, true)), v11 60 (.binOp .sub 3 (.tmp 59) (.const (.int .i64 1)) 3) 3 #[eD 15, eQ 13] (some (13, true)), v11 61 (.indexAddr 25 (.tmp 58) (.tmp 60)) 0 #[eD 14, eD 16, eQ 13] (some (13, true)), v11 62 (.load 4 (.tmp 61)) 4 #[eD 17, eQ 13] (some (13, true)), v11 63 (.unOp .not 4 (.tmp 62)) 4 #[eD 18, eQ 13] (some (13, true)), v11 64 (.pick (.tmp 57) (.tmp 63) (.const (.bool false))) 4 #[eD 13, eD 19, zL 23] none, s11 (.store 22 (.tmp 2) (.tmp 44)) 0 #[eD 0, eH 13, eP 0, xI 1, xI 2, xL 3, xI 4, xI 5, eP 6, xL 7, xL 8, xI 9, xI 10, xI 11, xI 12, xL 13, eP 14, xL 15, xL 16, xI 17, xI 18, xI 19, xL 20] none, s11 (.store 22 (.tmp 3) (.tmp 45)) 0 #[eD 1, eH 21, eP 0, eP 1, xI 2, xL 3, xI 4, xI 5, eP 6, xL 7, xL 8, xI 9, xI 10, xI 11, xI 12, xL 13, eP 14, xL 15, xL 16, xI 17, xI 18, xI 19, xL 20, eP 21] none, s11 (.store 25 (.tmp 4) (.tmp 46)) 0 #[eD 2, eH 22, eP 0, eP 1, eP 2, xL 3, xI 4, xI 5, eP 6, xL 7, xL 8, xI 9, xI 10, xI 11, xI 12, xL 13, eP 14, xL 15, xL 16, xI 17, xI 18, xI 19, xL 20, eP 21, eP 22] none, s11 (.store 4 (.tmp 5) (.tmp 64)) 0 #[eD 20, eH 23, eP 0, eP 1, eP 2, eP 3, eP 4, eP 5, eP 6, eP 7, eP 8, eP 9, eP 10, eP 11, eP 12, eP 13, eP 14, eP 15, eP 16, eP 17, eP 18, eP 19, eP 20, eP 21, eP 22, eP 23] none, s11 (.store 26 (.tmp 6) (.const (.int .i64 0))) 0 #[eH 24, eP 0, eP 1, eP 2, eP 3, eP 4, eP 5, eP 6, eP 7, eP 8, eP 9, eP 10, eP 11, eP 12, eP 13, eP 14, eP 15, eP 16, eP 17, eP 18, eP 19, eP 20, eP 21, eP 22, eP 23, eP 24] none]
def zvK : Code := .region 11 ops11 true
section
variable {w : World} {ρ : Operand → Value}
theorem zmR (k : Nat) {v : Value} (hk : ρ (.tmp k) = v) (o : Oper) (ho : o.op = .move (.tmp k)) : (execOp ρ o).run Tryz.prog w = .ok (.value v) w := by
 simp [execOp, ho, hk, go_sem]
theorem zvL (k : Nat) {n : Nat} (hk : ρ (.tmp k) = .int .i64 (n : Int)) (hc : ρ (.const (.int .i64 0)) = .int .i64 0) (o : Oper) (ho : o.op = .binOp .gtr 3 (.tmp k) (.const (.int .i64 0)) 3) : (execOp ρ o).run Tryz.prog w = .ok (.value (.bool (decide (0 < n)))) w := by
 simp [execOp, ho, hk, hc, go_sem]
theorem zua (k : Nat) {n : Nat} (hn : n ≤ 1000) (hk : ρ (.tmp k) = .int .i64 ((n + 1 : Nat) : Int)) (hc : ρ (.const (.int .i64 1)) = .int .i64 1) (o : Oper) (ho : o.op = .binOp .sub 3 (.tmp k) (.const (.int .i64 1)) 3) : (execOp ρ o).run Tryz.prog w = .ok (.value (.int .i64 (n : Int))) w := by
 simp [execOp, ho, hk, hc, go_sem]
 unfold IntKind.wrap
 simp [IntKind.bits, IntKind.signed]
 omega
theorem zub (t : TypeId) (ht : t = 22 ∨ t = 25) (k m : Nat) {g n c : Nat} (hk : ρ (.tmp k) = .slice (some ⟨g, 0, none⟩) (n + 1) c) (hm : ρ (.tmp m) = .int .i64 (n : Int)) (o : Oper) (ho : o.op = .indexAddr t (.tmp k) (.tmp m)) :
  (execOp ρ o).run Tryz.prog w = .ok (.value (.pointer (some ⟨g, n, none⟩))) w := by
 rcases ht with rfl | rfl <;> (simp [execOp, ho, hk, hm, go_sem]; intro h; omega)
theorem zuZ (k : Nat) {y : List UInt8} (hk : ρ (.tmp k) = .string ⟨y.toArray⟩) (hc : ρ (.const (.string ⟨#[97, 114, 103, 115]⟩)) = .string ⟨#[97, 114, 103, 115]⟩) (o : Oper) (ho : o.op = .binOp .eql 9 (.tmp k) (.const (.string ⟨#[97, 114, 103, 115]⟩)) 9) :
  (execOp ρ o).run Tryz.prog w = .ok (.value (.bool (y == [97, 114, 103, 115]))) w := by
 simp [execOp, ho, hk, hc, go_sem]
theorem zuc (k m : Nat) {b : Bool} {v : Value} (hk : ρ (.tmp k) = .bool b) (hm : ρ (.tmp m) = v) (hc : ρ (.const (.bool false)) = .bool false) (o : Oper) (ho : o.op = .pick (.tmp k) (.tmp m) (.const (.bool false))) :
  (execOp ρ o).run Tryz.prog w = .ok (.value (if b then v else .bool false)) w := by
 simp [execOp, ho, hk, hm, hc, go_sem]
theorem zvM (k : Nat) {b : Bool} (hk : ρ (.tmp k) = .bool b) (o : Oper) (ho : o.op = .unOp .not 4 (.tmp k)) : (execOp ρ o).run Tryz.prog w = .ok (.value (.bool (!b))) w := by
 simp [execOp, ho, hk, go_sem]
theorem zu0 (k m : Nat) {B : Nat} {q : Bool} {x : Value} (hk : ρ (.tmp k) = .pointer (some ⟨B, 0, none⟩)) (hm : ρ (.tmp m) = .bool q) (hb : Boxed w B 4 x) (o : Oper) (ho : o.op = .store 4 (.tmp k) (.tmp m)) :
  (execOp ρ o).run Tryz.prog w = .ok .skip (w.setCell ⟨B, 0, none⟩ (.bool q)) := by
 have hc := hb.cell
 have hf := hb.frozen
 simp [execOp, ho, hk, hm, hc, hf, go_sem]
theorem zvN (k : Nat) {B : Nat} {x : Value} (hk : ρ (.tmp k) = .pointer (some ⟨B, 0, none⟩)) (hm : ρ (.const (.int .i64 0)) = .int .i64 0) (hb : Boxed w B 26 x) (o : Oper) (ho : o.op = .store 26 (.tmp k) (.const (.int .i64 0))) :
  (execOp ρ o).run Tryz.prog w = .ok .skip (w.setCell ⟨B, 0, none⟩ (.int .i64 0)) := by
 have hc := hb.cell
 have hf := hb.frozen
 simp [execOp, ho, hk, hm, hc, hf, go_sem]
end
section
variable {F : Fence} {n : Nat} {P : Program} {ops : Array Oper} {Q : Exit → Act → World → Prop}
theorem zcy {i : Nat} {K : Act → World → Prop} {a : Act} {w w' : World} {o : Oper} {v : Value} (ho : ops[i]? = some o) (hw : Region.wanted o (yielded ops a.tmps) = true) (hab : o.about P w a.eval = none) (hd : ∀ c, o.op ≠ .defer c)
  (hr : (execOp a.eval o).run P w = .ok (.value v) w') (hK : K (a.put o.dst v) w') : wpOpIn F n P ops Q i K a w := by
 unfold wpOpIn
 rw [ho]
 simp only [hw, if_true]
 refine ⟨fun f hf => (by rw [hab] at hf; cases hf), ?_⟩
 rw [Oper.semAt_plain F _ _ hd, hr]
 exact hK
theorem zcz {i : Nat} {K : Act → World → Prop} {a : Act} {w : World} {o : Oper} (ho : ops[i]? = some o) (hw : Region.wanted o (yielded ops a.tmps) = false) (hab : o.about P w a.eval = none)
  (hK : K (a.put o.dst undef) w) : wpOpIn F n P ops Q i K a w := by
 unfold wpOpIn
 rw [ho]
 simp only [hw]
 exact ⟨fun f hf => (by rw [hab] at hf; cases hf), hK⟩
theorem zcI {o : Oper} {j d : Nat} {want b : Bool} {tmps : Array Value} {oj : Oper} (hg : o.guard = some (j, want)) (hj : ops[j]? = some oj) (hd : oj.dst = some d) (ht : tmps[d]? = some (.bool b)) : Region.wanted o (yielded ops tmps) = (b == want) := by
 unfold Region.wanted
 rw [hg]
 simp only [yielded, hj, Option.bind_some, hd, ht]
 cases b <;> cases want <;> rfl
end
def vals (u v c : Value) (N K : Nat) (g0 g1 hl : Bool) (gu gc : Nat) (y : List UInt8) : Nat → Value
 | 0 => u | 1 => v | 2 => c | 3 => .int .i64 (N : Int) | 4 => .bool g0 | 5 => .bool g0
 | 6 => if g0 then u else undef | 7 => if g0 then .int .i64 (N : Int) else undef | 8 => if g0 then .int .i64 (K : Int) else undef | 9 => if g0 then .pointer (some ⟨gu, K, none⟩) else undef
 | 10 => if g0 then .string ⟨y.toArray⟩ else undef | 11 => if g0 then .bool (y == [97, 114, 103, 115]) else undef | 12 => .bool g1 | 13 => .bool g1
 | 14 => if g1 then c else undef | 15 => if g1 then .int .i64 (N : Int) else undef | 16 => if g1 then .int .i64 (K : Int) else undef | 17 => if g1 then .pointer (some ⟨gc, K, none⟩) else undef
 | 18 => if g1 then .bool hl else undef | 19 => if g1 then .bool (!hl) else undef | 20 => .bool (g1 && !hl)
 | _ => undef
structure G11 (w0 W0 : World) (b : Nat) (w : World) : Prop where
 bel : Below w0.heap.size w0 w
 oth : KeepsOthers W0 w
 old : ∀ k, (k < b ∨ b + 4 < k) → w.heap[k]? = W0.heap[k]?
theorem G11.set {w0 W0 w : World} {b : Nat} (h : G11 w0 W0 b w) (h0 : w0.heap.size ≤ b) (B : Nat) (v : Value) (h1 : b ≤ B) (h2 : B ≤ b + 4) : G11 w0 W0 b (w.setCell ⟨B, 0, none⟩ v) :=
 ⟨h.bel.setCell (p := ⟨B, 0, none⟩) (by show w0.heap.size ≤ B; omega) v, h.oth.trans (KeepsOthers.setCell _ _ _), fun k hk => (heap_setCell_other _ _ _ _ (by show k ≠ B; omega)).trans (h.old k hk)⟩
theorem zu1 : (List.range 26).all (fun i => ((ops11[i]?).map fun o => o.after.all fun e => decide (e.on < i) || !(Region.binds .any e)).getD false) = true := by kernel_rfl
theorem zos {l : Array Bool} (hsz : l.size = 26) (hr : Region.ready .any ops11 l = []) : ∀ i, i < 26 → Ls l i := by
 intro i
 induction i using Nat.strongRecOn with
 | ind i ih =>
   intro hi
   apply Classical.byContradiction
   intro hn
   have ha := List.all_eq_true.1 zu1 i (List.mem_range.2 hi)
   cases ho : ops11[i]? with
   | none => rw [ho] at ha; cases ha
   | some o =>
     rw [ho] at ha
     simp only [Option.map_some, Option.getD_some] at ha
     have : i ∈ Region.ready .any ops11 l := mem_ready.2 ⟨zt7 (by omega) hn, o, ho, fun e he hb => by
      have hlt : e.on < i := by
       have := Array.all_eq_true_iff_forall_mem.1 ha e he
       rw [hb] at this
       simpa using this
      exact ih e.on hlt (by omega)⟩
     rw [hr] at this
     cases this
theorem zbc {a : Act} {k : Nat} {v : Value} (h : a.tmps[k]? = some v) : a.eval (.tmp k) = v := by
 simp [Act.eval, Array.getD_eq_getD_getElem?, h]
structure In11 (ds : List Deferred) (w0 W0 : World) (b : Nat) (u v c : Value) (rest : Bool) (vs : Nat → Value) (N : Nat) (l : Array Bool) (a : Act) (w : World) : Prop where
 k2 : a.eval (.tmp 2) = .pointer (some ⟨b, 0, none⟩)
 k3 : a.eval (.tmp 3) = .pointer (some ⟨b + 1, 0, none⟩)
 k4 : a.eval (.tmp 4) = .pointer (some ⟨b + 2, 0, none⟩)
 k5 : a.eval (.tmp 5) = .pointer (some ⟨b + 3, 0, none⟩)
 k6 : a.eval (.tmp 6) = .pointer (some ⟨b + 4, 0, none⟩)
 k11 : a.eval (.tmp 11) = .int .i64 (N : Int)
 sz : l.size = 26
 ta : 64 < a.tmps.size
 de : a.defers = ds
 tv : ∀ k, k ≤ 20 → Ls l k → a.tmps[44 + k]? = some (vs k)
 box : Five w b u v c (if l.getD 24 false = true then .bool rest else .bool false) (.int .i64 0)
 g : G11 w0 W0 b w
theorem In11.put {ds : List Deferred} {w0 W0 w : World} {b : Nat} {u v c : Value} {rest : Bool} {vs : Nat → Value} {N : Nat} {l : Array Bool} {a : Act} (h : In11 ds w0 W0 b u v c rest vs N l a w) {k : Nat} (hk : k ≤ 20) : In11 ds w0 W0 b u v c rest vs N (l.setIfInBounds k true) (a.put (some (44 + k)) (vs k)) w where
 k2 := by rw [zaj a _ (by omega)]; exact h.k2
 k3 := by rw [zaj a _ (by omega)]; exact h.k3
 k4 := by rw [zaj a _ (by omega)]; exact h.k4
 k5 := by rw [zaj a _ (by omega)]; exact h.k5
 k6 := by rw [zaj a _ (by omega)]; exact h.k6
 k11 := by rw [zaj a _ (by omega)]; exact h.k11
 sz := by simp [h.sz]
 ta := by rw [zeX]; exact h.ta
 de := h.de
 tv := fun j hj hL => by
  have hta := h.ta
  have hsz := h.sz
  simp only [Act.put]
  by_cases e : j = k
  ·subst e
   rw [Array.getElem?_setIfInBounds_self_of_lt (by omega)]
  ·rw [Array.getElem?_setIfInBounds_ne (by omega)]
   exact h.tv j hj ((zaF e).1 hL)
 box := by rw [zc5 (by omega)]; exact h.box
 g := h.g
set_option maxHeartbeats 4000000 in
theorem zsa {F : Fence} {n : Nat} {Q : Exit → Act → World → Prop} (w0 W0 : World) (b : Nat) (u v c : Value) (N K : Nat) (g0 g1 hl : Bool) (gu gc cu cc : Nat) (y : List UInt8) (a : Act) (ds : List Deferred)
  (k2 : a.eval (.tmp 2) = .pointer (some ⟨b, 0, none⟩)) (k3 : a.eval (.tmp 3) = .pointer (some ⟨b + 1, 0, none⟩)) (k4 : a.eval (.tmp 4) = .pointer (some ⟨b + 2, 0, none⟩)) (k5 : a.eval (.tmp 5) = .pointer (some ⟨b + 3, 0, none⟩)) (k6 : a.eval (.tmp 6) = .pointer (some ⟨b + 4, 0, none⟩)) (k11 : a.eval (.tmp 11) = .int .i64 (N : Int))
  (hta : 64 < a.tmps.size) (hde : a.defers = ds) (hbox : Five W0 b u v c (.bool false) (.int .i64 0)) (hg0 : g0 = decide (0 < N)) (hg1 : g1 = (g0 && (y == [97, 114, 103, 115])))
  (hu : ∃ a n c, u = .slice a n c) (hv : ∃ a n c, v = .slice a n c) (hc : ∃ a n d, c = .slice a n d) (hN : N ≤ 1000)
  (hlast : g0 = true → N = K + 1 ∧ u = .slice (some ⟨gu, 0, none⟩) (K + 1) cu ∧ c = .slice (some ⟨gc, 0, none⟩) (K + 1) cc ∧ (∀ w : World, w.heap[gu]? = W0.heap[gu]? → w.cell? ⟨gu, K, none⟩ = some (.string ⟨y.toArray⟩)) ∧ (∀ w : World, w.heap[gc]? = W0.heap[gc]? → w.cell? ⟨gc, K, none⟩ = some (.bool hl)) ∧ b + 4 < gu ∧ b + 4 < gc)
  (h0 : w0.heap.size ≤ b) (hbel : Below w0.heap.size w0 W0)
  (hQ : ∀ a' W', (∀ k : Nat, 2 ≤ k → k ≤ 6 → a'.eval (.tmp k) = a.eval (.tmp k)) → a'.defers = ds → Five W' b u v c (.bool (g1 && !hl)) (.int .i64 0) → G11 w0 W0 b W' → Q .normal a' W') : Code.wpIn F n Tryz.prog zvK Q a W0 := by
 refine wpIn_region_any (by kernel_rfl) ?_
 refine zol (fun l a w => In11 ds w0 W0 b u v c (g1 && !hl) (vals u v c N K g0 g1 hl gu gc y) N l a w) ?step ?fin _ _ _ _ ?start (by decide)
 case start =>
  exact ⟨k2, k3, k4, k5, k6, k11, by simp; rfl, hta, hde, fun k _ q => absurd q (by
   intro h
   unfold Ls at h
   rw [Array.getD_eq_getD_getElem?] at h
   rcases Nat.lt_or_ge k ops11.size with hk | hk
   ·rw [Array.getElem?_replicate, if_pos hk] at h; cases h
   ·rw [Array.getElem?_replicate, if_neg (by omega)] at h; cases h), by
   rw [if_neg (by rw [Array.getD_eq_getD_getElem?, Array.getElem?_replicate]; split <;> simp)]
   exact ⟨hbox.b0, hbox.b1, hbox.b2, hbox.b3, hbox.b4⟩, ⟨hbel.drew, ⟨Nat.le_refl _, fun k o h _ => h⟩, fun k _ => rfl⟩⟩
 case fin =>
  intro l a' w h hr
  have hL := zos h.sz hr
  have hb := h.box
  rw [zto (hL 24 (by omega))] at hb
  refine hQ a' w ?_ h.de hb h.g
  ·intro k k1 k2'
   have : k = 2 ∨ k = 3 ∨ k = 4 ∨ k = 5 ∨ k = 6 := by omega
   rcases this with rfl | rfl | rfl | rfl | rfl
   ·rw [h.k2, k2]
   ·rw [h.k3, k3]
   ·rw [h.k4, k4]
   ·rw [h.k5, k5]
   ·rw [h.k6, k6]
 case step =>
  clear k2 k3 k4 k5 k6 k11 hta
  intro l a w h i hi
  obtain ⟨hnl, o, ho, haf⟩ := mem_ready.1 hi
  have hn := nls hnl
  have hi26 : i < 26 := (Array.getElem?_eq_some_iff.1 ho).1
  have cu' : g0 = true → w.cell? ⟨gu, K, none⟩ = some (.string ⟨y.toArray⟩) := fun e => (hlast e).2.2.2.1 w (h.g.old gu (.inr (hlast e).2.2.2.2.2.1))
  have cc' : g0 = true → w.cell? ⟨gc, K, none⟩ = some (.bool hl) := fun e => (hlast e).2.2.2.2.1 w (h.g.old gc (.inr (hlast e).2.2.2.2.2.2))
  have hg01 : g1 = true → g0 = true := fun e => by
   rw [hg1] at e
   cases hg : g0 with
   | true => rfl
   | false => rw [hg] at e; cases e
  clear hi hnl
  match i, hi26, ho with
  | 0, _, ho =>
    cases ho
    exact zaJ rfl rfl rfl (by intro c h; cases h) (zdE 22 (.inl rfl) 2 h.k2 h.box.b0.cell _ rfl) (h.put (k := 0) (by omega))
  | 1, _, ho =>
    cases ho
    exact zaJ rfl rfl rfl (by intro c h; cases h) (zdE 22 (.inl rfl) 3 h.k3 h.box.b1.cell _ rfl) (h.put (k := 1) (by omega))
  | 2, _, ho =>
    cases ho
    exact zaJ rfl rfl rfl (by intro c h; cases h) (zdE 25 (.inr (.inl rfl)) 4 h.k4 h.box.b2.cell _ rfl) (h.put (k := 2) (by omega))
  | 3, _, ho =>
    cases ho
    exact zaJ rfl rfl rfl (by intro c h; cases h) (zmR 11 h.k11 _ rfl) (h.put (k := 3) (by omega))
  | 4, _, ho =>
    cases ho
    have hr := zvL (w := w) (ρ := a.eval) 47 (n := N) (zbc (h.tv 3 (by omega) (haf ⟨3, .data⟩ (Array.mem_of_getElem? (i := 0) rfl) rfl))) rfl (ops11[4]'(by decide)) rfl
    rw [← hg0] at hr
    exact zaJ rfl rfl rfl (by intro c h; cases h) hr (h.put (k := 4) (by omega))
  | 5, _, ho =>
    cases ho
    exact zaJ rfl rfl rfl (by intro c h; cases h) (zmR 48 (zbc (h.tv 4 (by omega) (haf ⟨4, .data⟩ (Array.mem_of_getElem? (i := 0) rfl) rfl))) _ rfl) (h.put (k := 5) (by omega))
  | 6, _, ho =>
    cases ho
    have hy := (h.tv 5 (by omega) (haf ⟨5, .guard⟩ (Array.mem_of_getElem? (i := 0) rfl) rfl))
    have hP := h.put (k := 6) (by omega)
    cases e : g0 with
    | false =>
      simp only [vals, e] at hy hP
      exact zcz rfl ((zcI rfl rfl rfl hy).trans rfl) rfl hP
    | true =>
      obtain ⟨q1, q2, q3, q4, q5, q6, q7⟩ := hlast e
      have cuu := cu' e
      have ccc := cc' e
      simp only [vals, e, if_true] at hy hP
      exact zcy rfl ((zcI rfl rfl rfl hy).trans rfl) rfl (by intro c h; cases h) (zdE 22 (.inl rfl) 2 h.k2 h.box.b0.cell _ rfl) hP
  | 7, _, ho =>
    cases ho
    have hy := (h.tv 5 (by omega) (haf ⟨5, .guard⟩ (Array.mem_of_getElem? (i := 0) rfl) rfl))
    have hP := h.put (k := 7) (by omega)
    cases e : g0 with
    | false =>
      simp only [vals, e] at hy hP
      exact zcz rfl ((zcI rfl rfl rfl hy).trans rfl) rfl hP
    | true =>
      obtain ⟨q1, q2, q3, q4, q5, q6, q7⟩ := hlast e
      have cuu := cu' e
      have ccc := cc' e
      simp only [vals, e, if_true] at hy hP
      exact zcy rfl ((zcI rfl rfl rfl hy).trans rfl) rfl (by intro c h; cases h) (zmR 11 h.k11 _ rfl) hP
  | 8, _, ho =>
    cases ho
    have hy := (h.tv 5 (by omega) (haf ⟨5, .guard⟩ (Array.mem_of_getElem? (i := 1) rfl) rfl))
    have hP := h.put (k := 8) (by omega)
    have e7 := (h.tv 7 (by omega) (haf ⟨7, .data⟩ (Array.mem_of_getElem? (i := 0) rfl) rfl))
    cases e : g0 with
    | false =>
      simp only [vals, e] at hy hP
      exact zcz rfl ((zcI rfl rfl rfl hy).trans rfl) rfl hP
    | true =>
      obtain ⟨q1, q2, q3, q4, q5, q6, q7⟩ := hlast e
      have cuu := cu' e
      have ccc := cc' e
      simp only [vals, e, if_true] at hy hP e7
      exact zcy rfl ((zcI rfl rfl rfl hy).trans rfl) rfl (by intro c h; cases h) (zua 51 (n := K) (by omega) (by rw [← q1]; exact zbc e7) rfl _ rfl) hP
  | 9, _, ho =>
    cases ho
    have hy := (h.tv 5 (by omega) (haf ⟨5, .guard⟩ (Array.mem_of_getElem? (i := 2) rfl) rfl))
    have hP := h.put (k := 9) (by omega)
    have e6 := (h.tv 6 (by omega) (haf ⟨6, .data⟩ (Array.mem_of_getElem? (i := 0) rfl) rfl))
    have e8 := (h.tv 8 (by omega) (haf ⟨8, .data⟩ (Array.mem_of_getElem? (i := 1) rfl) rfl))
    cases e : g0 with
    | false =>
      simp only [vals, e] at hy hP
      exact zcz rfl ((zcI rfl rfl rfl hy).trans rfl) rfl hP
    | true =>
      obtain ⟨q1, q2, q3, q4, q5, q6, q7⟩ := hlast e
      have cuu := cu' e
      have ccc := cc' e
      simp only [vals, e, if_true] at hy hP e6 e8
      exact zcy rfl ((zcI rfl rfl rfl hy).trans rfl) rfl (by intro c h; cases h) (zub 22 (.inl rfl) 50 52 (by rw [← q2]; exact zbc e6) (zbc e8) _ rfl) hP
  | 10, _, ho =>
    cases ho
    have hy := (h.tv 5 (by omega) (haf ⟨5, .guard⟩ (Array.mem_of_getElem? (i := 1) rfl) rfl))
    have hP := h.put (k := 10) (by omega)
    have e9 := (h.tv 9 (by omega) (haf ⟨9, .data⟩ (Array.mem_of_getElem? (i := 0) rfl) rfl))
    cases e : g0 with
    | false =>
      simp only [vals, e] at hy hP
      exact zcz rfl ((zcI rfl rfl rfl hy).trans rfl) rfl hP
    | true =>
      obtain ⟨q1, q2, q3, q4, q5, q6, q7⟩ := hlast e
      have cuu := cu' e
      have ccc := cc' e
      simp only [vals, e, if_true] at hy hP e9
      exact zcy rfl ((zcI rfl rfl rfl hy).trans rfl) rfl (by intro c h; cases h) (zdE 9 (.inr (.inr (.inl rfl))) 53 (zbc e9) cuu _ rfl) hP
  | 11, _, ho =>
    cases ho
    have hy := (h.tv 5 (by omega) (haf ⟨5, .guard⟩ (Array.mem_of_getElem? (i := 1) rfl) rfl))
    have hP := h.put (k := 11) (by omega)
    have e10 := (h.tv 10 (by omega) (haf ⟨10, .data⟩ (Array.mem_of_getElem? (i := 0) rfl) rfl))
    cases e : g0 with
    | false =>
      simp only [vals, e] at hy hP
      exact zcz rfl ((zcI rfl rfl rfl hy).trans rfl) rfl hP
    | true =>
      obtain ⟨q1, q2, q3, q4, q5, q6, q7⟩ := hlast e
      have cuu := cu' e
      have ccc := cc' e
      simp only [vals, e, if_true] at hy hP e10
      exact zcy rfl ((zcI rfl rfl rfl hy).trans rfl) rfl (by intro c h; cases h) (zuZ 54 (zbc e10) rfl _ rfl) hP
  | 12, _, ho =>
    cases ho
    have hP := h.put (k := 12) (by omega)
    have hr := zuc (w := w) (ρ := a.eval) 49 55 (b := g0) (zbc (h.tv 5 (by omega) (haf ⟨5, .data⟩ (Array.mem_of_getElem? (i := 0) rfl) rfl))) (zbc (h.tv 11 (by omega) (haf ⟨11, .data⟩ (Array.mem_of_getElem? (i := 1) rfl) rfl))) rfl (ops11[12]'(by decide)) rfl
    have e : (if g0 = true then vals u v c N K g0 g1 hl gu gc y 11 else .bool false) = vals u v c N K g0 g1 hl gu gc y 12 := by simp only [vals]; rw [hg1]; cases g0 <;> simp
    rw [e] at hr
    exact zaJ rfl rfl rfl (by intro c h; cases h) hr hP
  | 13, _, ho =>
    cases ho
    exact zaJ rfl rfl rfl (by intro c h; cases h) (zmR 56 (zbc (h.tv 12 (by omega) (haf ⟨12, .data⟩ (Array.mem_of_getElem? (i := 0) rfl) rfl))) _ rfl) (h.put (k := 13) (by omega))
  | 14, _, ho =>
    cases ho
    have hy := (h.tv 13 (by omega) (haf ⟨13, .guard⟩ (Array.mem_of_getElem? (i := 0) rfl) rfl))
    have hP := h.put (k := 14) (by omega)
    cases e : g1 with
    | false =>
      simp only [vals, e] at hy hP
      exact zcz rfl ((zcI rfl rfl rfl hy).trans rfl) rfl hP
    | true =>
      obtain ⟨q1, q2, q3, q4, q5, q6, q7⟩ := hlast (hg01 e)
      have cuu := cu' (hg01 e)
      have ccc := cc' (hg01 e)
      simp only [vals, e, if_true] at hy hP
      exact zcy rfl ((zcI rfl rfl rfl hy).trans rfl) rfl (by intro c h; cases h) (zdE 25 (.inr (.inl rfl)) 4 h.k4 h.box.b2.cell _ rfl) hP
  | 15, _, ho =>
    cases ho
    have hy := (h.tv 13 (by omega) (haf ⟨13, .guard⟩ (Array.mem_of_getElem? (i := 0) rfl) rfl))
    have hP := h.put (k := 15) (by omega)
    cases e : g1 with
    | false =>
      simp only [vals, e] at hy hP
      exact zcz rfl ((zcI rfl rfl rfl hy).trans rfl) rfl hP
    | true =>
      obtain ⟨q1, q2, q3, q4, q5, q6, q7⟩ := hlast (hg01 e)
      have cuu := cu' (hg01 e)
      have ccc := cc' (hg01 e)
      simp only [vals, e, if_true] at hy hP
      exact zcy rfl ((zcI rfl rfl rfl hy).trans rfl) rfl (by intro c h; cases h) (zmR 11 h.k11 _ rfl) hP
  | 16, _, ho =>
    cases ho
    have hy := (h.tv 13 (by omega) (haf ⟨13, .guard⟩ (Array.mem_of_getElem? (i := 1) rfl) rfl))
    have hP := h.put (k := 16) (by omega)
    have e15 := (h.tv 15 (by omega) (haf ⟨15, .data⟩ (Array.mem_of_getElem? (i := 0) rfl) rfl))
    cases e : g1 with
    | false =>
      simp only [vals, e] at hy hP
      exact zcz rfl ((zcI rfl rfl rfl hy).trans rfl) rfl hP
    | true =>
      obtain ⟨q1, q2, q3, q4, q5, q6, q7⟩ := hlast (hg01 e)
      have cuu := cu' (hg01 e)
      have ccc := cc' (hg01 e)
      simp only [vals, e, if_true] at hy hP e15
      exact zcy rfl ((zcI rfl rfl rfl hy).trans rfl) rfl (by intro c h; cases h) (zua 59 (n := K) (by omega) (by rw [← q1]; exact zbc e15) rfl _ rfl) hP
  | 17, _, ho =>
    cases ho
    have hy := (h.tv 13 (by omega) (haf ⟨13, .guard⟩ (Array.mem_of_getElem? (i := 2) rfl) rfl))
    have hP := h.put (k := 17) (by omega)
    have e14 := (h.tv 14 (by omega) (haf ⟨14, .data⟩ (Array.mem_of_getElem? (i := 0) rfl) rfl))
    have e16 := (h.tv 16 (by omega) (haf ⟨16, .data⟩ (Array.mem_of_getElem? (i := 1) rfl) rfl))
    cases e : g1 with
    | false =>
      simp only [vals, e] at hy hP
      exact zcz rfl ((zcI rfl rfl rfl hy).trans rfl) rfl hP
    | true =>
      obtain ⟨q1, q2, q3, q4, q5, q6, q7⟩ := hlast (hg01 e)
      have cuu := cu' (hg01 e)
      have ccc := cc' (hg01 e)
      simp only [vals, e, if_true] at hy hP e14 e16
      exact zcy rfl ((zcI rfl rfl rfl hy).trans rfl) rfl (by intro c h; cases h) (zub 25 (.inr rfl) 58 60 (by rw [← q3]; exact zbc e14) (zbc e16) _ rfl) hP
  | 18, _, ho =>
    cases ho
    have hy := (h.tv 13 (by omega) (haf ⟨13, .guard⟩ (Array.mem_of_getElem? (i := 1) rfl) rfl))
    have hP := h.put (k := 18) (by omega)
    have e17 := (h.tv 17 (by omega) (haf ⟨17, .data⟩ (Array.mem_of_getElem? (i := 0) rfl) rfl))
    cases e : g1 with
    | false =>
      simp only [vals, e] at hy hP
      exact zcz rfl ((zcI rfl rfl rfl hy).trans rfl) rfl hP
    | true =>
      obtain ⟨q1, q2, q3, q4, q5, q6, q7⟩ := hlast (hg01 e)
      have cuu := cu' (hg01 e)
      have ccc := cc' (hg01 e)
      simp only [vals, e, if_true] at hy hP e17
      exact zcy rfl ((zcI rfl rfl rfl hy).trans rfl) rfl (by intro c h; cases h) (zdE 4 (.inr (.inr (.inr rfl))) 61 (zbc e17) ccc _ rfl) hP
  | 19, _, ho =>
    cases ho
    have hy := (h.tv 13 (by omega) (haf ⟨13, .guard⟩ (Array.mem_of_getElem? (i := 1) rfl) rfl))
    have hP := h.put (k := 19) (by omega)
    have e18 := (h.tv 18 (by omega) (haf ⟨18, .data⟩ (Array.mem_of_getElem? (i := 0) rfl) rfl))
    cases e : g1 with
    | false =>
      simp only [vals, e] at hy hP
      exact zcz rfl ((zcI rfl rfl rfl hy).trans rfl) rfl hP
    | true =>
      obtain ⟨q1, q2, q3, q4, q5, q6, q7⟩ := hlast (hg01 e)
      have cuu := cu' (hg01 e)
      have ccc := cc' (hg01 e)
      simp only [vals, e, if_true] at hy hP e18
      exact zcy rfl ((zcI rfl rfl rfl hy).trans rfl) rfl (by intro c h; cases h) (zvM 62 (zbc e18) _ rfl) hP
  | 20, _, ho =>
    cases ho
    have hP := h.put (k := 20) (by omega)
    have hr := zuc (w := w) (ρ := a.eval) 57 63 (b := g1) (zbc (h.tv 13 (by omega) (haf ⟨13, .data⟩ (Array.mem_of_getElem? (i := 0) rfl) rfl))) (zbc (h.tv 19 (by omega) (haf ⟨19, .data⟩ (Array.mem_of_getElem? (i := 1) rfl) rfl))) rfl (ops11[20]'(by decide)) rfl
    have e : (if g1 = true then vals u v c N K g0 g1 hl gu gc y 19 else .bool false) = vals u v c N K g0 g1 hl gu gc y 20 := by simp only [vals]; cases g1 <;> simp
    rw [e] at hr
    exact zaJ rfl rfl rfl (by intro c h; cases h) hr hP
  | 21, _, ho =>
    cases ho
    have hF : Five (w.setCell ⟨b, 0, none⟩ u) b u v c (if (l.setIfInBounds 21 true).getD 24 false = true then .bool (g1 && !hl) else .bool false) (.int .i64 0) := by
     rw [zc5 (by omega)]
     exact ⟨h.box.b0.set _, h.box.b1.other (by omega) _, h.box.b2.other (by omega) _, h.box.b3.other (by omega) _, h.box.b4.other (by omega) _⟩
    exact zeD rfl rfl rfl (by intro c h; cases h) (zkb 22 (.inl rfl) 2 44 h.k2 (zbc (h.tv 0 (by omega) (haf ⟨0, .data⟩ (Array.mem_of_getElem? (i := 0) rfl) rfl))) h.box.b0 hu _ rfl) ⟨h.k2, h.k3, h.k4, h.k5, h.k6, h.k11, by simp [h.sz], h.ta, h.de, fun j hj hL => h.tv j hj ((zaF (by omega)).1 hL), hF, h.g.set h0 b _ (by omega) (by omega)⟩
  | 22, _, ho =>
    cases ho
    have hF : Five (w.setCell ⟨(b + 1), 0, none⟩ v) b u v c (if (l.setIfInBounds 22 true).getD 24 false = true then .bool (g1 && !hl) else .bool false) (.int .i64 0) := by
     rw [zc5 (by omega)]
     exact ⟨h.box.b0.other (by omega) _, h.box.b1.set _, h.box.b2.other (by omega) _, h.box.b3.other (by omega) _, h.box.b4.other (by omega) _⟩
    exact zeD rfl rfl rfl (by intro c h; cases h) (zkb 22 (.inl rfl) 3 45 h.k3 (zbc (h.tv 1 (by omega) (haf ⟨1, .data⟩ (Array.mem_of_getElem? (i := 0) rfl) rfl))) h.box.b1 hv _ rfl) ⟨h.k2, h.k3, h.k4, h.k5, h.k6, h.k11, by simp [h.sz], h.ta, h.de, fun j hj hL => h.tv j hj ((zaF (by omega)).1 hL), hF, h.g.set h0 (b + 1) _ (by omega) (by omega)⟩
  | 23, _, ho =>
    cases ho
    have hF : Five (w.setCell ⟨(b + 2), 0, none⟩ c) b u v c (if (l.setIfInBounds 23 true).getD 24 false = true then .bool (g1 && !hl) else .bool false) (.int .i64 0) := by
     rw [zc5 (by omega)]
     exact ⟨h.box.b0.other (by omega) _, h.box.b1.other (by omega) _, h.box.b2.set _, h.box.b3.other (by omega) _, h.box.b4.other (by omega) _⟩
    exact zeD rfl rfl rfl (by intro c h; cases h) (zkb 25 (.inr rfl) 4 46 h.k4 (zbc (h.tv 2 (by omega) (haf ⟨2, .data⟩ (Array.mem_of_getElem? (i := 0) rfl) rfl))) h.box.b2 hc _ rfl) ⟨h.k2, h.k3, h.k4, h.k5, h.k6, h.k11, by simp [h.sz], h.ta, h.de, fun j hj hL => h.tv j hj ((zaF (by omega)).1 hL), hF, h.g.set h0 (b + 2) _ (by omega) (by omega)⟩
  | 24, _, ho =>
    cases ho
    have hF : Five (w.setCell ⟨(b + 3), 0, none⟩ (.bool (g1 && !hl))) b u v c (if (l.setIfInBounds 24 true).getD 24 false = true then .bool (g1 && !hl) else .bool false) (.int .i64 0) := by
     rw [zmM (by rw [h.sz]; omega), if_pos rfl]
     exact ⟨h.box.b0.other (by omega) _, h.box.b1.other (by omega) _, h.box.b2.other (by omega) _, h.box.b3.set _, h.box.b4.other (by omega) _⟩
    exact zeD rfl rfl rfl (by intro c h; cases h) (zu0 5 64 h.k5 (zbc (h.tv 20 (by omega) (haf ⟨20, .data⟩ (Array.mem_of_getElem? (i := 0) rfl) rfl))) h.box.b3 _ rfl) ⟨h.k2, h.k3, h.k4, h.k5, h.k6, h.k11, by simp [h.sz], h.ta, h.de, fun j hj hL => h.tv j hj ((zaF (by omega)).1 hL), hF, h.g.set h0 (b + 3) _ (by omega) (by omega)⟩
  | 25, _, ho =>
    cases ho
    have hF : Five (w.setCell ⟨(b + 4), 0, none⟩ (.int .i64 0)) b u v c (if (l.setIfInBounds 25 true).getD 24 false = true then .bool (g1 && !hl) else .bool false) (.int .i64 0) := by
     rw [zc5 (by omega)]
     exact ⟨h.box.b0.other (by omega) _, h.box.b1.other (by omega) _, h.box.b2.other (by omega) _, h.box.b3.other (by omega) _, h.box.b4.set _⟩
    exact zeD rfl rfl rfl (by intro c h; cases h) (zvN 6 h.k6 rfl h.box.b4 _ rfl) ⟨h.k2, h.k3, h.k4, h.k5, h.k6, h.k11, by simp [h.sz], h.ta, h.de, fun j hj hL => h.tv j hj ((zaF (by omega)).1 hL), hF, h.g.set h0 (b + 4) _ (by omega) (by omega)⟩
  | _ + 26, h, _ => exact absurd h (by omega)
end Go.Proofs.YtppjodfehhlniaaGreatDoor
end
section
namespace Go.Proofs.YtppjodfehhlniaaGreatDoor
open Go.RowKit Go.Shelf
open Go.ChangeShapes Go.WideShapes Go.ChangeAt
attribute [local go_sem] Oper.semAt_some
set_option maxRecDepth 100000
theorem zi4 {w : World} {T e n c g K : Nat} {ys : List Value} {v : Value} (h : w.ownsRow T e 1 (.slice (some ⟨g, 0, none⟩) n c) n ys) (hv : ys[K]? = some v) : w.cell? ⟨g, K, none⟩ = some v := by
 have := h.cells (g := g) rfl K v hv
 have e : (⟨g, 0, none⟩ : Addr).add K = ⟨g, K, none⟩ := by
  unfold Addr.add; split
  ·rename_i h; rw [h]
  ·simp
 rwa [e] at this
theorem zud {w : World} {T e n : Nat} {ys : List Value} {v : Value} (h : w.ownsRow T e 1 v n ys) (hn : 0 < n) : ∃ g c, v = .slice (some ⟨g, 0, none⟩) n c ∧ T ≤ g := by
 rcases h.2 with ⟨_, h0⟩ | ⟨g, cap, cur, hv, h1, _⟩
 ·omega
 ·exact ⟨g, cap, hv, h1⟩
theorem zp7 {W : World} {T b : Nat} {u c : Value} (l : List It) (hu : W.ownsRow T 9 1 u (l.map (·.p.name)).length ((l.map (·.p.name)).map strV)) (hc : W.ownsRow T 4 1 c (l.map (·.p.has)).length ((l.map (·.p.has)).map .bool)) (hb : b + 5 ≤ T) :
  ∃ (K : Nat) (g0 g1 hl : Bool) (gu gc cu cc : Nat) (y : List UInt8), g0 = decide (0 < l.length) ∧ g1 = (g0 && (y == [97, 114, 103, 115])) ∧ restOf (l.map (·.p)) = (g1 && !hl) ∧
     (g0 = true → l.length = K + 1 ∧ u = .slice (some ⟨gu, 0, none⟩) (K + 1) cu ∧ c = .slice (some ⟨gc, 0, none⟩) (K + 1) cc ∧ (∀ w : World, w.heap[gu]? = W.heap[gu]? → w.cell? ⟨gu, K, none⟩ = some (.string ⟨y.toArray⟩)) ∧ (∀ w : World, w.heap[gc]? = W.heap[gc]? → w.cell? ⟨gc, K, none⟩ = some (.bool hl)) ∧ b + 4 < gu ∧ b + 4 < gc) := by
 by_cases hz : l = []
 ·subst hz
  exact ⟨0, false, false, false, 0, 0, 0, 0, [], rfl, rfl, rfl, fun h => by cases h⟩
 ·have hp := List.length_pos_iff.2 hz
  obtain ⟨K, hK⟩ : ∃ K, l.length = K + 1 := ⟨l.length - 1, by omega⟩
  obtain ⟨x, hx⟩ : ∃ x, l[K]? = some x := ⟨_, List.getElem?_eq_getElem (by omega)⟩
  obtain ⟨gu, cu, rfl, h1⟩ := zud hu (by simp; omega)
  obtain ⟨gc, cc, rfl, h2⟩ := zud hc (by simp; omega)
  refine ⟨K, true, (true && (x.p.name == [97, 114, 103, 115])), x.p.has, gu, gc, cu, cc, x.p.name, by simp [hp], rfl, ?_, fun _ => ⟨hK, by simp [hK], by simp [hK], fun w' e => ?_, fun w' e => ?_, by omega, by omega⟩⟩
  ·unfold restOf
   have : (l.map (·.p)).getLast? = some x.p := by
    rw [List.getLast?_map, List.getLast?_eq_getElem?, show l.length - 1 = K by omega, hx]; rfl
   rw [this]; simp
  ·exact (World.cell?_of_block e).trans (zi4 hu (by simp [hx, strV]))
  ·exact (World.cell?_of_block e).trans (zi4 hc (by simp [hx]))
set_option maxHeartbeats 8000000 in
theorem zd5 (m0 : Int) (s : ByteArray) (hs : s.size ≤ 1000) (w : World) (hm : w.cell? ⟨2, 0, none⟩ = some (.int .i64 m0)) : Calls Tryz.prog 6 #[.string s] w fun e w' => ParR s w e w' := by
 refine (callsIn_wide (n := 8)).1 ?_
 refine callsIn_of_wp_marks Tryz.func6 rfl trivial ?_ rfl
 simp only [Tryz.ntmps6, List.size_toArray, List.length_cons, List.length_nil, Nat.reduceAdd, Nat.reduceSub, Array.replicate_succ, Array.replicate_zero, List.push_toArray, List.append_toArray, List.nil_append, List.cons_append]
 have h5 := five w
 have h2w := zdC hm
 dsimp only at h2w
 have H5 := Lib.hid h5
 have HM := Lib.hid hm
 clear h5 hm
 cases hsp : spl (L s) with
 | none =>
   have hpo : zbu (L s) = .error 2 := by unfold zbu; rw [hsp]
   gi_wp2_with (refine ⟨trivial, ?_⟩; gi_at_call 17; refine (callsIn_wide.2 (zbE s hs _)).mono ?_; rintro e w1 ⟨_, hn, hb⟩; obtain ⟨at_, rfl⟩ := hn hsp; obtain ⟨A, hA, sA, q0, q1, q2, q3, q4, qb⟩ := H5.out; rw [hA] at hb; have p0 : Boxed w1 w.heap.size 22 (.slice none 0 0) := Boxed.later q0 hb; have p1 : Boxed w1 (w.heap.size + 1) 22 (.slice none 0 0) := Boxed.later q1 hb; have p2 : Boxed w1 (w.heap.size + 2) 25 (.slice none 0 0) := Boxed.later q2 hb; have p3 : Boxed w1 (w.heap.size + 3) 4 (.bool false) := Boxed.later q3 hb; have p4 : Boxed w1 (w.heap.size + 4) 26 (.int .i64 0) := Boxed.later q4 hb; have d0 := p0.cell; have f0 := p0.frozen; have d1 : w1.cell? ⟨w.heap.size + 1, 0, none⟩ = _ := p1.cell; have f1 : w1.frozen? ⟨w.heap.size + 1, 0, none⟩ = _ := p1.frozen; have d2 : w1.cell? ⟨w.heap.size + 1 + 1, 0, none⟩ = _ := p2.cell; have f2 : w1.frozen? ⟨w.heap.size + 1 + 1, 0, none⟩ = _ := p2.frozen; have d3 : w1.cell? ⟨w.heap.size + 1 + 1 + 1, 0, none⟩ = _ := p3.cell; have f3 : w1.frozen? ⟨w.heap.size + 1 + 1 + 1, 0, none⟩ = _ := p3.frozen; have d4 : w1.cell? ⟨w.heap.size + 1 + 1 + 1 + 1, 0, none⟩ = _ := p4.cell; have f4 : w1.frozen? ⟨w.heap.size + 1 + 1 + 1 + 1, 0, none⟩ = _ := p4.frozen; have HB := Lib.hid (qb.trans (hb.mono (by omega))); have P0 := Lib.hid p0; have P1 := Lib.hid p1; have P2 := Lib.hid p2; have P3 := Lib.hid p3; have P4 := Lib.hid p4; clear hb hn hA sA q0 q1 q2 q3 q4 qb p0 p1 p2 p3 p4; dsimp only)
   have h6 := (Five.mk P0.out P1.out P2.out P3.out P4.out).err (.int .i64 2)
   have h7 := h6.all (.slice none 0 0) (.slice none 0 0) (.slice none 0 0) (.bool false) (.int .i64 2)
   refine ⟨_, zdp rfl _ _ rfl rfl rfl rfl rfl h7.b0.cell h7.b1.cell h7.b2.cell h7.b3.cell h7.b4.cell, ?_⟩
   exact ParR.bad hpo (by decide) (zpj (HB.out.setCell (p := ⟨w.heap.size + 4, 0, none⟩) (by simp) _) (Nat.le_refl _) _ _ _ _ _)
 | some xs =>
   have hpo : zbu (L s) = prms [] xs := by unfold zbu; rw [hsp]
   have hLs : (L s).length = s.size := za7 s
   have hxl := zr1 _ _ (Nat.le_refl _) xs hsp
   have hxt := zph _ _ (Nat.le_refl _) xs hsp
   have HXT := Lib.hid (show ∀ x ∈ xs, x.length ≤ 1000 from fun x hx => by have := hxt x hx; omega)
   have hxl' : xs.length ≤ 1000 := by omega
   clear hxt hxl
   gi_wp2_with (first | (refine ⟨trivial, ?_⟩; gi_at_call 17; refine (callsIn_wide.2 (zbE s hs _)).mono ?_; rintro e w1 ⟨hy, _, hb⟩; obtain ⟨sv, rfl, hrow⟩ := hy xs hsp; obtain ⟨sa, sc, rfl⟩ := zan hrow; obtain ⟨A, hA, sA, q0, q1, q2, q3, q4, qb⟩ := H5.out; rw [hA] at hb hrow; rw [sA] at hrow; have p0 : Boxed w1 w.heap.size 22 (.slice none 0 0) := Boxed.later q0 hb; have p1 : Boxed w1 (w.heap.size + 1) 22 (.slice none 0 0) := Boxed.later q1 hb; have p2 : Boxed w1 (w.heap.size + 2) 25 (.slice none 0 0) := Boxed.later q2 hb; have p3 : Boxed w1 (w.heap.size + 3) 4 (.bool false) := Boxed.later q3 hb; have p4 : Boxed w1 (w.heap.size + 4) 26 (.int .i64 0) := Boxed.later q4 hb; have d4 : w1.cell? ⟨w.heap.size + 1 + 1 + 1 + 1, 0, none⟩ = _ := p4.cell; have f4 : w1.frozen? ⟨w.heap.size + 1 + 1 + 1 + 1, 0, none⟩ = _ := p4.frozen; have hs1 := hb.size; rw [sA] at hs1; have HB := Lib.hid (qb.trans (hb.mono (by omega))); have P := Lib.hid (Five.mk p0 p1 p2 p3 p4); have HROW := Lib.hid hrow; clear hb hy hA sA q0 q1 q2 q3 q4 qb p0 p1 p2 p3 p4 hrow; dsimp only) | (refine ⟨trivial, ?_⟩; gi_at_call 18; refine (callsIn_wide.2 (zr9 _ _ _ _)).mono ?_; rintro e w2 ⟨rfl, hB, hb2⟩; have HBX := Lib.hid hB; have HB2 := Lib.hid hb2; clear hB hb2; dsimp only))
   have hsz1 : (w1.setCell ⟨w.heap.size + 1 + 1 + 1 + 1, 0, none⟩ (.int .i64 0)).heap.size = w1.heap.size := by simp
   have hP1 : Five (w1.setCell ⟨w.heap.size + 4, 0, none⟩ (.int .i64 0)) w.heap.size (.slice none 0 0) (.slice none 0 0) (.slice none 0 0) (.bool false) (.int .i64 0) := P.out.err _
   have hbx := HBX.out
   have hb2 := HB2.out
   have hP2 : Five w2 w.heap.size (.slice none 0 0) (.slice none 0 0) (.slice none 0 0) (.bool false) (.int .i64 0) := ⟨Boxed.later hP1.b0 hb2, Boxed.later hP1.b1 hb2, Boxed.later hP1.b2 hb2, Boxed.later hP1.b3 hb2, Boxed.later hP1.b4 hb2⟩
   rw [hsz1] at hbx
   have hbelw : Below w.heap.size w w2 := (HB.out.setCell (p := ⟨w.heap.size + 4, 0, none⟩) (by simp) _).trans (hb2.mono (by rw [hsz1]; omega))
   have hrow1 : (w1.setCell ⟨w.heap.size + 4, 0, none⟩ (.int .i64 0)).ownsRow (w.heap.size + 5) 9 1 (.slice sa xs.length sc) xs.length (xs.map strV) := zbl HROW.out fun k hk => heap_setCell_other _ _ _ _ (by have := (HROW.out.lt k hk).1; simp; omega)
   have hrow2 := za8 hrow1 hb2
   have hm : w.heap.size ≤ w2.heap.size := hbelw.size
   have hm5 : w.heap.size + 5 ≤ w2.heap.size := by have := hP2.b4.lt; omega
   have hI0 : PI w w2.heap.size w.heap.size [] w2 := ⟨fun x h => (by cases h), ⟨_, _, _, hP2.b0, hP2.b1, hP2.b2, Tri.nil _ _⟩, hP2.b3, hP2.b4, hbelw, Nat.le_refl _⟩
   have hstops := zmP 7 (by omega) m0 sa sc xs w.heap.size (w.heap.size + 5) w1.heap.size w2 (zaf HM.out hbelw) h2w hm hbx (ztw hrow2) HXT.out hxl'
   clear hbx hb2 hP1 hP2 hrow1 hrow2 HBX HB2 HROW P HB
   rw [hsz1]
   clear hsz1
   refine wpIn_rangeFunc_ownH rfl (by omega) (gf := 36) (lb := #[.pointer (some ⟨w1.heap.size, 0, none⟩)]) rfl trivial (enters_of Tryz.func36 (by kernel_rfl) rfl)
    hstops KeepP.trans (zrK hm (Nat.le_refl _)) (Below.refl _ _) (fun _ => rfl)
    (PI w w2.heap.size w.heap.size) (PX w w.heap.size) (zt9 w _ _ hm) (zvJ w _ _ hm) hI0
    (fun x a' W => ∃ Bx, w2.heap.size ≤ Bx ∧ ItAt W Bx x.p ∧ a' = { tmps := #[.string s, undef, .pointer (some ⟨w.heap.size, 0, none⟩), .pointer (some ⟨w.heap.size + 1, 0, none⟩), .pointer (some ⟨w.heap.size + 1 + 1, 0, none⟩), .pointer (some ⟨w.heap.size + 1 + 1 + 1, 0, none⟩), .pointer (some ⟨w.heap.size + 1 + 1 + 1 + 1, 0, none⟩), .slice sa xs.length sc, .int .i64 0, .pointer (some ⟨Bx, 0, none⟩), .int .i64 (x.e : Int), undef, .tuple #[.slice sa xs.length sc, .int .i64 0, .int .i64 0], .string s, .tuple #[.slice sa xs.length sc, .int .i64 0, .int .i64 0], .slice sa xs.length sc, .int .i64 0, .int .i64 0, .int .i64 0, .bool false, .slice sa xs.length sc, .func (.func 36) #[] #[.pointer (some ⟨w1.heap.size, 0, none⟩)], .agg #[.string ⟨x.p.name.toArray⟩, .string ⟨x.p.other.toArray⟩, .bool x.p.has], .int .i64 (x.e : Int), undef, undef, undef, undef, undef, undef, undef, undef, undef, undef, undef, undef, undef, undef, undef, undef, undef, undef, undef, undef, undef, undef, undef, undef, undef, undef, undef, undef, undef, undef, undef, undef, undef, undef, undef, undef, undef, undef, undef, undef, undef], defers := [] })
    ?hAx ?assign ?body ?done ?stop
   case hAx =>
    rintro x a' u W W' row ⟨Bx, h1, h2, h3⟩ hg hr
    exact ⟨Bx, h1, ztv _ Bx x.p () W W' row h2 hg hr, h3⟩
   case assign =>
    intro l pre x W K hI hK
    have HI := Lib.hid hI
    have HK := Lib.hid hK
    have hsW := hI.sz
    clear hI hK
    dsimp only [encI, strV]
    gi_wp2
    exact HK.out _ _ ((KeepsOthers.alloc _ _).from _) ⟨KeepsWalks.alloc _ _, fun b hb => heap_alloc_old W _ (by unfold Sure at hb; omega)⟩ ((zt9 w _ _ hm).alloc _ HI.out) ⟨W.heap.size, hsW, heap_alloc_new W _, rfl⟩
   case body =>
    rintro l pre x a' W hl hr hI ⟨Bx, hBx, hxb, rfl⟩ hN
    obtain ⟨u, v, c, q0, q1, q2, htri⟩ := hI.row
    have q3 := hI.rest
    have q4 := hI.err
    have hP : Five W w.heap.size u v c (.bool false) (.int .i64 0) := ⟨q0, q1, q2, q3, q4⟩
    obtain ⟨ua, uc, hu⟩ := zan htri.ru
    obtain ⟨va, vc, hv⟩ := zan htri.rv
    obtain ⟨ca, cc, hc⟩ := zan htri.rb
    have HI := Lib.hid hI
    have HP := Lib.hid hP
    have HT := Lib.hid htri
    have HXB := Lib.hid hxb
    have hlen : pre.length ≤ 1000 := by omega
    have hsz := hI.sz
    clear hI hP htri hxb
    obtain ⟨xp, xe⟩ := x
    by_cases he : xe = 0
    ·subst he
     have HU := Lib.hid hu
     have HV := Lib.hid hv
     have HC := Lib.hid hc
     clear hu hv hc q0 q1 q2 q3 q4
     gi_wp2
     have hne : ∀ {U : Value} {e : TypeId} {n : Nat} {ys : List Value}, W.ownsRow w2.heap.size e 1 U n ys → e ≠ 46 → U.ownBlock ≠ some Bx := by
      intro U e n ys h he hb
      obtain ⟨c, hc⟩ := zbm h hb
      rw [show W.heap[Bx]? = _ from HXB.out] at hc
      cases hc
      exact he rfl
     refine (show Code.wpIn _ _ _ reg9 _ _ _ from ztp w W w2.heap.size w.heap.size Bx u v c (pre.map (·.p.name)) (pre.map (·.p.other)) (pre.map (·.p.has)) xp _ rfl rfl rfl rfl (by simp) HP.out.b0 HP.out.b1 HP.out.b2 HT.out HXB.out
      (hne HT.out.ru (by decide)) (hne HT.out.rv (by decide)) (hne HT.out.rb (by decide)) hBx (by omega) hsz (by simpa using hlen) (by simpa using hlen) (by simpa using hlen) (Nat.le_refl _) HI.out.bel ?_)
     rintro a' W' ⟨hg, u', v', c', b0, b1, b2, ht⟩
     show ownPostG w2.heap.size (KeepP w.heap.size (w.heap.size + 5) w2.heap.size) (PI w w2.heap.size w.heap.size) (PX w w.heap.size) (pre ++ [⟨xp, 0⟩]) W Exit.normal a' W'
     refine ⟨hg.oth.from _, ⟨⟨hg.oth.size, fun k o h hw => hg.oth.same k o h (Obj.not_cells_of_walk hw)⟩, fun b hb => hg.old b (by unfold Sure at hb; omega) (by unfold Sure at hb; omega) (by unfold Sure at hb; omega) (by unfold Sure at hb; omega)⟩, ?_⟩
     exact {
      ok := fun y hy => by
       rcases List.mem_append.1 hy with h | h
       ·exact HI.out.ok y h
       ·rw [List.mem_singleton.1 h]
      row := ⟨u', v', c', b0, b1, b2, by simpa using ht⟩
      rest := (hg.old _ (by omega) (by omega) (by omega) (by omega)).trans HP.out.b3
      err := (hg.old _ (by omega) (by omega) (by omega) (by omega)).trans HP.out.b4
      bel := hg.bel
      sz := Nat.le_trans hsz hg.sz }
    ·have e1 : ((xe : Int) != 0) = true := by simp; omega
     have d0 := q0.cell; have f0 := q0.frozen
     have d1 : W.cell? ⟨w.heap.size + 1, 0, none⟩ = _ := q1.cell; have f1 : W.frozen? ⟨w.heap.size + 1, 0, none⟩ = _ := q1.frozen
     have d2 : W.cell? ⟨w.heap.size + 1 + 1, 0, none⟩ = _ := q2.cell; have f2 : W.frozen? ⟨w.heap.size + 1 + 1, 0, none⟩ = _ := q2.frozen
     have d3 : W.cell? ⟨w.heap.size + 1 + 1 + 1, 0, none⟩ = _ := q3.cell; have f3 : W.frozen? ⟨w.heap.size + 1 + 1 + 1, 0, none⟩ = _ := q3.frozen
     have d4 : W.cell? ⟨w.heap.size + 1 + 1 + 1 + 1, 0, none⟩ = _ := q4.cell; have f4 : W.frozen? ⟨w.heap.size + 1 + 1 + 1 + 1, 0, none⟩ = _ := q4.frozen
     subst hu hv hc
     clear q0 q1 q2 q3 q4
     gi_wp2
     have h7 := HP.out.all (.slice none 0 0) (.slice none 0 0) (.slice none 0 0) (.bool false) (.int .i64 (xe : Int))
     exact ⟨(zp6 _ _ _ _ _ _ _).from _, rfl, ⟨pre, ⟨xp, xe⟩, rfl, HI.out.ok, he, h7.b4⟩, h7.b0, h7.b1, h7.b2, h7.b3, zpj HI.out.bel (Nat.le_refl _) _ _ _ _ _⟩
   case done =>
    rintro D ys W hD rfl hI hK
    have hprm := zt6 [] xs hI.ok
    have hpl := zgM [] xs
    obtain ⟨u, v, c, q0, q1, q2, htri⟩ := hI.row
    have q3 := hI.rest
    have q4 := hI.err
    have hP : Five W w.heap.size u v c (.bool false) (.int .i64 0) := ⟨q0, q1, q2, q3, q4⟩
    have hu := zan htri.ru
    have hv := zan htri.rv
    have hc := zan htri.rb
    obtain ⟨K, g0, g1, hl, gu, gc, cu, cc, y, hg0, hg1, hrest, hlast⟩ : ∃ (K : Nat) (g0 g1 hl : Bool) (gu gc cu cc : Nat) (y : List UInt8), g0 = decide (0 < (its [] xs).length) ∧ g1 = (g0 && (y == [97, 114, 103, 115])) ∧ restOf ((its [] xs).map (·.p)) = (g1 && !hl) ∧
      (g0 = true → (its [] xs).length = K + 1 ∧ u = .slice (some ⟨gu, 0, none⟩) (K + 1) cu ∧ c = .slice (some ⟨gc, 0, none⟩) (K + 1) cc ∧ (∀ w : World, w.heap[gu]? = W.heap[gu]? → w.cell? ⟨gu, K, none⟩ = some (.string ⟨y.toArray⟩)) ∧ (∀ w : World, w.heap[gc]? = W.heap[gc]? → w.cell? ⟨gc, K, none⟩ = some (.bool hl)) ∧ w.heap.size + 4 < gu ∧ w.heap.size + 4 < gc) :=
     zp7 (its [] xs) htri.ru htri.rb hm5
    obtain ⟨ua, uc, rfl⟩ := hu
    have d0 := q0.cell
    have HI := Lib.hid hI
    have HP := Lib.hid hP
    have HT := Lib.hid htri
    have HK := Lib.hid hK
    have HPRM := Lib.hid hprm
    have HV := Lib.hid hv
    have HC := Lib.hid hc
    have HG0 := Lib.hid hg0
    have HG1 := Lib.hid hg1
    have HR := Lib.hid hrest
    have HLA := Lib.hid hlast
    clear hI hP htri hK hprm q0 q1 q2 q3 q4 hv hc hg0 hg1 hrest hlast
    gi_wp2
    refine (show Code.wpIn _ _ _ zvK _ _ _ from zsa w W w.heap.size _ v c (its [] xs).length K g0 g1 hl gu gc cu cc y _ _ rfl rfl rfl rfl rfl (by simp [Act.eval, hpl]) (by simp) rfl HP.out HG0.out HG1.out ⟨_, _, _, rfl⟩ (by obtain ⟨a, b, h⟩ := HV.out; exact ⟨_, _, _, h⟩) (by obtain ⟨a, b, h⟩ := HC.out; exact ⟨_, _, _, h⟩) (by omega) HLA.out (Nat.le_refl _) HI.out.bel ?_)
    rintro ⟨tm, df⟩ W' hev hde h5 hg
    have hret := ‹∀ (a : Act) (w : World), Code.wpIn Fence.wide 8 Tryz.prog Code.ret _ a w → _›
    refine hret _ W' ?_
    clear hret
    have e2 := hev 2 (by omega) (by omega)
    have e3 := hev 3 (by omega) (by omega)
    have e4 := hev 4 (by omega) (by omega)
    have e5 := hev 5 (by omega) (by omega)
    have e6 := hev 6 (by omega) (by omega)
    dsimp only at hde
    subst hde
    have hKD : W'.heap[D]? = some (.deferred (some [])) := hg.oth.same D _ HK.out rfl
    have E2 := Lib.hid (show tm.getD 2 undef = .pointer (some ⟨w.heap.size, 0, none⟩) from e2)
    have E3 := Lib.hid (show tm.getD 3 undef = .pointer (some ⟨w.heap.size + 1, 0, none⟩) from e3)
    have E4 := Lib.hid (show tm.getD 4 undef = .pointer (some ⟨w.heap.size + 2, 0, none⟩) from e4)
    have E5 := Lib.hid (show tm.getD 5 undef = .pointer (some ⟨w.heap.size + 3, 0, none⟩) from e5)
    have E6 := Lib.hid (show tm.getD 6 undef = .pointer (some ⟨w.heap.size + 4, 0, none⟩) from e6)
    have H5y := Lib.hid h5
    have HG := Lib.hid hg
    have HKD := Lib.hid hKD
    clear hev e2 e3 e4 e5 e6 h5 hg hKD
    gi_wp2
    refine ⟨by simp, .inl ⟨_, _, rfl, run_takeDeferred HKD.out, ?_⟩⟩
    refine ⟨_, zdp rfl _ _ E2.out E3.out E4.out E5.out E6.out (zaW H5y.out.b0 HKD.out _).cell (zaW H5y.out.b1 HKD.out _).cell (zaW H5y.out.b2 HKD.out _).cell (zaW H5y.out.b3 HKD.out _).cell (zaW H5y.out.b4 HKD.out _).cell, ?_⟩
    have hag : ∀ {e n : Nat} {U : Value} {zs : List Value}, W.ownsRow w2.heap.size e 1 U n zs → World.ownsRow (W'.putObj D (.deferred none)) w2.heap.size e 1 U n zs := by
     intro e n U zs h
     refine zbl h fun k hk => ?_
     have hlt := (h.lt k hk).1
     obtain ⟨c, hc⟩ := zbm h hk
     have hkD : k ≠ D := by
      rintro rfl
      have := HK.out
      rw [hc] at this; cases this
     rw [World.putObj_heap_other hkD, HG.out.old k (by omega)]
    refine ⟨HG.out.bel.trans (belowK_b (w := w) (Nat.le_refl _) _ D _ _ (by omega) HKD.out rfl rfl), fun k hk => (by rw [hpo, HPRM.out] at hk; cases hk), fun ps hps => ?_⟩
    rw [hpo, HPRM.out] at hps
    cases hps
    refine ⟨by simp [hpl]; omega, _, _, _, by rw [HR.out], ?_⟩
    rw [List.map_map, List.map_map, List.map_map]
    exact Tri.mono ⟨hag HT.out.ru, hag HT.out.rv, hag HT.out.rb, HT.out.uv, HT.out.ub, HT.out.vb⟩ hm
   case stop =>
    rintro D c pre W hD hpre hX hK
    obtain ⟨rfl, ⟨ys, x, rfl, hys, hxe, r4⟩, r0, r1, r2, r3, hbel⟩ := hX
    have herr := zrv [] xs ys x hpre hys hxe
    have h5 : Five W w.heap.size (.slice none 0 0) (.slice none 0 0) (.slice none 0 0) (.bool false) (.int .i64 (x.e : Int)) := ⟨r0, r1, r2, r3, r4⟩
    have H5x := Lib.hid h5
    have HBEL := Lib.hid hbel
    have HERR := Lib.hid herr
    have HXE := Lib.hid hxe
    have HK := Lib.hid hK
    clear hpre hys hxe r0 r1 r2 r3 r4 hbel herr h5 hK
    gi_wp2
    refine ⟨by simp, .inl ⟨_, _, rfl, run_takeDeferred HK.out, ?_⟩⟩
    refine ⟨_, zdp rfl _ _ rfl rfl rfl rfl rfl (zaW H5x.out.b0 HK.out _).cell (zaW H5x.out.b1 HK.out _).cell (zaW H5x.out.b2 HK.out _).cell (zaW H5x.out.b3 HK.out _).cell (zaW H5x.out.b4 HK.out _).cell, ?_⟩
    exact ParR.bad (by rw [hpo]; exact HERR.out) HXE.out (HBEL.out.trans (belowK_b (w := w) (Nat.le_refl _) _ D _ _ (by omega) HK.out rfl rfl))
end Go.Proofs.YtppjodfehhlniaaGreatDoor
end
