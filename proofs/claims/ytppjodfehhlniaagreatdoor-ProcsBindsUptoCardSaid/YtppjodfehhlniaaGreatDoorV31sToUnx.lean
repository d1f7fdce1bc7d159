/-
  Three appends in an open order: what each operation does; A round of Params21: a parameter laid down, three appends; The rows that Params21 makes; The. Conditions: none.
-/
import Derived.Test.YtppjodfehhlniaaGreatDoorV4ToV31r
import Derived.Test.YtppjodfehhlniaaGreatDoorWkToV2
import Derived.Test.YtppjodfehhlniaaGreatDoorUnaToVt3
set_option linter.unusedVariables false
set_option linter.unusedSimpArgs false
set_option linter.unusedSectionVars false
set_option linter.deprecated false
section
namespace Go.Proofs.YtppjodfehhlniaaGreatDoor
open Go.RowKit Go.Shelf
open Go.ChangeShapes Go.WideShapes Go.ChangeAt
set_option maxRecDepth 100000
def Frs (T : Nat) (U1 U2 U3 : Value) (g : Nat) : Prop := U1.ownBlock ≠ some g ∧ U2.ownBlock ≠ some g ∧ U3.ownBlock ≠ some g ∧ T ≤ g
structure Cols (T Bx : Nat) (O : Obj) (c1 c2 c3 : CP) (U1 U2 U3 : Value) (l : Array Bool) (a : Act) (w : World) : Prop where
 a1 : Col T (Frs T U1 U2 U3) l a w c1 U1
 a2 : Col T (Frs T U1 U2 U3) l a w c2 U2
 a3 : Col T (Frs T U1 U2 U3) l a w c3 U3
 p12 : Apart U1 U2
 p13 : Apart U1 U3
 p23 : Apart U2 U3
 fx : Frs T U1 U2 U3 Bx
 blk : w.heap[Bx]? = some O
 sz : l.size = 18
 ta : 41 < a.tmps.size
structure Nums (T Bx : Nat) (c1 c2 c3 : CP) : Prop where
 j1 : c1.j < 3
 j2 : c2.j < 3
 j3 : c3.j < 3
 n12 : c1.j ≠ c2.j
 n13 : c1.j ≠ c3.j
 n23 : c2.j ≠ c3.j
 b1 : c1.B < T
 b2 : c2.B < T
 b3 : c3.B < T
 d12 : c1.B ≠ c2.B
 d13 : c1.B ≠ c3.B
 d23 : c2.B ≠ c3.B
 bx : T ≤ Bx
theorem Nums.swap12 {T Bx : Nat} {c1 c2 c3 : CP} (h : Nums T Bx c1 c2 c3) : Nums T Bx c2 c1 c3 := ⟨h.j2, h.j1, h.j3, h.n12.symm, h.n23, h.n13, h.b2, h.b1, h.b3, h.d12.symm, h.d23, h.d13, h.bx⟩
theorem Nums.swap13 {T Bx : Nat} {c1 c2 c3 : CP} (h : Nums T Bx c1 c2 c3) : Nums T Bx c3 c2 c1 := ⟨h.j3, h.j2, h.j1, h.n23.symm, h.n13.symm, h.n12.symm, h.b3, h.b2, h.b1, h.d23.symm, h.d13.symm, h.d12.symm, h.bx⟩
section
variable {T Bx : Nat} {O : Obj} {c1 c2 c3 : CP} {U1 U2 U3 : Value} {l : Array Bool} {a : Act} {w : World}
theorem Cols.swap12 (h : Cols T Bx O c1 c2 c3 U1 U2 U3 l a w) : Cols T Bx O c2 c1 c3 U2 U1 U3 l a w :=
 ⟨h.a2.fr fun g z => ⟨z.2.1, z.1, z.2.2.1, z.2.2.2⟩, h.a1.fr fun g z => ⟨z.2.1, z.1, z.2.2.1, z.2.2.2⟩, h.a3.fr fun g z => ⟨z.2.1, z.1, z.2.2.1, z.2.2.2⟩, h.p12.symm, h.p23, h.p13, ⟨h.fx.2.1, h.fx.1, h.fx.2.2.1, h.fx.2.2.2⟩, h.blk, h.sz, h.ta⟩
theorem Cols.swap13 (h : Cols T Bx O c1 c2 c3 U1 U2 U3 l a w) : Cols T Bx O c3 c2 c1 U3 U2 U1 l a w :=
 ⟨h.a3.fr fun g z => ⟨z.2.2.1, z.2.1, z.1, z.2.2.2⟩, h.a2.fr fun g z => ⟨z.2.2.1, z.2.1, z.1, z.2.2.2⟩, h.a1.fr fun g z => ⟨z.2.2.1, z.2.1, z.1, z.2.2.2⟩, h.p23.symm, h.p13.symm, h.p12.symm, ⟨h.fx.2.2.1, h.fx.2.1, h.fx.1, h.fx.2.2.2⟩, h.blk, h.sz, h.ta⟩
theorem zeX (a : Act) (d : Nat) (v : Value) : (a.put (some d) v).tmps.size = a.tmps.size := by simp [Act.put]
theorem zp4 (w : World) : w.grownBy w none := zaT (Below.refl _ _)
theorem Col.still {Fr : Nat → Prop} {c : CP} {U : Value} {i d : Nat} {v : Value} (h : Col T Fr l a w c U) (ho : i < 5 * c.j ∨ 5 * c.j + 4 < i) (hs : i ≠ 15 + c.j) (hd : d < 27 + 5 * c.j ∨ 31 + 5 * c.j < d) : Col T Fr (l.setIfInBounds i true) (a.put (some d) v) w c U :=
 h.keep ho hs (fun k k1 k2 => zaj a v (by omega)) (zp4 w) (fun k _ => by simp) (by simp) (fun g _ z => ⟨by simp, z⟩)
theorem ziW (N : Nums T Bx c1 c2 c3) (h : Cols T Bx O c1 c2 c3 U1 U2 U3 l a w) : Cols T Bx O c1 c2 c3 U1 U2 U3 (l.setIfInBounds (5 * c1.j) true) (a.put (some (27 + 5 * c1.j)) c1.u0) w := by
 obtain ⟨j1, j2, j3, n12, n13, n23, b1, b2, b3, d12, d13, d23, bx⟩ := N
 have hta := h.ta
 have hsz := h.sz
 refine ⟨?_, h.a2.still (by omega) (by omega) (by omega), h.a3.still (by omega) (by omega) (by omega), h.p12, h.p13, h.p23, h.fx, h.blk, by simp [hsz], by rw [zeX]; exact hta⟩
 exact {
  h0 := fun _ => zb9 a _ (by omega)
  h1 := fun q => by rw [zaj a _ (by omega)]; exact h.a1.h1 ((zaF (by omega)).1 q)
  h2 := fun q => by rw [zaj a _ (by omega)]; exact h.a1.h2 ((zaF (by omega)).1 q)
  h3 := fun q => by rw [zaj a _ (by omega)]; exact h.a1.h3 ((zaF (by omega)).1 q)
  h4 := fun q => by rw [zaj a _ (by omega)]; exact h.a1.h4 ((zaF (by omega)).1 q)
  h5 := fun q => h.a1.h5 (fun z => q ((zaF (by omega)).2 z))
  h6 := fun q => (zrT (by omega)).2 (.inl rfl)
  h7 := fun q => (zaF (by omega)).2 (h.a1.h7 ((zaF (by omega)).1 q))
  box := by rw [zc5 (by omega)]; exact h.a1.box }
theorem zle (N : Nums T Bx c1 c2 c3) (h : Cols T Bx O c1 c2 c3 U1 U2 U3 l a w) : Cols T Bx O c1 c2 c3 U1 U2 U3 (l.setIfInBounds (5 * c1.j + 1) true) (a.put (some (28 + 5 * c1.j)) c1.ptr) w := by
 obtain ⟨j1, j2, j3, n12, n13, n23, b1, b2, b3, d12, d13, d23, bx⟩ := N
 have hta := h.ta
 have hsz := h.sz
 refine ⟨?_, h.a2.still (by omega) (by omega) (by omega), h.a3.still (by omega) (by omega) (by omega), h.p12, h.p13, h.p23, h.fx, h.blk, by simp [hsz], by rw [zeX]; exact hta⟩
 exact {
  h0 := fun q => by rw [zaj a _ (by omega)]; exact h.a1.h0 ((zaF (by omega)).1 q)
  h1 := fun _ => zb9 a _ (by omega)
  h2 := fun q => by rw [zaj a _ (by omega)]; exact h.a1.h2 ((zaF (by omega)).1 q)
  h3 := fun q => by rw [zaj a _ (by omega)]; exact h.a1.h3 ((zaF (by omega)).1 q)
  h4 := fun q => by rw [zaj a _ (by omega)]; exact h.a1.h4 ((zaF (by omega)).1 q)
  h5 := fun q => h.a1.h5 (fun z => q ((zaF (by omega)).2 z))
  h6 := fun q => (zaF (by omega)).2 (h.a1.h6 ((zaF (by omega)).1 q))
  h7 := fun q => (zaF (by omega)).2 (h.a1.h7 ((zaF (by omega)).1 q))
  box := by rw [zc5 (by omega)]; exact h.a1.box }
theorem zlf (N : Nums T Bx c1 c2 c3) (h : Cols T Bx O c1 c2 c3 U1 U2 U3 l a w) : Cols T Bx O c1 c2 c3 U1 U2 U3 (l.setIfInBounds (5 * c1.j + 2) true) (a.put (some (29 + 5 * c1.j)) c1.x) w := by
 obtain ⟨j1, j2, j3, n12, n13, n23, b1, b2, b3, d12, d13, d23, bx⟩ := N
 have hta := h.ta
 have hsz := h.sz
 refine ⟨?_, h.a2.still (by omega) (by omega) (by omega), h.a3.still (by omega) (by omega) (by omega), h.p12, h.p13, h.p23, h.fx, h.blk, by simp [hsz], by rw [zeX]; exact hta⟩
 exact {
  h0 := fun q => by rw [zaj a _ (by omega)]; exact h.a1.h0 ((zaF (by omega)).1 q)
  h1 := fun q => by rw [zaj a _ (by omega)]; exact h.a1.h1 ((zaF (by omega)).1 q)
  h2 := fun _ => zb9 a _ (by omega)
  h3 := fun q => by rw [zaj a _ (by omega)]; exact h.a1.h3 ((zaF (by omega)).1 q)
  h4 := fun q => by rw [zaj a _ (by omega)]; exact h.a1.h4 ((zaF (by omega)).1 q)
  h5 := fun q => h.a1.h5 (fun z => q ((zaF (by omega)).2 z))
  h6 := fun q => (zaF (by omega)).2 (h.a1.h6 ((zaF (by omega)).1 q))
  h7 := fun q => (zaF (by omega)).2 (h.a1.h7 ((zaF (by omega)).1 q))
  box := by rw [zc5 (by omega)]; exact h.a1.box }
theorem ziX {Fr : Nat → Prop} {c : CP} {U : Value} (h : Col T Fr l a w c U) {k : Nat} (hk : U.ownBlock = some k) : T ≤ k ∧ k < w.heap.size := by
 obtain ⟨n, ys, h⟩ := h.own
 exact h.lt k hk
theorem zgQ (N : Nums T Bx c1 c2 c3) (h : Cols T Bx O c1 c2 c3 U1 U2 U3 l a w) :
  Cols T Bx O c1 c2 c3 U1 U2 U3 (l.setIfInBounds (5 * c1.j + 3) true) (a.put (some (30 + 5 * c1.j)) (.slice (some ⟨w.heap.size, 0, none⟩) 1 1)) (w.alloc (.cells #[c1.x] c1.e)) := by
 obtain ⟨j1, j2, j3, n12, n13, n23, b1, b2, b3, d12, d13, d23, bx⟩ := N
 have hta := h.ta
 have hsz := h.sz
 have hg : w.grownBy (w.alloc (.cells #[c1.x] c1.e)) none := World.grownBy_alloc w _ none
 have hne : ∀ {c : CP} {U : Value}, Col T (Frs T U1 U2 U3) l a w c U → U.ownBlock ≠ some w.heap.size := fun hc e => by
  have := (ziX hc e).2; omega
 have K : ∀ {c : CP} {U : Value}, Col T (Frs T U1 U2 U3) l a w c U → (5 * c1.j + 3 < 5 * c.j ∨ 5 * c.j + 4 < 5 * c1.j + 3) → 5 * c1.j + 3 ≠ 15 + c.j →
   Col T (Frs T U1 U2 U3) (l.setIfInBounds (5 * c1.j + 3) true) (a.put (some (30 + 5 * c1.j)) (.slice (some ⟨w.heap.size, 0, none⟩) 1 1)) (w.alloc (.cells #[c1.x] c1.e)) c U :=
  fun hc ho hs => hc.keep ho hs (fun k k1 k2 => zaj a _ (by omega)) hg (fun k _ => by simp) (by simp) (fun g _ z => ⟨by simp, z⟩)
 refine ⟨?_, K h.a2 (by omega) (by omega), K h.a3 (by omega) (by omega), h.p12, h.p13, h.p23, h.fx, (heap_alloc_old w _ (Array.getElem?_eq_some_iff.1 h.blk).1).trans h.blk, by simp [hsz], by rw [zeX]; exact hta⟩
 exact {
  h0 := fun q => by rw [zaj a _ (by omega)]; exact h.a1.h0 ((zaF (by omega)).1 q)
  h1 := fun q => by rw [zaj a _ (by omega)]; exact h.a1.h1 ((zaF (by omega)).1 q)
  h2 := fun q => by rw [zaj a _ (by omega)]; exact h.a1.h2 ((zaF (by omega)).1 q)
  h3 := fun _ => ⟨w.heap.size, zb9 a _ (by omega), (Boxed.new w c1.e c1.x).cell, hne h.a1, hne h.a2, hne h.a3, by have := (Array.getElem?_eq_some_iff.1 h.blk).1; omega⟩
  h4 := fun q => by
   obtain ⟨q1, q2⟩ := h.a1.h4 ((zaF (by omega)).1 q)
   exact ⟨by rw [zaj a _ (by omega)]; exact q1, zd2 q2 hg (fun k _ => by simp)⟩
  h5 := fun q => by
   obtain ⟨q1, q2⟩ := h.a1.h5 (fun z => q ((zaF (by omega)).2 z))
   exact ⟨q1, zd2 q2 hg (fun k _ => by simp)⟩
  h6 := fun q => (zaF (by omega)).2 (h.a1.h6 ((zaF (by omega)).1 q))
  h7 := fun q => (zaF (by omega)).2 (h.a1.h7 ((zaF (by omega)).1 q))
  box := by rw [zc5 (by omega)]; exact h.a1.box.kept hg (by simp) }
theorem zlg (N : Nums T Bx c1 c2 c3) (h : Cols T Bx O c1 c2 c3 U1 U2 U3 l a w) {V : Value} {w' : World} (h0 : Ls l (5 * c1.j)) (h4 : ¬ Ls l (5 * c1.j + 4)) (hs : ¬ Ls l (15 + c1.j))
  (ho : w'.ownsRow T c1.e 1 V (c1.xs.length + 1) (c1.xs ++ [c1.x])) (hg : w.grownBy w' U1.ownBlock) (hn : zbg w U1 V) :
  Cols T Bx O c1 c2 c3 V U2 U3 (l.setIfInBounds (5 * c1.j + 4) true) (a.put (some (31 + 5 * c1.j)) V) w' := by
 obtain ⟨j1, j2, j3, n12, n13, n23, b1, b2, b3, d12, d13, d23, bx⟩ := N
 have hta := h.ta
 have hsz := h.sz
 have hF : ∀ g, g < w.heap.size → Frs T U1 U2 U3 g → U1.ownBlock ≠ some g ∧ Frs T V U2 U3 g := fun g hlt z => by
  refine ⟨z.1, ?_, z.2.1, z.2.2.1, z.2.2.2⟩
  rcases hn with e | e
  ·rw [e]; exact z.1
  ·intro q; have := e g q; omega
 have hB : ∀ {c : CP}, c.B < T → U1.ownBlock ≠ some c.B := fun hb e => by have := (ziX h.a1 e).1; omega
 have hA : ∀ {U : Value}, Apart U1 U → (∀ k, U.ownBlock = some k → k < w.heap.size) → Apart V U := fun hp hl k hk hk2 => by
  rcases hn with e | e
  ·exact hp k (by rw [← e]; exact hk) hk2
  ·have := e k hk; have := hl k hk2; omega
 have K : ∀ {c : CP} {U : Value}, Col T (Frs T U1 U2 U3) l a w c U → Apart U1 U → c.B < T → (5 * c1.j + 4 < 5 * c.j ∨ 5 * c.j + 4 < 5 * c1.j + 4) → 5 * c1.j + 4 ≠ 15 + c.j →
   Col T (Frs T V U2 U3) (l.setIfInBounds (5 * c1.j + 4) true) (a.put (some (31 + 5 * c1.j)) V) w' c U :=
  fun hc hp hb ho hs => hc.keep ho hs (fun k k1 k2 => zaj a _ (by omega)) hg (fun k hk e => hp k e hk) (hB hb) hF
 have hbx := (Array.getElem?_eq_some_iff.1 h.blk).1
 have hfx := hF Bx hbx h.fx
 refine ⟨?_, K h.a2 h.p12 b2 (by omega) (by omega), K h.a3 h.p13 b3 (by omega) (by omega), hA h.p12 (fun k e => (ziX h.a2 e).2), hA h.p13 (fun k e => (ziX h.a3 e).2), h.p23, hfx.2, (hg.block Bx hbx (fun e => hfx.1 e.symm)).trans h.blk, by simp [hsz], by rw [zeX]; exact hta⟩
 exact {
  h0 := fun q => by rw [zaj a _ (by omega)]; exact h.a1.h0 ((zaF (by omega)).1 q)
  h1 := fun q => by rw [zaj a _ (by omega)]; exact h.a1.h1 ((zaF (by omega)).1 q)
  h2 := fun q => by rw [zaj a _ (by omega)]; exact h.a1.h2 ((zaF (by omega)).1 q)
  h3 := fun q => by
   obtain ⟨g, q1, q2, q3⟩ := h.a1.h3 ((zaF (by omega)).1 q)
   have := hF g (zdC q2) q3
   exact ⟨g, by rw [zaj a _ (by omega)]; exact q1, ziV q2 hg this.1, this.2⟩
  h4 := fun _ => ⟨zb9 a _ (by omega), ho⟩
  h5 := fun q => absurd ((zrT (by omega)).2 (.inl rfl)) q
  h6 := fun q => (zaF (by omega)).2 h0
  h7 := fun _ => (zrT (by omega)).2 (.inl rfl)
  box := by
   have hb := h.a1.box
   have hs' : ¬ (l.getD (15 + c1.j) false = true) := hs
   rw [if_neg hs'] at hb
   rw [zc5 (by omega), if_neg hs']
   exact hb.kept hg (fun e => hB b1 e.symm) }
theorem zgR (N : Nums T Bx c1 c2 c3) (h : Cols T Bx O c1 c2 c3 U1 U2 U3 l a w) (h0 : Ls l (5 * c1.j)) (h4 : Ls l (5 * c1.j + 4)) (hs : ¬ Ls l (15 + c1.j)) :
  Cols T Bx O c1 c2 c3 U1 U2 U3 (l.setIfInBounds (15 + c1.j) true) a (w.setCell ⟨c1.B, 0, none⟩ U1) := by
 obtain ⟨j1, j2, j3, n12, n13, n23, b1, b2, b3, d12, d13, d23, bx⟩ := N
 have hta := h.ta
 have hsz := h.sz
 have hg : w.grownBy (w.setCell ⟨c1.B, 0, none⟩ U1) (some c1.B) := grownBy_setCell' w c1.B U1
 have K : ∀ {c : CP} {U : Value}, Col T (Frs T U1 U2 U3) l a w c U → c1.B ≠ c.B → (15 + c1.j < 5 * c.j ∨ 5 * c.j + 4 < 15 + c1.j) → 15 + c1.j ≠ 15 + c.j →
   Col T (Frs T U1 U2 U3) (l.setIfInBounds (15 + c1.j) true) a (w.setCell ⟨c1.B, 0, none⟩ U1) c U :=
  fun hc hb ho hss => hc.keep ho hss (fun k _ _ => rfl) hg (fun k hk e => by have := (ziX hc hk).1; have := Option.some.inj e; omega) (fun e => hb (Option.some.inj e)) (fun g _ z => ⟨fun e => by have := Option.some.inj e; have := z.2.2.2; omega, z⟩)
 have hbx := (Array.getElem?_eq_some_iff.1 h.blk).1
 refine ⟨?_, K h.a2 d12 (by omega) (by omega), K h.a3 d13 (by omega) (by omega), h.p12, h.p13, h.p23, h.fx, (hg.block Bx hbx (fun e => by have := Option.some.inj e; omega)).trans h.blk, by simp [hsz], hta⟩
 exact {
  h0 := fun q => h.a1.h0 ((zaF (by omega)).1 q)
  h1 := fun q => h.a1.h1 ((zaF (by omega)).1 q)
  h2 := fun q => h.a1.h2 ((zaF (by omega)).1 q)
  h3 := fun q => by
   obtain ⟨g, q1, q2, q3⟩ := h.a1.h3 ((zaF (by omega)).1 q)
   exact ⟨g, q1, ziV q2 hg (fun e => by have := Option.some.inj e; have := q3.2.2.2; omega), q3⟩
  h4 := fun q => by
   obtain ⟨q1, q2⟩ := h.a1.h4 ((zaF (by omega)).1 q)
   exact ⟨q1, zd2 q2 hg (fun k hk e => by have := Option.some.inj e; have := (ziX h.a1 hk).1; omega)⟩
  h5 := fun q => by
   obtain ⟨q1, q2⟩ := h.a1.h5 (fun z => q ((zaF (by omega)).2 z))
   exact ⟨q1, zd2 q2 hg (fun k hk e => by have := Option.some.inj e; have := (ziX h.a1 hk).1; omega)⟩
  h6 := fun _ => (zaF (by omega)).2 h0
  h7 := fun _ => (zaF (by omega)).2 h4
  box := by rw [zmM (by omega), if_pos rfl]; exact h.a1.box.set U1 }
end
end Go.Proofs.YtppjodfehhlniaaGreatDoor
end
section
namespace Go.Proofs.YtppjodfehhlniaaGreatDoor
open Go.ChangeShapes Go.WideShapes Go.ChangeAt Go.RowKit
structure P3 (w1 : World) (g : Nat) (x : Prm × Bool) (u v b : Value) (us vs : List (List UInt8)) (bs : List Bool) (W : World) : Prop where
 tri : Tri W w1.heap.size u v b us vs bs
 blk : W.heap[g]? = some (.cells #[strV x.1.name, strV x.1.other, .bool x.1.has, .bool x.2] 76 (0, 0))
 nu : ∀ k, u.ownBlock = some k → k ≠ g
 nv : ∀ k, v.ownBlock = some k → k ≠ g
 nb : ∀ k, b.ownBlock = some k → k ≠ g
 bel : Below w1.heap.size w1 W
theorem P3.make {w1 wr : World} {x : Prm × Bool} {u v b : Value} {us vs : List (List UInt8)} {bs : List Bool} (h : Tri wr w1.heap.size u v b us vs bs) (hb : Below w1.heap.size w1 wr) :
  P3 w1 wr.heap.size x u v b us vs bs (wr.alloc (.cells #[.string ⟨x.1.name.toArray⟩, .string ⟨x.1.other.toArray⟩, .bool x.1.has, .bool x.2] 76)) := by
 obtain ⟨A, hA, sA, nA, oA, bA⟩ := zaH wr #[.string ⟨x.1.name.toArray⟩, .string ⟨x.1.other.toArray⟩, .bool x.1.has, .bool x.2] 76
 refine ⟨h.alloc _, by rw [hA]; exact nA, fun k hk => ?_, fun k hk => ?_, fun k hk => ?_, by rw [hA]; exact hb.trans (bA.mono hb.size)⟩
 ·have := (h.ru.lt k hk).2; omega
 ·have := (h.rv.lt k hk).2; omega
 ·have := (h.rb.lt k hk).2; omega
section
variable {w1 W : World} {g : Nat} {x : Prm × Bool} {u v b : Value} {us vs : List (List UInt8)} {bs : List Bool}
theorem P3.sz (h : P3 w1 g x u v b us vs bs W) : w1.heap.size ≤ W.heap.size := h.bel.size
theorem P3.cells (h : P3 w1 g x u v b us vs bs W) : W.cell? ⟨g, 0, none⟩ = some (.string ⟨x.1.name.toArray⟩) ∧ W.cell? ⟨g, 1, none⟩ = some (.string ⟨x.1.other.toArray⟩) ∧ W.cell? ⟨g, 2, none⟩ = some (.bool x.1.has) ∧ W.cell? ⟨g, 3, none⟩ = some (.bool x.2) := by
 refine ⟨?_, ?_, ?_, ?_⟩ <;> simp [World.cell?, h.blk, strV]
theorem zgS {W w2 : World} {o : Obj} {own : Option Nat} {g : Nat} (hg : g < W.heap.size) (G : (W.alloc o).grownBy w2 own) (hn : ∀ k, own = some k → k ≠ g) : w2.heap[g]? = W.heap[g]? := by
 rw [G.block g (by simp; omega) (fun e => hn g e.symm rfl), heap_alloc_old W _ hg]
theorem zrU {W w2 : World} {o : Obj} {u u' : Value} {g : Nat} (hg : g < W.heap.size) (hu : ∀ k, u.ownBlock = some k → k ≠ g) (n : zbg (W.alloc o) u u') : ∀ k, u'.ownBlock = some k → k ≠ g := by
 intro k hk
 rcases n with h | h
 ·exact hu k (by rw [← h]; exact hk)
 ·have := h k hk
  simp at this
  omega
theorem zd3 {w1 W w2 : World} {o : Obj} {e size n : Nat} {xs : List Value} {u : Value} (hb : Below w1.heap.size w1 W) (hr : W.ownsRow w1.heap.size e size u n xs) (G : (W.alloc o).grownBy w2 u.ownBlock) : Below w1.heap.size w1 w2 :=
 hb.trans (((Below.refl w1.heap.size W).alloc hb.size _).grown G (by have := hb.size; simp; omega) (fun k hk => (hr.lt k hk).1))
theorem P3.lt (h : P3 w1 g x u v b us vs bs W) : g < W.heap.size := (Array.getElem?_eq_some_iff.1 h.blk).1
theorem P3.appU {w2 : World} {o : Obj} {u' : Value} {y : List UInt8} (h : P3 w1 g x u v b us vs bs W)
  (r : w2.ownsRow w1.heap.size 9 1 u' (us.length + 1) (us.map strV ++ [.string ⟨y.toArray⟩])) (G : (W.alloc o).grownBy w2 u.ownBlock) (n : zbg (W.alloc o) u u') : P3 w1 g x u' v b (us ++ [y]) vs bs w2 :=
 ⟨(h.tri.alloc o).appU r G n, (zgS h.lt G h.nu).trans h.blk, zrU (w2 := w2) h.lt h.nu n, h.nv, h.nb, zd3 h.bel h.tri.ru G⟩
theorem P3.appV {w2 : World} {o : Obj} {v' : Value} {y : List UInt8} (h : P3 w1 g x u v b us vs bs W)
  (r : w2.ownsRow w1.heap.size 9 1 v' (vs.length + 1) (vs.map strV ++ [.string ⟨y.toArray⟩])) (G : (W.alloc o).grownBy w2 v.ownBlock) (n : zbg (W.alloc o) v v') : P3 w1 g x u v' b us (vs ++ [y]) bs w2 :=
 ⟨(h.tri.alloc o).appV r G n, (zgS h.lt G h.nv).trans h.blk, h.nu, zrU (w2 := w2) h.lt h.nv n, h.nb, zd3 h.bel h.tri.rv G⟩
theorem P3.appB {w2 : World} {o : Obj} {b' : Value} {y : Bool} (h : P3 w1 g x u v b us vs bs W)
  (r : w2.ownsRow w1.heap.size 4 1 b' (bs.length + 1) (bs.map .bool ++ [.bool y])) (G : (W.alloc o).grownBy w2 b.ownBlock) (n : zbg (W.alloc o) b b') : P3 w1 g x u v b' us vs (bs ++ [y]) w2 :=
 ⟨(h.tri.alloc o).appB r G n, (zgS h.lt G h.nb).trans h.blk, h.nu, h.nv, zrU (w2 := w2) h.lt h.nb n, zd3 h.bel h.tri.rb G⟩
end
end Go.Proofs.YtppjodfehhlniaaGreatDoor
end
section
namespace Go.Proofs.YtppjodfehhlniaaGreatDoor
open Go.ChangeShapes Go.WideShapes Go.ChangeAt Go.RowKit
set_option maxRecDepth 100000
theorem zvD : (Tryz.prog.info? 4).map (fun i => (i.zero, i.size, i.bytes)) = some (some (.bool false), 1, 1) := by kernel_rfl
theorem zeE {fn : Func} {t u v x y : Tmp} (h : fn.results = #[.tmp t, .tmp u, .tmp v, .tmp x, .tmp y]) (tmps : Array Value) (P : Program) (w : World) :
  (results fn tmps).run P w = .ok (.tuple #[tmps.getD t undef, tmps.getD u undef, tmps.getD v undef, tmps.getD x undef, tmps.getD y undef]) w := by
 simp [results, h]
theorem Tri.mono {w : World} {m k : Nat} {u v b : Value} {us vs : List (List UInt8)} {bs : List Bool} (h : Tri w m u v b us vs bs) (hk : k ≤ m) : Tri w k u v b us vs bs :=
 ⟨zaN h.ru hk, zaN h.rv hk, zaN h.rb hk, h.uv, h.ub, h.vb⟩
set_option maxHeartbeats 2000000 in
theorem zon (OK : List (Prm × Bool) → Prop) (Bad : Int → Prop) (s : ByteArray) (w : World) (hpar : Calls Tryz.prog 38 #[.string s] w fun e w' => ∃ a n c q k, e = .returned (.tuple #[.slice a (n : Nat) c, .string q, .int .i64 k]) ∧ Below w.heap.size w w' ∧
   ((k = 0 ∧ ∃ l, PRow w' (.slice a n c) l ∧ l.length ≤ 1000 ∧ OK l) ∨ (k ≠ 0 ∧ Bad k))) :
  Calls Tryz.prog 19 #[.string s] w fun e w' => Below w.heap.size w w' ∧
   ((∃ l u v b, OK l ∧ l.length ≤ 1000 ∧ e = .returned (.tuple #[u, v, b, .bool ((l.getLast?.map (·.2)).getD false), .int .i64 0]) ∧ Tri w' w.heap.size u v b (l.map fun p => p.1.name) (l.map fun p => p.1.other) (l.map fun p => p.1.has)) ∨
    (∃ k, k ≠ 0 ∧ Bad k ∧ e = .returned (.tuple #[.slice none 0 0, .slice none 0 0, .slice none 0 0, .bool false, .int .i64 k]))) := by
 obtain ⟨i0, hi0, hz0, hz1, hz2⟩ := info_parts zoe
 obtain ⟨j0, hj0, jz0, jz1, jz2⟩ : ∃ i, Tryz.prog.info? 4 = some i ∧ i.zero = some (.bool false) ∧ i.size = 1 ∧ i.bytes = 1 := by
  have h := zvD
  cases hc : Tryz.prog.info? 4 with
  | none => rw [hc] at h; simp at h
  | some i => rw [hc] at h; simp at h; exact ⟨i, rfl, h.1, h.2.1, h.2.2⟩
 go_enter Tryz.func19, Tryz.ntmps19
 go_wp2_with (go_at_call 38; refine hpar.mono ?_; rintro e w1 ⟨a, n, c, q, k0, rfl, hb, hr⟩; have HB := Lib.hid hb; have HR := Lib.hid hr; clear hb hr hpar; dsimp only)
 ·rename_i hne
  have hk : k0 ≠ 0 := by simpa using hne
  rcases HR.out with ⟨h0, _⟩ | ⟨_, hbad⟩
  ·exact absurd h0 hk
  ·refine bodyPost_ret (zeE rfl _ _ _) rfl ?_
   exact ⟨HB.out, .inr ⟨k0, hk, hbad, rfl⟩⟩
 have hk0 : k0 = 0 := by first | (rename_i hne _; simpa using hne; done) | (rename_i hne _ _; simpa using hne; done) | (rename_i hne _ _ _; simpa using hne; done) | (rename_i hne _ _ _ _; simpa using hne; done)
 subst hk0
 obtain ⟨l, hr, hl, ho⟩ : ∃ l, PRow w1 (.slice a n c) l ∧ l.length ≤ 1000 ∧ OK l := by
  rcases HR.out with ⟨_, h⟩ | ⟨h0, _⟩
  ·exact h
  ·exact absurd rfl h0
 clear HR
 obtain ⟨a', c', he, ha⟩ := hr.form
 cases he
 have HA := Lib.hid ha
 have HO := Lib.hid ho
 clear hr ha ho
 go_loopg [2, 3, 4, 5, 22] l.length (fun k uu vv bb rr iv wr => ∃ (i : Nat), iv = .int .i64 (i : Int) ∧ k = l.length - i ∧ i ≤ l.length ∧ Below w1.heap.size w1 wr ∧
  Tri wr w1.heap.size uu vv bb ((l.take i).map fun p => p.1.name) ((l.take i).map fun p => p.1.other) ((l.take i).map fun p => p.1.has) ∧ rr = .bool (((l.take i).getLast?.map (·.2)).getD false))
 case atStart => exact ⟨0, rfl, rfl, Nat.zero_le _, Below.refl _ _, by simpa using Tri.nil _ _, rfl⟩
 case round =>
  obtain ⟨i, rfl, hk, hi, hbel, hT, rfl⟩ := hrel
  by_cases hlt : i < l.length
  ·have t2 : (i : Int) < (l.length : Int) := by omega
   obtain ⟨x, hx⟩ : ∃ x, l[i]? = some x := ⟨_, List.getElem?_eq_getElem hlt⟩
   obtain ⟨p, rfl, hp1, hp2, hp3, hp4⟩ := HA.out i x hx
   have c1 := zaf hp1 hbel
   have c2 := zaf hp2 hbel
   have c3 := zaf hp3 hbel
   have c4 := zaf hp4 hbel
   unfold strV at c1 c2
   have HT := Lib.hid hT
   have HXX := Lib.hid hx
   have HBL := Lib.hid hbel
   have HK := Lib.hid hk
   clear hp1 hp2 hp3 hp4 hx hk hT hbel
   go_wp2_with (first | (at_builtin; refine zah rfl _ _ 22 rfl w1.heap.size 9 i0 (.string ⟨#[]⟩) 1 16 Tryz.underlying22 hi0 hz0 hz1 hz2 rfl (by decide) _ _ _ rfl ((P3.make (x := x) HT.out HBL.out).tri.ru.alloc _) ⟨wr.heap.size + 1, 0, none⟩ 1 1 [.string ⟨x.1.name.toArray⟩] rfl rfl (by simpa using cell_one_new (wr.alloc _) _ _) (by intro u hu; rw [List.mem_singleton.1 hu]; rfl) (by simp [maxLen]; omega) (by simp; omega) (by have := HBL.out.size; simp; omega) ?_; intro u2 w2 o g n; have hS2 := (P3.make (x := x) HT.out HBL.out).appU o g n; clear o g n; obtain ⟨d0, d1, d2, d3⟩ := hS2.cells; have S2 := Lib.hid hS2; clear hS2) | (at_builtin; refine zah rfl _ _ 22 rfl w1.heap.size 9 i0 (.string ⟨#[]⟩) 1 16 Tryz.underlying22 hi0 hz0 hz1 hz2 rfl (by decide) _ _ _ rfl (S2.out.tri.rv.alloc _) ⟨w2.heap.size, 0, none⟩ 1 1 [.string ⟨x.1.other.toArray⟩] rfl rfl (cell_one_new _ _ _) (by intro u hu; rw [List.mem_singleton.1 hu]; rfl) (by simp [maxLen]; omega) (by simp; omega) (by have := S2.out.sz; simp; omega) ?_; intro u3 w3 o g n; have hS3 := S2.out.appV o g n; clear S2 o g n d0 d1 d2 d3; obtain ⟨d0, d1, d2, d3⟩ := hS3.cells; have S3 := Lib.hid hS3; clear hS3) | (at_builtin; refine zah rfl _ _ 25 rfl w1.heap.size 4 j0 (.bool false) 1 1 Tryz.underlying25 hj0 jz0 jz1 jz2 rfl (by decide) _ _ _ rfl (S3.out.tri.rb.alloc _) ⟨w3.heap.size, 0, none⟩ 1 1 [.bool x.1.has] rfl rfl (cell_one_new _ _ _) (by intro u hu; rw [List.mem_singleton.1 hu]; rfl) (by simp [maxLen]; omega) (by simp; omega) (by have := S3.out.sz; simp; omega) ?_; intro u4 w4 o g n; have hS4 := S3.out.appB o g n; clear S3 o g n d0 d1 d2 d3; obtain ⟨d0, d1, d2, d3⟩ := hS4.cells; have S4 := Lib.hid hS4; clear hS4))
   go_roundg (l.length - (i + 1))
   case measure => have := HK.out; omega
   case rel =>
    have hx' : l[i]? = some x := HXX.out
    have htk : l.take (i + 1) = l.take i ++ [x] := by rw [List.take_add_one, hx']; rfl
    have hT := S4.out.tri
    have hB := S4.out.bel
    refine ⟨i + 1, by go_num, rfl, by omega, hB, ?_, ?_⟩
    ·rw [htk]; simpa using hT
    ·rw [htk]; simp
  ·have hil : i = l.length := by omega
   subst hil
   have t2 : ¬ (l.length : Int) < (l.length : Int) := by omega
   rw [List.take_length] at hT
   go_wp2
   refine bodyPost_ret (zeE rfl _ _ _) rfl ?_
   exact ⟨HB.out.trans (hbel.mono HB.out.size), .inl ⟨l, HO.out, hl, _, _, _, rfl, hT.mono HB.out.size⟩⟩
end Go.Proofs.YtppjodfehhlniaaGreatDoor
end
section
namespace Go.Proofs.YtppjodfehhlniaaGreatDoor
open Go.RowKit Go.Shelf
open Go.ChangeShapes Go.WideShapes Go.ChangeAt
set_option maxRecDepth 100000
abbrev eD (n : Nat) : Edge := { on := n, ground := .data }
abbrev eH (n : Nat) : Edge := { on := n, ground := .chain }
abbrev eP (n : Nat) : Edge := { on := n, ground := .phase }
abbrev eQ (n : Nat) : Edge := { on := n, ground := .guard }
abbrev xL (n : Nat) : Edge := { on := n, ground := .textOnly .lateStores }
abbrev xI (n : Nat) : Edge := { on := n, ground := .textOnly .inlinedCapture }
abbrev xU (n : Nat) : Edge := { on := n, ground := .textOnly .lateStoresUnsure }
abbrev zL (n : Nat) : Edge := { on := n, ground := .gcOnly .lateStores }
abbrev v9 (d : Nat) (o : Op) (t : TypeId) (a : Array Edge) (g : Option (Nat × Bool)) : Oper := { dst := some d, op := o, type := t, pos := "procs.go:87", after := a, guard := g }
abbrev s9 (o : Op) (t : TypeId) (a : Array Edge) (g : Option (Nat × Bool)) : Oper := { dst := none, op := o, type := t, pos := "procs.go:87", after := a, guard := g }
abbrev v11 (d : Nat) (o : Op) (t : TypeId) (a : Array Edge) (g : Option (Nat × Bool)) : Oper := { dst := some d, op := o, type := t, pos := "procs.go:90", after := a, guard := g }
abbrev s11 (o : Op) (t : TypeId) (a : Array Edge) (g : Option (Nat × Bool)) : Oper := { dst := none, op := o, type := t, pos := "procs.go:90", after := a, guard := g }
def ops9 : Array Oper := #[v9 27 (.load 22 (.tmp 2)) 22 #[] none, v9 28 (.fieldAddr 46 (.tmp 9) 0) 0 #[] none, v9 29 (.load 9 (.tmp 28)) 9 #[eD 1] none, v9 30 (.buildSlice 22 1 #[(0, .tmp 29)]) 22 #[eD 2] none, v9 31 (.call { callee := .builtin .append, args := #[.tmp 27, .tmp 30], argTypes := #[22, 22] }) 22 #[eD 0, eD 3] none, v9 32 (.load 22 (.tmp 3)) 22 #[] none, v9 33 (.fieldAddr 46 (.tmp 9) 1) 0 #[] none, v9 34 (.load 9 (.tmp 33)) 9 #[eD 6] none, v9 35 (.buildSlice 22 1 #[(0, .tmp 34)]) 22 #[eD 7] none, v9 36 (.call { callee := .builtin .append, args := #[.tmp 32, .tmp 35], argTypes := #[22, 22] }) 22 #[eD 5, eD 8, eH 4] none, v9 37 (.load 25 (.tmp 4)) 25 #[] none, v9 38 (.fieldAddr 46 (.tmp 9) 2) 0 #[] none, v9 39 (.load 4 (.tmp 38)) 4 #[eD 11] none, v9 40 (.buildSlice 25 1 #[(0, .tmp 39)]) 25 #[eD 12] none, v9 41 (.call { callee := .builtin .append, args := #[.tmp 37, .tmp 40], argTypes := #[25, 25] }) 25 #[eD 10, eD 13, eH 9] none, s9 (.store 22 (.tmp 2) (.tmp 31)) 0 #[eD 4, eH 14, eP 0, eP 1, eP 2, eP 3, eP 4, xI 5, xL 6, xL 7, xI 8, xU 9, xI 10, xL 11, xL 12, xI 13, xU 14] none, s9 (.store 22 (.tmp 3) (.tmp 36)) 0 #[eD 9, eH 15, eP 0, eP 1, eP 2, eP 3, eP 4, eP 5, eP 6, eP 7, eP 8, eP 9, xI 10, xL 11, xL 12, xI 13, xU 14, eP 15] none, s9 (.store 25 (.tmp 4) (.tmp 41)) 0 #[eD 14, eH 16, eP 0, eP 1, eP 2, eP 3, eP 4, eP 5, eP 6, eP 7, eP 8, eP 9, eP 10, eP 11, eP 12, eP 13, eP 14, eP 15, eP 16] none]
def reg9 : Code := .region 9 ops9 true
section
variable {w : World} {ρ : Operand → Value}
theorem zdE (t : TypeId) (ht : t = 22 ∨ t = 25 ∨ t = 9 ∨ t = 4) (k : Nat) {p : Addr} {v : Value} (hk : ρ (.tmp k) = .pointer (some p)) (hc : w.cell? p = some v) (o : Oper) (ho : o.op = .load t (.tmp k)) :
  (execOp ρ o).run Tryz.prog w = .ok (.value v) w := by
 rcases ht with rfl | rfl | rfl | rfl <;> simp [execOp, ho, hk, hc, go_sem]
theorem zrV (k i : Nat) (hi : i < 3) {g : Nat} (hk : ρ (.tmp k) = .pointer (some ⟨g, 0, none⟩)) (o : Oper) (ho : o.op = .fieldAddr 46 (.tmp k) i) :
  (execOp ρ o).run Tryz.prog w = .ok (.value (.pointer (some ⟨g, i, none⟩))) w := by
 have : i = 0 ∨ i = 1 ∨ i = 2 := by omega
 rcases this with rfl | rfl | rfl <;> simp [execOp, ho, hk, go_sem]
theorem zrW (t : TypeId) (e : TypeId) (ht : (t = 22 ∧ e = 9) ∨ (t = 25 ∧ e = 4)) (k : Nat) {x : Value} (hk : ρ (.tmp k) = x) (h1 : (∃ q, x = .string q) ∨ ∃ q, x = .bool q) (o : Oper) (ho : o.op = .buildSlice t 1 #[(0, .tmp k)]) :
  (execOp ρ o).run Tryz.prog w = .ok (.value (.slice (some ⟨w.heap.size, 0, none⟩) 1 1)) (w.alloc (.cells #[x] e)) := by
 rcases h1 with ⟨q, rfl⟩ | ⟨q, rfl⟩ <;> rcases ht with ⟨rfl, rfl⟩ | ⟨rfl, rfl⟩ <;> simp [execOp, ho, hk, go_sem]
theorem zkb (t : TypeId) (ht : t = 22 ∨ t = 25) (k m : Nat) {B : Nat} {v x : Value} (hk : ρ (.tmp k) = .pointer (some ⟨B, 0, none⟩)) (hm : ρ (.tmp m) = v) (hb : Boxed w B t x) (h1 : ∃ a n c, v = .slice a n c) (o : Oper) (ho : o.op = .store t (.tmp k) (.tmp m)) :
  (execOp ρ o).run Tryz.prog w = .ok .skip (w.setCell ⟨B, 0, none⟩ v) := by
 obtain ⟨va, vn, vc, rfl⟩ := h1
 have hc := hb.cell
 have hf := hb.frozen
 rcases ht with rfl | rfl <;> simp [execOp, ho, hk, hm, hc, hf, go_sem]
theorem zrX (T : Nat) (t e : TypeId) (inf : TypeInfo) (z : Value) (bytes : Nat) (ht : Tryz.prog.underlying t = some (.slice e)) (hi : Tryz.prog.info? e = some inf) (hz : inf.zero = some z) (hs : inf.size = 1) (hy : inf.bytes = bytes) (hzs : z.cells.size = 1) (hby : bytes ≤ 16)
  (k m : Nat) {U x : Value} {g : Nat} {xs : List Value} (hk : ρ (.tmp k) = U) (hm : ρ (.tmp m) = .slice (some ⟨g, 0, none⟩) 1 1) (hown : w.ownsRow T e 1 U xs.length xs) (hc : w.cell? ⟨g, 0, none⟩ = some x) (h1 : x.oneCell' = true) (hl : xs.length ≤ 1000) (hT : T ≤ w.heap.size)
  (o : Oper) (ho : o.op = .call { callee := .builtin .append, args := #[.tmp k, .tmp m], argTypes := #[t, t] }) :
  ∃ V w', (execOp ρ o).run Tryz.prog w = .ok (.value V) w' ∧ w'.ownsRow T e 1 V (xs.length + 1) (xs ++ [x]) ∧ w.grownBy w' U.ownBlock ∧ zbg w U V := by
 obtain ⟨V, w', hrun, r1, r2, r3⟩ := zfb (P := Tryz.prog) (w := w) T t o.type e inf z 1 bytes ht hi hz hs hy hzs (by decide) U xs.length xs hown ⟨g, 0, none⟩ 1 1 [x] rfl
  (by intro j y hj
      cases j with
      | zero => simp at hj; subst hj; simpa [Addr.add] using hc
      | succ j => simp at hj) (by intro y hy; rw [List.mem_singleton.1 hy]; exact h1) (by simp only [maxLen]; omega) (Nat.le_trans (Nat.mul_le_mul (show xs.length + 1 ≤ 1001 by omega) hby) (by decide)) hT
 refine ⟨V, w', ?_, r1, r2, r3⟩
 simp [execOp, ho, resolve, invoke, builtin, hk, hm, hrun, Result.andThen]
theorem zlh (k m : Nat) (t : TypeId) (o : Oper) (ho : o.op = .call { callee := .builtin .append, args := #[.tmp k, .tmp m], argTypes := #[t, t] }) : o.about Tryz.prog w ρ = none := by
 simp [Oper.about, ho, resolve, Target.leads, Sem.run_pure]
end
structure G9 (w0 W0 : World) (T b : Nat) (w : World) : Prop where
 bel : Below w0.heap.size w0 w
 oth : KeepsOthers W0 w
 old : ∀ k, k < T → k ≠ b → k ≠ b + 1 → k ≠ b + 2 → w.heap[k]? = W0.heap[k]?
 sz : W0.heap.size ≤ w.heap.size
theorem zjp {w w' : World} {row : Option Nat} (hg : w.grownBy w' row) (hr : ∀ r, row = some r → ∃ c e, w.heap[r]? = some (.cells c e (0, 0))) : KeepsOthers w w' :=
 ⟨hg.size, fun k o hk hc => by
  refine (hg.block k (Array.getElem?_eq_some_iff.1 hk).1 (fun e => ?_)).trans hk
  obtain ⟨c, e', h⟩ := hr k e.symm
  rw [h] at hk; cases hk; cases hc⟩
theorem G9.grown {w0 W0 w w' : World} {T b : Nat} {row : Option Nat} (h : G9 w0 W0 T b w) (hg : w.grownBy w' row) (hr : ∀ r, row = some r → (T ≤ r ∨ r = b ∨ r = b + 1 ∨ r = b + 2) ∧ ∃ c e, w.heap[r]? = some (.cells c e (0, 0)))
  (h0 : w0.heap.size ≤ b) (hbT : b ≤ T) (hT : T ≤ W0.heap.size) : G9 w0 W0 T b w' where
 bel := h.bel.grown hg h.bel.size (fun r e => by have := (hr r e).1; omega)
 oth := h.oth.trans (zjp hg fun r e => (hr r e).2)
 old := fun k k1 k2 k3 k4 => (hg.block k (by have := h.sz; omega) (fun e => by have := (hr k e.symm).1; omega)).trans (h.old k k1 k2 k3 k4)
 sz := Nat.le_trans h.sz hg.size
theorem nls {l : Array Bool} {i : Nat} (h : l.getD i true = false) : ¬ Ls l i := by
 unfold Ls
 rw [Array.getD_eq_getD_getElem?] at h ⊢
 cases hc : l[i]? with
 | none => simp
 | some b => rw [hc] at h; simp at h; simp [h]
theorem zt7 {l : Array Bool} {i : Nat} (hi : i < l.size) (h : ¬ Ls l i) : l.getD i true = false := by
 unfold Ls at h
 rw [Array.getD_eq_getD_getElem?, Array.getElem?_eq_getElem hi] at h ⊢
 simpa using h
theorem zvE : (List.range 18).all (fun i => ((ops9[i]?).map fun o => o.after.all fun e => decide (e.on < i)).getD false) = true := by kernel_rfl
theorem zrY {l : Array Bool} (hsz : l.size = 18) (hr : Region.ready .any ops9 l = []) : ∀ i, i < 18 → Ls l i := by
 intro i
 induction i using Nat.strongRecOn with
 | ind i ih =>
   intro hi
   apply Classical.byContradiction
   intro hn
   have ha := List.all_eq_true.1 zvE i (List.mem_range.2 hi)
   cases ho : ops9[i]? with
   | none => rw [ho] at ha; cases ha
   | some o =>
     rw [ho] at ha
     simp only [Option.map_some, Option.getD_some] at ha
     have : i ∈ Region.ready .any ops9 l := mem_ready.2 ⟨zt7 (by omega) hn, o, ho, fun e he _ => by
      have hlt : e.on < i := by
       have := Array.all_eq_true_iff_forall_mem.1 ha e he
       simpa using this
      exact ih e.on hlt (by omega)⟩
     rw [hr] at this
     cases this
structure P9 (w0 W0 : World) (T b : Nat) (us vs : List (List UInt8)) (bs : List Bool) (x : Prm) (w : World) : Prop where
 g : G9 w0 W0 T b w
 ex : ∃ u v c, Boxed w b 22 u ∧ Boxed w (b + 1) 22 v ∧ Boxed w (b + 2) 25 c ∧ Tri w T u v c (us ++ [x.name]) (vs ++ [x.other]) (bs ++ [x.has])
set_option maxHeartbeats 4000000 in
theorem ztp {F : Fence} {n : Nat} {Q : Exit → Act → World → Prop} (w0 W0 : World) (T b Bx : Nat) (u v c : Value) (us vs : List (List UInt8)) (bs : List Bool) (x : Prm) (a : Act)
  (k2 : a.eval (.tmp 2) = .pointer (some ⟨b, 0, none⟩)) (k3 : a.eval (.tmp 3) = .pointer (some ⟨b + 1, 0, none⟩)) (k4 : a.eval (.tmp 4) = .pointer (some ⟨b + 2, 0, none⟩)) (k9 : a.eval (.tmp 9) = .pointer (some ⟨Bx, 0, none⟩))
  (hta : 41 < a.tmps.size) (hu : Boxed W0 b 22 u) (hv : Boxed W0 (b + 1) 22 v) (hc : Boxed W0 (b + 2) 25 c) (htri : Tri W0 T u v c us vs bs)
  (hblk : W0.heap[Bx]? = some (.cells #[strV x.name, strV x.other, .bool x.has] 46 (0, 0))) (hnu : u.ownBlock ≠ some Bx) (hnv : v.ownBlock ≠ some Bx) (hnc : c.ownBlock ≠ some Bx) (hTB : T ≤ Bx) (hbT : b + 2 < T) (hT : T ≤ W0.heap.size)
  (hlu : us.length ≤ 1000) (hlv : vs.length ≤ 1000) (hlb : bs.length ≤ 1000) (h0 : w0.heap.size ≤ b) (hbel : Below w0.heap.size w0 W0)
  (hQ : ∀ a' W', P9 w0 W0 T b us vs bs x W' → Q .normal a' W') : Code.wpIn F n Tryz.prog reg9 Q a W0 := by
 obtain ⟨i0, hi0, hz0, hz1, hz2⟩ := info_parts zoe
 obtain ⟨j0, hj0, jz0, jz1, jz2⟩ : ∃ i, Tryz.prog.info? 4 = some i ∧ i.zero = some (.bool false) ∧ i.size = 1 ∧ i.bytes = 1 := by
  have h := zvD
  cases hc : Tryz.prog.info? 4 with
  | none => rw [hc] at h; simp at h
  | some i => rw [hc] at h; simp at h; exact ⟨i, rfl, h.1, h.2.1, h.2.2⟩
 refine wpIn_region_any (by kernel_rfl) ?_
 obtain ⟨c1, hc1⟩ : ∃ c1 : CP, c1 = ⟨0, 9, b, 22, u, strV x.name, us.map strV, .pointer (some ⟨Bx, 0, none⟩)⟩ := ⟨_, rfl⟩
 obtain ⟨c2, hc2⟩ : ∃ c2 : CP, c2 = ⟨1, 9, b + 1, 22, v, strV x.other, vs.map strV, .pointer (some ⟨Bx, 1, none⟩)⟩ := ⟨_, rfl⟩
 obtain ⟨c3, hc3⟩ : ∃ c3 : CP, c3 = ⟨2, 4, b + 2, 25, c, .bool x.has, bs.map .bool, .pointer (some ⟨Bx, 2, none⟩)⟩ := ⟨_, rfl⟩
 obtain ⟨O, hO⟩ : ∃ O : Obj, O = .cells #[strV x.name, strV x.other, .bool x.has] 46 (0, 0) := ⟨_, rfl⟩
 have N : Nums T Bx c1 c2 c3 := by
  subst hc1 hc2 hc3
  exact ⟨by simp, by simp, by simp, by simp, by simp, by simp, by simp; omega, by simp; omega, by simp; omega, by simp, by simp, by simp, hTB⟩
 have hl1 : c1.xs.length ≤ 1000 := by subst hc1; simpa using hlu
 have hl2 : c2.xs.length ≤ 1000 := by subst hc2; simpa using hlv
 have hl3 : c3.xs.length ≤ 1000 := by subst hc3; simpa using hlb
 refine zol (fun l a w => (a.eval (.tmp 2) = .pointer (some ⟨b, 0, none⟩) ∧ a.eval (.tmp 3) = .pointer (some ⟨b + 1, 0, none⟩) ∧ a.eval (.tmp 4) = .pointer (some ⟨b + 2, 0, none⟩) ∧ a.eval (.tmp 9) = .pointer (some ⟨Bx, 0, none⟩)) ∧ G9 w0 W0 T b w ∧
  ∃ U1 U2 U3, Cols T Bx O c1 c2 c3 U1 U2 U3 l a w) ?step ?fin _ _ _ _ ?start (by decide)
 case start =>
  refine ⟨⟨k2, k3, k4, k9⟩, ⟨hbel.drew, ⟨Nat.le_refl _, fun k o h _ => h⟩, fun k _ _ _ _ => rfl, Nat.le_refl _⟩, u, v, c, ?_⟩
  have hn : ∀ k, ¬ Ls (Array.replicate ops9.size false) k := by
   intro k h
   unfold Ls at h
   rw [Array.getD_eq_getD_getElem?] at h
   rcases Nat.lt_or_ge k ops9.size with hk | hk
   ·rw [Array.getElem?_replicate, if_pos hk] at h; cases h
   ·rw [Array.getElem?_replicate, if_neg (by omega)] at h; cases h
  have mk : ∀ (c : CP), World.ownsRow { W0 with drawn := W0.drawn + 1 } T c.e 1 c.u0 c.xs.length c.xs → Boxed { W0 with drawn := W0.drawn + 1 } c.B c.t c.u0 → Col T (Frs T u v c1.u0) (Array.replicate ops9.size false) a { W0 with drawn := W0.drawn + 1 } c c.u0 → True := fun _ _ _ _ => trivial
  have col : ∀ (Fr : Nat → Prop) (c : CP), World.ownsRow { W0 with drawn := W0.drawn + 1 } T c.e 1 c.u0 c.xs.length c.xs → Boxed { W0 with drawn := W0.drawn + 1 } c.B c.t c.u0 → Col T Fr (Array.replicate ops9.size false) a { W0 with drawn := W0.drawn + 1 } c c.u0 :=
   fun Fr c h1 h2 => ⟨fun q => absurd q (hn _), fun q => absurd q (hn _), fun q => absurd q (hn _), fun q => absurd q (hn _), fun q => absurd q (hn _), fun _ => ⟨rfl, h1⟩, fun q => absurd q (hn _), fun q => absurd q (hn _), by rw [zom (hn (15 + c.j))]; exact h2⟩
  have e1 : c1.u0 = u := by rw [hc1]
  have e2 : c2.u0 = v := by rw [hc2]
  have e3 : c3.u0 = c := by rw [hc3]
  have r1 := col (Frs T u v c) c1 (by rw [hc1]; show World.ownsRow W0 T 9 1 u (us.map strV).length (us.map strV); rw [List.length_map]; exact htri.ru) (by rw [hc1]; exact hu)
  have r2 := col (Frs T u v c) c2 (by rw [hc2]; show World.ownsRow W0 T 9 1 v (vs.map strV).length (vs.map strV); rw [List.length_map]; exact htri.rv) (by rw [hc2]; exact hv)
  have r3 := col (Frs T u v c) c3 (by rw [hc3]; show World.ownsRow W0 T 4 1 c (bs.map Value.bool).length (bs.map Value.bool); rw [List.length_map]; exact htri.rb) (by rw [hc3]; exact hc)
  rw [e1] at r1
  rw [e2] at r2
  rw [e3] at r3
  exact ⟨r1, r2, r3, htri.uv, htri.ub, htri.vb, ⟨hnu, hnv, hnc, hTB⟩, by rw [hO]; exact hblk, by simp; rfl, hta⟩
 case fin =>
  rintro l a w ⟨_, hG, U1, U2, U3, hC⟩ hr
  have hL := zrY hC.sz hr
  refine hQ a w ⟨hG, U1, U2, U3, ?_, ?_, ?_, ?_⟩
  ·have := hC.a1.box
   rw [zto (hL _ (by rw [hc1]; simp))] at this
   rw [hc1] at this; exact this
  ·have := hC.a2.box
   rw [zto (hL _ (by rw [hc2]; simp))] at this
   rw [hc2] at this; exact this
  ·have := hC.a3.box
   rw [zto (hL _ (by rw [hc3]; simp))] at this
   rw [hc3] at this; exact this
  ·have r1 := (hC.a1.h4 (hL _ (by rw [hc1]; simp))).2
   have r2 := (hC.a2.h4 (hL _ (by rw [hc2]; simp))).2
   have r3 := (hC.a3.h4 (hL _ (by rw [hc3]; simp))).2
   rw [hc1] at r1
   rw [hc2] at r2
   rw [hc3] at r3
   exact ⟨by simpa using r1, by simpa using r2, by simpa using r3, hC.p12, hC.p13, hC.p23⟩
 case step =>
  rintro l a w ⟨⟨k2, k3, k4, k9⟩, hG, U1, U2, U3, hC⟩ i hi
  obtain ⟨hnl, o, ho, haf⟩ := mem_ready.1 hi
  have hn := nls hnl
  have hi18 : i < 18 := by
   have := (Array.getElem?_eq_some_iff.1 ho).1
   exact this
  have cx : ∀ j y, #[strV x.name, strV x.other, .bool x.has][j]? = some y → w.cell? ⟨Bx, j, none⟩ = some y := by
   intro j y hj
   have hb := hC.blk
   rw [hO] at hb
   simp [World.cell?, hb, hj]
  have evk : ∀ (d : Nat) (v : Value), 27 ≤ d → ((a.put (some d) v).eval (.tmp 2) = .pointer (some ⟨b, 0, none⟩) ∧ (a.put (some d) v).eval (.tmp 3) = .pointer (some ⟨b + 1, 0, none⟩) ∧ (a.put (some d) v).eval (.tmp 4) = .pointer (some ⟨b + 2, 0, none⟩) ∧ (a.put (some d) v).eval (.tmp 9) = .pointer (some ⟨Bx, 0, none⟩)) :=
   fun d v hd => ⟨by rw [zaj a v (by omega)]; exact k2, by rw [zaj a v (by omega)]; exact k3, by rw [zaj a v (by omega)]; exact k4, by rw [zaj a v (by omega)]; exact k9⟩
  have hTw : T ≤ w.heap.size := by have := hG.sz; omega
  have hGa : ∀ o : Obj, G9 w0 W0 T b (w.alloc o) := fun o => hG.grown (World.grownBy_alloc w o none) (fun r e => (by cases e)) h0 (by omega) hT
  clear hi hnl
  match i, hi18, ho with
  | 0, _, ho =>
    cases ho
    have hbx := hC.a1.box
    rw [zom (fun q => hn (by have := hC.a1.h6 q; rw [hc1] at this; exact this))] at hbx
    have hK := ziW N hC
    rw [hc1] at hbx hK
    exact zaJ rfl rfl rfl (by intro c h; cases h) (zdE 22 (.inl rfl) 2 k2 hbx.cell _ rfl) ⟨evk _ _ (by omega), hG, U1, U2, U3, by rw [hc1]; exact hK⟩
  | 1, _, ho =>
    cases ho
    have hK := zle N hC
    rw [hc1] at hK
    exact zaJ rfl rfl rfl (by intro c h; cases h) (zrV 9 0 (by omega) k9 _ rfl) ⟨evk _ _ (by omega), hG, U1, U2, U3, by rw [hc1]; exact hK⟩
  | 2, _, ho =>
    cases ho
    have hd := hC.a1.h1 (by rw [hc1]; exact haf ⟨1, .data⟩ (Array.mem_of_getElem? (i := 0) rfl) rfl)
    have hK := zlf N hC
    rw [hc1] at hd hK
    exact zaJ rfl rfl rfl (by intro c h; cases h) (zdE 9 (.inr (.inr (.inl rfl))) 28 hd (cx 0 _ rfl) _ rfl) ⟨evk _ _ (by omega), hG, U1, U2, U3, by rw [hc1]; exact hK⟩
  | 3, _, ho =>
    cases ho
    have hd := hC.a1.h2 (by rw [hc1]; exact haf ⟨2, .data⟩ (Array.mem_of_getElem? (i := 0) rfl) rfl)
    have hK := zgQ N hC
    rw [hc1] at hd hK
    exact zaJ rfl rfl rfl (by intro c h; cases h) (zrW 22 9 (.inl ⟨rfl, rfl⟩) 29 hd (.inl ⟨_, rfl⟩) _ rfl) ⟨evk _ _ (by omega), hGa _, U1, U2, U3, by rw [hc1]; exact hK⟩
  | 4, _, ho =>
    cases ho
    have l0 : Ls l (5 * c1.j) := by rw [hc1]; exact haf ⟨0, .data⟩ (Array.mem_of_getElem? (i := 0) rfl) rfl
    have l3 : Ls l (5 * c1.j + 3) := by rw [hc1]; exact haf ⟨3, .data⟩ (Array.mem_of_getElem? (i := 1) rfl) rfl
    have l4 : ¬ Ls l (5 * c1.j + 4) := by rw [hc1]; exact hn
    have hd := hC.a1.h0 l0
    obtain ⟨g, q1, q2, q3⟩ := hC.a1.h3 l3
    obtain ⟨hU, hrow⟩ := hC.a1.h5 l4
    have ls : ¬ Ls l (15 + c1.j) := fun q => l4 (hC.a1.h7 q)
    subst hU
    have hrow' := hrow
    rw [hc1] at hd q1 q2 hrow'
    obtain ⟨V, w', hrun, r1, r2, r3⟩ := zrX T 22 9 i0 (.string ⟨#[]⟩) 16 Tryz.underlying22 hi0 hz0 hz1 hz2 rfl (by decide) 27 30 hd q1 hrow' q2 rfl (by rw [hc1] at hl1; exact hl1) hTw (ops9[4]'(by decide)) rfl
    have hK := zlg (V := V) (w' := w') N hC l0 l4 ls (by rw [hc1]; exact r1) (by rw [hc1]; exact r2) (by rw [hc1]; exact r3)
    have hG' := hG.grown r2 (fun r e => ⟨.inl (hrow'.lt r e).1, by obtain ⟨c, hc⟩ := zbm hrow' e; exact ⟨_, _, hc⟩⟩) h0 (by omega) hT
    rw [hc1] at hK
    exact zaJ rfl rfl (zlh _ _ _ _ rfl) (by intro c h; cases h) hrun ⟨evk _ _ (by omega), hG', V, U2, U3, by rw [hc1]; exact hK⟩
  | 5, _, ho =>
    cases ho
    have hbx := hC.a2.box
    rw [zom (fun q => hn (by have := hC.a2.h6 q; rw [hc2] at this; exact this))] at hbx
    have hK := (ziW N.swap12 hC.swap12).swap12
    rw [hc2] at hbx hK
    exact zaJ rfl rfl rfl (by intro c h; cases h) (zdE 22 (.inl rfl) 3 k3 hbx.cell _ rfl) ⟨evk _ _ (by omega), hG, U1, U2, U3, by rw [hc2]; exact hK⟩
  | 6, _, ho =>
    cases ho
    have hK := (zle N.swap12 hC.swap12).swap12
    rw [hc2] at hK
    exact zaJ rfl rfl rfl (by intro c h; cases h) (zrV 9 1 (by omega) k9 _ rfl) ⟨evk _ _ (by omega), hG, U1, U2, U3, by rw [hc2]; exact hK⟩
  | 7, _, ho =>
    cases ho
    have hd := hC.a2.h1 (by rw [hc2]; exact haf ⟨6, .data⟩ (Array.mem_of_getElem? (i := 0) rfl) rfl)
    have hK := (zlf N.swap12 hC.swap12).swap12
    rw [hc2] at hd hK
    exact zaJ rfl rfl rfl (by intro c h; cases h) (zdE 9 (.inr (.inr (.inl rfl))) 33 hd (cx 1 _ rfl) _ rfl) ⟨evk _ _ (by omega), hG, U1, U2, U3, by rw [hc2]; exact hK⟩
  | 8, _, ho =>
    cases ho
    have hd := hC.a2.h2 (by rw [hc2]; exact haf ⟨7, .data⟩ (Array.mem_of_getElem? (i := 0) rfl) rfl)
    have hK := (zgQ N.swap12 hC.swap12).swap12
    rw [hc2] at hd hK
    exact zaJ rfl rfl rfl (by intro c h; cases h) (zrW 22 9 (.inl ⟨rfl, rfl⟩) 34 hd (.inl ⟨_, rfl⟩) _ rfl) ⟨evk _ _ (by omega), hGa _, U1, U2, U3, by rw [hc2]; exact hK⟩
  | 9, _, ho =>
    cases ho
    have l0 : Ls l (5 * c2.j) := by rw [hc2]; exact haf ⟨5, .data⟩ (Array.mem_of_getElem? (i := 0) rfl) rfl
    have l3 : Ls l (5 * c2.j + 3) := by rw [hc2]; exact haf ⟨8, .data⟩ (Array.mem_of_getElem? (i := 1) rfl) rfl
    have l4 : ¬ Ls l (5 * c2.j + 4) := by rw [hc2]; exact hn
    have hd := hC.a2.h0 l0
    obtain ⟨g, q1, q2, q3⟩ := hC.a2.h3 l3
    obtain ⟨hU, hrow⟩ := hC.a2.h5 l4
    have ls : ¬ Ls l (15 + c2.j) := fun q => l4 (hC.a2.h7 q)
    subst hU
    have hrow' := hrow
    rw [hc2] at hd q1 q2 hrow'
    obtain ⟨V, w', hrun, r1, r2, r3⟩ := zrX T 22 9 i0 (.string ⟨#[]⟩) 16 Tryz.underlying22 hi0 hz0 hz1 hz2 rfl (by decide) 32 35 hd q1 hrow' q2 rfl (by rw [hc2] at hl2; exact hl2) hTw (ops9[9]'(by decide)) rfl
    have hK := (zlg (V := V) (w' := w') N.swap12 hC.swap12 l0 l4 ls (by rw [hc2]; exact r1) (by rw [hc2]; exact r2) (by rw [hc2]; exact r3)).swap12
    have hG' := hG.grown r2 (fun r e => ⟨.inl (hrow'.lt r e).1, by obtain ⟨c, hc⟩ := zbm hrow' e; exact ⟨_, _, hc⟩⟩) h0 (by omega) hT
    rw [hc2] at hK
    exact zaJ rfl rfl (zlh _ _ _ _ rfl) (by intro c h; cases h) hrun ⟨evk _ _ (by omega), hG', U1, V, U3, by rw [hc2]; exact hK⟩
  | 10, _, ho =>
    cases ho
    have hbx := hC.a3.box
    rw [zom (fun q => hn (by have := hC.a3.h6 q; rw [hc3] at this; exact this))] at hbx
    have hK := (ziW N.swap13 hC.swap13).swap13
    rw [hc3] at hbx hK
    exact zaJ rfl rfl rfl (by intro c h; cases h) (zdE 25 (.inr (.inl rfl)) 4 k4 hbx.cell _ rfl) ⟨evk _ _ (by omega), hG, U1, U2, U3, by rw [hc3]; exact hK⟩
  | 11, _, ho =>
    cases ho
    have hK := (zle N.swap13 hC.swap13).swap13
    rw [hc3] at hK
    exact zaJ rfl rfl rfl (by intro c h; cases h) (zrV 9 2 (by omega) k9 _ rfl) ⟨evk _ _ (by omega), hG, U1, U2, U3, by rw [hc3]; exact hK⟩
  | 12, _, ho =>
    cases ho
    have hd := hC.a3.h1 (by rw [hc3]; exact haf ⟨11, .data⟩ (Array.mem_of_getElem? (i := 0) rfl) rfl)
    have hK := (zlf N.swap13 hC.swap13).swap13
    rw [hc3] at hd hK
    exact zaJ rfl rfl rfl (by intro c h; cases h) (zdE 4 (.inr (.inr (.inr rfl))) 38 hd (cx 2 _ rfl) _ rfl) ⟨evk _ _ (by omega), hG, U1, U2, U3, by rw [hc3]; exact hK⟩
  | 13, _, ho =>
    cases ho
    have hd := hC.a3.h2 (by rw [hc3]; exact haf ⟨12, .data⟩ (Array.mem_of_getElem? (i := 0) rfl) rfl)
    have hK := (zgQ N.swap13 hC.swap13).swap13
    rw [hc3] at hd hK
    exact zaJ rfl rfl rfl (by intro c h; cases h) (zrW 25 4 (.inr ⟨rfl, rfl⟩) 39 hd (.inr ⟨_, rfl⟩) _ rfl) ⟨evk _ _ (by omega), hGa _, U1, U2, U3, by rw [hc3]; exact hK⟩
  | 14, _, ho =>
    cases ho
    have l0 : Ls l (5 * c3.j) := by rw [hc3]; exact haf ⟨10, .data⟩ (Array.mem_of_getElem? (i := 0) rfl) rfl
    have l3 : Ls l (5 * c3.j + 3) := by rw [hc3]; exact haf ⟨13, .data⟩ (Array.mem_of_getElem? (i := 1) rfl) rfl
    have l4 : ¬ Ls l (5 * c3.j + 4) := by rw [hc3]; exact hn
    have hd := hC.a3.h0 l0
    obtain ⟨g, q1, q2, q3⟩ := hC.a3.h3 l3
    obtain ⟨hU, hrow⟩ := hC.a3.h5 l4
    have ls : ¬ Ls l (15 + c3.j) := fun q => l4 (hC.a3.h7 q)
    subst hU
    have hrow' := hrow
    rw [hc3] at hd q1 q2 hrow'
    obtain ⟨V, w', hrun, r1, r2, r3⟩ := zrX T 25 4 j0 (.bool false) 1 Tryz.underlying25 hj0 jz0 jz1 jz2 rfl (by decide) 37 40 hd q1 hrow' q2 rfl (by rw [hc3] at hl3; exact hl3) hTw (ops9[14]'(by decide)) rfl
    have hK := (zlg (V := V) (w' := w') N.swap13 hC.swap13 l0 l4 ls (by rw [hc3]; exact r1) (by rw [hc3]; exact r2) (by rw [hc3]; exact r3)).swap13
    have hG' := hG.grown r2 (fun r e => ⟨.inl (hrow'.lt r e).1, by obtain ⟨c, hc⟩ := zbm hrow' e; exact ⟨_, _, hc⟩⟩) h0 (by omega) hT
    rw [hc3] at hK
    exact zaJ rfl rfl (zlh _ _ _ _ rfl) (by intro c h; cases h) hrun ⟨evk _ _ (by omega), hG', U1, U2, V, by rw [hc3]; exact hK⟩
  | 15, _, ho =>
    cases ho
    have l4 : Ls l (5 * c1.j + 4) := by rw [hc1]; exact haf ⟨4, .data⟩ (Array.mem_of_getElem? (i := 0) rfl) rfl
    have l0 : Ls l (5 * c1.j) := by rw [hc1]; exact haf ⟨0, .phase⟩ (Array.mem_of_getElem? (i := 2) rfl) rfl
    have ls : ¬ Ls l (15 + c1.j) := by rw [hc1]; exact hn
    obtain ⟨q1, q2⟩ := hC.a1.h4 l4
    have hbx := hC.a1.box
    rw [zom ls] at hbx
    have hK := zgR N hC l0 l4 ls
    have hvf := zan q2
    rw [hc1] at q1 hbx hK
    exact zeD rfl rfl rfl (by intro c h; cases h) (zkb 22 (.inl rfl) 2 31 k2 q1 hbx (by obtain ⟨a, c, h⟩ := hvf; exact ⟨a, _, c, h⟩) _ rfl) ⟨⟨k2, k3, k4, k9⟩, hG.grown (grownBy_setCell' w _ _) (fun r e => by cases e; exact ⟨by omega, _, _, hbx⟩) h0 (by omega) hT, U1, U2, U3, by rw [hc1]; exact hK⟩
  | 16, _, ho =>
    cases ho
    have l4 : Ls l (5 * c2.j + 4) := by rw [hc2]; exact haf ⟨9, .data⟩ (Array.mem_of_getElem? (i := 0) rfl) rfl
    have l0 : Ls l (5 * c2.j) := by rw [hc2]; exact haf ⟨5, .phase⟩ (Array.mem_of_getElem? (i := 7) rfl) rfl
    have ls : ¬ Ls l (15 + c2.j) := by rw [hc2]; exact hn
    obtain ⟨q1, q2⟩ := hC.a2.h4 l4
    have hbx := hC.a2.box
    rw [zom ls] at hbx
    have hK := (zgR N.swap12 hC.swap12 l0 l4 ls).swap12
    have hvf := zan q2
    rw [hc2] at q1 hbx hK
    exact zeD rfl rfl rfl (by intro c h; cases h) (zkb 22 (.inl rfl) 3 36 k3 q1 hbx (by obtain ⟨a, c, h⟩ := hvf; exact ⟨a, _, c, h⟩) _ rfl) ⟨⟨k2, k3, k4, k9⟩, hG.grown (grownBy_setCell' w _ _) (fun r e => by cases e; exact ⟨by omega, _, _, hbx⟩) h0 (by omega) hT, U1, U2, U3, by rw [hc2]; exact hK⟩
  | 17, _, ho =>
    cases ho
    have l4 : Ls l (5 * c3.j + 4) := by rw [hc3]; exact haf ⟨14, .data⟩ (Array.mem_of_getElem? (i := 0) rfl) rfl
    have l0 : Ls l (5 * c3.j) := by rw [hc3]; exact haf ⟨10, .phase⟩ (Array.mem_of_getElem? (i := 12) rfl) rfl
    have ls : ¬ Ls l (15 + c3.j) := by rw [hc3]; exact hn
    obtain ⟨q1, q2⟩ := hC.a3.h4 l4
    have hbx := hC.a3.box
    rw [zom ls] at hbx
    have hK := (zgR N.swap13 hC.swap13 l0 l4 ls).swap13
    have hvf := zan q2
    rw [hc3] at q1 hbx hK
    exact zeD rfl rfl rfl (by intro c h; cases h) (zkb 25 (.inr rfl) 4 41 k4 q1 hbx (by obtain ⟨a, c, h⟩ := hvf; exact ⟨a, _, c, h⟩) _ rfl) ⟨⟨k2, k3, k4, k9⟩, hG.grown (grownBy_setCell' w _ _) (fun r e => by cases e; exact ⟨by omega, _, _, hbx⟩) h0 (by omega) hT, U1, U2, U3, by rw [hc3]; exact hK⟩
  | _ + 18, h, _ => exact absurd h (by omega)
end Go.Proofs.YtppjodfehhlniaaGreatDoor
end
section
namespace Go.Proofs.YtppjodfehhlniaaGreatDoor
def zdF : List Prm → List (Prm × Bool)
 | [] => []
 | [p] => [(p, p.name == [97, 114, 103, 115] && !p.has)]
 | p :: q :: r => (p, false) :: zdF (q :: r)
def bnd : List (Prm × Bool) → List (List UInt8) → Except Nat (List (List UInt8))
 | [], ws => if ws.isEmpty then .ok [] else .error 4
 | (p, true) :: r, ws => match bnd r [] with
   | .error e => .error e
   | .ok q => .ok (zbY ws :: q)
 | (p, false) :: r, w :: ws => match bnd r ws with
   | .error e => .error e
   | .ok q => .ok (w :: q)
 | (p, false) :: r, [] => if p.has = true then (match bnd r [] with
   | .error e => .error e
   | .ok q => .ok (p.other :: q)) else .error 8
theorem ziY : ∀ l : List Prm, (zdF l).map (·.1) = l
 | [] => rfl
 | [p] => rfl
 | p :: q :: r => by rw [zdF, List.map_cons, ziY (q :: r)]
theorem zdj (l : List Prm) : (zdF l).length = l.length := by
 have := congrArg List.length (ziY l)
 simpa using this
theorem ziZ (p q : Prm) (r : List Prm) : restOf (p :: q :: r) = restOf (q :: r) := by
 unfold restOf; simp [List.getLast?_cons_cons]
theorem zli (p : Prm) (r : List Prm) (h : p.has = true) : gets (p :: r) [] = (match gets r [] with
  | .error e => .error e
  | .ok q => .ok (p.other :: q.1, q.2)) := by rw [gets, if_pos h]; cases gets r [] <;> rfl
theorem zgf (p : Prm) (r : List Prm) (h : ¬ p.has = true) : gets (p :: r) [] = .error 8 := by rw [gets, if_neg h]
theorem zi0 (p : Prm) (r : List Prm) (w : List UInt8) (ws : List (List UInt8)) : gets (p :: r) (w :: ws) = (match gets r ws with
  | .error e => .error e
  | .ok q => .ok (w :: q.1, q.2)) := by rw [gets]; cases gets r ws <;> rfl
theorem zlj : ∀ (l : List Prm) (ws : List (List UInt8)), bnd (zdF l) ws = zbS l ws
 | [], ws => by unfold zdF bnd zbS; simp [restOf, gets]
 | [p], ws => by
   unfold zdF zbS
   have hr : restOf [p] = (p.name == [97, 114, 103, 115] && !p.has) := rfl
   rw [hr]
   cases hb : (p.name == [97, 114, 103, 115] && !p.has) with
   | true => simp [bnd, gets]
   | false =>
     cases ws with
     | nil =>
       by_cases h : p.has = true
       ·simp [bnd, gets, h]
       ·simp [bnd, gets, h]
     | cons w ws =>
       cases ws <;> simp [bnd, gets]
 | p :: q :: r, ws => by
   have ih := zlj (q :: r)
   have hd : (p :: q :: r).dropLast = p :: (q :: r).dropLast := rfl
   rw [zdF]
   unfold zbS at ih ⊢
   rw [ziZ, hd]
   cases ws with
   | nil =>
     rw [bnd]
     by_cases h : p.has = true
     ·rw [if_pos h, ih]
      by_cases hr : restOf (q :: r) = true
      ·rw [if_pos hr, if_pos hr, zli p _ h]
       cases gets (q :: r).dropLast [] <;> rfl
      ·rw [if_neg hr, if_neg hr, zli p _ h]
       cases hg : gets (q :: r) [] with
       | error e => rfl
       | ok x => dsimp only; by_cases hx : x.2.isEmpty = true <;> simp [hx]
     ·rw [if_neg h]
      by_cases hr : restOf (q :: r) = true
      ·rw [if_pos hr, zgf p _ h]
      ·rw [if_neg hr, zgf p _ h]
   | cons w ws =>
     rw [bnd, ih]
     by_cases hr : restOf (q :: r) = true
     ·rw [if_pos hr, if_pos hr, zi0 p]
      cases gets (q :: r).dropLast ws <;> rfl
     ·rw [if_neg hr, if_neg hr, zi0 p]
      cases hg : gets (q :: r) ws with
      | error e => rfl
      | ok x => dsimp only; by_cases hx : x.2.isEmpty = true <;> simp [hx]
def zi1 (pre : List (List UInt8)) : Except Nat (List (List UInt8)) → Except Nat (List (List UInt8))
 | .error e => .error e
 | .ok l => .ok (pre ++ l)
theorem zrZ (x : Except Nat (List (List UInt8))) : zi1 [] x = x := by cases x <;> rfl
theorem zfB (a b : List (List UInt8)) (x : Except Nat (List (List UInt8))) : zi1 a (zi1 b x) = zi1 (a ++ b) x := by
 cases x
 ·rfl
 ·simp [zi1]
theorem ztq {p : Prm} {r : List (Prm × Bool)} {ws : List (List UInt8)} : bnd ((p, true) :: r) ws = zi1 [zbY ws] (bnd r []) := by
 rw [bnd]; cases bnd r [] <;> rfl
theorem ztr {p : Prm} {r : List (Prm × Bool)} {w : List UInt8} {ws : List (List UInt8)} : bnd ((p, false) :: r) (w :: ws) = zi1 [w] (bnd r ws) := by
 rw [bnd]; cases bnd r ws <;> rfl
theorem zr0 {p : Prm} {r : List (Prm × Bool)} (h : p.has = true) : bnd ((p, false) :: r) [] = zi1 [p.other] (bnd r []) := by
 rw [bnd, if_pos h]; cases bnd r [] <;> rfl
theorem zts {p : Prm} {r : List (Prm × Bool)} (h : p.has = false) : bnd ((p, false) :: r) [] = .error 8 := by
 rw [bnd, h]; rfl
end Go.Proofs.YtppjodfehhlniaaGreatDoor
end
section
namespace Go.Proofs.YtppjodfehhlniaaGreatDoor
theorem zt8 (l : List UInt8) : (une l).1.length ≤ (une l).2 := by
 unfold une
 cases l with
 | nil => simp
 | cons a r =>
   simp only
   split
   ·simp
   ·cases r with
    | nil => simp
    | cons c t =>
      simp only
      unfold une1 une2
      split
      ·simp
      ·split
       ·simp
       ·split <;> split <;> simp <;> omega
theorem zuW : ∀ (n : Nat) (l : List UInt8), l.length ≤ n → (bare l).1.length ≤ (bare l).2 := by
 intro n
 induction n with
 | zero => intro l h; have : l = [] := List.eq_nil_of_length_eq_zero (by omega); subst this; simp [bare]
 | succ n ih =>
   intro l h
   unfold bare
   cases l with
   | nil => simp
   | cons c r =>
     simp only
     split
     ·simp
     ·split
      ·rename_i hc; subst hc
       have h1 := zcg r
       have h2 := zt8 (92 :: r)
       have h3 := ih ((92 :: r).drop (une (92 :: r)).2) (by simp at h ⊢; omega)
       simp at h3 h2 ⊢; omega
      ·have h3 := ih r (by simpa using h)
       simp; omega
theorem zvF : ∀ (n : Nat) (l : List UInt8), l.length ≤ n → ∀ p, quo l = some p → p.1.length ≤ p.2 := by
 intro n
 induction n with
 | zero => intro l h p hp; have : l = [] := List.eq_nil_of_length_eq_zero (by omega); subst this; simp [quo] at hp
 | succ n ih =>
   intro l h p hp
   unfold quo at hp
   cases l with
   | nil => simp at hp
   | cons c r =>
     simp only at hp
     split at hp
     ·cases hp; simp
     ·split at hp
      ·rename_i hc; subst hc
       have h1 := zcg r
       have h2 := zt8 (92 :: r)
       obtain ⟨q, hq, rfl⟩ := Option.map_eq_some_iff.1 hp
       have h3 := ih _ (by simp at h ⊢; omega) q hq
       simp at h3 h2 ⊢; omega
      ·obtain ⟨q, hq, rfl⟩ := Option.map_eq_some_iff.1 hp
       have h3 := ih r (by simpa using h) q hq
       simp; omega
theorem zvG {l : List UInt8} {p : List UInt8 × Nat} (h : elm l = some p) : p.1.length ≤ p.2 := by
 unfold elm at h
 cases l with
 | nil => cases h
 | cons c r =>
   simp only at h
   split at h
   ·obtain ⟨k, hk, rfl⟩ := Option.map_eq_some_iff.1 h
    simp; omega
   ·split at h
    ·obtain ⟨q, hq, rfl⟩ := Option.map_eq_some_iff.1 h
     have := zvF _ r (Nat.le_refl _) q hq
     simp; omega
    ·cases h; exact zuW _ _ (Nat.le_refl _)
theorem zr1 : ∀ (n : Nat) (l : List UInt8), l.length ≤ n → ∀ xs, spl l = some xs → xs.length ≤ l.length := by
 intro n
 induction n with
 | zero => intro l h xs hx; have : l = [] := List.eq_nil_of_length_eq_zero (by omega); subst this; simp [spl] at hx; subst hx; simp
 | succ n ih =>
   intro l h xs hx
   cases l with
   | nil => simp [spl] at hx; subst hx; simp
   | cons c r =>
     by_cases hw : wh c = true
     ·rw [zf2 hw] at hx
      have := ih r (by simpa using h) xs hx
      simp; omega
     ·have hw2 : wh c = false := by simpa using hw
      cases he : elm (c :: r) with
      | none => rw [zhB hw2 he] at hx; cases hx
      | some p =>
        rw [zf3 hw2 he] at hx
        have hp := zfy hw2 he
        by_cases hk : zez ((c :: r).drop p.2) = true
        ·rw [if_pos hk] at hx
         cases hs : spl ((c :: r).drop p.2) with
         | none => rw [hs] at hx; cases hx
         | some ys =>
           rw [hs] at hx
           cases hx
           have := ih ((c :: r).drop p.2) (by simp only [List.length_drop, List.length_cons] at h ⊢; omega) ys hs
           simp only [List.length_drop, List.length_cons] at this ⊢
           omega
        ·rw [if_neg hk] at hx; cases hx
theorem zph : ∀ (n : Nat) (l : List UInt8), l.length ≤ n → ∀ xs, spl l = some xs → ∀ x ∈ xs, x.length ≤ l.length := by
 intro n
 induction n with
 | zero => intro l h xs hx; have : l = [] := List.eq_nil_of_length_eq_zero (by omega); subst this; simp [spl] at hx; subst hx; simp
 | succ n ih =>
   intro l h xs hx x hm
   cases l with
   | nil => simp [spl] at hx; subst hx; cases hm
   | cons c r =>
     by_cases hw : wh c = true
     ·rw [zf2 hw] at hx
      have := ih r (by simpa using h) xs hx x hm
      simp; omega
     ·have hw2 : wh c = false := by simpa using hw
      cases he : elm (c :: r) with
      | none => rw [zhB hw2 he] at hx; cases hx
      | some p =>
        rw [zf3 hw2 he] at hx
        have hp := zfy hw2 he
        have h1 := zn1 he
        have h2 := zvG he
        by_cases hk : zez ((c :: r).drop p.2) = true
        ·rw [if_pos hk] at hx
         cases hs : spl ((c :: r).drop p.2) with
         | none => rw [hs] at hx; cases hx
         | some ys =>
           rw [hs] at hx
           cases hx
           rcases List.mem_cons.1 hm with rfl | hm
           ·omega
           ·have := ih ((c :: r).drop p.2) (by simp only [List.length_drop, List.length_cons] at h ⊢; omega) ys hs x hm
            simp only [List.length_drop, List.length_cons] at this ⊢
            omega
        ·rw [if_neg hk] at hx; cases hx
end Go.Proofs.YtppjodfehhlniaaGreatDoor
end
