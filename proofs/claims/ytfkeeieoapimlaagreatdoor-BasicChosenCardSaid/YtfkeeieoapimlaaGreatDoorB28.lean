/-
  The runner: add. Conditions: none.
-/
import Derived.Test.YtfkeeieoapimlaaGreatDoorB23ToBJ0
set_option linter.unusedVariables false
set_option linter.unusedSimpArgs false
set_option linter.unusedSectionVars false
set_option linter.deprecated false
section
namespace Go.Proofs.YtfkeeieoapimlaaGreatDoor
open Go.ChangeShapes Go.WideShapes Go.ChangeAt Go.RowKit
set_option maxRecDepth 100000
theorem ownsRow_set1 {W : World} {base e h c : Nat} {x y : Value} (hr : W.ownsRow base e 1 (.slice (some ⟨h, 0, none⟩) 1 c) 1 [x]) : (W.setCell ⟨h, 0, none⟩ y).ownsRow base e 1 (.slice (some ⟨h, 0, none⟩) 1 c) 1 [y] := by
 rcases hr.2 with ⟨h, _⟩ | ⟨g', cap, cur, h0, h1, h2, h3, h4, h5, h6⟩
 ·cases h
 ·cases h0
  refine ⟨rfl, .inr ⟨h, c, cur.setIfInBounds 0 y, rfl, h1, heap_setCell_same W h 0 _ _ y h2, h3, h4, by simpa using h5, ?_⟩⟩
  obtain ⟨l⟩ := cur
  cases l with
  | nil => simp at h5; omega
  | cons a r => simp
theorem RB.added {w0 : World} {base R h c : Nat} {xv : Value} {at_ : Int} {l : List (List UInt8)} {W W3 : World} {vt u u' : Value} {wd : List UInt8} (hI : RB w0 base R xv at_ [] l W vt (.slice (some ⟨h, 0, none⟩) 1 c) u)
  (ho : W3.ownsRow base 9 1 u' (l.length + 1) (l.map strV ++ [.string (bt wd)])) (hg : W.grownBy W3 u.ownBlock) (hn : SameOrNew W u u') :
  RB w0 base R xv at_ [] (l ++ [wd]) (W3.setCell ⟨h, 0, none⟩ u') vt (.slice (some ⟨h, 0, none⟩) 1 c) u' ∧ KeepU W (W3.setCell ⟨h, 0, none⟩ u') := by
 have far : ∀ k, k ≠ h → (W3.setCell ⟨h, 0, none⟩ u').heap[k]? = W3.heap[k]? := fun k hk => heap_setCell_other W3 ⟨h, 0, none⟩ k u' (by exact hk)
 obtain ⟨ch, hch⟩ := zal hI.rw_ (k := h) rfl
 have hne : ∀ (k : Nat) (cs : Array Value) (U : Nat), u.ownBlock ≠ some k → W.heap[k]? = some (.cells cs U (0, 0)) → W3.heap[k]? = some (.cells cs U (0, 0)) := fun k cs U hk1 hk =>
  (hg.block k (Array.getElem?_eq_some_iff.1 hk).1 fun e => hk1 e.symm).trans hk
 have huT : ∀ (k : Nat) (cs : Array Value) (U : Nat), U ≠ 9 → W.heap[k]? = some (.cells cs U (0, 0)) → u.ownBlock ≠ some k := fun k cs U hU hk e => by
  obtain ⟨c', hc'⟩ := zal hI.ru e
  rw [hk] at hc'; cases hc'; exact hU rfl
 have kR := hne _ _ _ (huT _ _ _ (by decide) hI.hR) hI.hR
 have kh := hne _ _ _ (huT _ _ _ (by decide) hch) hch
 have hRh : R ≠ h := fun e => by subst e; rw [hI.hR] at hch; cases hch
 have hb3 : Below base w0 W3 := hI.below.grown hg hI.hb fun k hk => (hI.ru.lt k hk).1
 have hbh : base ≤ h := (hI.rw_.lt h rfl).1
 have hvt : ∀ k, vt.ownBlock = some k → u.ownBlock ≠ some k ∧ k ≠ h ∧ k < W.heap.size := fun k hk => ⟨hI.sep k hk, fun e => (by
  subst e
  obtain ⟨c', hc'⟩ := zal hI.rt hk
  rw [hch] at hc'; cases hc'), (hI.rt.lt k hk).2⟩
 have hrw3 : W3.ownsRow base 24 1 (.slice (some ⟨h, 0, none⟩) 1 c) 1 [u] := zak hI.rw_ fun k hk => by
  obtain ⟨c', hc'⟩ := zal hI.rw_ hk
  exact (hne _ _ _ (huT _ _ _ (by decide) hc') hc').trans hc'.symm
 refine ⟨⟨(far R hRh).trans kR, zak hI.rt fun k hk => ?_, ownsRow_set1 hrw3, ?_, fun k hk e => ?_, hb3.setCell hbh _, by have := hg.size; have := hI.hb; simp; omega, hI.bR⟩, fun k cs U h1 h2 h3 hk => ?_⟩
 ·obtain ⟨a, b, d⟩ := hvt k hk
  rw [far k b]
  exact hg.block k d fun e => a e.symm
 ·have ho' : W3.ownsRow base 9 1 u' (l ++ [wd]).length ((l ++ [wd]).map strV) := by
   rw [List.length_append, List.map_append]; exact ho
  refine zak ho' fun k hk => far k fun e => ?_
  subst e
  obtain ⟨c', hc'⟩ := zal ho' hk
  rw [kh] at hc'; cases hc'
 ·obtain ⟨a, b, d⟩ := hvt k hk
  rcases hn with hn | hn
  ·exact a (hn ▸ e)
  ·have := hn k e; omega
 ·have e1 : k ≠ h := fun e => by subst e; rw [hch] at hk; cases hk; exact h3 rfl
  rw [far k e1]
  exact hne _ _ _ (huT _ _ _ h2 hk) hk
theorem RB.uNe {w0 : World} {base R h c : Nat} {xv : Value} {at_ : Int} {ts : List ByteArray} {l : List (List UInt8)} {W : World} {vt u : Value} (hI : RB w0 base R xv at_ ts l W vt (.slice (some ⟨h, 0, none⟩) 1 c) u) : ∀ k, k = R ∨ k = h → u.ownBlock ≠ some k := by
 intro k hk e
 obtain ⟨c', hc'⟩ := zal hI.ru e
 obtain ⟨ch, hch⟩ := zal hI.rw_ (k := h) rfl
 rcases hk with rfl | rfl
 ·rw [hI.hR] at hc'; cases hc'
 ·rw [hch] at hc'; cases hc'
theorem step_append_tagT {P : Program} {ops : Array Oper} {o : Oper} {T : Array Value} {D : List Deferred} {w : World} {K : Act → World → Prop} {Q : Exit → Act → World → Prop} {E : Prop}
    (hg : o.guard = none) (s x : Operand) (t : TypeId) (hop : o.op = Op.call { callee := Callee.builtin Builtin.append, args := #[s, x], argTypes := #[t, t] })
    (base : Nat) (e : TypeId) (i : TypeInfo) (z : Value) (size bytes : Nat) (ht : P.underlying t = some (.slice e)) (hi : P.info? e = some i) (hz : i.zero = some z)
    (hsize : i.size = size) (hby : i.bytes = bytes) (hzs : z.cells.size = size) (hsz : 0 < size)
    (v : Value) (n : Nat) (xs : List Value) (hs : (Act.mk T D).eval s = v) (hown : w.ownsRow base e size v n xs)
    (ad : Addr) (m c : Nat) (news : List Value) (hx : (Act.mk T D).eval x = .slice (some ad) m c) (hl : news.length = m * size) (hnews : ∀ j u, news[j]? = some u → w.cell? (ad.add j) = some u) (h1 : ∀ u ∈ news, u.oneCell' = true)
    (h63 : n + m ≤ maxLen) (hbytes : (n + m) * bytes ≤ 140737488355328) (hbase : base ≤ w.heap.size)
    (hK : ∀ v' w', w'.ownsRow base e size v' (n + m) (xs ++ news) → w.grownBy w' v.ownBlock → SameOrNew w v v' → K ((Act.mk T D).put o.dst v') w') :
    if Region.wanted o (yielded ops T) = true then Oper.wp P o (Act.mk T D) w K Q else E := zbR hg s x t hop base e i z size bytes ht hi hz hsize hby hzs hsz v n xs hs hown ad m c news hx hl hnews h1 h63 hbytes hbase hK

set_option maxHeartbeats 20000000 in
theorem add143_any (w0 w : World) {base R : Nat} {xv : Value} {at_ : Int} {l : List (List UInt8)} (wd : List UInt8) (h : RBx w0 base R xv at_ [bt wd] l w) (hwd : wd.length ≤ 65536) (hl : l.length ≤ 100000) :
  Calls Tryz.prog 143 #[.pointer (some ⟨R, 0, none⟩), insV 6 ⟨#[]⟩] w fun e w' => e = .returned (okV ⟨#[]⟩) ∧ RBx w0 base R xv at_ [] (l ++ [wd]) w' ∧ KeepU w w' := by
 obtain ⟨i0, hi, hz0, hz1, hz2⟩ := info_parts info9
 obtain ⟨vt, vw, u, h⟩ := h
 obtain ⟨h0, hc, rfl⟩ := zam (n := 0) h.rw_
 obtain ⟨ua, uc, rfl⟩ := zbE h.ru
 obtain ⟨A, hA⟩ : ∃ A, (w.alloc (.cells #[.int .i64 6, .int .i64 0, .string ⟨#[]⟩] 144)).alloc (.cells #[.int .i64 0, .int .i64 0, .string ⟨#[]⟩] 31) = A := ⟨_, rfl⟩
 have hO := zfq w 6 ⟨#[]⟩ hA
 have hsz : (bt wd).size = wd.length := zgs wd
 have t2 : ¬ ((65536 : Int) < ((bt wd).size : Int)) := by omega
 have u0 : IntKind.i64.wrap 0 = 0 := rfl
 have HA := Lib.hid hA
 have HO := Lib.hid hO
 have HI := Lib.hid h
 have HSZ := Lib.hid hsz
 clear hA hO h hsz
 unfold insV
 go_enter Tryz.func143, Tryz.ntmps143
 go_wp2_with (go_at_call 200; rw [HA.out]; refine (pop_any w0 A (HI.out.past HO.out.below)).mono ?_; rintro e w1 ⟨g, c, rfl, hg, hI1, hK1⟩; dsimp only; have hT1 := hK1 _ _ _ (by decide) (by decide) (by decide) HO.out.ot; have c3 := (show w1.cell? ⟨R, 3, none⟩ = some (.slice (some ⟨h0, 0, none⟩) (0 + 1) hc) by rw [Lib.cell_of_heap hI1.hR]; rfl); have hx := hI1.rw_.cells (g := h0) rfl 0 _ rfl; have hx' : w1.cell? ⟨h0, 0, none⟩ = some (.slice ua l.length uc) := (by simpa [Addr.add] using hx); obtain ⟨ch, hch⟩ := zal hI1.rw_ (k := h0) rfl; have fx : w1.frozen? ⟨h0, 0, none⟩ = false := Lib.frozen_of_heap hch 0; have lR := (Array.getElem?_eq_some_iff.1 hI1.hR).1; have lh := (Array.getElem?_eq_some_iff.1 hch).1; have nRh : R ≠ h0 := (fun e => by subst e; rw [hI1.hR] at hch; cases hch); have nhR : h0 ≠ R := (fun e => nRh e.symm); have huN := hI1.uNe; have HUN := Lib.hid huN; have HI1 := Lib.hid hI1; have HK1 := Lib.hid ((KeepU.of HO.out.below).trans hK1); have HT1 := Lib.hid hT1; clear hI1 hK1 hT1 hx hch huN)
 have d3 : w1.drew.cell? ⟨R, 3, none⟩ = some (.slice (some ⟨h0, 0, none⟩) 1 hc) := c3
 have hlen : ¬ ((0 : Int) ≤ -1) := by omega
 go_region_law (((try simp only [Act.put, List.setIfInBounds_toArray, List.set_cons_zero, List.set_cons_succ]); refine step_append_tagT rfl (.tmp 32) (.tmp 34) 24 rfl base 9 i0 _ 1 16 Tryz.underlying24 hi hz0 hz1 hz2 rfl (by decide) (.slice ua l.length uc) l.length (l.map strV) rfl (by exact World.ownsRow.alloc (w := w1.drew) HI1.out.drew.ru _) ⟨w1.heap.size, 0, none⟩ 1 1 [.string (bt wd)] rfl rfl (by exact one_new w1.drew _ _) (by simp [Value.oneCell']) (by simp only [maxLen]; omega) (by omega) (by have := HI1.out.hb; simp; omega) ?_; intro v' w3 ho hg hn; obtain ⟨g3, cap3, rfl⟩ := zam ho; have hg4 := zdX (zb4 (w := w1.drew) hg); have hn4 : SameOrNew w1 _ _ := tag_past (w := w1.drew) hn; have q3 : w3.cell? ⟨R, 3, none⟩ = some (.slice (some ⟨h0, 0, none⟩) 1 hc) := za1 hg4 rfl c3 (HUN.out _ (.inl rfl)); have q4 := za1 hg4 rfl hx' (HUN.out _ (.inr rfl)); have z4 := zbt hg4 rfl hx' fx (HUN.out _ (.inr rfl)); have hF := HI1.out.added ho hg4 hn4; have HF := Lib.hid hF.1; have HKF := Lib.hid hF.2; have HG4 := Lib.hid hg4; clear ho hg hn hg4 hn4 hF))
 all_goals
  go_wp2_with (go_at_call 74; refine (ok_any _ _).mono ?_; rintro e w4 ⟨rfl, hb4⟩; unfold okV; dsimp only; have hTk := HKF.out _ _ _ (by decide) (by decide) (by decide) HT1.out; have hT := (hb4.block _ (Array.getElem?_eq_some_iff.1 hTk).1).trans hTk; have x0 := (show w4.cell? ⟨w.heap.size + 1, 0, none⟩ = some (.int .i64 0) by rw [Lib.cell_of_heap hT]; rfl); have x1 := (show w4.cell? ⟨w.heap.size + 1, 1, none⟩ = some (.int .i64 0) by rw [Lib.cell_of_heap hT]; rfl); have x2 := (show w4.cell? ⟨w.heap.size + 1, 2, none⟩ = some (.string ⟨#[]⟩) by rw [Lib.cell_of_heap hT]; rfl); have f0 : w4.frozen? ⟨w.heap.size + 1, 0, none⟩ = false := Lib.frozen_of_heap hT 0; have f1 : w4.frozen? ⟨w.heap.size + 1, 1, none⟩ = false := Lib.frozen_of_heap hT 1; have f2 : w4.frozen? ⟨w.heap.size + 1, 2, none⟩ = false := Lib.frozen_of_heap hT 2; have HI2 := Lib.hid (HF.out.past hb4); have HK2 := Lib.hid ((HK1.out.trans HKF.out).trans (KeepU.of hb4)); have HT2 := Lib.hid hT; clear hb4 hT hTk)
  have s0 := heap_setCell_same w4 (w.heap.size + 1) 0 _ _ (.int .i64 0) HT2.out
  have s1 := heap_setCell_same _ (w.heap.size + 1) 1 _ _ (.int .i64 0) s0
  have hs := HI.out.hb
  exact zbf (p := 4) rfl rfl (zc3 HT2.out) ⟨rfl, ⟨_, _, _, ((HI2.out.out HT2.out (by omega) 0 _).out s0 (by omega) 1 _).out s1 (by omega) 2 _⟩, ((HK2.out.set (Nat.le_succ _) _).set (Nat.le_succ _) _).set (Nat.le_succ _) _⟩
end Go.Proofs.YtfkeeieoapimlaaGreatDoor
end
