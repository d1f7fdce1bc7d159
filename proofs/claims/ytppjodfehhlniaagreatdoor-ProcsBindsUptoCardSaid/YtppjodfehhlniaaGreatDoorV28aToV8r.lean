/-
  The document's parameters in memory, and their marks; The program's iterator over parameters yields them; A row of texts whose length fits: its first . Conditions: none.
-/
import Derived.Test.YtppjodfehhlniaaGreatDoorV31sToUnx
import Derived.Test.YtppjodfehhlniaaGreatDoorUnaToVt3
import Derived.Test.YtppjodfehhlniaaGreatDoorV3ToV30a
import Derived.Test.YtppjodfehhlniaaGreatDoorWkToV2
import Derived.Test.YtppjodfehhlniaaGreatDoorV4ToV31r
set_option linter.unusedVariables false
set_option linter.unusedSimpArgs false
set_option linter.unusedSectionVars false
set_option linter.deprecated false
section
namespace Go.Proofs.YtppjodfehhlniaaGreatDoor
open Go.ChangeShapes Go.WideShapes Go.ChangeAt Go.RowKit
set_option maxRecDepth 100000
theorem zvH : (Tryz.prog.info? 76).map (fun i => (i.zero, i.size, i.bytes)) = some (some (.agg #[.string ⟨#[]⟩, .string ⟨#[]⟩, .bool false, .bool false]), 4, 40) := by kernel_rfl
theorem zmN : ∃ i, Tryz.prog.info? 76 = some i ∧ i.zero = some (.agg #[.string ⟨#[]⟩, .string ⟨#[]⟩, .bool false, .bool false]) ∧ i.size = 4 ∧ i.bytes = 40 := by
 have h := zvH
 cases hc : Tryz.prog.info? 76 with
 | none => rw [hc] at h; simp at h
 | some i => rw [hc] at h; simp at h; exact ⟨i, rfl, h.1, h.2.1, h.2.2⟩
def PO (w : World) (m : Nat) (v : Value) (l : List (Prm × Bool)) : Prop := w.ownsRow m 76 4 v l.length (l.flatMap zaw)
theorem zr2 : ∀ (l : List (Prm × Bool)) (i j : Nat) (p : Prm × Bool), l[i]? = some p → j < 4 → (l.flatMap zaw)[i * 4 + j]? = (zaw p)[j]?
 | [], i, j, p, h, _ => by simp at h
 | a :: l, 0, j, p, h, hj => by
   simp at h; subst h
   rw [List.flatMap_cons, List.getElem?_append_left (by simp [zaw]; omega)]
   simp
 | a :: l, i + 1, j, p, h, hj => by
   rw [List.flatMap_cons, List.getElem?_append_right (by simp [zaw]; omega)]
   have := zr2 l i j p (by simpa using h) hj
   rw [← this]
   congr 1
   simp [zaw]; omega
theorem PO.nil (w : World) (m : Nat) : PO w m (.slice none 0 0) [] := World.ownsRow_nil w m 76 4
theorem PO.row {w : World} {m : Nat} {v : Value} {l : List (Prm × Bool)} (h : PO w m v l) : PRow w v l := by
 rcases h.2 with ⟨hv, h0⟩ | ⟨g, cap, cur, rfl, h1, h2, h3⟩
 ·have hl := h.1
  rw [h0] at hl
  exact .inl ⟨by rw [hv], List.eq_nil_of_length_eq_zero (by simpa using h0)⟩
 ·refine .inr ⟨g, cap, rfl, fun i p hi => ?_⟩
  have hc := h.cells (g := g) rfl
  have key : ∀ j, j < 4 → ∀ u, (zaw p)[j]? = some u → w.cell? ⟨g, i * 4 + j, none⟩ = some u := by
   intro j hj u hu
   have := hc (i * 4 + j) u (by rw [zr2 l i j p hi hj]; exact hu)
   have e : (⟨g, 0, none⟩ : Addr).add (i * 4 + j) = ⟨g, i * 4 + j, none⟩ := by
    unfold Addr.add; split
    ·rename_i h; rw [h]
    ·simp
   rw [e] at this; exact this
  exact ⟨key 0 (by omega) _ rfl, key 1 (by omega) _ rfl, key 2 (by omega) _ rfl, key 3 (by omega) _ rfl⟩
theorem PO.later {w w' : World} {m : Nat} {v : Value} {l : List (Prm × Bool)} (h : PO w m v l) (hb : Below w.heap.size w w') : PO w' m v l := za8 h hb
theorem PO.snoc {w : World} {m : Nat} {v : Value} {l : List (Prm × Bool)} {x : Prm × Bool} (h : w.ownsRow m 76 4 v (l.length + 1) (l.flatMap zaw ++ zaw x)) : PO w m v (l ++ [x]) := by
 unfold PO; simpa using h
theorem zdG (w : World) (cs : List Value) (e : TypeId) : ∀ j u, cs[j]? = some u → (w.alloc (.cells cs.toArray e)).cell? ((⟨w.heap.size, 0, none⟩ : Addr).add j) = some u := by
 intro j u h
 have hA : (⟨w.heap.size, 0, none⟩ : Addr).add j = ⟨w.heap.size, j, none⟩ := by
  unfold Addr.add; split
  ·rename_i h0; rw [h0]
  ·simp
 obtain ⟨A, hB, sA, nA, oA, bA⟩ := zaH w cs.toArray e
 rw [hA, hB]
 simp [World.cell?, nA, h]
theorem zgT (p : Prm × Bool) : ∀ u ∈ zaw p, u.oneCell' = true := by
 intro u hu
 simp only [zaw, List.mem_cons, List.not_mem_nil, or_false] at hu
 rcases hu with rfl | rfl | rfl | rfl <;> rfl
def mk1 (n j : Nat) (p : Prm) : Bool := decide (j + 1 = n) && p.name == [97, 114, 103, 115] && !p.has
def zd4 (n : Nat) : Nat → List Prm → List (Prm × Bool)
 | _, [] => []
 | j, p :: r => (p, mk1 n j p) :: zd4 n (j + 1) r
theorem zcj (n : Nat) (p : Prm) : ∀ (l : List Prm) (j : Nat), zd4 n j (l ++ [p]) = zd4 n j l ++ [(p, mk1 n (j + l.length) p)]
 | [], j => by simp [zd4]
 | q :: l, j => by
   rw [List.cons_append, zd4, zcj n p l (j + 1), zd4, List.cons_append]
   have : j + 1 + l.length = j + (q :: l).length := by simp; omega
   rw [this]
theorem za9 (n : Nat) : ∀ (l : List Prm) (j : Nat), (zd4 n j l).length = l.length
 | [], j => rfl
 | q :: l, j => by rw [zd4, List.length_cons, za9 n l, List.length_cons]
theorem zr3 (n : Nat) : ∀ (l : List Prm) (j : Nat), (zd4 n j l).map (·.1) = l
 | [], j => rfl
 | q :: l, j => by rw [zd4, List.map_cons, zr3 n l]
theorem zmO (n : Nat) : ∀ (l : List Prm) (j : Nat), j + l.length = n → zd4 n j l = zdF l
 | [], j, h => rfl
 | [p], j, h => by simp at h; simp [zd4, zdF, mk1, h]
 | p :: q :: r, j, h => by
   rw [zd4, zdF, zmO n (q :: r) (j + 1) (by simp at h ⊢; omega)]
   have : mk1 n j p = false := by unfold mk1; simp at h; rw [decide_eq_false (by omega)]; rfl
   rw [this]
theorem zkc (n : Nat) : ∀ (l : List Prm) (s j : Nat) (q : Prm), l[j]? = some q → (zd4 n s l)[j]? = some (q, mk1 n (s + j) q)
 | [], s, j, q, h => by simp at h
 | p :: l, s, 0, q, h => by simp at h; subst h; rfl
 | p :: l, s, j + 1, q, h => by
   rw [zd4, List.getElem?_cons_succ, zkc n l (s + 1) j q (by simpa using h)]
   have : s + 1 + j = s + (j + 1) := by omega
   rw [this]
theorem zr4 (n : Nat) {l : List Prm} {j : Nat} {q : Prm} (h : l[j]? = some q) : (zd4 n 0 l)[j]? = some (q, mk1 n j q) := by
 have := zkc n l 0 j q h
 rwa [Nat.zero_add] at this
theorem zr5 {n j : Nat} {p : Prm} (h : ¬ j + 1 = n) : mk1 n j p = false := by unfold mk1; rw [decide_eq_false h]; rfl
theorem zpi {n j : Nat} {p : Prm} (h : ¬ p.name = [97, 114, 103, 115]) : mk1 n j p = false := by
 unfold mk1; rw [show (p.name == [97, 114, 103, 115]) = false from beq_eq_false_iff_ne.2 h]; simp
theorem zuX {n j : Nat} {p : Prm} (h : p.has = true) : mk1 n j p = false := by unfold mk1; rw [h]; simp
theorem zuY {n j : Nat} {p : Prm} (h : j + 1 = n) (h1 : p.name = [97, 114, 103, 115]) (h2 : p.has = false) : mk1 n j p = true := by unfold mk1; rw [decide_eq_true h, h1, h2]; rfl
end Go.Proofs.YtppjodfehhlniaaGreatDoor
end
section
namespace Go.Proofs.YtppjodfehhlniaaGreatDoor
open Go.RowKit Go.Shelf
open Go.ChangeShapes Go.WideShapes Go.ChangeAt
attribute [local go_sem] Oper.semAt_some
set_option maxRecDepth 100000
theorem fn37 : Fence.wide.fn 37 := trivial
set_option maxHeartbeats 8000000 in
theorem zmP (n : Nat) (hn : 2 ≤ n) (m0 : Int) (sa : Option Addr) (sc : Nat) (l : List (List UInt8)) (M0 M B : Nat) (w : World)
  (hm : w.cell? ⟨2, 0, none⟩ = some (.int .i64 m0)) (h2 : 2 < M0) (h0 : M0 ≤ w.heap.size) (hB : Boxed w B 22 (.slice sa l.length sc))
  (hrow : ∀ i t, l[i]? = some t → ∃ p, sa = some p ∧ M ≤ (p.add i).block ∧ w.cell? (p.add i) = some (strV t))
  (hl : ∀ x ∈ l, x.length ≤ 1000) (hlen : l.length ≤ 1000) :
  SeqStopsK Fence.wide n Tryz.prog 36 #[.pointer (some ⟨B, 0, none⟩)] encI (KeepP M0 M w.heap.size) (fun xs => xs = its [] l) (fun pre => pre <+: its [] l) l.length w := by
 intro ly J Jx W hW hJ hJx hY hJ0
 have hn1 : 1 ≤ n := by omega
 refine callsIn_of_wp Tryz.func36 rfl trivial ?_ rfl
 simp only [Tryz.ntmps36, List.size_toArray, List.length_cons, List.length_nil, Nat.reduceAdd, Nat.reduceSub, Array.replicate_succ, Array.replicate_zero, List.push_toArray, List.append_toArray, List.nil_append, List.cons_append]
 have cB := zaf hB.cell hW
 have cBA : ∀ o : Obj, (W.alloc o).cell? ⟨B, 0, none⟩ = some (.slice sa l.length sc) := fun o => zaf cB ((Below.refl _ _).alloc (Nat.le_refl _) o)
 have HSZ := Lib.hid hW.size
 have HWB := Lib.hid hW
 have HJ := Lib.hid hJ
 have HJX := Lib.hid hJx
 have HY := Lib.hid hY
 have HJ0 := Lib.hid hJ0
 have HROW := Lib.hid hrow
 have HM := Lib.hid hm
 have HLL := Lib.hid hl
 have HH0 := Lib.hid h0
 clear hB hW hJ hJx hY hJ0 hrow hm hl h0
 have hmk : ∀ (w : World), (Instr.makeMap 70 none).run Tryz.prog w = .ok (.map (some w.heap.size)) (w.alloc (.map #[] 0)) := fun _ => rfl
 gi_wp2
 clear hmk
 gi_loopw [13] (fun iv wr => ∃ (i : Nat) (pre : List It) (mr : List (List UInt8)) (es : Array MapEntry) (clk : Nat), iv = .int .i64 (i : Int) ∧ i ≤ l.length ∧ pre.length = i ∧ its [] l = pre ++ its mr.reverse (l.drop i) ∧ J pre wr ∧ Stab w M0 M wr ∧ wr.heap[W.heap.size]? = some (.map es clk) ∧ zhr es.toList mr)
  (fun iv wr => l.length - (intOf iv).toNat)
 case atStart => exact ⟨0, [], [], #[], 0, rfl, Nat.zero_le _, rfl, by simp, HJ.out _ _ _ none HJ0.out (zaT ((Below.refl _ _).alloc (Nat.le_refl _) _)) (fun r h => (by cases h)), (Stab.of HWB.out HH0.out).below HH0.out ((Below.refl _ _).alloc (Nat.le_refl _) _), heap_alloc_new W _, rfl⟩
 case round =>
  obtain ⟨i, pre, mr, es, clk, rfl, hi, hpl, heq, hJp, hst, hmap, hmet⟩ := hrel
  have hsz1 := hst.size
  have hmlt := (Array.getElem?_eq_some_iff.1 hmap).1
  by_cases hlt : i < l.length
  ·have t1 : (i : Int) < (l.length : Int) := by omega
   obtain ⟨x, hx⟩ : ∃ x, l[i]? = some x := ⟨_, List.getElem?_eq_getElem hlt⟩
   have hd : l.drop i = x :: l.drop (i + 1) := by
    obtain ⟨hlt, he⟩ := List.getElem?_eq_some_iff.1 hx
    rw [List.drop_eq_getElem_cons hlt, he]
   have hxs : (⟨x.toArray⟩ : ByteArray).size ≤ 1000 := by
    have := HLL.out x (List.mem_of_getElem? hx)
    rw [← za7, L_mk]; omega
   obtain ⟨p, rfl, hpb, hp⟩ := HROW.out i x hx
   have c1 := hst.cell hp (.inr ⟨hpb, zdC hp⟩)
   unfold strV at c1
   have HD := Lib.hid hd
   have HEQ := Lib.hid heq
   have HJP := Lib.hid hJp
   have HST := Lib.hid hst
   have HMAP := Lib.hid hmap
   have HMET := Lib.hid hmet
   have HPL := Lib.hid hpl
   clear hx hd hp heq hJp hst hmap hmet hpl
   cases hm : spl x with
   | none =>
     gi_wp2_with (first | (refine ⟨trivial, ?_⟩; gi_at_call 17; refine (callsIn_wide.2 (zbE ⟨x.toArray⟩ hxs _)).mono ?_; rintro e w2 ⟨_, hnn, hb⟩; obtain ⟨at_, rfl⟩ := hnn (by rw [L_mk]; exact hm); have hJ2 := HJ.out _ _ (w2.alloc (.cells #[.string ⟨#[]⟩, .string ⟨#[]⟩, .bool false] 46)) none HJP.out (zaT (hb.alloc hb.size _)) (fun r h => (by cases h)); have HJ2 := Lib.hid hJ2; obtain ⟨fn, tmps, assign, body, hy, hR⟩ := HY.out pre (⟨⟨[], [], false⟩, 2⟩) (w2.alloc (.cells #[.string ⟨#[]⟩, .string ⟨#[]⟩, .bool false] 46)) HJ2.out (by have := HPL.out; omega); have hy : (Instr.yield ly #[.agg #[.string ⟨#[]⟩, .string ⟨#[]⟩, .bool false], .int .i64 2]).run Tryz.prog (w2.alloc (.cells #[.string ⟨#[]⟩, .string ⟨#[]⟩, .bool false] 46)) = .ok (.round ly fn tmps assign body) (w2.alloc (.cells #[.string ⟨#[]⟩, .string ⟨#[]⟩, .bool false] 46)) := hy; have HRR := Lib.hid hR; clear hR; have HB2 := Lib.hid hb; clear hb hnn hJ2; dsimp only) | (with_reducible refine And.intro (fn37) ?_))
     refine HRR.out.mono ?_
     rintro e W' (⟨rfl, hJ', hk⟩ | ⟨rfl, hJx'⟩)
     ·dsimp only
      have HJ' := Lib.hid hJ'
      have HKP := Lib.hid hk
      clear hJ' hk
      gi_wp2
      go_roundw
      case rel => exact ⟨i + 1, pre ++ [⟨⟨[], [], false⟩, 2⟩], mr, es, clk, by go_num, by omega, by have := HPL.out; simp [this], by rw [HEQ.out, HD.out, zbD (zk7 hm)]; simp, HJ'.out, (HST.out.below HH0.out (HB2.out.alloc HB2.out.size _)).keep HKP.out, HKP.out.1.same _ _ ((heap_alloc_old w2 _ (Nat.lt_of_lt_of_le hmlt HB2.out.size)).trans ((HB2.out.block _ hmlt).trans HMAP.out)) rfl, HMET.out⟩
      case measure => simp [intOf]; omega
     ·dsimp only
      have HJ' := Lib.hid hJx'
      clear hJx'
      gi_wp2
      refine bodyPost_ret (results_none rfl _ _ _) rfl ?_
      exact ⟨⟨_, rfl⟩, .inr ⟨_, by rw [HEQ.out, HD.out, zbD (zk7 hm)]; exact ⟨_, by rw [List.append_assoc]; rfl⟩, HJ'.out⟩⟩
   | some m =>
     by_cases hz : m.length = 0
     ·have hm0 : m = [] := List.eq_nil_of_length_eq_zero hz
      subst hm0
      gi_wp2_with (first | (refine ⟨trivial, ?_⟩; gi_at_call 17; refine (callsIn_wide.2 (zbE ⟨x.toArray⟩ hxs _)).mono ?_; rintro e w2 ⟨hyy, _, hb⟩; obtain ⟨mv, rfl, hrow⟩ := hyy [] (by rw [L_mk]; exact hm); obtain ⟨ma, mc, rfl, hma⟩ := (zaB hrow).form; have hst2 := HST.out.below HH0.out hb; have hm2 := hst2.cell HM.out (.inl h2); have hm2A : ∀ o : Obj, (w2.alloc o).cell? ⟨2, 0, none⟩ = some (.int .i64 m0) := fun o => zaf hm2 ((Below.refl _ _).alloc (Nat.le_refl _) o); have hmapB : w2.heap[W.heap.size]? = some (.map es clk) := (hb.block _ hmlt).trans HMAP.out; have hJ2 := HJ.out _ _ (w2.alloc (.cells #[.string ⟨#[]⟩, .string ⟨#[]⟩, .bool false] 46)) none HJP.out (zaT (hb.alloc hb.size _)) (fun r h => (by cases h)); have HJ2 := Lib.hid hJ2; obtain ⟨fn, tmps, assign, body, hy, hR⟩ := HY.out pre (⟨⟨[], [], false⟩, 5⟩) (w2.alloc (.cells #[.string ⟨#[]⟩, .string ⟨#[]⟩, .bool false] 46)) HJ2.out (by have := HPL.out; omega); have hy : (Instr.yield ly #[.agg #[.string ⟨#[]⟩, .string ⟨#[]⟩, .bool false], .int .i64 5]).run Tryz.prog (w2.alloc (.cells #[.string ⟨#[]⟩, .string ⟨#[]⟩, .bool false] 46)) = .ok (.round ly fn tmps assign body) (w2.alloc (.cells #[.string ⟨#[]⟩, .string ⟨#[]⟩, .bool false] 46)) := hy; have HRR := Lib.hid hR; clear hR; have HB2 := Lib.hid hb; clear hb hyy hrow hma hJ2 hst2 hmapB; dsimp only) | (with_reducible refine And.intro (fn37) ?_))
      refine HRR.out.mono ?_
      rintro e W' (⟨rfl, hJ', hk⟩ | ⟨rfl, hJx'⟩)
      ·dsimp only
       have HJ' := Lib.hid hJ'
       have HKP := Lib.hid hk
       clear hJ' hk
       gi_wp2
       go_roundw
       case rel => exact ⟨i + 1, pre ++ [⟨⟨[], [], false⟩, 5⟩], mr, es, clk, by go_num, by omega, by have := HPL.out; simp [this], by rw [HEQ.out, HD.out, zbD (ziM hm)]; simp, HJ'.out, (HST.out.below HH0.out (HB2.out.alloc HB2.out.size _)).keep HKP.out, HKP.out.1.same _ _ ((heap_alloc_old w2 _ (Nat.lt_of_lt_of_le hmlt HB2.out.size)).trans ((HB2.out.block _ hmlt).trans HMAP.out)) rfl, HMET.out⟩
       case measure => simp [intOf]; omega
      ·dsimp only
       have HJ' := Lib.hid hJx'
       clear hJx'
       gi_wp2
       refine bodyPost_ret (results_none rfl _ _ _) rfl ?_
       exact ⟨⟨_, rfl⟩, .inr ⟨_, by rw [HEQ.out, HD.out, zbD (ziM hm)]; exact ⟨_, by rw [List.append_assoc]; rfl⟩, HJ'.out⟩⟩
     ·by_cases hg : 2 < m.length
      ·have f1 : ((m.length : Int) == 0) = false := beq_eq_false_iff_ne.2 (by omega)
       have f2 : (m.length : Int) > 2 := by omega
       gi_wp2_with (first | (refine ⟨trivial, ?_⟩; gi_at_call 17; refine (callsIn_wide.2 (zbE ⟨x.toArray⟩ hxs _)).mono ?_; rintro e w2 ⟨hyy, _, hb⟩; obtain ⟨mv, rfl, hrow⟩ := hyy m (by rw [L_mk]; exact hm); obtain ⟨ma, mc, rfl, hma⟩ := (zaB hrow).form; have hst2 := HST.out.below HH0.out hb; have hm2 := hst2.cell HM.out (.inl h2); have hm2A : ∀ o : Obj, (w2.alloc o).cell? ⟨2, 0, none⟩ = some (.int .i64 m0) := fun o => zaf hm2 ((Below.refl _ _).alloc (Nat.le_refl _) o); have hmapB : w2.heap[W.heap.size]? = some (.map es clk) := (hb.block _ hmlt).trans HMAP.out; have hJ2 := HJ.out _ _ (w2.alloc (.cells #[.string ⟨#[]⟩, .string ⟨#[]⟩, .bool false] 46)) none HJP.out (zaT (hb.alloc hb.size _)) (fun r h => (by cases h)); have HJ2 := Lib.hid hJ2; obtain ⟨fn, tmps, assign, body, hy, hR⟩ := HY.out pre (⟨⟨[], [], false⟩, 5⟩) (w2.alloc (.cells #[.string ⟨#[]⟩, .string ⟨#[]⟩, .bool false] 46)) HJ2.out (by have := HPL.out; omega); have hy : (Instr.yield ly #[.agg #[.string ⟨#[]⟩, .string ⟨#[]⟩, .bool false], .int .i64 5]).run Tryz.prog (w2.alloc (.cells #[.string ⟨#[]⟩, .string ⟨#[]⟩, .bool false] 46)) = .ok (.round ly fn tmps assign body) (w2.alloc (.cells #[.string ⟨#[]⟩, .string ⟨#[]⟩, .bool false] 46)) := hy; have HRR := Lib.hid hR; clear hR; have HB2 := Lib.hid hb; clear hb hyy hrow hma hJ2 hst2 hmapB; dsimp only) | (with_reducible refine And.intro (fn37) ?_))
       refine HRR.out.mono ?_
       rintro e W' (⟨rfl, hJ', hk⟩ | ⟨rfl, hJx'⟩)
       ·dsimp only
        have HJ' := Lib.hid hJ'
        have HKP := Lib.hid hk
        clear hJ' hk
        gi_wp2
        go_roundw
        case rel => exact ⟨i + 1, pre ++ [⟨⟨[], [], false⟩, 5⟩], mr, es, clk, by go_num, by omega, by have := HPL.out; simp [this], by rw [HEQ.out, HD.out, zbD (ziN hm hg)]; simp, HJ'.out, (HST.out.below HH0.out (HB2.out.alloc HB2.out.size _)).keep HKP.out, HKP.out.1.same _ _ ((heap_alloc_old w2 _ (Nat.lt_of_lt_of_le hmlt HB2.out.size)).trans ((HB2.out.block _ hmlt).trans HMAP.out)) rfl, HMET.out⟩
        case measure => simp [intOf]; omega
       ·dsimp only
        have HJ' := Lib.hid hJx'
        clear hJx'
        gi_wp2
        refine bodyPost_ret (results_none rfl _ _ _) rfl ?_
        exact ⟨⟨_, rfl⟩, .inr ⟨_, by rw [HEQ.out, HD.out, zbD (ziN hm hg)]; exact ⟨_, by rw [List.append_assoc]; rfl⟩, HJ'.out⟩⟩
      ·have f1 : ((m.length : Int) == 0) = false := beq_eq_false_iff_ne.2 (by omega)
       have f2 : ¬ (m.length : Int) > 2 := by omega
       obtain ⟨y, hy0⟩ : ∃ y, m[0]? = some y := ⟨_, List.getElem?_eq_getElem (by omega)⟩
       have hys : (⟨y.toArray⟩ : ByteArray).size ≤ 1000000 := by
        have := zph _ _ (Nat.le_refl _) m hm y (List.mem_of_getElem? hy0)
        rw [← za7, L_mk] at hxs ⊢; omega
       by_cases h3 : y = []
       ·subst h3
        gi_wp2_with (first | (refine ⟨trivial, ?_⟩; gi_at_call 17; refine (callsIn_wide.2 (zbE ⟨x.toArray⟩ hxs _)).mono ?_; rintro e w2 ⟨hyy, _, hb⟩; obtain ⟨mv, rfl, hrow⟩ := hyy m (by rw [L_mk]; exact hm); obtain ⟨ma, mc, rfl, hma⟩ := (zaB hrow).form; obtain ⟨mp, rfl, hmp⟩ := hma 0 _ hy0; have cy := hmp; have cy : w2.cell? mp = some (.string ⟨#[]⟩) := cy; have cyA : ∀ o : Obj, (w2.alloc o).cell? mp = some (.string ⟨#[]⟩) := fun o => zaf cy ((Below.refl _ _).alloc (Nat.le_refl _) o); clear hmp; have hst2 := HST.out.below HH0.out hb; have hm2 := hst2.cell HM.out (.inl h2); have hm2A : ∀ o : Obj, (w2.alloc o).cell? ⟨2, 0, none⟩ = some (.int .i64 m0) := fun o => zaf hm2 ((Below.refl _ _).alloc (Nat.le_refl _) o); have hmapB : w2.heap[W.heap.size]? = some (.map es clk) := (hb.block _ hmlt).trans HMAP.out; have hJ2 := HJ.out _ _ (w2.alloc (.cells #[.string ⟨#[]⟩, .string ⟨#[]⟩, .bool false] 46)) none HJP.out (zaT (hb.alloc hb.size _)) (fun r h => (by cases h)); have HJ2 := Lib.hid hJ2; obtain ⟨fn, tmps, assign, body, hy, hR⟩ := HY.out pre (⟨⟨[], [], false⟩, 5⟩) (w2.alloc (.cells #[.string ⟨#[]⟩, .string ⟨#[]⟩, .bool false] 46)) HJ2.out (by have := HPL.out; omega); have hy : (Instr.yield ly #[.agg #[.string ⟨#[]⟩, .string ⟨#[]⟩, .bool false], .int .i64 5]).run Tryz.prog (w2.alloc (.cells #[.string ⟨#[]⟩, .string ⟨#[]⟩, .bool false] 46)) = .ok (.round ly fn tmps assign body) (w2.alloc (.cells #[.string ⟨#[]⟩, .string ⟨#[]⟩, .bool false] 46)) := hy; have HRR := Lib.hid hR; clear hR; have HB2 := Lib.hid hb; clear hb hyy hrow hma hJ2 hst2 hmapB; dsimp only) | (with_reducible refine And.intro (fn37) ?_))
        refine HRR.out.mono ?_
        rintro e W' (⟨rfl, hJ', hk⟩ | ⟨rfl, hJx'⟩)
        ·dsimp only
         have HJ' := Lib.hid hJ'
         have HKP := Lib.hid hk
         clear hJ' hk
         gi_wp2
         go_roundw
         case rel => exact ⟨i + 1, pre ++ [⟨⟨[], [], false⟩, 5⟩], mr, es, clk, by go_num, by omega, by have := HPL.out; simp [this], by rw [HEQ.out, HD.out, zbD (zbs hm (by omega) (by omega) hy0 (by unfold zbb; simp))]; simp, HJ'.out, (HST.out.below HH0.out (HB2.out.alloc HB2.out.size _)).keep HKP.out, HKP.out.1.same _ _ ((heap_alloc_old w2 _ (Nat.lt_of_lt_of_le hmlt HB2.out.size)).trans ((HB2.out.block _ hmlt).trans HMAP.out)) rfl, HMET.out⟩
         case measure => simp [intOf]; omega
        ·dsimp only
         have HJ' := Lib.hid hJx'
         clear hJx'
         gi_wp2
         refine bodyPost_ret (results_none rfl _ _ _) rfl ?_
         exact ⟨⟨_, rfl⟩, .inr ⟨_, by rw [HEQ.out, HD.out, zbD (zbs hm (by omega) (by omega) hy0 (by unfold zbb; simp))]; exact ⟨_, by rw [List.append_assoc]; rfl⟩, HJ'.out⟩⟩
       ·have n3 : ((⟨y.toArray⟩ : ByteArray) == ⟨#[]⟩) = false := by
         rw [show (⟨#[]⟩ : ByteArray) = ⟨([] : List UInt8).toArray⟩ from rfl, ziR, L_mk, beq_eq_false_iff_ne]; exact fun e => h3 e.symm
        have n3b : y.isEmpty = false := by cases y with | nil => exact absurd rfl h3 | cons a b => rfl
        cases h4 : y.contains 40 with
        | true =>
          gi_wp2_with (first | (refine ⟨trivial, ?_⟩; gi_at_call 17; refine (callsIn_wide.2 (zbE ⟨x.toArray⟩ hxs _)).mono ?_; rintro e w2 ⟨hyy, _, hb⟩; obtain ⟨mv, rfl, hrow⟩ := hyy m (by rw [L_mk]; exact hm); obtain ⟨ma, mc, rfl, hma⟩ := (zaB hrow).form; obtain ⟨mp, rfl, hmp⟩ := hma 0 _ hy0; have cy := hmp; have cy : w2.cell? mp = some (.string ⟨y.toArray⟩) := cy; have cyA : ∀ o : Obj, (w2.alloc o).cell? mp = some (.string ⟨y.toArray⟩) := fun o => zaf cy ((Below.refl _ _).alloc (Nat.le_refl _) o); clear hmp; have hst2 := HST.out.below HH0.out hb; have hm2 := hst2.cell HM.out (.inl h2); have hm2A : ∀ o : Obj, (w2.alloc o).cell? ⟨2, 0, none⟩ = some (.int .i64 m0) := fun o => zaf hm2 ((Below.refl _ _).alloc (Nat.le_refl _) o); have hmapB : w2.heap[W.heap.size]? = some (.map es clk) := (hb.block _ hmlt).trans HMAP.out; have hJ2 := HJ.out _ _ (w2.alloc (.cells #[.string ⟨#[]⟩, .string ⟨#[]⟩, .bool false] 46)) none HJP.out (zaT (hb.alloc hb.size _)) (fun r h => (by cases h)); have HJ2 := Lib.hid hJ2; obtain ⟨fn, tmps, assign, body, hy, hR⟩ := HY.out pre (⟨⟨[], [], false⟩, 5⟩) (w2.alloc (.cells #[.string ⟨#[]⟩, .string ⟨#[]⟩, .bool false] 46)) HJ2.out (by have := HPL.out; omega); have hy : (Instr.yield ly #[.agg #[.string ⟨#[]⟩, .string ⟨#[]⟩, .bool false], .int .i64 5]).run Tryz.prog (w2.alloc (.cells #[.string ⟨#[]⟩, .string ⟨#[]⟩, .bool false] 46)) = .ok (.round ly fn tmps assign body) (w2.alloc (.cells #[.string ⟨#[]⟩, .string ⟨#[]⟩, .bool false] 46)) := hy; have HRR := Lib.hid hR; clear hR; have HB2 := Lib.hid hb; clear hb hyy hrow hma hJ2 hst2 hmapB; dsimp only) | (refine ⟨trivial, ?_⟩; gi_at_call 37; refine (callsIn_wide.2 (zgb ⟨y.toArray⟩ hys m0 _ _ (by first | exact .inl rfl | exact .inr rfl) (hm2A _))).mono ?_; rintro e w3 ⟨⟨b1, rfl, ha, hbb⟩, rfl⟩; rw [L_mk] at ha hbb; first | (have g1 := ha rfl; rw [h4] at g1; subst g1; clear ha hbb) | (have g1 := hbb rfl; rw [h5] at g1; subst g1; clear ha hbb); dsimp only) | (with_reducible refine And.intro (fn37) ?_))
          refine HRR.out.mono ?_
          rintro e W' (⟨rfl, hJ', hk⟩ | ⟨rfl, hJx'⟩)
          ·dsimp only
           have HJ' := Lib.hid hJ'
           have HKP := Lib.hid hk
           clear hJ' hk
           gi_wp2
           go_roundw
           case rel => exact ⟨i + 1, pre ++ [⟨⟨[], [], false⟩, 5⟩], mr, es, clk, by go_num, by omega, by have := HPL.out; simp [this], by rw [HEQ.out, HD.out, zbD (zbs hm (by omega) (by omega) hy0 (by unfold zbb; rw [h4]; simp))]; simp, HJ'.out, (HST.out.below HH0.out (HB2.out.alloc HB2.out.size _)).keep HKP.out, HKP.out.1.same _ _ ((heap_alloc_old w2 _ (Nat.lt_of_lt_of_le hmlt HB2.out.size)).trans ((HB2.out.block _ hmlt).trans HMAP.out)) rfl, HMET.out⟩
           case measure => simp [intOf]; omega
          ·dsimp only
           have HJ' := Lib.hid hJx'
           clear hJx'
           gi_wp2
           refine bodyPost_ret (results_none rfl _ _ _) rfl ?_
           exact ⟨⟨_, rfl⟩, .inr ⟨_, by rw [HEQ.out, HD.out, zbD (zbs hm (by omega) (by omega) hy0 (by unfold zbb; rw [h4]; simp))]; exact ⟨_, by rw [List.append_assoc]; rfl⟩, HJ'.out⟩⟩
        | false =>
          cases h5 : two y with
          | true =>
            gi_wp2_with (first | (refine ⟨trivial, ?_⟩; gi_at_call 17; refine (callsIn_wide.2 (zbE ⟨x.toArray⟩ hxs _)).mono ?_; rintro e w2 ⟨hyy, _, hb⟩; obtain ⟨mv, rfl, hrow⟩ := hyy m (by rw [L_mk]; exact hm); obtain ⟨ma, mc, rfl, hma⟩ := (zaB hrow).form; obtain ⟨mp, rfl, hmp⟩ := hma 0 _ hy0; have cy := hmp; have cy : w2.cell? mp = some (.string ⟨y.toArray⟩) := cy; have cyA : ∀ o : Obj, (w2.alloc o).cell? mp = some (.string ⟨y.toArray⟩) := fun o => zaf cy ((Below.refl _ _).alloc (Nat.le_refl _) o); clear hmp; have hst2 := HST.out.below HH0.out hb; have hm2 := hst2.cell HM.out (.inl h2); have hm2A : ∀ o : Obj, (w2.alloc o).cell? ⟨2, 0, none⟩ = some (.int .i64 m0) := fun o => zaf hm2 ((Below.refl _ _).alloc (Nat.le_refl _) o); have hmapB : w2.heap[W.heap.size]? = some (.map es clk) := (hb.block _ hmlt).trans HMAP.out; have hJ2 := HJ.out _ _ (w2.alloc (.cells #[.string ⟨#[]⟩, .string ⟨#[]⟩, .bool false] 46)) none HJP.out (zaT (hb.alloc hb.size _)) (fun r h => (by cases h)); have HJ2 := Lib.hid hJ2; obtain ⟨fn, tmps, assign, body, hy, hR⟩ := HY.out pre (⟨⟨[], [], false⟩, 5⟩) (w2.alloc (.cells #[.string ⟨#[]⟩, .string ⟨#[]⟩, .bool false] 46)) HJ2.out (by have := HPL.out; omega); have hy : (Instr.yield ly #[.agg #[.string ⟨#[]⟩, .string ⟨#[]⟩, .bool false], .int .i64 5]).run Tryz.prog (w2.alloc (.cells #[.string ⟨#[]⟩, .string ⟨#[]⟩, .bool false] 46)) = .ok (.round ly fn tmps assign body) (w2.alloc (.cells #[.string ⟨#[]⟩, .string ⟨#[]⟩, .bool false] 46)) := hy; have HRR := Lib.hid hR; clear hR; have HB2 := Lib.hid hb; clear hb hyy hrow hma hJ2 hst2 hmapB; dsimp only) | (refine ⟨trivial, ?_⟩; gi_at_call 37; refine (callsIn_wide.2 (zgb ⟨y.toArray⟩ hys m0 _ _ (by first | exact .inl rfl | exact .inr rfl) (hm2A _))).mono ?_; rintro e w3 ⟨⟨b1, rfl, ha, hbb⟩, rfl⟩; rw [L_mk] at ha hbb; first | (have g1 := ha rfl; rw [h4] at g1; subst g1; clear ha hbb) | (have g1 := hbb rfl; rw [h5] at g1; subst g1; clear ha hbb); dsimp only) | (with_reducible refine And.intro (fn37) ?_))
            refine HRR.out.mono ?_
            rintro e W' (⟨rfl, hJ', hk⟩ | ⟨rfl, hJx'⟩)
            ·dsimp only
             have HJ' := Lib.hid hJ'
             have HKP := Lib.hid hk
             clear hJ' hk
             gi_wp2
             go_roundw
             case rel => exact ⟨i + 1, pre ++ [⟨⟨[], [], false⟩, 5⟩], mr, es, clk, by go_num, by omega, by have := HPL.out; simp [this], by rw [HEQ.out, HD.out, zbD (zbs hm (by omega) (by omega) hy0 (by unfold zbb; rw [h5]; simp))]; simp, HJ'.out, (HST.out.below HH0.out (HB2.out.alloc HB2.out.size _)).keep HKP.out, HKP.out.1.same _ _ ((heap_alloc_old w2 _ (Nat.lt_of_lt_of_le hmlt HB2.out.size)).trans ((HB2.out.block _ hmlt).trans HMAP.out)) rfl, HMET.out⟩
             case measure => simp [intOf]; omega
            ·dsimp only
             have HJ' := Lib.hid hJx'
             clear hJx'
             gi_wp2
             refine bodyPost_ret (results_none rfl _ _ _) rfl ?_
             exact ⟨⟨_, rfl⟩, .inr ⟨_, by rw [HEQ.out, HD.out, zbD (zbs hm (by omega) (by omega) hy0 (by unfold zbb; rw [h5]; simp))]; exact ⟨_, by rw [List.append_assoc]; rfl⟩, HJ'.out⟩⟩
          | false =>
            cases h6 : mr.contains y with
            | true =>
              gi_wp2_with (first | (refine ⟨trivial, ?_⟩; gi_at_call 17; refine (callsIn_wide.2 (zbE ⟨x.toArray⟩ hxs _)).mono ?_; rintro e w2 ⟨hyy, _, hb⟩; obtain ⟨mv, rfl, hrow⟩ := hyy m (by rw [L_mk]; exact hm); obtain ⟨ma, mc, rfl, hma⟩ := (zaB hrow).form; obtain ⟨mp, rfl, hmp⟩ := hma 0 _ hy0; have cy := hmp; have cy : w2.cell? mp = some (.string ⟨y.toArray⟩) := cy; have cyA : ∀ o : Obj, (w2.alloc o).cell? mp = some (.string ⟨y.toArray⟩) := fun o => zaf cy ((Below.refl _ _).alloc (Nat.le_refl _) o); clear hmp; have hst2 := HST.out.below HH0.out hb; have hm2 := hst2.cell HM.out (.inl h2); have hm2A : ∀ o : Obj, (w2.alloc o).cell? ⟨2, 0, none⟩ = some (.int .i64 m0) := fun o => zaf hm2 ((Below.refl _ _).alloc (Nat.le_refl _) o); have hmapB : w2.heap[W.heap.size]? = some (.map es clk) := (hb.block _ hmlt).trans HMAP.out; have hlook := zla (w2.alloc (.cells #[.string ⟨#[]⟩, .string ⟨#[]⟩, .bool false] 46)) W.heap.size ⟨y.toArray⟩ es clk mr ((heap_alloc_old w2 _ (Array.getElem?_eq_some_iff.1 hmapB).1).trans hmapB) HMET.out; rw [L_mk, h6] at hlook; have hJ2 := HJ.out _ _ (w2.alloc (.cells #[.string ⟨#[]⟩, .string ⟨#[]⟩, .bool false] 46)) none HJP.out (zaT (hb.alloc hb.size _)) (fun r h => (by cases h)); have HJ2 := Lib.hid hJ2; obtain ⟨fn, tmps, assign, body, hy, hR⟩ := HY.out pre (⟨⟨[], [], false⟩, 5⟩) (w2.alloc (.cells #[.string ⟨#[]⟩, .string ⟨#[]⟩, .bool false] 46)) HJ2.out (by have := HPL.out; omega); have hy : (Instr.yield ly #[.agg #[.string ⟨#[]⟩, .string ⟨#[]⟩, .bool false], .int .i64 5]).run Tryz.prog (w2.alloc (.cells #[.string ⟨#[]⟩, .string ⟨#[]⟩, .bool false] 46)) = .ok (.round ly fn tmps assign body) (w2.alloc (.cells #[.string ⟨#[]⟩, .string ⟨#[]⟩, .bool false] 46)) := hy; have HRR := Lib.hid hR; clear hR; have HB2 := Lib.hid hb; clear hb hyy hrow hma hJ2 hst2 hmapB; dsimp only) | (refine ⟨trivial, ?_⟩; gi_at_call 37; refine (callsIn_wide.2 (zgb ⟨y.toArray⟩ hys m0 _ _ (by first | exact .inl rfl | exact .inr rfl) (hm2A _))).mono ?_; rintro e w3 ⟨⟨b1, rfl, ha, hbb⟩, rfl⟩; rw [L_mk] at ha hbb; first | (have g1 := ha rfl; rw [h4] at g1; subst g1; clear ha hbb) | (have g1 := hbb rfl; rw [h5] at g1; subst g1; clear ha hbb); dsimp only) | (with_reducible refine And.intro (fn37) ?_))
              refine HRR.out.mono ?_
              rintro e W' (⟨rfl, hJ', hk⟩ | ⟨rfl, hJx'⟩)
              ·dsimp only
               have HJ' := Lib.hid hJ'
               have HKP := Lib.hid hk
               clear hJ' hk
               gi_wp2
               go_roundw
               case rel => exact ⟨i + 1, pre ++ [⟨⟨[], [], false⟩, 5⟩], mr, es, clk, by go_num, by omega, by have := HPL.out; simp [this], by rw [HEQ.out, HD.out, zbD (zbs hm (by omega) (by omega) hy0 (by unfold zbb; rw [List.contains_reverse, h6]; simp))]; simp, HJ'.out, (HST.out.below HH0.out (HB2.out.alloc HB2.out.size _)).keep HKP.out, HKP.out.1.same _ _ ((heap_alloc_old w2 _ (Nat.lt_of_lt_of_le hmlt HB2.out.size)).trans ((HB2.out.block _ hmlt).trans HMAP.out)) rfl, HMET.out⟩
               case measure => simp [intOf]; omega
              ·dsimp only
               have HJ' := Lib.hid hJx'
               clear hJx'
               gi_wp2
               refine bodyPost_ret (results_none rfl _ _ _) rfl ?_
               exact ⟨⟨_, rfl⟩, .inr ⟨_, by rw [HEQ.out, HD.out, zbD (zbs hm (by omega) (by omega) hy0 (by unfold zbb; rw [List.contains_reverse, h6]; simp))]; exact ⟨_, by rw [List.append_assoc]; rfl⟩, HJ'.out⟩⟩
            | false =>
              have hbad : zbb mr.reverse y = false := by
               unfold zbb
               rw [List.contains_reverse, h6, h4, h5]
               simp; exact h3
              by_cases hlen2 : m.length = 2
              ·obtain ⟨d, hd1⟩ : ∃ d, m[1]? = some d := ⟨_, List.getElem?_eq_getElem (by omega)⟩
               have hm1 : m = [y, d] := by
                cases m with
                | nil => simp at hy0
                | cons z r => cases r with
                  | nil => simp at hlen2
                  | cons z2 r2 =>
                    cases r2 with
                    | nil => simp at hy0 hd1; rw [hy0, hd1]
                    | cons z3 r3 => simp at hlen2
               subst hm1
               gi_wp2_with (first | (refine ⟨trivial, ?_⟩; gi_at_call 17; refine (callsIn_wide.2 (zbE ⟨x.toArray⟩ hxs _)).mono ?_; rintro e w2 ⟨hyy, _, hb⟩; obtain ⟨mv, rfl, hrow⟩ := hyy [y, d] (by rw [L_mk]; exact hm); obtain ⟨ma, mc, rfl, hma⟩ := (zaB hrow).form; obtain ⟨mp, rfl, hmp⟩ := hma 0 _ hy0; have cy := hmp; have cy : w2.cell? mp = some (.string ⟨y.toArray⟩) := cy; have cyA : ∀ o : Obj, (w2.alloc o).cell? mp = some (.string ⟨y.toArray⟩) := fun o => zaf cy ((Below.refl _ _).alloc (Nat.le_refl _) o); clear hmp; have hst2 := HST.out.below HH0.out hb; have hm2 := hst2.cell HM.out (.inl h2); have hm2A : ∀ o : Obj, (w2.alloc o).cell? ⟨2, 0, none⟩ = some (.int .i64 m0) := fun o => zaf hm2 ((Below.refl _ _).alloc (Nat.le_refl _) o); have hmapB : w2.heap[W.heap.size]? = some (.map es clk) := (hb.block _ hmlt).trans HMAP.out; have hlook := zla (w2.alloc (.cells #[.string ⟨#[]⟩, .string ⟨#[]⟩, .bool false] 46)) W.heap.size ⟨y.toArray⟩ es clk mr ((heap_alloc_old w2 _ (Array.getElem?_eq_some_iff.1 hmapB).1).trans hmapB) HMET.out; rw [L_mk, h6] at hlook; obtain ⟨mq, hmq, hmd⟩ := hma 1 _ hd1; cases hmq; have cd : w2.cell? ⟨mp.block, mp.off + 1, none⟩ = some (.string ⟨d.toArray⟩) := (by simpa [Addr.add, strV] using hmd); have cdA : ∀ o : Obj, (w2.alloc o).cell? ⟨mp.block, mp.off + 1, none⟩ = some (.string ⟨d.toArray⟩) := fun o => zaf cd ((Below.refl _ _).alloc (Nat.le_refl _) o); clear hmd; obtain ⟨W3, es2, hput, q0, q1, q2, hmap3, hmet3, hgr, hoth, hsz3⟩ := put_step w2 (.string ⟨y.toArray⟩) (.string ⟨d.toArray⟩) (.bool true) W.heap.size y es clk mr hmapB HMET.out h6; have hJ1 := HJ.out _ _ (w2.alloc (.cells #[.string ⟨y.toArray⟩, .string ⟨d.toArray⟩, .bool true] 46)) none HJP.out (zaT (hb.alloc hb.size _)) (fun r h => (by cases h)); have hJ2 := HJ.out _ _ W3 (some W.heap.size) hJ1 hgr (fun r h => (by cases h; exact ⟨Nat.le_refl _, _, (heap_alloc_old w2 _ (Array.getElem?_eq_some_iff.1 hmapB).1).trans hmapB, rfl⟩)); have hst3 := (hst2.below HH0.out ((Below.refl _ _).alloc (Nat.le_refl _) _)).put HH0.out HSZ.out (by rw [hsz3]; simp) hoth; have HJ2 := Lib.hid hJ2; have HST3 := Lib.hid hst3; have HMAP3 := Lib.hid hmap3; have HMET3 := Lib.hid hmet3; obtain ⟨fn, tmps, assign, body, hy, hR⟩ := HY.out pre (⟨⟨y, d, true⟩, 0⟩) W3 HJ2.out (by have := HPL.out; omega); have hy : (Instr.yield ly #[.agg #[.string ⟨y.toArray⟩, .string ⟨d.toArray⟩, .bool true], .int .i64 0]).run Tryz.prog W3 = .ok (.round ly fn tmps assign body) W3 := hy; have HRR := Lib.hid hR; clear hR; clear hJ1 hJ2 hst3 hmap3 hmet3 hgr hoth hst2 hmapB hrow hma hb hyy; dsimp only) | (refine ⟨trivial, ?_⟩; gi_at_call 37; refine (callsIn_wide.2 (zgb ⟨y.toArray⟩ hys m0 _ _ (by first | exact .inl rfl | exact .inr rfl) (hm2A _))).mono ?_; rintro e w3 ⟨⟨b1, rfl, ha, hbb⟩, rfl⟩; rw [L_mk] at ha hbb; first | (have g1 := ha rfl; rw [h4] at g1; subst g1; clear ha hbb) | (have g1 := hbb rfl; rw [h5] at g1; subst g1; clear ha hbb); dsimp only) | (with_reducible refine And.intro (fn37) ?_))
               refine HRR.out.mono ?_
               rintro e W' (⟨rfl, hJ', hk⟩ | ⟨rfl, hJx'⟩)
               ·dsimp only
                have HJ' := Lib.hid hJ'
                have HKP := Lib.hid hk
                clear hJ' hk
                gi_wp2
                go_roundw
                case rel => exact ⟨i + 1, pre ++ [⟨⟨y, d, true⟩, 0⟩], mr ++ [y], es2, clk + 1, by go_num, by omega, by have := HPL.out; simp [this], by rw [HEQ.out, HD.out, zdh (zf5 hm hbad)]; simp, HJ'.out, HST3.out.keep HKP.out, HKP.out.1.same _ _ HMAP3.out rfl, HMET3.out⟩
                case measure => simp [intOf]; omega
               ·dsimp only
                have HJ' := Lib.hid hJx'
                clear hJx'
                gi_wp2
                refine bodyPost_ret (results_none rfl _ _ _) rfl ?_
                exact ⟨⟨_, rfl⟩, .inr ⟨_, by rw [HEQ.out, HD.out, zdh (zf5 hm hbad)]; exact ⟨_, by rw [List.append_assoc]; rfl⟩, HJ'.out⟩⟩
              ·have hm1 : m = [y] := by
                cases m with
                | nil => simp at hy0
                | cons z r => cases r with
                  | nil => simp at hy0; rw [hy0]
                  | cons z2 r2 => simp at hg hlen2; first | omega | exact absurd hg hlen2
               subst hm1
               gi_wp2_with (first | (refine ⟨trivial, ?_⟩; gi_at_call 17; refine (callsIn_wide.2 (zbE ⟨x.toArray⟩ hxs _)).mono ?_; rintro e w2 ⟨hyy, _, hb⟩; obtain ⟨mv, rfl, hrow⟩ := hyy [y] (by rw [L_mk]; exact hm); obtain ⟨ma, mc, rfl, hma⟩ := (zaB hrow).form; obtain ⟨mp, rfl, hmp⟩ := hma 0 _ hy0; have cy := hmp; have cy : w2.cell? mp = some (.string ⟨y.toArray⟩) := cy; have cyA : ∀ o : Obj, (w2.alloc o).cell? mp = some (.string ⟨y.toArray⟩) := fun o => zaf cy ((Below.refl _ _).alloc (Nat.le_refl _) o); clear hmp; have hst2 := HST.out.below HH0.out hb; have hm2 := hst2.cell HM.out (.inl h2); have hm2A : ∀ o : Obj, (w2.alloc o).cell? ⟨2, 0, none⟩ = some (.int .i64 m0) := fun o => zaf hm2 ((Below.refl _ _).alloc (Nat.le_refl _) o); have hmapB : w2.heap[W.heap.size]? = some (.map es clk) := (hb.block _ hmlt).trans HMAP.out; have hlook := zla (w2.alloc (.cells #[.string ⟨#[]⟩, .string ⟨#[]⟩, .bool false] 46)) W.heap.size ⟨y.toArray⟩ es clk mr ((heap_alloc_old w2 _ (Array.getElem?_eq_some_iff.1 hmapB).1).trans hmapB) HMET.out; rw [L_mk, h6] at hlook; obtain ⟨W3, es2, hput, q0, q1, q2, hmap3, hmet3, hgr, hoth, hsz3⟩ := put_step w2 (.string ⟨y.toArray⟩) (.string ⟨#[]⟩) (.bool false) W.heap.size y es clk mr hmapB HMET.out h6; have hJ1 := HJ.out _ _ (w2.alloc (.cells #[.string ⟨y.toArray⟩, .string ⟨#[]⟩, .bool false] 46)) none HJP.out (zaT (hb.alloc hb.size _)) (fun r h => (by cases h)); have hJ2 := HJ.out _ _ W3 (some W.heap.size) hJ1 hgr (fun r h => (by cases h; exact ⟨Nat.le_refl _, _, (heap_alloc_old w2 _ (Array.getElem?_eq_some_iff.1 hmapB).1).trans hmapB, rfl⟩)); have hst3 := (hst2.below HH0.out ((Below.refl _ _).alloc (Nat.le_refl _) _)).put HH0.out HSZ.out (by rw [hsz3]; simp) hoth; have HJ2 := Lib.hid hJ2; have HST3 := Lib.hid hst3; have HMAP3 := Lib.hid hmap3; have HMET3 := Lib.hid hmet3; obtain ⟨fn, tmps, assign, body, hy, hR⟩ := HY.out pre (⟨⟨y, [], false⟩, 0⟩) W3 HJ2.out (by have := HPL.out; omega); have hy : (Instr.yield ly #[.agg #[.string ⟨y.toArray⟩, .string ⟨#[]⟩, .bool false], .int .i64 0]).run Tryz.prog W3 = .ok (.round ly fn tmps assign body) W3 := hy; have HRR := Lib.hid hR; clear hR; clear hJ1 hJ2 hst3 hmap3 hmet3 hgr hoth hst2 hmapB hrow hma hb hyy; dsimp only) | (refine ⟨trivial, ?_⟩; gi_at_call 37; refine (callsIn_wide.2 (zgb ⟨y.toArray⟩ hys m0 _ _ (by first | exact .inl rfl | exact .inr rfl) (hm2A _))).mono ?_; rintro e w3 ⟨⟨b1, rfl, ha, hbb⟩, rfl⟩; rw [L_mk] at ha hbb; first | (have g1 := ha rfl; rw [h4] at g1; subst g1; clear ha hbb) | (have g1 := hbb rfl; rw [h5] at g1; subst g1; clear ha hbb); dsimp only) | (with_reducible refine And.intro (fn37) ?_))
               refine HRR.out.mono ?_
               rintro e W' (⟨rfl, hJ', hk⟩ | ⟨rfl, hJx'⟩)
               ·dsimp only
                have HJ' := Lib.hid hJ'
                have HKP := Lib.hid hk
                clear hJ' hk
                gi_wp2
                go_roundw
                case rel => exact ⟨i + 1, pre ++ [⟨⟨y, [], false⟩, 0⟩], mr ++ [y], es2, clk + 1, by go_num, by omega, by have := HPL.out; simp [this], by rw [HEQ.out, HD.out, zdh (zf4 hm hbad)]; simp, HJ'.out, HST3.out.keep HKP.out, HKP.out.1.same _ _ HMAP3.out rfl, HMET3.out⟩
                case measure => simp [intOf]; omega
               ·dsimp only
                have HJ' := Lib.hid hJx'
                clear hJx'
                gi_wp2
                refine bodyPost_ret (results_none rfl _ _ _) rfl ?_
                exact ⟨⟨_, rfl⟩, .inr ⟨_, by rw [HEQ.out, HD.out, zdh (zf4 hm hbad)]; exact ⟨_, by rw [List.append_assoc]; rfl⟩, HJ'.out⟩⟩
  ·have hil : i = l.length := by omega
   have t1 : ¬ (i : Int) < (l.length : Int) := by omega
   have HJP := Lib.hid hJp
   have HEQ := Lib.hid heq
   clear hJp heq
   gi_wp2
   refine bodyPost_end (results_none rfl _ _ _) rfl ?_
   have h : its [] l = pre := by
    rw [HEQ.out, hil, List.drop_length]
    simp [its]
   exact ⟨⟨_, rfl⟩, .inl (by rw [h]; exact HJP.out)⟩
end Go.Proofs.YtppjodfehhlniaaGreatDoor
end
section
namespace Go.Proofs.YtppjodfehhlniaaGreatDoor
open Go.ChangeShapes Go.WideShapes Go.ChangeAt Go.RowKit
def CapOk (v : Value) : Prop := ∀ a n c, v = .slice a n c → n ≤ c
theorem CapOk.nil : CapOk (.slice none 0 0) := by intro a n c h; cases h; exact Nat.le_refl _
theorem StrRow.cut {w : World} {v : Value} {y : List UInt8} {r : List (List UInt8)} (h : StrRow w v (y :: r)) (hc : CapOk v) :
  ∃ (p : Addr) (c : Nat), v = .slice (some p) (r.length + 1) (c + 1) ∧ w.cell? (p.add 0) = some (strV y) ∧ r.length ≤ c ∧
    (∀ q : Addr, (c ≠ 0 → q = p.add 1) → StrRow w (.slice (some q) r.length c) r) := by
 rcases h with ⟨_, h2⟩ | ⟨p, c, rfl, h2⟩
 ·cases h2
 ·have hl := hc _ _ _ rfl
  simp only [List.length_cons] at hl
  obtain ⟨d, rfl⟩ : ∃ d, c = d + 1 := ⟨c - 1, by omega⟩
  refine ⟨p, d, by simp, h2 0 y rfl, by omega, fun q hq => .inr ⟨q, d, rfl, fun i t hi => ?_⟩⟩
  have hlt := (List.getElem?_eq_some_iff.1 hi).1
  rw [hq (by omega)]
  have := h2 (i + 1) t (by simpa using hi)
  have e : (p.add 1).add i = p.add (i + 1) := by
   unfold Addr.add
   by_cases h0 : i = 0
   ·subst h0; simp
   ·simp [h0]; omega
  rw [e]; exact this
theorem StrRow.none {w : World} {v : Value} (h : StrRow w v []) : ∃ a c, v = .slice a 0 c := by
 obtain ⟨a, c, h, _⟩ := h.form
 exact ⟨a, c, h⟩
theorem zmQ {q : ByteArray} {l : List UInt8} (h : L q = l) : q = ⟨l.toArray⟩ := by
 subst h; cases q; simp [L]
end Go.Proofs.YtppjodfehhlniaaGreatDoor
end
section
namespace Go.Proofs.YtppjodfehhlniaaGreatDoor
open Go.ChangeShapes Go.WideShapes Go.ChangeAt Go.RowKit
set_option maxRecDepth 100000
def zvI (w : World) (l : List (List UInt8)) (e : Ending) (w' : World) : Prop := (∃ q, e = .returned (.tuple #[.string q, .int .i64 0]) ∧ L q = zbY l) ∧ Below w.heap.size w w'
set_option maxHeartbeats 4000000 in
theorem zr6 (hquo : ∀ (s : ByteArray), s.size ≤ 1000000 → ∀ w, Calls Tryz.prog 222 #[.string s] w fun e w' => QuoR w s e w') (w : World) (u : Value) (l : List (List UInt8)) (hu : StrRow w u l) (hl : sumL l ≤ 2000) :
  Calls Tryz.prog 108 #[u] w fun e w' => zvI w l e w' := by
 obtain ⟨a, c, rfl, ha⟩ := hu.form
 have HA := Lib.hid ha
 have HQ := Lib.hid hquo
 have HSL := Lib.hid hl
 have hlen := zlc l
 have t0 : ¬ (l.length : Int) > 10000 := by omega
 clear ha hu hquo hl hlen
 go_enter Tryz.func108, Tryz.ntmps108
 go_wp2
 go_loopg [4, 12] l.length (fun k ov iv wr => ∃ (i : Nat) (q : ByteArray), ov = .string q ∧ iv = .int .i64 (i : Int) ∧ k = l.length - i ∧ i ≤ l.length ∧ L q = zbY (l.take i) ∧ Below w.heap.size w wr)
 case atStart => exact ⟨0, _, rfl, rfl, rfl, Nat.zero_le _, rfl, Below.refl _ _⟩
 case round =>
  obtain ⟨i, q, rfl, rfl, hk, hi, hq, hbel⟩ := hrel
  have HK := Lib.hid hk
  have HQQ := Lib.hid hq
  have HBEL := Lib.hid hbel
  have hsz := hbel.size
  have hqs : q.size ≤ 6000 := by
   have h1 := zmJ (l.take i)
   have h2 := zmK l i
   have h3 := HSL.out
   rw [← za7, hq]; omega
  clear hk hq
  by_cases hlt : i < l.length
  ·have t2 : (i : Int) < (l.length : Int) := by omega
   obtain ⟨x, hx⟩ : ∃ x, l[i]? = some x := ⟨_, List.getElem?_eq_getElem hlt⟩
   obtain ⟨p, rfl, hp⟩ := HA.out i x hx
   have c1 := zaf hp hbel
   unfold strV at c1
   have HX := Lib.hid (zka hx)
   have hxs : x.length ≤ 2000 := by
    have h1 := zpg (List.mem_of_getElem? hx)
    have h3 := HSL.out
    omega
   have hxz : (⟨x.toArray⟩ : ByteArray).size ≤ 1000000 := by rw [zf9]; omega
   clear hx hp hbel
   by_cases h0 : i = 0
   ·have t3 : ¬ (i : Int) > 0 := by omega
    have H0 := Lib.hid h0
    clear h0
    go_wp2_with (go_at_call 222; refine (HQ.out _ hxz _).mono ?_; rintro e w1 ⟨⟨y, rfl, hy⟩, hb1⟩; have HY := Lib.hid hy; have HB1 := Lib.hid hb1; have hyl : y.size ≤ 6000 := (by rw [← za7, hy]; have := zgd (L ⟨x.toArray⟩); rw [L_mk] at this ⊢; omega); clear hy hb1)
    go_roundg (l.length - (i + 1))
    case measure => rw [HK.out]; omega
    case rel =>
     refine ⟨i + 1, _, rfl, by go_num, rfl, by omega, ?_, HBEL.out.trans (HB1.out.mono hsz)⟩
     rw [zax, HX.out, HY.out, if_pos H0.out, HQQ.out, H0.out]
     rfl
   ·have t3 : (i : Int) > 0 := by omega
    have H0 := Lib.hid h0
    clear h0
    go_wp2_with (go_at_call 222; refine (HQ.out _ hxz _).mono ?_; rintro e w1 ⟨⟨y, rfl, hy⟩, hb1⟩; have HY := Lib.hid hy; have HB1 := Lib.hid hb1; have hyl : y.size ≤ 6000 := (by rw [← za7, hy]; have := zgd (L ⟨x.toArray⟩); rw [L_mk] at this ⊢; omega); clear hy hb1)
    go_roundg (l.length - (i + 1))
    case measure => rw [HK.out]; omega
    case rel =>
     refine ⟨i + 1, _, rfl, by go_num, rfl, by omega, ?_, HBEL.out.trans (HB1.out.mono hsz)⟩
     rw [zax, zax, HX.out, HY.out, if_neg H0.out, HQQ.out]
     rfl
  ·have t2 : ¬ (i : Int) < (l.length : Int) := by omega
   have hie : l.take i = l := List.take_of_length_le (by omega)
   rw [hie] at HQQ
   clear hbel
   go_wp2
   go_ret2
   exact ⟨⟨_, rfl, HQQ.out⟩, HBEL.out⟩
end Go.Proofs.YtppjodfehhlniaaGreatDoor
end
