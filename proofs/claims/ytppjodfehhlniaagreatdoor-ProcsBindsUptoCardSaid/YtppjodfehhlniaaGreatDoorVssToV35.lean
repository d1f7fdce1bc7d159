/-
  The program's Commands: the names of its table, sorted; The document's list of commands; The law ProcsBinds, where its texts are small; The law ProcsB. Conditions: none.
-/
import Derived.Shelf.Sort.Plain
import Derived.Test.YtppjodfehhlniaaGreatDoorProg
import Derived.Test.YtppjodfehhlniaaGreatDoorV28ToV20
import Derived.Sort.OwnSorted
import Derived.Sort.KeysCollected
import Derived.Laws.OwnMore
import Derived.Test.YtppjodfehhlniaaGreatDoorV8ToWp
set_option linter.unusedVariables false
set_option linter.unusedSimpArgs false
set_option linter.unusedSectionVars false
set_option linter.deprecated false
section
namespace Go.Proofs
open Go.Shelf
def Tryz.lays190_ren : Go.Shelf.Ren := ⟨fun | 190 => 27 | 125 => 66 | 258 => 65 | 128 => 172 | 129 => 173 | 302 => 163 | 303 => 164 | 304 => 165 | 305 => 166 | 306 => 167 | 307 => 168 | 308 => 169 | 309 => 170 | 310 => 171 | 333 => 275 | 329 => 276 | 330 => 277 | 334 => 278 | 335 => 279 | 336 => 280 | 344 => 382 | n => n, fun | 31 => 22 | 9 => 9 | 3 => 3 | 46 => 101 | 0 => 0 | 51 => 214 | 53 => 216 | 4 => 4 | 183 => 208 | 182 => 207 | 131 => 96 | 5 => 5 | 218 => 310 | 222 => 314 | 228 => 419 | 229 => 273 | n => n, fun | n => n⟩
theorem Tryz.lays190 : Go.Proofs.Lays.n190 Tryz.prog Tryz.lays190_ren := {
 mixed := by kernel_rfl
 f125 := Tryz.func66.trans (congrArg some (by kernel_rfl))
 f128 := Tryz.func172.trans (congrArg some (by kernel_rfl))
 f129 := Tryz.func173.trans (congrArg some (by kernel_rfl))
 f190 := Tryz.func27.trans (congrArg some (by kernel_rfl))
 f258 := Tryz.func65.trans (congrArg some (by kernel_rfl))
 f302 := Tryz.func163.trans (congrArg some (by kernel_rfl))
 f303 := Tryz.func164.trans (congrArg some (by kernel_rfl))
 f304 := Tryz.func165.trans (congrArg some (by kernel_rfl))
 f305 := Tryz.func166.trans (congrArg some (by kernel_rfl))
 f306 := Tryz.func167.trans (congrArg some (by kernel_rfl))
 f307 := Tryz.func168.trans (congrArg some (by kernel_rfl))
 f308 := Tryz.func169.trans (congrArg some (by kernel_rfl))
 f309 := Tryz.func170.trans (congrArg some (by kernel_rfl))
 f310 := Tryz.func171.trans (congrArg some (by kernel_rfl))
 f329 := Tryz.func276.trans (congrArg some (by kernel_rfl))
 f330 := Tryz.func277.trans (congrArg some (by kernel_rfl))
 f333 := Tryz.func275.trans (congrArg some (by kernel_rfl))
 f334 := Tryz.func278.trans (congrArg some (by kernel_rfl))
 f335 := Tryz.func279.trans (congrArg some (by kernel_rfl))
 f336 := Tryz.func280.trans (congrArg some (by kernel_rfl))
 f344 := Tryz.func382.trans (congrArg some (by kernel_rfl))
 t0 := Tryz.underlying0
 a0 := Tryz.isAgg0
 z0 := Tryz.sizeOf0
 v0 := Tryz.zeroValue0
 t3 := Tryz.underlying3
 a3 := Tryz.isAgg3
 z3 := Tryz.sizeOf3
 v3 := Tryz.zeroValue3
 t4 := Tryz.underlying4
 a4 := Tryz.isAgg4
 z4 := Tryz.sizeOf4
 v4 := Tryz.zeroValue4
 t5 := Tryz.underlying5
 a5 := Tryz.isAgg5
 z5 := Tryz.sizeOf5
 v5 := Tryz.zeroValue5
 t9 := Tryz.underlying9
 a9 := Tryz.isAgg9
 z9 := Tryz.sizeOf9
 v9 := Tryz.zeroValue9
 t31 := Tryz.underlying22
 a31 := Tryz.isAgg22
 z31 := Tryz.sizeOf22
 v31 := Tryz.zeroValue22
 t46 := Tryz.underlying101
 a46 := Tryz.isAgg101
 z46 := Tryz.sizeOf101
 v46 := Tryz.zeroValue101
 t51 := Tryz.underlying214
 a51 := Tryz.isAgg214
 z51 := Tryz.sizeOf214
 v51 := Tryz.zeroValue214
 t53 := Tryz.underlying216
 a53 := Tryz.isAgg216
 z53 := Tryz.sizeOf216
 v53 := Tryz.zeroValue216
 t131 := Tryz.underlying96
 a131 := Tryz.isAgg96
 z131 := Tryz.sizeOf96
 v131 := Tryz.zeroValue96
 t182 := Tryz.underlying207
 a182 := Tryz.isAgg207
 z182 := Tryz.sizeOf207
 v182 := Tryz.zeroValue207
 t183 := Tryz.underlying208
 a183 := Tryz.isAgg208
 z183 := Tryz.sizeOf208
 v183 := Tryz.zeroValue208
 t218 := Tryz.underlying310
 a218 := Tryz.isAgg310
 z218 := Tryz.sizeOf310
 v218 := Tryz.zeroValue310
 t222 := Tryz.underlying314
 a222 := Tryz.isAgg314
 z222 := Tryz.sizeOf314
 v222 := Tryz.zeroValue314
 t228 := Tryz.underlying419
 a228 := Tryz.isAgg419
 z228 := Tryz.sizeOf419
 v228 := Tryz.zeroValue419
 t229 := Tryz.underlying273
 a229 := Tryz.isAgg273
 z229 := Tryz.sizeOf273
 v229 := Tryz.zeroValue273 }
open Go.Sort Go.RowKit in
theorem Tryz.slices_Sort_string (blk off cap : Nat) (ss : List (List UInt8)) (w : World) (hH : Holds encStr w blk off ss.toArray) (hblk : blk < w.heap.size) (hsz : ss.length < 4611686018427387904) :
  Calls Tryz.prog 27 #[.slice (some ⟨blk, off, none⟩) ss.length cap] w fun e w' =>
   e = .returned (.tuple #[]) ∧ ∃ n os, w' = grow (putRow encStr (Sort.ahead w n) blk off (ss.mergeSort fun x y => decide (x ≤ y)).toArray) os := Any.slices_Sort_string Tryz.lays190 blk off cap ss w hH hblk hsz
end Go.Proofs
end
section
namespace Go.Proofs.YtppjodfehhlniaaGreatDoor
open Go.RowKit Go.Shelf Go.Sort
open Go.ChangeShapes Go.WideShapes Go.ChangeAt
set_option maxRecDepth 100000
theorem ztB {ss : List (List UInt8)} (h : ss.Perm names21) : (ss.mergeSort fun x y => decide (x ≤ y)) = names21 := by
 rw [mergeSort_of_perm h]
 first
  | exact List.mergeSort_of_pairwise (by decide)
  | exact List.mergeSort_of_sorted (by decide)
set_option maxHeartbeats 400000 in
theorem zgj (w : World) : Calls Tryz.prog 13 #[] w fun e w' => ∃ v, e = .returned v ∧ OwnTx w' w.heap.size v names21 ∧ Below w.heap.size w w' := by
 obtain ⟨j0, hj, hy0, hy1, hy2⟩ := info_parts zoe
 have HC := Lib.hid (zqb w)
 go_enter Tryz.func13, Tryz.ntmps13
 go_wp2_with (first | (at_range; refine wpList_range_own _ rfl _ 56 rfl 9 _ law9 Tryz.underlying56 cmdR w.heap.size n D rfl HO.out ?_; intro w2 hrg hg hs; have HRG := Lib.hid hrg; have HG := Lib.hid hg; have HS := Lib.hid hs; clear hrg hg hs; go_frame) | (go_at_call 26; refine HC.out.mono ?_; clear HC; rintro e w1 ⟨rfl, ⟨D, n, h1, h2, h3⟩, h4⟩; dsimp only; have HO := Lib.hid h1; have HP := Lib.hid h2; have HB := Lib.hid h4; clear h1 h2 h4))
 have hsz1 := HB.out.size
 have HB2 := Lib.hid (HB.out.grown HG.out hsz1 (fun k e => by cases e))
 go_loopg [1] (Maps.size D) (fun k v wr => ∃ left cnt ss, k = cnt ∧ wr.ranges Tryz.prog 9 cmdR w.heap.size w1.heap.size n D left cnt ∧ OwnTx wr w.heap.size v ss ∧ Collected D left ss ∧ Below w.heap.size w wr ∧ ss.length + cnt ≤ 8)
 case atStart => exact ⟨_, _, [], rfl, HRG.out, OwnTx.nil _ _, Collected.start D, HB2.out, by have := HO.out.size_le; simp; omega⟩
 case round =>
  obtain ⟨left, cnt, ss, hk, hrg, hrow, hcol, hbel, hcs⟩ := hrel
  rename World => w3
  have HK := Lib.hid hk
  have HR := Lib.hid hrg
  have HW := Lib.hid hrow
  have HC := Lib.hid hcol
  have HBL := Lib.hid hbel
  have hsz3 := hbel.size
  have hlt3 := hrg.lt
  clear hk hrg hrow hcol hbel
  go_wp2_with (first | (at_next; refine wpList_next_ranges _ rfl _ rfl 9 law9 cmdR encStr (fun i : Nat => .func (.func i) #[] #[]) (fun key kl hk => by obtain ⟨x, hx, _⟩ := Maps.keyOf_str Tryz.underlying9 hk; exact ⟨x, hx⟩) (fun v y hv => ztA hv) w.heap.size w1.heap.size n _ _ _ rfl HR.out ?_ ?_))
  ·intro hc0 hl0
   have hperm := (HC.out.perm HR.out.owns law9 Tryz.underlying9 hl0).trans HP.out
   have hl8 : ss.length = 8 := hperm.length_eq
   rcases HW.out.2 with ⟨hnil, h0⟩ | ⟨g, cap, cur, rfl, hbase, hb, h1, h2, h3', h4⟩
   ·exact absurd h0 (by omega)
   ·have hH : Holds encStr w3 g 0 ss.toArray := holds_of_block hb (by have := h4; simp only [Nat.mul_one] at this; exact this)
    have hgl : g < w3.heap.size := (Array.getElem?_eq_some_iff.1 hb).1
    have hc := Tryz.slices_Sort_string g 0 cap ss w3 hH hgl (by omega)
    have HS2 := Lib.hid hc
    have HP2 := Lib.hid hperm
    have HX := Lib.hid (And.intro hb (And.intro h1 (And.intro h2 h3')))
    have HL8 := Lib.hid hl8
    clear hl8 hc hperm hb h1 h2 h3' h4 hH
    go_wp2_with (go_at_call 27; refine HS2.out.mono ?_; rintro e w9 ⟨rfl, nn, os, hw9⟩; dsimp only; have HW9 := Lib.hid hw9; clear hw9)
    go_ret
    obtain ⟨hb, h1, h2, h3'⟩ := HX.out
    rw [HW9.out, ztB HP2.out]
    refine ⟨_, rfl, ?_, HBL.out.grown (grownBy_sorted _) hsz3 (fun j hj => by cases hj; exact hbase)⟩
    have e9 : ss.length = names21.length := by rw [HL8.out]; rfl
    unfold OwnTx
    rw [← e9]
    exact ownsRow_sorted (ss := ss) (ts := names21) e9.symm hbase hb h1 h2 h3'
  ·intro x c kl yd yp w2' cnt2 hkey hlk hv hat hrg2 hlt hg2 hs2 hen
   obtain ⟨x', ex, rfl, _⟩ := Maps.keyOf_str Tryz.underlying9 hkey
   obtain rfl : x = x' := encStr_inj ex
   have hub : some w.heap.size ≠ u1.ownBlock := fun e => by
    obtain ⟨c0, hc0⟩ := zbm HW.out e.symm
    obtain ⟨es, clk, hmb, _⟩ := HR.out.owns
    rw [hmb] at hc0; cases hc0
   have hur : some w1.heap.size ≠ u1.ownBlock := fun e => by
    obtain ⟨c0, hc0⟩ := zbm HW.out e.symm
    obtain ⟨_, _, _, _, _, _, _, _, _, hit, _⟩ := HR.out
    rw [hit] at hc0; cases hc0
   have hrow2 : OwnTx w2' w.heap.size u1 ss := zbl HW.out fun k hk => hg2.block k (HW.out.lt k hk).2 (fun e => hur (by rw [← e, hk]))
   have HR2 := Lib.hid hrg2
   have HW2 := Lib.hid hrow2
   have HC2 := Lib.hid (HC.out.step hlk hat)
   have HB3 := Lib.hid (HBL.out.grown hg2 hsz3 (fun k e => by cases e; exact hsz1))
   have hsz4 := HB3.out.size
   have HUB := Lib.hid hub
   have HUR := Lib.hid hur
   clear hkey hlk hat hrg2 hg2 hs2 hub hur hrow2 hv
   go_wp2_with (at_builtin; refine zah rfl _ _ 22 rfl w.heap.size 9 j0 (.string ⟨#[]⟩) 1 16 Tryz.underlying22 hj hy0 hy1 hy2 rfl (by decide) _ _ _ rfl (HW2.out.alloc _) ⟨w2'.heap.size, 0, none⟩ 1 1 [encStr x] rfl rfl (cell_one_new _ _ _) (by simp [Value.oneCell', encStr]) (by simp only [maxLen]; omega) (by omega) (by simp; omega) ?_; intro v' w6 o g _; have HO6 := Lib.hid (OwnTx.snoc (x := x) o); have HR6 := Lib.hid ((HR2.out.alloc _).kept g HUB.out HUR.out); have HB6 := Lib.hid ((HB3.out.alloc hsz4 _).grown g (by simp; omega) (fun k hk => (HW2.out.lt k hk).1)); clear o g)
   go_roundg cnt2
   case measure => rw [HK.out]; exact hlt
   case rel => exact ⟨_, cnt2, ss ++ [x], rfl, HR6.out, HO6.out, HC2.out, HB6.out, by simp; omega⟩
end Go.Proofs.YtppjodfehhlniaaGreatDoor
end
section
namespace Go.Proofs.YtppjodfehhlniaaGreatDoor
open Go.RowKit Go.Shelf
open Go.ChangeShapes Go.WideShapes Go.ChangeAt
set_option maxRecDepth 100000
theorem zu3 (w : World) (l : List (List UInt8)) (n : Nat) (cs : Array Value) (hn : l.length = n) (hc : cs.toList = l.map strV) (hm : n ≤ maxLen) (m : Nat) (h : m ≤ w.heap.size) : OwnTx (w.alloc (.cells cs 9)) m (.slice (some ⟨w.heap.size, 0, none⟩) n n) l := by
 have hs : cs.size = n * 1 := by rw [← Array.length_toList, hc, List.length_map, hn, Nat.mul_one]
 have h2 := World.ownsRow_lit (e := 9) (size := 1) w cs n h hm hs
 unfold OwnTx
 rw [hn, ← hc]
 exact h2
set_option maxHeartbeats 1000000 in
theorem ztC (w : World) : Calls Tryz.prog 69 #[.agg #[]] w fun e w' => ∃ v, e = .returned v ∧ OwnTx w' w.heap.size v names21 ∧ Below w.heap.size w w' := by
 go_enter Tryz.func69, Tryz.ntmps69
 go_wp2
 go_ret
 have h := fun cs hc => zu3 (w.alloc (.cells #[] 105)) names21 8 cs rfl hc (by decide) w.heap.size (by simp)
 simp only [World.size_alloc] at h
 refine ⟨_, rfl, h _ rfl, ?_⟩
 exact ((Below.refl w.heap.size w).alloc (Nat.le_refl _) _).alloc (by simp) _
set_option maxHeartbeats 1000000 in
theorem ztD (w : World) : Calls Tryz.prog 28 #[.int .i64 21] w fun e w' => ∃ v, e = .returned v ∧ OwnTx w' w.heap.size v names21 ∧ Below w.heap.size w w' := by
 have HC := Lib.hid (ztC w)
 go_enter Tryz.func28, Tryz.ntmps28
 go_wp2_with (go_at_call 69; refine HC.out.mono ?_; rintro e w1 ⟨v, rfl, h1, h2⟩; dsimp only; have H1 := Lib.hid h1; have H2 := Lib.hid h2; clear h1 h2)
 go_ret
 exact ⟨_, rfl, H1.out, H2.out⟩
set_option maxHeartbeats 1000000 in
theorem zm0 (w : World) : Calls Tryz.prog 14 #[] w fun e w' => ∃ v, e = .returned v ∧ OwnTx w' w.heap.size v names21 ∧ Below w.heap.size w w' := by
 have HC := Lib.hid (ztD w)
 go_enter Tryz.func14, Tryz.ntmps14
 go_wp2_with (go_at_call 28; refine HC.out.mono ?_; rintro e w1 ⟨v, rfl, h1, h2⟩; dsimp only; have H1 := Lib.hid h1; have H2 := Lib.hid h2; clear h1 h2)
 go_ret
 exact ⟨_, rfl, H1.out, H2.out⟩
end Go.Proofs.YtppjodfehhlniaaGreatDoor
end
section
namespace Go.Proofs.YtppjodfehhlniaaGreatDoor
open Go.RowKit Go.Shelf
open Go.ChangeShapes Go.WideShapes Go.ChangeAt
set_option maxRecDepth 100000
def zfC : Prop := ∀ (w : World) (t : TypeId) (m : Int), Boxed w 2 t (.int .i64 m) → Calls Tryz.prog 5 #[] w fun e w' => e = .returned (.bool true) ∧ Below w.heap.size w w'
def pOf (s : ByteArray) : List Prm × Nat := match zbu (L s) with
 | .error k => ([], k)
 | .ok ps => (ps, 0)
def bOf (s : ByteArray) (ws : List (List UInt8)) : List (List UInt8) × Nat := match zbu (L s) with
 | .error k => ([], k)
 | .ok ps => match zbS ps ws with
   | .error k => ([], k)
   | .ok q => (q, 0)
theorem zu4 (s : ByteArray) (ws : List (List UInt8)) : (bOf s ws).2 = 0 → (∀ k, zbu (L s) = .error k → k ≠ 0) → (∀ ps k, zbu (L s) = .ok ps → zbS ps ws = .error k → k ≠ 0) → (bOf s ws).1.length = (pOf s).1.length := by
 unfold bOf pOf
 intro h h1 h2
 cases hp : zbu (L s) with
 | error k => rw [hp] at h; exact absurd h (h1 k hp)
 | ok ps =>
   rw [hp] at h
   dsimp only at h ⊢
   cases hb : zbS ps ws with
   | error k => rw [hb] at h; exact absurd h (h2 ps k hp hb)
   | ok q => exact zhc hb
structure BRow (w : World) (v : Value) (bs : List Bool) : Prop where
 ex : ∃ a c, v = .slice a bs.length c ∧ ∀ i x, bs[i]? = some x → ∃ p, a = some p ∧ w.cell? (p.add i) = some (.bool x)
theorem BRow.later {w w' : World} {v : Value} {bs : List Bool} (h : BRow w v bs) (hb : Below w.heap.size w w') : BRow w' v bs := by
 obtain ⟨a, c, h1, h2⟩ := h.ex
 exact ⟨a, c, h1, fun i x hi => by obtain ⟨p, e, hc⟩ := h2 i x hi; exact ⟨p, e, zaf hc hb⟩⟩
theorem parU {s : ByteArray} {w w' : World} {e : Ending} (h : ParR s w e w') : ∃ ua uc va vc ba bc, e = .returned (.tuple #[.slice ua (pOf s).1.length uc, .slice va (pOf s).1.length vc, .slice ba (pOf s).1.length bc, .bool (restOf (pOf s).1), .int .i64 ((pOf s).2 : Int)]) ∧
  StrRow w' (.slice ua (pOf s).1.length uc) ((pOf s).1.map (·.name)) ∧ StrRow w' (.slice va (pOf s).1.length vc) ((pOf s).1.map (·.other)) ∧ BRow w' (.slice ba (pOf s).1.length bc) ((pOf s).1.map (·.has)) ∧ (pOf s).1.length ≤ 1000 ∧ (∀ k, zbu (L s) = .error k → k ≠ 0) ∧ Below w.heap.size w w' := by
 unfold pOf
 cases hp : zbu (L s) with
 | error k =>
   obtain ⟨hk, rfl⟩ := h.2.1 k hp
   exact ⟨none, 0, none, 0, none, 0, rfl, .inl ⟨rfl, rfl⟩, .inl ⟨rfl, rfl⟩, ⟨none, 0, rfl, fun i x hi => by simp at hi⟩, by simp, fun k' h' => by cases h'; exact hk, h.1⟩
 | ok ps =>
   obtain ⟨hl, u, v, b, rfl, ht⟩ := h.2.2 ps hp
   obtain ⟨ua, uc, rfl⟩ := zan ht.ru
   obtain ⟨va, vc, rfl⟩ := zan ht.rv
   obtain ⟨ba, bc, rfl⟩ := zan ht.rb
   have h1 := zaB ht.ru
   have h2 := zaB ht.rv
   have h3 := zi5 ht.rb
   simp only [List.length_map] at h1 h2 ⊢
   refine ⟨ua, uc, va, vc, ba, bc, rfl, h1, h2, ⟨?_⟩, hl, fun k' h' => (by cases h'), h.1⟩
   obtain ⟨a, c, e, h4⟩ := h3
   exact ⟨a, c, by simpa using e, h4⟩
theorem ztE {s : ByteArray} {ws : List (List UInt8)} {w w' : World} {e : Ending} (h : BindR s ws w e w') : ∃ a c, e = .returned (.tuple #[.slice a (bOf s ws).1.length c, .int .i64 ((bOf s ws).2 : Int)]) ∧ StrRow w' (.slice a (bOf s ws).1.length c) (bOf s ws).1 ∧
  (∀ ps k, zbu (L s) = .ok ps → zbS ps ws = .error k → k ≠ 0) ∧ Below w.heap.size w w' := by
 unfold bOf
 cases hp : zbu (L s) with
 | error k =>
   obtain ⟨hk, rfl⟩ := h.2.1 k hp
   exact ⟨none, 0, rfl, .inl ⟨rfl, rfl⟩, fun ps k h' => (by cases h'), h.1⟩
 | ok ps =>
   obtain ⟨hl, h1, h2⟩ := h.2.2 ps hp
   dsimp only
   cases hb : zbS ps ws with
   | error k =>
     obtain ⟨hk, rfl⟩ := h1 k hb
     exact ⟨none, 0, rfl, .inl ⟨rfl, rfl⟩, fun ps' k' h' h'' => (by cases h'; rw [hb] at h''; cases h''; exact hk), h.1⟩
   | ok q =>
     obtain ⟨v, rfl, hv⟩ := h2 q hb
     obtain ⟨a, c, rfl⟩ := zan hv
     exact ⟨a, c, rfl, OwnTx.str hv, fun ps' k' h' h'' => (by cases h'; rw [hb] at h''; cases h''), h.1⟩
theorem zuh {s : ByteArray} {ws : List (List UInt8)} {w w' : World} {e : Ending} (h0 : ∀ ps k, zbu (L s) = .ok ps → zbS ps ws = .error k → k ≠ 0) (h : BindR s ws w e w') : (bOf s ws).1.length ≤ 1000 := by
 unfold bOf
 cases hp : zbu (L s) with
 | error k => simp
 | ok ps =>
   obtain ⟨hl, _⟩ := h.2.2 ps hp
   dsimp only
   cases hb : zbS ps ws with
   | error k => simp
   | ok q => dsimp only; rw [zhc hb]; exact hl
theorem zsn (w : World) (s : ByteArray) : StrRow (w.alloc (.cells #[.string s] 9)) (.slice (some ⟨w.heap.size, 0, none⟩) 1 1) [L s] :=
 .inr ⟨_, 1, rfl, fun i t hi => by
  cases i with
  | zero =>
    simp at hi; subst hi
    have := (Boxed.new w 9 (.string s)).cell
    have e : strV (L s) = .string s := by unfold strV L; cases s; simp
    rw [e]
    simp [Addr.add]
  | succ i => simp at hi⟩
theorem zdH (w : World) (u v : Value) (l : List (List UInt8)) (hu : StrRow w u l) (hv : StrRow w v l) (hl : l.length ≤ 1000000) : Calls Tryz.prog 8 #[u, v] w fun e w' => e = .returned (.bool true) ∧ Below w.heap.size w w' := by
 refine (ztn w u v l l hu hv hl hl).mono ?_
 rintro e w' ⟨rfl, h⟩
 exact ⟨by simp, h⟩
end Go.Proofs.YtppjodfehhlniaaGreatDoor
end
section
namespace Go.Proofs.YtppjodfehhlniaaGreatDoor
open Go.RowKit Go.Shelf
open Go.ChangeShapes Go.WideShapes Go.ChangeAt
set_option maxRecDepth 100000
set_option maxHeartbeats 8000000 in
theorem zow (hA : zfC) (w : World) (t0 : TypeId) (m0 : Int) (hG : Boxed w 2 t0 (.int .i64 m0)) (s : ByteArray) (wv : Value) (ws : List (List UInt8)) (now : Int) (hnow1 : -9223372036854775808 ≤ now) (hnow2 : now ≤ 9223372036854775807)
  (hws : StrRow w wv ws) (hcw : CapOk wv) (h1 : bulk [L s] ≤ 800) (h2 : bulk ws ≤ 800) :
  Calls Tryz.prog 3 #[.string s, wv, .int .i64 now] w fun e w' => e = .returned (.bool true) ∧ Below w.heap.size w w' := by
 have hss : s.size ≤ 800 := by
  have : bulk [L s] = (L s).length + 1 := by simp [bulk]
  rw [this, za7] at h1; omega
 have hsum : sumL ws ≤ 2000 := Nat.le_trans (Nat.le_refl _) (Nat.le_trans h2 (by decide))
 obtain ⟨xa, xc, rfl, _⟩ := hws.form
 have S1 := Lib.hid (zge (w.alloc (.cells #[.string s] 9)) _ _ (zsn w s) (by omega))
 have hb0 : Below w.heap.size w (w.alloc (.cells #[.string s] 9)) := (Below.refl _ _).alloc (Nat.le_refl _) _
 have S2 := Lib.hid (zge (w.alloc (.cells #[.string s] 9)) _ _ (hws.later hb0) (by omega))
 have HAW := Lib.hid hA
 have HU := Lib.hid hws
 have HCW := Lib.hid hcw
 have HG := Lib.hid hG
 have L0 := Lib.hid hb0
 have e1 : decide (bulk [L s] ≤ 800) = true := decide_eq_true h1
 have e2 : decide (bulk ws ≤ 800) = true := decide_eq_true h2
 clear hA hws hG hb0 h1 h2 hcw
 rw [e1] at S1
 rw [e2] at S2
 clear e1 e2
 go_enter Tryz.func3, Tryz.ntmps3
 go_wp2_with (first
  | (go_at_call 4; refine S1.out.mono ?_; clear S1; rintro e w0 ⟨rfl, rfl⟩; dsimp only)
  | (go_at_call 4; refine S2.out.mono ?_; clear S2; rintro e w0 ⟨rfl, rfl⟩; dsimp only)
  | (go_at_call 6; refine (zd5 m0 s (by omega) _ (Boxed.later HG.out L0.out).cell).mono ?_; rintro e w1 g; obtain ⟨ua, uc, va, vc, ba, bc, rfl, k1, k2, k3, k4, k5, k6⟩ := parU g; dsimp only; have A1 := Lib.hid k1; have A2 := Lib.hid k2; have A3 := Lib.hid k3; have hpl := k4; have HNE := Lib.hid k5; have L1 := Lib.hid (L0.out.trans (k6.mono L0.out.size)); clear g k1 k2 k3 k4 k5 k6)
  | (go_at_call 7; refine (zmX s _ (zd6 s (by omega) _)).mono ?_; rintro e w2 g; obtain ⟨ua2, uc2, va2, vc2, ba2, bc2, rfl, k1, k2, k3, _, _, k6⟩ := parU g; dsimp only; have C1 := Lib.hid (A1.out.later k6); have C2 := Lib.hid (A2.out.later k6); have C3 := Lib.hid (A3.out.later k6); have D1 := Lib.hid k1; have D2 := Lib.hid k2; have D3 := Lib.hid k3; have L2 := Lib.hid (L1.out.trans (k6.mono L1.out.size)); have T1 := Lib.hid True.intro; clear g k1 k2 k3 k6 A1 A2 A3)
  | (go_at_call 8; clear T1; refine (zdH _ _ _ ((pOf s).1.map (·.name)) C1.out D1.out (by simp; omega)).mono ?_; rintro e w3 ⟨rfl, k3⟩; dsimp only; have E2 := Lib.hid (C2.out.later k3); have E3 := Lib.hid (C3.out.later k3); have F2 := Lib.hid (D2.out.later k3); have F3 := Lib.hid (D3.out.later k3); have L3 := Lib.hid (L2.out.trans (k3.mono L2.out.size)); have T2 := Lib.hid True.intro; clear k3 C1 C2 C3 D1 D2 D3)
  | (go_at_call 8; clear T2; refine (zdH _ _ _ ((pOf s).1.map (·.other)) E2.out F2.out (by simp; omega)).mono ?_; rintro e w4 ⟨rfl, k3⟩; dsimp only; have A3 := Lib.hid (E3.out.later k3); have B3 := Lib.hid (F3.out.later k3); have L4 := Lib.hid (L3.out.trans (k3.mono L3.out.size)); clear k3 E2 E3 F2 F3))
 obtain ⟨a9, c9, e9, h3⟩ := A3.out.ex
 obtain ⟨b9, d9, f9, h4⟩ := B3.out.ex
 simp only [List.length_map, Value.slice.injEq, true_and] at e9 f9
 obtain ⟨rfl, rfl⟩ := e9
 obtain ⟨rfl, rfl⟩ := f9
 have H3 := Lib.hid h3
 have H4 := Lib.hid h4
 clear h3 h4 A3 B3
 go_loopg [81] ((pOf s).1.length) (fun k iv wr => ∃ i : Nat, iv = .int .i64 (i : Int) ∧ k = (pOf s).1.length - i ∧ i ≤ (pOf s).1.length ∧ Below w4.heap.size w4 wr)
 case atStart => exact ⟨0, rfl, by omega, by omega, Below.refl _ _⟩
 case round =>
  obtain ⟨i, rfl, hk, hi2, hbel⟩ := hrel
  rename World => w7
  have HK := Lib.hid hk
  have HB7 := Lib.hid hbel
  clear hk hbel
  by_cases hlt : i < (pOf s).1.length
  ·have t1 : (i : Int) < ((pOf s).1.length : Int) := by omega
   obtain ⟨x, hx⟩ : ∃ x, (pOf s).1[i]? = some x := ⟨_, List.getElem?_eq_getElem hlt⟩
   obtain ⟨p, rfl, hp⟩ := H3.out i x.has (by rw [List.getElem?_map, hx]; rfl)
   obtain ⟨q, rfl, hq⟩ := H4.out i x.has (by rw [List.getElem?_map, hx]; rfl)
   have g1 := zaf hp HB7.out
   have g2 := zaf hq HB7.out
   clear hx hp hq
   go_wp2
   go_region
   go_wp2
   go_roundg ((pOf s).1.length - (i + 1))
   case measure => rw [HK.out]; omega
   case rel => exact ⟨i + 1, by go_num, rfl, by omega, HB7.out.drew⟩
  ·have t1 : ¬ (i : Int) < ((pOf s).1.length : Int) := by omega
   have L7 := Lib.hid (L4.out.trans (HB7.out.mono L4.out.size))
   by_cases hz : (bOf s ws).2 = 0
   ·have hzI : (((bOf s ws).2 : Int) != 0) = false := by simp [hz]
    go_wp2_with (first
    | (go_at_call 9; refine (zmU m0 s (by omega) _ ws _ (Boxed.later HG.out L7.out).cell (HU.out.later L7.out) HCW.out hsum).mono ?_; rintro e w8 g; obtain ⟨a8, c8, rfl, k1, k2, k6⟩ := ztE g; dsimp only; have hbl := zuh k2 g; have hq : (((bOf s ws).1.length : Int) == ((pOf s).1.length : Int)) = true := (by rw [zu4 s ws hz HNE.out k2]; simp); have M1 := Lib.hid k1; have L8 := Lib.hid (L7.out.trans (k6.mono L7.out.size)); clear g k1 k2 k6)
    | (go_at_call 10; refine (zi7 s _ ws _ (HU.out.later L8.out) HCW.out hsum (zd6 s (by omega) _)).mono ?_; rintro e w9 g; obtain ⟨a9, c9, rfl, k1, _, k6⟩ := ztE g; dsimp only; have M2 := Lib.hid (M1.out.later k6); have M3 := Lib.hid k1; have L9 := Lib.hid (L8.out.trans (k6.mono L8.out.size)); clear g k1 k6 M1)
    | (go_at_call 11; refine (zmZ s (by omega) now hnow1 hnow2 _).mono ?_; rintro e w10 ⟨rfl, k6⟩; dsimp only [lvlV]; have M1 := Lib.hid (M2.out.later k6); have M4 := Lib.hid (M3.out.later k6); have L10 := Lib.hid (L9.out.trans (k6.mono L9.out.size)); clear k6 M2 M3)
    | (go_at_call 12; refine (zhh s (by omega) now hnow1 hnow2 _).mono ?_; rintro e w11 ⟨rfl, rfl⟩; dsimp only [lvlV]; have T5 := Lib.hid True.intro)
    | (go_at_call 8; clear T5; refine (zdH _ _ _ (bOf s ws).1 M1.out M4.out (by omega)).mono ?_; rintro e w12 ⟨rfl, k6⟩; dsimp only; have L12 := Lib.hid (L10.out.trans (k6.mono L10.out.size)); clear k6 M1 M4)
    | (go_at_call 13; refine (zgj w12).mono ?_; rintro e w13 ⟨v13, rfl, k1, k6⟩; dsimp only; have N1 := Lib.hid k1; have L13 := Lib.hid (L12.out.trans (k6.mono L12.out.size)); clear k1 k6)
    | (go_at_call 14; refine (zm0 w13).mono ?_; rintro e w14 ⟨v14, rfl, k1, k6⟩; dsimp only; have N2 := Lib.hid k1; have N3 := Lib.hid (N1.out.later k6); have L14 := Lib.hid (L13.out.trans (k6.mono L13.out.size)); have T6 := Lib.hid True.intro; clear k1 k6 N1)
    | (go_at_call 8; clear T6; refine (zdH w14 _ _ names21 N3.out.str N2.out.str (by decide)).mono ?_; rintro e w15 ⟨rfl, k6⟩; dsimp only; have L15 := Lib.hid (L14.out.trans (k6.mono L14.out.size)); clear k6)
    | (go_at_call 5; refine (HAW.out w15 t0 m0 (Boxed.later HG.out L15.out)).mono ?_; rintro e w16 ⟨rfl, k6⟩; dsimp only; have L16 := Lib.hid (L15.out.trans (k6.mono L15.out.size)); clear k6))
    go_ret
    exact ⟨rfl, L16.out⟩
   ·have hzI : (((bOf s ws).2 : Int) != 0) = true := by simp; omega
    go_wp2_with (first
    | (go_at_call 9; refine (zmU m0 s (by omega) _ ws _ (Boxed.later HG.out L7.out).cell (HU.out.later L7.out) HCW.out hsum).mono ?_; rintro e w8 g; obtain ⟨a8, c8, rfl, k1, k2, k6⟩ := ztE g; dsimp only; have hbl := zuh k2 g; skip; have M1 := Lib.hid k1; have L8 := Lib.hid (L7.out.trans (k6.mono L7.out.size)); clear g k1 k2 k6)
    | (go_at_call 10; refine (zi7 s _ ws _ (HU.out.later L8.out) HCW.out hsum (zd6 s (by omega) _)).mono ?_; rintro e w9 g; obtain ⟨a9, c9, rfl, k1, _, k6⟩ := ztE g; dsimp only; have M2 := Lib.hid (M1.out.later k6); have M3 := Lib.hid k1; have L9 := Lib.hid (L8.out.trans (k6.mono L8.out.size)); clear g k1 k6 M1)
    | (go_at_call 11; refine (zmZ s (by omega) now hnow1 hnow2 _).mono ?_; rintro e w10 ⟨rfl, k6⟩; dsimp only [lvlV]; have M1 := Lib.hid (M2.out.later k6); have M4 := Lib.hid (M3.out.later k6); have L10 := Lib.hid (L9.out.trans (k6.mono L9.out.size)); clear k6 M2 M3)
    | (go_at_call 12; refine (zhh s (by omega) now hnow1 hnow2 _).mono ?_; rintro e w11 ⟨rfl, rfl⟩; dsimp only [lvlV]; have T5 := Lib.hid True.intro)
    | (go_at_call 8; clear T5; refine (zdH _ _ _ (bOf s ws).1 M1.out M4.out (by omega)).mono ?_; rintro e w12 ⟨rfl, k6⟩; dsimp only; have L12 := Lib.hid (L10.out.trans (k6.mono L10.out.size)); clear k6 M1 M4)
    | (go_at_call 13; refine (zgj w12).mono ?_; rintro e w13 ⟨v13, rfl, k1, k6⟩; dsimp only; have N1 := Lib.hid k1; have L13 := Lib.hid (L12.out.trans (k6.mono L12.out.size)); clear k1 k6)
    | (go_at_call 14; refine (zm0 w13).mono ?_; rintro e w14 ⟨v14, rfl, k1, k6⟩; dsimp only; have N2 := Lib.hid k1; have N3 := Lib.hid (N1.out.later k6); have L14 := Lib.hid (L13.out.trans (k6.mono L13.out.size)); have T6 := Lib.hid True.intro; clear k1 k6 N1)
    | (go_at_call 8; clear T6; refine (zdH w14 _ _ names21 N3.out.str N2.out.str (by decide)).mono ?_; rintro e w15 ⟨rfl, k6⟩; dsimp only; have L15 := Lib.hid (L14.out.trans (k6.mono L14.out.size)); clear k6)
    | (go_at_call 5; refine (HAW.out w15 t0 m0 (Boxed.later HG.out L15.out)).mono ?_; rintro e w16 ⟨rfl, k6⟩; dsimp only; have L16 := Lib.hid (L15.out.trans (k6.mono L15.out.size)); clear k6))
    go_ret
    exact ⟨rfl, L16.out⟩
end Go.Proofs.YtppjodfehhlniaaGreatDoor
end
section
namespace Go.Proofs.YtppjodfehhlniaaGreatDoor
open Go.RowKit Go.Shelf
open Go.ChangeShapes Go.WideShapes Go.ChangeAt
set_option maxRecDepth 100000
set_option maxHeartbeats 2000000 in
theorem zox (hA : zfC) (w : World) (t0 : TypeId) (m0 : Int) (hG : Boxed w 2 t0 (.int .i64 m0)) (s : ByteArray) (wv : Value) (ws : List (List UInt8)) (now : Int)
  (hws : StrRow w wv ws) (h1 : bulk [L s] ≤ 10000000) (h2 : bulk ws ≤ 10000000) (h : ¬ (bulk [L s] ≤ 800 ∧ bulk ws ≤ 800)) :
  Calls Tryz.prog 3 #[.string s, wv, .int .i64 now] w fun e w' => e = .returned (.bool true) ∧ Below w.heap.size w w' := by
 obtain ⟨xa, xc, rfl, _⟩ := hws.form
 have S1 := Lib.hid (zge (w.alloc (.cells #[.string s] 9)) _ _ (zsn w s) h1)
 have hb0 : Below w.heap.size w (w.alloc (.cells #[.string s] 9)) := (Below.refl _ _).alloc (Nat.le_refl _) _
 have S2 := Lib.hid (zge (w.alloc (.cells #[.string s] 9)) _ _ (hws.later hb0) h2)
 have HAW := Lib.hid hA
 have HG := Lib.hid hG
 have L0 := Lib.hid hb0
 clear hA hws hG hb0
 by_cases ha : bulk [L s] ≤ 800
 ·have hb : ¬ bulk ws ≤ 800 := fun hb => h ⟨ha, hb⟩
  have e1 : decide (bulk [L s] ≤ 800) = true := decide_eq_true ha
  have e2 : decide (bulk ws ≤ 800) = false := decide_eq_false hb
  clear h1 h2 h ha hb
  rw [e1] at S1
  rw [e2] at S2
  clear e1 e2
  go_enter Tryz.func3, Tryz.ntmps3
  go_wp2_with (first
   | (go_at_call 4; refine S1.out.mono ?_; clear S1; rintro e w0 ⟨rfl, rfl⟩; dsimp only)
   | (go_at_call 4; refine S2.out.mono ?_; clear S2; rintro e w0 ⟨rfl, rfl⟩; dsimp only)
   | (go_at_call 5; refine (HAW.out _ t0 m0 (Boxed.later HG.out L0.out)).mono ?_; rintro e w1 ⟨rfl, k6⟩; dsimp only; have L1 := Lib.hid (L0.out.trans (k6.mono L0.out.size)); clear k6))
  go_ret
  exact ⟨rfl, L1.out⟩
 ·have e1 : decide (bulk [L s] ≤ 800) = false := decide_eq_false ha
  clear h1 h2 h ha
  rw [e1] at S1
  clear e1 S2
  go_enter Tryz.func3, Tryz.ntmps3
  go_wp2_with (first
   | (go_at_call 4; refine S1.out.mono ?_; clear S1; rintro e w0 ⟨rfl, rfl⟩; dsimp only)
   | (go_at_call 5; refine (HAW.out _ t0 m0 (Boxed.later HG.out L0.out)).mono ?_; rintro e w1 ⟨rfl, k6⟩; dsimp only; have L1 := Lib.hid (L0.out.trans (k6.mono L0.out.size)); clear k6))
  go_ret
  exact ⟨rfl, L1.out⟩
theorem zso (hA : zfC) (w : World) (t0 : TypeId) (m0 : Int) (hG : Boxed w 2 t0 (.int .i64 m0)) (s : ByteArray) (wv : Value) (ws : List (List UInt8)) (now : Int) (hnow1 : -9223372036854775808 ≤ now) (hnow2 : now ≤ 9223372036854775807)
  (hws : StrRow w wv ws) (hcw : CapOk wv) (h1 : bulk [L s] ≤ 10000000) (h2 : bulk ws ≤ 10000000) :
  Calls Tryz.prog 3 #[.string s, wv, .int .i64 now] w fun e w' => e = .returned (.bool true) ∧ Below w.heap.size w w' := by
 by_cases h : bulk [L s] ≤ 800 ∧ bulk ws ≤ 800
 ·exact zow hA w t0 m0 hG s wv ws now hnow1 hnow2 hws hcw h.1 h.2
 ·exact zox hA w t0 m0 hG s wv ws now hws h1 h2 h
end Go.Proofs.YtppjodfehhlniaaGreatDoor
end
