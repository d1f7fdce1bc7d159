/-
  The reader of scripts: a word; The reader of scripts: the words of a command; The reader of scripts: a command; The reader of scripts: the commands of. Conditions: none.
-/
import Derived.Test.YtfkeeieoapimlaaGreatDoorB4ToB14
import Derived.WalkMore
set_option linter.unusedVariables false
set_option linter.unusedSimpArgs false
set_option linter.unusedSectionVars false
set_option linter.deprecated false
section
namespace Go.Proofs.YtfkeeieoapimlaaGreatDoor
open Go.ChangeShapes Go.WideShapes Go.ChangeAt Go.RowKit
set_option maxRecDepth 100000
theorem HasG.below {w w' : World} {B : Nat} (h : Xe.HasG w.heap) (hb : Below B w w') (hB : 0 < B) : Xe.HasG w'.heap := by
 obtain ⟨m, t, hm⟩ := h
 exact ⟨m, t, (hb.block 0 hB).trans hm⟩
theorem HasG.off {w w' : World} {X : Nat} (h : Xe.HasG w.heap) (hb : Off X w w') (hX : 0 ≠ X) : Xe.HasG w'.heap := by
 obtain ⟨m, t, hm⟩ := h
 exact ⟨m, t, hb.obj hm hX⟩
theorem HasG.pos {w : World} (h : Xe.HasG w.heap) : 0 < w.heap.size := by
 obtain ⟨m, t, hm⟩ := h
 exact (Array.getElem?_eq_some_iff.1 hm).1
structure WI (w : World) (R : Nat) (s : ByteArray) (i : Nat) (W : World) : Prop where
 rb : W.heap[w.heap.size]? = some (.cells #[.pointer (some ⟨R, 0, none⟩)] 199 (0, 0))
 wb : W.heap[w.heap.size + 1]? = some (.cells #[.bool false] 4 (0, 0))
 res : W.heap[w.heap.size + 2]? = some (.cells #[.bool false, .slice none 0 0] 216 (0, 0))
 rd : RdAt W R s i
 off : Off R w W
theorem WI.sz {w W : World} {R : Nat} {s : ByteArray} {i : Nat} (h : WI w R s i W) : w.heap.size + 2 < W.heap.size := (Array.getElem?_eq_some_iff.1 h.res).1
theorem WI.below {w W W' : World} {R : Nat} {s : ByteArray} {i : Nat} (h : WI w R s i W) (hb : Below W.heap.size W W') : WI w R s i W' :=
 ⟨(hb.block _ (Array.getElem?_eq_some_iff.1 h.rb).1).trans h.rb, (hb.block _ (Array.getElem?_eq_some_iff.1 h.wb).1).trans h.wb, (hb.block _ (Array.getElem?_eq_some_iff.1 h.res).1).trans h.res, h.rd.later hb, h.off.trans (Off.of hb)⟩
theorem WI.drew {w W : World} {R : Nat} {s : ByteArray} {i : Nat} (h : WI w R s i W) : WI w R s i W.drew := ⟨h.rb, h.wb, h.res, h.rd, h.off.drew⟩
theorem WI.start {w : World} {R : Nat} {s : ByteArray} {i : Nat} (h : RdAt w R s i) :
  WI w R s i (((w.alloc (.cells #[.pointer (some ⟨R, 0, none⟩)] 199)).alloc (.cells #[.bool false] 4)).alloc (.cells #[.bool false, .slice none 0 0] 216)) := by
 obtain ⟨A1, hA1, sA1, aN1, aO1, bA1⟩ := zag w #[.pointer (some ⟨R, 0, none⟩)] 199
 obtain ⟨A2, hA2, sA2, aN2, aO2, bA2⟩ := zag A1 #[.bool false] 4
 obtain ⟨A3, hA3, sA3, aN3, aO3, bA3⟩ := zag A2 #[.bool false, .slice none 0 0] 216
 rw [hA1, hA2, hA3]
 refine ⟨(aO3 _ (by omega)).trans ((aO2 _ (by omega)).trans aN1), (aO3 _ (by omega)).trans (by rw [← sA1]; exact aN2), by rw [show w.heap.size + 2 = A2.heap.size by omega]; exact aN3, ((h.later bA1).later bA2).later bA3, (((Off.of bA1).trans (Off.of bA2)).trans (Off.of bA3))⟩
theorem word_fin {w w2 w3 : World} {R i j : Nat} {s x : ByteArray} {wd : List UInt8} {v : Value} (hI : WI w R s i w2) (hres : w3.heap[w.heap.size + 1 + 1]? = some (.cells #[.bool false, .slice none 0 0] 216 (0, 0)))
  (htk : zdd w3 w2.heap.size v x) (hx : L x = wd) (hrd : RdAt w3 R s j) (hoff : Off R w2 w3) :
  ((w3.setCell ⟨w.heap.size + 1 + 1, 0, none⟩ (.bool false)).setCell ⟨w.heap.size + 1 + 1, 1, none⟩ v).heap[w.heap.size + 1 + 1]? = some (.cells ((#[.bool false, .slice none 0 0].setIfInBounds 0 (.bool false)).setIfInBounds 1 v) 216 (0, 0)) ∧
  WordR w R s j wd (.returned (.agg #[.bool false, v])) ((w3.setCell ⟨w.heap.size + 1 + 1, 0, none⟩ (.bool false)).setCell ⟨w.heap.size + 1 + 1, 1, none⟩ v) := by
 have hsz := hI.sz
 have hRne : R ≠ w.heap.size + 1 + 1 := fun e => by
  have h1 := hrd
  unfold RdAt at h1
  rw [e, hres] at h1
  cases h1
 refine ⟨heap_setCell_same _ _ 1 _ _ _ (heap_setCell_same _ _ 0 _ _ _ hres), v, x, rfl, ?_, hx, ?_, ?_⟩
 ·refine zaq (zak htk fun k hk => ?_) (by omega)
  have hk2 := (htk.lt k hk).1
  have hkn : k ≠ w.heap.size + 1 + 1 := by omega
  rw [heap_setCell_other _ _ _ _ (by exact hkn), heap_setCell_other _ _ _ _ (by exact hkn)]
 ·exact (heap_setCell_other _ _ _ _ hRne).trans ((heap_setCell_other _ _ _ _ hRne).trans hrd)
 ·exact ((hI.off.trans hoff).setNew (p := ⟨w.heap.size + 1 + 1, 0, none⟩) (by show _ ≤ w.heap.size + 1 + 1; omega) _).setNew (p := ⟨w.heap.size + 1 + 1, 1, none⟩) (by show _ ≤ w.heap.size + 1 + 1; omega) _
set_option maxHeartbeats 8000000 in
theorem word_braced (w : World) (hG : Xe.HasG w.heap) {R : Nat} {s : ByteArray} {i : Nat} (h : RdAt w R s i) (hR0 : 0 < R) (hs : s.size ≤ 100000) {wd : List UInt8} {r : List (List UInt8)} (hw : Br wd) (hi : i ≤ s.size) (hat : (L s).drop i = zaO (wd :: r)) :
  Calls Tryz.prog 249 #[.pointer (some ⟨R, 0, none⟩), .bool false] w fun e w' => WordR w R s (i + (wd.length + 2)) wd e w' := by
 have hby := zaN s
 have lR := h.lt
 obtain ⟨hps, h123⟩ := zeM hat hw
 have t0 : (0 : Int) ≤ (i : Int) := by omega
 have t1 : (i : Int) < (s.size : Int) := by omega
 have H123 := Lib.hid (show ((byte s i : Nat) : Int) = 123 by omega)
 have HAT := Lib.hid hat
 have HW := Lib.hid hw
 have HS := Lib.hid (WI.start h)
 have hGA : Xe.HasG (((w.alloc (.cells #[.pointer (some ⟨R, 0, none⟩)] 199)).alloc (.cells #[.bool false] 4)).alloc (.cells #[.bool false, .slice none 0 0] 216)).heap := HasG.off hG HS.out.off (by omega)
 have HG := Lib.hid hGA
 clear hat hw h h123 hG hGA
 go_enter Tryz.func249, Tryz.ntmps249
 go_wp2
 refine zfo (fun W => WI w R s i W ∧ Xe.HasG W.heap) ⟨HS.out, HG.out⟩ ?_
 rintro W0 ⟨hI, hg⟩
 have b0 : W0.cell? ⟨w.heap.size, 0, none⟩ = some (.pointer (some ⟨R, 0, none⟩)) := by rw [Lib.cell_of_heap hI.rb]; rfl
 have d0 := hI.rd.c0
 have d1 := hI.rd.c1
 have HI := Lib.hid hI
 have HG0 := Lib.hid hg
 clear hI hg HS HG
 go_region_held3 (fun W => W.cell? ⟨w.heap.size, 0, none⟩ = some (.pointer (some ⟨R, 0, none⟩)) ∧ W.cell? ⟨R, 0, none⟩ = some (.string s) ∧ W.cell? ⟨R, 1, none⟩ = some (.int .i64 (i : Int))) (first | exact ⟨b0, d0, d1⟩ | exact ⟨q0, q1, q2⟩) (first | (go_at_call 310; have hgg : Xe.HasG W0.drew.heap := HG0.out; have hc := words_any W0.drew hgg; refine hc.mono ?_; clear hc hgg; intro e w2 hx; obtain ⟨m, rfl, hm, hb⟩ := hx; dsimp only; have hI2 : WI w R s i w2 := HI.out.drew.below hb; have q0 : w2.cell? ⟨w.heap.size, 0, none⟩ = some (.pointer (some ⟨R, 0, none⟩)) := (by rw [Lib.cell_of_heap hI2.rb]; rfl); have q1 := hI2.rd.c0; have q2 := hI2.rd.c1; have hlk := (hm w2 rfl).1; rw [← H123.out] at hlk; have q3 : w2.cell? ⟨w.heap.size + 1, 0, none⟩ = some (.bool false) := (by rw [Lib.cell_of_heap hI2.wb]; rfl); have HI2 := Lib.hid hI2; clear hm hb hI2))
 all_goals go_wp2_with (go_at_call 371; refine (braced_any _ HI2.out.rd hs HW.out hi HAT.out).mono ?_; intro e w3 hx; obtain ⟨v, x, rfl, htk, hLx, hrd, hoff⟩ := hx; obtain ⟨g, c, rfl⟩ := zam (n := 0) htk; dsimp only; have hres : w3.heap[w.heap.size + 1 + 1]? = some (.cells #[.bool false, .slice none 0 0] 216 (0, 0)) := hoff.obj HI2.out.res (by omega); have a0 : w3.cell? ⟨w.heap.size + 1 + 1, 0, none⟩ = some (.bool false) := (by rw [Lib.cell_of_heap hres]; rfl); have a1 : w3.cell? ⟨w.heap.size + 1 + 1, 1, none⟩ = some (.slice none 0 0) := (by rw [Lib.cell_of_heap hres]; rfl); have z0 : w3.frozen? ⟨w.heap.size + 1 + 1, 0, none⟩ = false := Lib.frozen_of_heap hres 0; have z1 : w3.frozen? ⟨w.heap.size + 1 + 1, 1, none⟩ = false := Lib.frozen_of_heap hres 1; have HF := Lib.hid (word_fin HI2.out hres htk hLx hrd hoff); clear htk hLx hrd hoff hres)
 all_goals exact word_ret (p := 4) rfl rfl HF.out.1 HF.out.2
set_option maxHeartbeats 8000000 in
theorem word_plain (w : World) (hG : Xe.HasG w.heap) {R : Nat} {s : ByteArray} {i : Nat} (h : RdAt w R s i) (hR0 : 0 < R) (hs : s.size ≤ 100000) {wd : List UInt8} {r : List (List UInt8)} (hw : Pl wd) (hi : i ≤ s.size) (hat : (L s).drop i = zaO (wd :: r)) :
  Calls Tryz.prog 249 #[.pointer (some ⟨R, 0, none⟩), .bool false] w fun e w' => WordR w R s (i + wd.length) wd e w' := by
 have hby := zaN s
 have lR := h.lt
 obtain ⟨hps, hpb⟩ := plain_at hat hw (j := 0) (List.length_pos_iff.2 hw.ne)
 rw [Nat.add_zero] at hps hpb
 have t0 : (0 : Int) ≤ (i : Int) := by omega
 have t1 : (i : Int) < (s.size : Int) := by omega
 have H123 := Lib.hid (show ¬ ((byte s i : Nat) : Int) = 123 from fun e => hpb.open_ (by omega))
 have H34 := Lib.hid (show ¬ ((byte s i : Nat) : Int) = 34 from fun e => hpb.quo (by omega))
 have HAT := Lib.hid hat
 have HW := Lib.hid hw
 have HS := Lib.hid (WI.start h)
 have hGA : Xe.HasG (((w.alloc (.cells #[.pointer (some ⟨R, 0, none⟩)] 199)).alloc (.cells #[.bool false] 4)).alloc (.cells #[.bool false, .slice none 0 0] 216)).heap := HasG.off hG HS.out.off (by omega)
 have HG := Lib.hid hGA
 clear hat hw h hpb hG hGA
 go_enter Tryz.func249, Tryz.ntmps249
 go_wp2
 refine zfo (fun W => WI w R s i W ∧ Xe.HasG W.heap) ⟨HS.out, HG.out⟩ ?_
 rintro W0 ⟨hI, hg⟩
 have b0 : W0.cell? ⟨w.heap.size, 0, none⟩ = some (.pointer (some ⟨R, 0, none⟩)) := by rw [Lib.cell_of_heap hI.rb]; rfl
 have d0 := hI.rd.c0
 have d1 := hI.rd.c1
 have HI := Lib.hid hI
 have HG0 := Lib.hid hg
 clear hI hg HS HG
 go_region_held3 (fun W => W.cell? ⟨w.heap.size, 0, none⟩ = some (.pointer (some ⟨R, 0, none⟩)) ∧ W.cell? ⟨R, 0, none⟩ = some (.string s) ∧ W.cell? ⟨R, 1, none⟩ = some (.int .i64 (i : Int))) (first | exact ⟨b0, d0, d1⟩ | exact ⟨q0, q1, q2⟩) (first | (go_at_call 310; have hgg : Xe.HasG W0.drew.heap := HG0.out; have hc := words_any W0.drew hgg; refine hc.mono ?_; clear hc hgg; intro e w2 hx; obtain ⟨m, rfl, hm, hb⟩ := hx; dsimp only; have hI2 : WI w R s i w2 := HI.out.drew.below hb; have q0 : w2.cell? ⟨w.heap.size, 0, none⟩ = some (.pointer (some ⟨R, 0, none⟩)) := (by rw [Lib.cell_of_heap hI2.rb]; rfl); have q1 := hI2.rd.c0; have q2 := hI2.rd.c1; have hlk := (hm w2 rfl).2 _ H123.out H34.out; have q3 : w2.cell? ⟨w.heap.size + 1, 0, none⟩ = some (.bool false) := (by rw [Lib.cell_of_heap hI2.wb]; rfl); have HI2 := Lib.hid hI2; clear hm hb hI2))
 all_goals have hmf : ∀ (fn : Fn) (first cap : Array Value) (w : World), (Instr.makeFunc fn first cap).run Tryz.prog w = .ok (.func fn first cap) w := fun _ _ _ _ => rfl
 all_goals go_wp2_with (go_at_call 180; refine (parts_any _ q0 q3 (by omega) (by omega) HI2.out.rd hs HW.out hi HAT.out).mono ?_; intro e w3 hx; obtain ⟨v, x, rfl, htk, hLx, hrd, hoff⟩ := hx; obtain ⟨g, c, rfl⟩ := zam (n := 0) htk; dsimp only; have hres : w3.heap[w.heap.size + 1 + 1]? = some (.cells #[.bool false, .slice none 0 0] 216 (0, 0)) := hoff.obj HI2.out.res (by omega); have a0 : w3.cell? ⟨w.heap.size + 1 + 1, 0, none⟩ = some (.bool false) := (by rw [Lib.cell_of_heap hres]; rfl); have a1 : w3.cell? ⟨w.heap.size + 1 + 1, 1, none⟩ = some (.slice none 0 0) := (by rw [Lib.cell_of_heap hres]; rfl); have z0 : w3.frozen? ⟨w.heap.size + 1 + 1, 0, none⟩ = false := Lib.frozen_of_heap hres 0; have z1 : w3.frozen? ⟨w.heap.size + 1 + 1, 1, none⟩ = false := Lib.frozen_of_heap hres 1; have HF := Lib.hid (word_fin HI2.out hres htk hLx hrd hoff); clear htk hLx hrd hoff hres)
 all_goals exact word_ret (p := 4) rfl rfl HF.out.1 HF.out.2
end Go.Proofs.YtfkeeieoapimlaaGreatDoor
end
section
namespace Go.Proofs.YtfkeeieoapimlaaGreatDoor
open Go.ChangeShapes Go.WideShapes Go.ChangeAt Go.RowKit
set_option maxRecDepth 100000
inductive WRows (W : World) (m : Nat) : List (List UInt8) → List Value → Prop
 | nil : WRows W m [] []
 | cons {v : Value} {x : ByteArray} {wd : List UInt8} {ws : List (List UInt8)} {xs : List Value} (h : zdd W m v x) (hx : L x = wd) (hr : WRows W m ws xs) : WRows W m (wd :: ws) (.bool false :: v :: xs)
theorem WRows.snoc {W : World} {m : Nat} {ws : List (List UInt8)} {xs : List Value} (h : WRows W m ws xs) {v : Value} {x : ByteArray} {wd : List UInt8} (ht : zdd W m v x) (hx : L x = wd) : WRows W m (ws ++ [wd]) (xs ++ [.bool false, v]) := by
 induction h with
 | nil => exact .cons ht hx .nil
 | cons h1 h2 _ ih => exact .cons h1 h2 ih
theorem WRows.agree {W W' : World} {m : Nat} {ws : List (List UInt8)} {xs : List Value} (h : WRows W m ws xs) (ha : ∀ (k : Nat) (cs : Array Value), W.heap[k]? = some (Obj.cells cs 261 (0, 0)) → W'.heap[k]? = W.heap[k]?) : WRows W' m ws xs := by
 induction h with
 | nil => exact .nil
 | cons h1 h2 _ ih =>
   refine .cons (zak h1 fun k hk => ?_) h2 ih
   obtain ⟨c, hc⟩ := zal h1 hk
   exact ha k c hc
theorem WRows.len {W : World} {m : Nat} {ws : List (List UInt8)} {xs : List Value} (h : WRows W m ws xs) : xs.length = ws.length * 2 := by
 induction h with
 | nil => rfl
 | cons _ _ _ ih => simp [ih]; omega
theorem WRows.at {W : World} {m : Nat} {ws : List (List UInt8)} {xs : List Value} (h : WRows W m ws xs) : ∀ {k : Nat} {wd : List UInt8}, ws[k]? = some wd → ∃ v x, xs[k * 2]? = some (.bool false) ∧ xs[k * 2 + 1]? = some v ∧ zdd W m v x ∧ L x = wd := by
 induction h with
 | nil => intro k wd hk; cases hk
 | @cons v x wd ws xs h1 h2 _ ih =>
   intro k wd' hk
   cases k with
   | zero => cases hk; exact ⟨v, x, rfl, rfl, h1, h2⟩
   | succ k =>
     obtain ⟨v', x', e1, e2, e3, e4⟩ := ih (k := k) hk
     refine ⟨v', x', ?_, ?_, e3, e4⟩
     ·rw [show (k + 1) * 2 = k * 2 + 1 + 1 by omega]; simpa using e1
     ·rw [show (k + 1) * 2 + 1 = k * 2 + 1 + 1 + 1 by omega]; simpa using e2
def WSl (W : World) (m : Nat) (v : Value) (ws : List (List UInt8)) : Prop := ∃ xs, W.ownsRow m 216 2 v ws.length xs ∧ WRows W m ws xs
theorem WSl.nil (W : World) (m : Nat) : WSl W m (.slice none 0 0) [] := ⟨[], World.ownsRow_nil W m 216 2, .nil⟩
theorem WSl.agree {W W' : World} {m : Nat} {v : Value} {ws : List (List UInt8)} (h : WSl W m v ws) (ha : ∀ (k : Nat) (cs : Array Value) (T : Nat), T = 261 ∨ T = 216 → W.heap[k]? = some (Obj.cells cs T (0, 0)) → W'.heap[k]? = W.heap[k]?) : WSl W' m v ws := by
 obtain ⟨xs, h1, h2⟩ := h
 refine ⟨xs, zak h1 fun k hk => ?_, h2.agree fun k cs hc => ha k cs 261 (.inl rfl) hc⟩
 obtain ⟨c, hc⟩ := zal h1 hk
 exact ha k c 216 (.inr rfl) hc
theorem WSl.off {R : Nat} {W W' : World} {m : Nat} {v : Value} {ws : List (List UInt8)} (h : WSl W m v ws) (hoff : Off R W W') {s : ByteArray} {i : Nat} (hR : RdAt W R s i) : WSl W' m v ws :=
 h.agree fun k cs T hT hc => hoff.block k (Array.getElem?_eq_some_iff.1 hc).1 fun e => by
  subst e
  unfold RdAt rdO at hR
  rw [hR] at hc
  injection hc with hc
  injection hc with _ h2 _
  rcases hT with rfl | rfl <;> cases h2
theorem WSl.form {W : World} {m : Nat} {v : Value} {ws : List (List UInt8)} (h : WSl W m v ws) : ∃ a c, v = .slice a ws.length c := by
 obtain ⟨xs, h1, _⟩ := h
 exact zbE h1
theorem WSl.add {W W2 : World} {m : Nat} {v v' u : Value} {x : ByteArray} {wd : List UInt8} {ws : List (List UInt8)} {xs : List Value} (h2 : WRows W m ws xs) (h1 : W.ownsRow m 216 2 v ws.length xs) (ht : zdd W m u x) (hx : L x = wd)
  (ho : W2.ownsRow m 216 2 v' (ws.length + 1) (xs ++ [.bool false, u])) (hg : W.grownBy W2 v.ownBlock) : WSl W2 m v' (ws ++ [wd]) := by
 refine ⟨_, by rw [List.length_append]; exact ho, (h2.snoc ht hx).agree fun k cs hc => hg.block k (Array.getElem?_eq_some_iff.1 hc).1 fun e => ?_⟩
 obtain ⟨c, hc2⟩ := zal h1 e.symm
 rw [hc] at hc2
 cases hc2
theorem word_any (w : World) (hG : Xe.HasG w.heap) {R : Nat} {s : ByteArray} {i : Nat} (h : RdAt w R s i) (hR0 : 0 < R) (hs : s.size ≤ 100000) {wd : List UInt8} {r : List (List UInt8)} (hw : Sw wd) (hi : i ≤ s.size) (hat : (L s).drop i = zaO (wd :: r)) :
  Calls Tryz.prog 249 #[.pointer (some ⟨R, 0, none⟩), .bool false] w fun e w' => WordR w R s (i + (quoT wd).length) wd e w' := by
 rcases hw with hw | hw
 ·rw [hw.quo]; exact word_plain w hG h hR0 hs hw hi hat
 ·rw [brace_len hw]; exact word_braced w hG h hR0 hs hw hi hat
theorem first_at {s : ByteArray} {i : Nat} {wd : List UInt8} {r : List (List UInt8)} (hw : Sw wd) (hat : (L s).drop i = zaO (wd :: r)) : i < s.size ∧ Solid (byte s i) ∧ byte s i ≠ 10 ∧ byte s i ≠ 59 ∧ byte s i ≠ 35 := by
 rcases hw with hw | hw
 ·obtain ⟨a, b⟩ := plain_at hat hw (j := 0) (List.length_pos_iff.2 hw.ne)
  rw [Nat.add_zero] at a b
  refine ⟨a, ⟨b.wh, b.bs⟩, b.lf, b.semi, ?_⟩
  intro e
  have hq : (quoT wd)[0]? = some (wd[0]'(List.length_pos_iff.2 hw.ne)) := by rw [hw.quo]; exact List.getElem?_eq_getElem _
  have h2 := (at_quo hat hq).2
  rw [Nat.add_zero, e] at h2
  refine hw.sharp ?_
  rw [List.head?_eq_getElem?, List.getElem?_eq_getElem (List.length_pos_iff.2 hw.ne)]
  exact congrArg some (UInt8.toNat_inj.1 (by rw [← h2]; rfl))
 ·obtain ⟨a, b⟩ := zeM hat hw
  rw [b]
  exact ⟨a, ⟨rfl, by decide⟩, by decide, by decide, by decide⟩
def At (s : ByteArray) (p : Nat) (r : List (List UInt8)) : Prop := p ≤ s.size ∧ (L s).drop p = zaO r
theorem At.stop {s : ByteArray} {p : Nat} (h : At s p []) : p = s.size := by
 have h1 := drop_size h.2 h.1
 simpa [zaO] using h1
theorem At.next {s : ByteArray} {p : Nat} {wd : List UInt8} {r : List (List UInt8)} (h : At s p (wd :: r)) (hr : ∀ x ∈ r, Sw x) :
  (r = [] ∧ p + (quoT wd).length = s.size ∧ At s (p + (quoT wd).length) r) ∨
  (p + (quoT wd).length < s.size ∧ byte s (p + (quoT wd).length) = 32 ∧ (p + (quoT wd).length + 1 < s.size → Solid (byte s (p + (quoT wd).length + 1))) ∧ At s (p + (quoT wd).length + 1) r) := by
 have hb := behind_of h.2 h.1
 by_cases hr0 : r = []
 ·have := hb.fin hr0
  refine .inl ⟨hr0, this, by omega, ?_⟩
  rw [hr0, List.drop_of_length_le (by rw [zcX]; omega)]; rfl
 ·obtain ⟨a, b, c⟩ := hb.go hr0
  refine .inr ⟨a, b, fun _ => ?_, by omega, c⟩
  cases r with
  | nil => exact absurd rfl hr0
  | cons y r => exact (first_at (hr y (List.mem_cons_self ..)) c).2.1
end Go.Proofs.YtfkeeieoapimlaaGreatDoor
end
section
namespace Go.Proofs.YtfkeeieoapimlaaGreatDoor
open Go.ChangeShapes Go.WideShapes Go.ChangeAt Go.RowKit
set_option maxRecDepth 100000
theorem info214 : (Tryz.prog.info? 214).map (fun i => (i.zero, i.size, i.bytes)) = some (some (.agg #[.int .i64 0, .slice none 0 0]), 2, 32) := by kernel_rfl
theorem cmd_ret {fn : Func} {p T : Nat} (hf : fn.results = #[.cell p 214]) {tmps : Array Value} (hp : tmps.getD p undef = .pointer (some ⟨T, 0, none⟩) := by rfl) {W : World} {a b : Value} (hW : W.heap[T]? = some (.cells #[a, b] 214 (0, 0))) {Q : Ending → World → Prop}
  (hQ : Q (.returned (.agg #[a, b])) W) : bodyPost Tryz.prog fn Q Exit.ret { tmps := tmps, defers := [] } W := by
 have c0 : W.cell? ⟨T, 0, none⟩ = some a := by rw [Lib.cell_of_heap hW]; rfl
 have c1 : W.cell? ⟨T, 1, none⟩ = some b := by rw [Lib.cell_of_heap hW]; rfl
 rw [Array.getD_eq_getD_getElem?] at hp
 refine bodyPost_ret (v := .agg #[a, b]) ?_ rfl hQ
 simp [results, hf, hp, go_sem, c0, c1]
structure CmdI (w : World) (R : Nat) (s : ByteArray) (i p : Nat) (v : Value) (ws : List (List UInt8)) (W : World) : Prop where
 rd : RdAt W R s p
 c4 : W.heap[w.heap.size]? = some (.cells #[.int .i64 0, .slice none 0 0] 214 (0, 0))
 c5 : W.heap[w.heap.size + 1]? = some (.cells #[.int .i64 (i : Int), v] 214 (0, 0))
 row : WSl W w.heap.size v ws
 off : Off R w W
theorem CmdI.drew {w W : World} {R : Nat} {s : ByteArray} {i p : Nat} {v : Value} {ws : List (List UInt8)} (h : CmdI w R s i p v ws W) : CmdI w R s i p v ws W.drew :=
 ⟨h.rd, h.c4, h.c5, h.row.agree fun _ _ _ _ _ => rfl, h.off.drew⟩
theorem CmdI.drewN {w W : World} {R : Nat} {s : ByteArray} {i p : Nat} {v : Value} {ws : List (List UInt8)} (h : CmdI w R s i p v ws W) (n : Nat) : CmdI w R s i p v ws (W.drewN n) :=
 ⟨h.rd, h.c4, h.c5, h.row.agree fun _ _ _ _ _ => rfl, h.off.drewN n⟩
theorem CmdI.past {w W W' : World} {R : Nat} {s : ByteArray} {i p q : Nat} {v : Value} {ws : List (List UInt8)} (h : CmdI w R s i p v ws W) (hR : R < w.heap.size) (hoff : Off R W W') (hrd : RdAt W' R s q) : CmdI w R s i q v ws W' :=
 ⟨hrd, hoff.obj h.c4 (by omega), hoff.obj h.c5 (by omega), h.row.off hoff h.rd, h.off.trans hoff⟩
theorem CmdI.add {w w2 w3 : World} {R : Nat} {s : ByteArray} {i q : Nat} {v v' u : Value} {x : ByteArray} {wd : List UInt8} {ws : List (List UInt8)} {xs : List Value} (h : CmdI w R s i q v ws w2) (hR : R < w.heap.size)
  (h2 : WRows w2 w.heap.size ws xs) (h1 : w2.ownsRow w.heap.size 216 2 v ws.length xs) (ht : zdd w2 w.heap.size u x) (hx : L x = wd)
  (ho : w3.ownsRow w.heap.size 216 2 v' (ws.length + 1) (xs ++ [.bool false, u])) (hg : w2.grownBy w3 v.ownBlock) :
  CmdI w R s i q v' (ws ++ [wd]) (w3.setCell ⟨w.heap.size + 1, 1, none⟩ v') := by
 have hne : ∀ (k : Nat) (cs : Array Value) (T : Nat) (fr : Nat × Nat), T ≠ 216 → w2.heap[k]? = some (.cells cs T fr) → w3.heap[k]? = some (.cells cs T fr) := by
  intro k cs T fr hT hk
  refine (hg.block k (Array.getElem?_eq_some_iff.1 hk).1 fun e => ?_).trans hk
  obtain ⟨c, hc⟩ := zal h1 e.symm
  rw [hk] at hc
  cases hc
  exact hT rfl
 have hb : Below w.heap.size w2 w3 := (Below.refl _ _).grown hg h.off.size fun k hk => (h1.lt k hk).1
 have k5 := hne _ _ _ _ (by decide) h.c5
 refine ⟨?_, ?_, heap_setCell_same _ _ 1 _ _ _ k5, ?_, ?_⟩
 ·exact (heap_setCell_other w3 ⟨w.heap.size + 1, 1, none⟩ R _ (by show R ≠ w.heap.size + 1; omega)).trans ((hb.block R hR).trans h.rd)
 ·exact (heap_setCell_other w3 ⟨w.heap.size + 1, 1, none⟩ w.heap.size _ (by show w.heap.size ≠ w.heap.size + 1; omega)).trans (hne _ _ _ _ (by decide) h.c4)
 ·refine (WSl.add h2 h1 ht hx ho hg).agree fun k cs T hT hk => heap_setCell_other w3 ⟨w.heap.size + 1, 1, none⟩ k _ fun e => ?_
  have e : k = w.heap.size + 1 := e
  subst e
  rw [k5] at hk
  injection hk with hk
  injection hk with _ h2 _
  rcases hT with rfl | rfl <;> cases h2
 ·exact Off.setNew (h.off.grown hg fun k hk => (h1.lt k hk).1) (p := ⟨w.heap.size + 1, 1, none⟩) (by show _ ≤ w.heap.size + 1; omega) _
theorem CmdI.fin {w W : World} {R : Nat} {s : ByteArray} {i p : Nat} {v : Value} {ws : List (List UInt8)} (h : CmdI w R s i p v ws W) (hR : R < w.heap.size) :
  ((W.setCell ⟨w.heap.size, 0, none⟩ (.int .i64 (i : Int))).setCell ⟨w.heap.size, 1, none⟩ v).heap[w.heap.size]? = some (.cells ((#[.int .i64 0, .slice none 0 0].setIfInBounds 0 (.int .i64 (i : Int))).setIfInBounds 1 v) 214 (0, 0)) ∧
  WSl ((W.setCell ⟨w.heap.size, 0, none⟩ (.int .i64 (i : Int))).setCell ⟨w.heap.size, 1, none⟩ v) w.heap.size v ws ∧ RdAt ((W.setCell ⟨w.heap.size, 0, none⟩ (.int .i64 (i : Int))).setCell ⟨w.heap.size, 1, none⟩ v) R s p ∧
  Off R w ((W.setCell ⟨w.heap.size, 0, none⟩ (.int .i64 (i : Int))).setCell ⟨w.heap.size, 1, none⟩ v) := by
 have hn : R ≠ w.heap.size := by omega
 refine ⟨heap_setCell_same _ _ 1 _ _ _ (heap_setCell_same _ _ 0 _ _ _ h.c4), ?_, ?_, ?_⟩
 ·refine h.row.agree fun k cs T hT hk => ?_
  have hne : k ≠ w.heap.size := fun e => by
   subst e
   rw [h.c4] at hk
   injection hk with hk
   injection hk with _ h2 _
   rcases hT with rfl | rfl <;> cases h2
  exact (heap_setCell_other (W.setCell ⟨w.heap.size, 0, none⟩ _) ⟨w.heap.size, 1, none⟩ k _ hne).trans (heap_setCell_other W ⟨w.heap.size, 0, none⟩ k _ hne)
 ·exact (heap_setCell_other (W.setCell ⟨w.heap.size, 0, none⟩ _) ⟨w.heap.size, 1, none⟩ R _ hn).trans ((heap_setCell_other W ⟨w.heap.size, 0, none⟩ R _ hn).trans h.rd)
 ·exact (h.off.setNew (p := ⟨w.heap.size, 0, none⟩) (Nat.le_refl _) _).setNew (p := ⟨w.heap.size, 1, none⟩) (Nat.le_refl _) _
theorem word_new (w : World) (u : Value) : ∀ j x, [.bool false, u][j]? = some x → (w.alloc (.cells #[.bool false, u] 216)).cell? ((⟨w.heap.size, 0, none⟩ : Addr).add j) = some x := by
 intro j x hj
 match j, hj with
 | 0, hj => simp at hj; subst hj; simp [Addr.add]
 | 1, hj => simp at hj; subst hj; simp [Addr.add]
theorem word_cell (a : Option Addr) (n c : Nat) : ∀ x ∈ ([.bool false, .slice a n c] : List Value), x.oneCell' = true := by
 intro x hx
 simp only [List.mem_cons, List.not_mem_nil, or_false] at hx
 rcases hx with rfl | rfl <;> rfl
set_option maxHeartbeats 8000000 in
theorem command_any (w : World) (hG : Xe.HasG w.heap) {R : Nat} {s : ByteArray} {i : Nat} (h : RdAt w R s i) (hR0 : 0 < R) (hs : s.size ≤ 100000) {ws : List (List UInt8)} (hw : ∀ x ∈ ws, Sw x) (hl : ws.length ≤ 100000) (hat : At s i ws) :
  Calls Tryz.prog 197 #[.pointer (some ⟨R, 0, none⟩), .bool false] w fun e w' => ∃ v, e = .returned (.agg #[.int .i64 (i : Int), v]) ∧ WSl w' w.heap.size v ws ∧ RdAt w' R s s.size ∧ Off R w w' := by
 obtain ⟨i1, hj, hy0, hy1, hy2⟩ := info_parts info216
 have lR := h.lt
 have c1 := h.c1
 obtain ⟨A1, hA1, sA1, aN1, aO1, bA1⟩ := zag w #[.int .i64 0, .slice none 0 0] 214
 obtain ⟨A2, hA2, sA2, aN2, aO2, bA2⟩ := zag A1 #[.int .i64 (i : Int), .slice none 0 0] 214
 have hb2 : Below w.heap.size w A2 := bA1.trans (bA2.mono (by omega))
 have hI : CmdI w R s i i (.slice none 0 0) [] A2 := ⟨h.later hb2, (aO2 _ (by omega)).trans aN1, by rw [show w.heap.size + 1 = A1.heap.size by omega]; exact aN2, WSl.nil _ _, Off.of hb2⟩
 have HI0 := Lib.hid hI
 have HA1 := Lib.hid hA1
 have HA2 := Lib.hid hA2
 have HW := Lib.hid hw
 have HAT := Lib.hid hat
 clear hA1 sA1 aN1 aO1 bA1 hA2 sA2 aN2 aO2 bA2 hb2 hI hw hat
 go_enter Tryz.func197, Tryz.ntmps197
 go_wp2
 rw [HA1.out, HA2.out]
 go_loopg [] (ws.length + 1) (fun k wr => ∃ (j p : Nat) (v : Value), k = ws.length + 1 - j ∧ j ≤ ws.length ∧ At s p (ws.drop j) ∧ CmdI w R s i p v (ws.take j) wr)
 case atStart => exact ⟨0, i, _, by omega, by omega, HAT.out, HI0.out⟩
 case round =>
  obtain ⟨j, p, v, hk, hj0, hat, hI⟩ := hrel
  have HI := Lib.hid hI
  have HK := Lib.hid hk
  have HP := Lib.hid hat
  have hps := hat.1
  clear hk hat hI
  by_cases hlt : j < ws.length
  ·have hdr : ws.drop j = ws[j] :: ws.drop (j + 1) := by rw [List.drop_eq_getElem_cons hlt]
   have htk : ws.take (j + 1) = ws.take j ++ [ws[j]] := by rw [List.take_succ_eq_append_getElem hlt]
   have hsw : Sw ws[j] := HW.out _ (List.getElem_mem _)
   have hat2 : At s p (ws[j] :: ws.drop (j + 1)) := hdr ▸ HP.out
   have hln : (ws.take j).length = j := by rw [List.length_take]; omega
   obtain ⟨hlt2, hsol, h10, h59, h35⟩ := first_at hsw hat2.2
   have HN := Lib.hid (At.next hat2 (fun x hx => HW.out x (List.mem_of_mem_drop hx)))
   have HAT2 := Lib.hid hat2.2
   have HTK := Lib.hid htk
   have HSW := Lib.hid hsw
   have HLN := Lib.hid hln
   generalize ws[j] = wd at *
   generalize ws.take j = pre at *
   clear hdr htk hsw hat2 hsol h35 hln
   go_wp2_with (go_at_call 195; refine (zfn _ HI.out.rd hlt2 h10 h59).mono ?_; rintro e w' ⟨rfl, n, rfl⟩)
   refine zfo (fun W => CmdI w R s i p v pre W) (HI.out.drewN n) ?_
   clear HI
   intro W0 hI
   have d1 := (show W0.cell? ⟨w.heap.size + 1, 1, none⟩ = some v by rw [Lib.cell_of_heap hI.c5]; rfl)
   have HI := Lib.hid hI
   have HG0 := Lib.hid (HasG.off hG hI.off (by omega))
   obtain ⟨xs, hrow, hwr⟩ := hI.row
   obtain ⟨va, vc, rfl⟩ := zbE hrow
   clear hI hrow hwr
   go_region_law (first
    | (refine zbR rfl (.tmp 16) (.tmp 20) 212 rfl w.heap.size 216 i1 _ 2 32 Tryz.underlying212 hj hy0 hy1 hy2 rfl (by decide) (.slice va pre.length vc) pre.length xs2 rfl (by exact World.ownsRow.alloc (w := w2) HOW.out _) ⟨w2.heap.size, 0, none⟩ 1 1 [.bool false, .slice (some ⟨g, 0, none⟩) 1 c] rfl rfl (by exact word_new w2 _) (by exact word_cell _ _ _) (by have := HLN.out; simp only [maxLen]; omega) (by have := HLN.out; omega) (by have := HI2.out.off.size; simp; omega) ?_; intro v' w3 ho3 hg3; intro _; obtain ⟨g3, cap3, rfl⟩ := zam ho3; have hg4 := zb4 (w := w2) hg3; have q3 := za1 hg4 rfl q1 HNE.out; have z3 := zbt hg4 rfl q1 z1 HNE.out; have HG4 := Lib.hid hg4; have HO3 := Lib.hid ho3; clear hg3 hg4 ho3)
    | (go_simp; go_at_call 249; refine (word_any W0.drew (show Xe.HasG W0.drew.heap from HG0.out) (show RdAt W0.drew R s p from HI.out.rd) hR0 hs HSW.out hps HAT2.out).mono ?_; intro e w2 hx; obtain ⟨u, x, rfl, htk, hLx, hrd, hoff⟩ := hx; obtain ⟨g, c, rfl⟩ := zam (n := 0) htk; dsimp only; have hI2 := HI.out.drew.past lR hoff hrd; have q1 := (show w2.cell? ⟨w.heap.size + 1, 1, none⟩ = some (.slice va pre.length vc) by rw [Lib.cell_of_heap hI2.c5]; rfl); have z1 : w2.frozen? ⟨w.heap.size + 1, 1, none⟩ = false := Lib.frozen_of_heap hI2.c5 1; have n1 : w.heap.size + 1 < w2.heap.size := (Array.getElem?_eq_some_iff.1 hI2.c5).1; obtain ⟨xs2, hrow, hwr⟩ := hI2.row; have hne : (Value.slice va pre.length vc).ownBlock ≠ some (w.heap.size + 1) := (fun e => (by obtain ⟨c', hc'⟩ := zal hrow e; rw [hI2.c5] at hc'; cases hc')); have HNE := Lib.hid hne; have HOW := Lib.hid hrow; have HWR := Lib.hid hwr; have HTOK := Lib.hid (zaq htk (b := w.heap.size) HI.out.off.size); have HLX := Lib.hid hLx; have HI2 := Lib.hid hI2; clear htk hLx hrd hoff hI2 hrow hwr hne))
   all_goals
    have hI3 := CmdI.add HI2.out lR HWR.out HOW.out HTOK.out HLX.out HO3.out HG4.out
    rw [← HTK.out] at hI3
    have HI3 := Lib.hid hI3
    clear hI3
    rcases HN.out with ⟨hr0, hend, hat3⟩ | ⟨hlt4, h32, hso, hat3⟩
    ·have HA3 := Lib.hid hat3
     clear hat3
     go_wp2_with (go_at_call 194; refine (zeN _ HI3.out.rd (by omega) (fun h => by omega)).mono ?_; intro e w4 hx; obtain ⟨rfl, hrd, hoff⟩ := hx; have HF := Lib.hid (HI3.out.past lR hoff hrd); clear hrd hoff)
     go_roundg (ws.length + 1 - (j + 1))
     case measure => rw [HK.out]; omega
     case rel => exact ⟨j + 1, _, _, rfl, by omega, HA3.out, HF.out⟩
    ·have HA3 := Lib.hid hat3
     have H32 := Lib.hid h32
     have HSO := Lib.hid hso
     clear hat3 h32 hso
     go_wp2_with (go_at_call 194; refine (blanks_one _ HI3.out.rd hs hlt4 H32.out HSO.out).mono ?_; intro e w4 hx; obtain ⟨rfl, hrd, hoff⟩ := hx; have HF := Lib.hid (HI3.out.past lR hoff hrd); clear hrd hoff)
     go_roundg (ws.length + 1 - (j + 1))
     case measure => rw [HK.out]; omega
     case rel => exact ⟨j + 1, _, _, rfl, by omega, HA3.out, HF.out⟩
  ·have hjl : j = ws.length := by omega
   subst hjl
   have hp := At.stop (by rw [List.drop_length] at HP; exact HP.out)
   subst hp
   rw [List.take_length] at HI
   have hI := HI.out
   obtain ⟨va, vc, rfl⟩ := hI.row.form
   have d0 := (show wr.cell? ⟨w.heap.size + 1, 0, none⟩ = some (.int .i64 (i : Int)) by rw [Lib.cell_of_heap hI.c5]; rfl)
   have d1 := (show wr.cell? ⟨w.heap.size + 1, 1, none⟩ = some (.slice va ws.length vc) by rw [Lib.cell_of_heap hI.c5]; rfl)
   have e0 := (show wr.cell? ⟨w.heap.size, 0, none⟩ = some (.int .i64 0) by rw [Lib.cell_of_heap hI.c4]; rfl)
   have e1 := (show wr.cell? ⟨w.heap.size, 1, none⟩ = some (.slice none 0 0) by rw [Lib.cell_of_heap hI.c4]; rfl)
   have f0 : wr.frozen? ⟨w.heap.size, 0, none⟩ = false := Lib.frozen_of_heap hI.c4 0
   have f1 : wr.frozen? ⟨w.heap.size, 1, none⟩ = false := Lib.frozen_of_heap hI.c4 1
   clear hI
   go_wp2_with (go_at_call 195; refine (parted_end _ HI.out.rd rfl).mono ?_; rintro e w' ⟨rfl, n, rfl⟩)
   have hF := (HI.out.drewN n).fin lR
   exact cmd_ret (p := 4) rfl rfl hF.1 ⟨_, rfl, hF.2.1, hF.2.2.1, hF.2.2.2⟩
end Go.Proofs.YtfkeeieoapimlaaGreatDoor
end
section
namespace Go.Proofs.YtfkeeieoapimlaaGreatDoor
open Go.ChangeShapes Go.WideShapes Go.ChangeAt Go.RowKit
set_option maxRecDepth 100000
def CSl (W : World) (m : Nat) (v : Value) (ws : List (List UInt8)) : Prop := ∃ u, W.ownsRow m 214 2 v 1 [.int .i64 0, u] ∧ WSl W m u ws
theorem CSl.agree {W W' : World} {m : Nat} {v : Value} {ws : List (List UInt8)} (h : CSl W m v ws) (ha : ∀ (k : Nat) (cs : Array Value) (T : Nat), T = 261 ∨ T = 216 ∨ T = 214 → W.heap[k]? = some (Obj.cells cs T (0, 0)) → W'.heap[k]? = W.heap[k]?) : CSl W' m v ws := by
 obtain ⟨u, h1, h2⟩ := h
 refine ⟨u, zak h1 fun k hk => ?_, h2.agree fun k cs T hT hc => ha k cs T (hT.elim .inl fun h => .inr (.inl h)) hc⟩
 obtain ⟨c, hc⟩ := zal h1 hk
 exact ha k c 214 (.inr (.inr rfl)) hc
theorem CSl.off {R : Nat} {W W' : World} {m : Nat} {v : Value} {ws : List (List UInt8)} (h : CSl W m v ws) (hoff : Off R W W') {s : ByteArray} {i : Nat} (hR : RdAt W R s i) : CSl W' m v ws :=
 h.agree fun k cs T hT hc => hoff.block k (Array.getElem?_eq_some_iff.1 hc).1 fun e => by
  subst e
  unfold RdAt rdO at hR
  rw [hR] at hc
  injection hc with hc
  injection hc with _ h2 _
  rcases hT with rfl | rfl | rfl <;> cases h2
theorem WSl.mono {W : World} {b m : Nat} {v : Value} {ws : List (List UInt8)} (h : WSl W m v ws) (hb : b ≤ m) : WSl W b v ws := by
 obtain ⟨xs, h1, h2⟩ := h
 refine ⟨xs, zaq h1 hb, ?_⟩
 clear h1
 induction h2 with
 | nil => exact .nil
 | cons a1 a2 _ ih => exact .cons (zaq a1 hb) a2 ih
theorem CSl.mono {W : World} {b m : Nat} {v : Value} {ws : List (List UInt8)} (h : CSl W m v ws) (hb : b ≤ m) : CSl W b v ws := by
 obtain ⟨u, h1, h2⟩ := h
 exact ⟨u, zaq h1 hb, h2.mono hb⟩
theorem gen_exit {Q : Exit → Act → World → Prop} {e : Exit} {a : Act} {W : World} (F : World → Prop) (hF : F W) (h : ∀ W, F W → Q e a W) : Q e a W := h W hF
theorem cmd_new (w : World) (i : Int) (u : Value) : ∀ j x, [.int .i64 i, u][j]? = some x → (w.alloc (.cells #[.int .i64 i, u] 214)).cell? ((⟨w.heap.size, 0, none⟩ : Addr).add j) = some x := by
 intro j x hj
 match j, hj with
 | 0, hj => simp at hj; subst hj; simp [Addr.add]
 | 1, hj => simp at hj; subst hj; simp [Addr.add]
theorem cmd_cell (i : Int) (a : Option Addr) (n c : Nat) : ∀ x ∈ ([.int .i64 i, .slice a n c] : List Value), x.oneCell' = true := by
 intro x hx
 simp only [List.mem_cons, List.not_mem_nil, or_false] at hx
 rcases hx with rfl | rfl <;> rfl
theorem cmd_more {w W2 W3 : World} {R : Nat} {s : ByteArray} {p : Nat} {v u : Value} {ws : List (List UInt8)} (hR : R < w.heap.size) (hrd : RdAt W2 R s p) (hoff : Off R w W2) (hw : WSl W2 w.heap.size u ws)
  (ho : W3.ownsRow w.heap.size 214 2 v 1 [.int .i64 0, u]) (hg : W2.grownBy W3 none) : CSl W3 w.heap.size v ws ∧ RdAt W3 R s p ∧ Off R w W3 :=
 ⟨⟨u, ho, hw.agree fun k cs T _ hk => hg.block k (Array.getElem?_eq_some_iff.1 hk).1 (fun e => by cases e)⟩,
   (hg.block R (Nat.lt_of_lt_of_le hR hoff.size) (fun e => by cases e)).trans hrd, hoff.grown hg fun k hk => by cases hk⟩
set_option maxHeartbeats 1000000 in
theorem commands_any (w : World) (hG : Xe.HasG w.heap) {R : Nat} {s : ByteArray} (h : RdAt w R s 0) (hR0 : 0 < R) (hs : s.size ≤ 100000) {wd : List UInt8} {r : List (List UInt8)} (hw : ∀ x ∈ wd :: r, Sw x) (hl : (wd :: r).length ≤ 100000) (hat : At s 0 (wd :: r)) :
  Calls Tryz.prog 134 #[.pointer (some ⟨R, 0, none⟩), .bool false] w fun e w' => ∃ v, e = .returned v ∧ CSl w' w.heap.size v (wd :: r) ∧ Off R w w' := by
 obtain ⟨i1, hj, hy0, hy1, hy2⟩ := info_parts info214
 have hby := zaN s
 have lR := h.lt
 have hc0 := h.c0
 have hc1 := h.c1
 obtain ⟨hlt, hsol, h10, h59, h35⟩ := first_at (hw wd (List.mem_cons_self ..)) hat.2
 have t0 : (0 : Int) ≤ ((0 : Nat) : Int) := by omega
 have t1 : ((0 : Nat) : Int) < (s.size : Int) := by omega
 have t3 : ((byte s 0 : Int) == 35) = false := by simp; omega
 have HW := Lib.hid hw
 have HAT := Lib.hid hat
 have HR := Lib.hid h
 have HS := Lib.hid hsol
 have HD0 := Lib.hid (show decide (s.size ≤ 0) = false from decide_eq_false (by omega))
 have HD1 := Lib.hid (show decide (s.size ≤ s.size) = true from decide_eq_true (Nat.le_refl _))
 clear hw hat hsol h
 go_enter Tryz.func134, Tryz.ntmps134
 go_wp2
 go_step3
 go_wp2
 go_step3
 go_wp2
 go_loopg [5] 1 (fun k u wr => (k = 1 ∧ u = .slice none 0 0 ∧ RdAt wr R s 0 ∧ Off R w wr) ∨ (k = 0 ∧ CSl wr w.heap.size u (wd :: r) ∧ RdAt wr R s s.size ∧ Off R w wr))
 case atStart => exact .inl ⟨rfl, rfl, HR.out, Off.refl _ _⟩
 case round =>
  rcases hrel with ⟨rfl, rfl, hrd, hoff⟩ | ⟨rfl, hcs, hrd, hoff⟩
  ·have HRD := Lib.hid hrd
   have HOFF := Lib.hid hoff
   clear hrd hoff
   go_wp2_with (go_at_call 194; refine (zeN _ HRD.out (Nat.zero_le _) (fun _ => HS.out)).mono ?_; intro e w1 hx; obtain ⟨rfl, hrd, hoff⟩ := hx; have HRD1 := Lib.hid hrd; have HOFF1 := Lib.hid (HOFF.out.trans hoff); have c0 := hrd.c0; have c1 := hrd.c1; clear hrd hoff)
   go_quiet (first | (go_at_call 181; exact Calls.quiet_of (zbQ _ (HRD1.out.drewN _) false HD0.out)) | (go_at_call 181; exact quiet_add (zbQ _ (HRD1.out.drewN _) false HD0.out)))
   go_wp2_with (go_at_call 195; refine (zfn _ (HRD1.out.drewN _) hlt h10 h59).mono ?_; rintro e w' ⟨rfl, n, rfl⟩)
   go_quiet (fail)
   refine gen_exit (fun W => RdAt W R s 0 ∧ Off R w W) ⟨HRD1.out, (HOFF1.out.drewN _).drewN _⟩ ?_
   clear HRD1 HOFF1 c0 c1
   rintro W0 ⟨hrd, hoff⟩
   have HRD2 := Lib.hid hrd
   have HOFF2 := Lib.hid hoff
   have HG2 := Lib.hid (HasG.off hG hoff (by omega))
   clear hrd hoff
   go_wp2_with (first | (go_at_call 197; refine (command_any _ HG2.out HRD2.out hR0 hs HW.out hl HAT.out).mono ?_; intro e w2 hx; obtain ⟨u, rfl, hwsl, hrd, hoff⟩ := hx; obtain ⟨ua, uc, rfl⟩ := hwsl.form; dsimp only; have HWS := Lib.hid (hwsl.mono HOFF2.out.size); have HRD3 := Lib.hid hrd; have HOFF3 := Lib.hid (HOFF2.out.trans hoff); clear hwsl hrd hoff) | (at_builtin; refine zaa rfl _ _ 129 rfl w.heap.size 214 i1 _ 2 32 Tryz.underlying129 hj hy0 hy1 hy2 rfl (by decide) (.slice none 0 0) 0 [] rfl (World.ownsRow_nil _ _ _ _) ⟨w2.heap.size, 0, none⟩ 1 1 [.int .i64 ((0 : Nat) : Int), .slice ua (wd :: r).length uc] rfl rfl (cmd_new _ _ _) (by exact cmd_cell _ _ _ _) (by simp only [maxLen]; omega) (by omega) (by have := HOFF3.out.size; simp; omega) ?_; intro v3 w3 ho hg hn; have HF := Lib.hid (cmd_more lR HRD3.out HOFF3.out HWS.out ho (zb4 hg)); clear ho hg hn))
   go_roundg 0
   case measure => omega
   case rel => exact .inr ⟨rfl, HF.out.1, HF.out.2.1, HF.out.2.2⟩
  ·have HRD := Lib.hid hrd
   have HOFF := Lib.hid hoff
   have HCS := Lib.hid hcs
   clear hrd hoff hcs
   go_wp2_with (go_at_call 194; refine (zeN _ HRD.out (Nat.le_refl _) (fun h => absurd h (Nat.lt_irrefl _))).mono ?_; intro e w1 hx; obtain ⟨rfl, hrd, hoff⟩ := hx; have HRD1 := Lib.hid hrd; have HOFF1 := Lib.hid (HOFF.out.trans hoff); have HCS1 := Lib.hid (HCS.out.off hoff HRD.out); have c0 := hrd.c0; have c1 := hrd.c1; clear hrd hoff)
   go_quiet (first | (go_at_call 181; exact Calls.quiet_of (zbQ _ (HRD1.out.drewN _) true HD1.out)) | (go_at_call 181; exact quiet_add (zbQ _ (HRD1.out.drewN _) true HD1.out)))
   go_wp2
   simp only [Exit.noGoto_ret]
   go_ret
   exact ⟨_, rfl, HCS1.out.agree fun _ _ _ _ _ => rfl, HOFF1.out.drewN _⟩
end Go.Proofs.YtfkeeieoapimlaaGreatDoor
end
section
namespace Go.Proofs.YtfkeeieoapimlaaGreatDoor
open Go.ChangeShapes Go.WideShapes Go.ChangeAt Go.RowKit
set_option maxRecDepth 100000
set_option maxHeartbeats 1000000 in
theorem whole_any (s : ByteArray) (w : World) :
  Calls Tryz.prog 131 #[.string s] w fun e w' => e = .returned (.pointer (some ⟨w.heap.size, 0, none⟩)) ∧ w' = w.alloc (rdO s ((0 : Nat) : Int)) := by
 go_enter Tryz.func131, Tryz.ntmps131
 go_wp2
 go_ret
 exact ⟨rfl, rfl⟩
set_option maxHeartbeats 1000000 in
theorem reads1_idle (p : Value) (w : World) :
  CallsD Tryz.prog 193 #[p] .returning w fun e u' w' => e = .returned (.tuple #[]) ∧ u' = .returning ∧ w' = w := by
 refine callsD_of_wpS Tryz.func193 rfl fun c₀ cs hu => ?_
 have he : (#[p] ++ Array.replicate (Tryz.f193.ntmps - #[p].size) undef : Array Value) = #[p, undef, undef, undef, undef, undef, undef, undef, undef, undef, undef] := by
  simp [Tryz.ntmps193, Array.replicate]
 apply wpS_seq
 apply wpS_region
 rw [he]
 simp [wpOpsS, go_sem, recoverD, hu, Exit.thenS]
 refine wpS_of_wp ?_
 go_wp2
 cases c₀
 simp_all [bodyPostS, results, Tryz.results193]
theorem results202 {fn : Func} {p T : Nat} (hf : fn.results = #[.cell p 202]) {tmps : Array Value} (hp : tmps.getD p undef = .pointer (some ⟨T, 0, none⟩) := by rfl) {W : World} {a b c : Value} (hW : W.heap[T]? = some (.cells #[a, b, c] 202 (0, 0))) :
  (results fn tmps).run Tryz.prog W = .ok (.agg #[a, b, c]) W := by
 have c0 : W.cell? ⟨T, 0, none⟩ = some a := by rw [Lib.cell_of_heap hW]; rfl
 have c1 : W.cell? ⟨T, 1, none⟩ = some b := by rw [Lib.cell_of_heap hW]; rfl
 have c2 : W.cell? ⟨T, 2, none⟩ = some c := by rw [Lib.cell_of_heap hW]; rfl
 rw [Array.getD_eq_getD_getElem?] at hp
 simp [results, hf, hp, go_sem, c0, c1, c2]
set_option maxHeartbeats 1000000 in
theorem reads_any (w : World) {RB OB : Nat} {C : World → Prop} (hc : ∀ W, Below w.heap.size w W → W.heap[w.heap.size]? = some (.cells #[.int .i64 0, .int .i64 0, .bool false] 202 (0, 0)) → Calls Tryz.prog 133 #[.pointer (some ⟨RB, 0, none⟩), .pointer (some ⟨OB, 0, none⟩)] W fun e w' => e = .returned (.tuple #[]) ∧ W.heap.size ≤ w'.heap.size ∧ w'.heap[w.heap.size]? = W.heap[w.heap.size]? ∧ C w')
  (hC : ∀ (W : World) (i : Nat) (u : Value), C W → C (W.setCell ⟨w.heap.size, i, none⟩ u)) :
  Calls Tryz.prog 132 #[.func (.func 133) #[] #[.pointer (some ⟨RB, 0, none⟩), .pointer (some ⟨OB, 0, none⟩)]] w fun e w' => e = .returned (.agg #[.int .i64 0, .int .i64 0, .bool false]) ∧ C w' := by
 have hmf : ∀ (fn : Fn) (first cap : Array Value) (w : World), (Instr.makeFunc fn first cap).run Tryz.prog w = .ok (.func fn first cap) w := fun _ _ _ _ => rfl
 have HC := Lib.hid hc
 clear hc
 go_enter_defers Tryz.func132, Tryz.ntmps132
 go_wp2_with (go_at_call 133; refine (HC.out _ (Below.alloc (Below.refl w.heap.size w) (Nat.le_refl _) _) (heap_alloc_new w _)).mono ?_; intro e w2 hx; obtain ⟨rfl, hs, hk, hC2⟩ := hx; dsimp only; have hT : w2.heap[w.heap.size]? = some (.cells #[.int .i64 0, .int .i64 0, .bool false] 202 (0, 0)) := hk.trans (heap_alloc_new w _); have a0 := (show w2.cell? ⟨w.heap.size, 0, none⟩ = some (.int .i64 0) by rw [Lib.cell_of_heap hT]; rfl); have a1 := (show w2.cell? ⟨w.heap.size, 1, none⟩ = some (.int .i64 0) by rw [Lib.cell_of_heap hT]; rfl); have a2 := (show w2.cell? ⟨w.heap.size, 2, none⟩ = some (.bool false) by rw [Lib.cell_of_heap hT]; rfl); have f0 : w2.frozen? ⟨w.heap.size, 0, none⟩ = false := Lib.frozen_of_heap hT 0; have f1 : w2.frozen? ⟨w.heap.size, 1, none⟩ = false := Lib.frozen_of_heap hT 1; have f2 : w2.frozen? ⟨w.heap.size, 2, none⟩ = false := Lib.frozen_of_heap hT 2; have HT := Lib.hid hT; have HC2 := Lib.hid hC2; clear hT hC2 hs hk)
 refine leaves_cons (f := 193) (args := #[.pointer (some ⟨w.heap.size, 0, none⟩)]) (by simp) (by simp [go_sem]) ?_
 refine (reads1_idle _ _).mono ?_
 rintro e u' w'' ⟨rfl, rfl, rfl⟩
 refine ⟨_, results202 (p := 2) rfl rfl (heap_setCell_same _ _ 2 _ _ _ (heap_setCell_same _ _ 1 _ _ _ (heap_setCell_same _ _ 0 _ _ _ HT.out))), rfl, ?_⟩
 exact hC _ 2 _ (hC _ 1 _ (hC _ 0 _ HC2.out))
structure ScrC (w : World) (OB T : Nat) (ws : List (List UInt8)) (W : World) : Prop where
 ob : ∃ v, W.heap[OB]? = some (.cells #[v] 129 (0, 0)) ∧ CSl W w.heap.size v ws
 tb : ∃ cs, W.heap[T]? = some (.cells cs 202 (0, 0))
 below : Below w.heap.size w W
theorem ScrC.set {w W : World} {OB T : Nat} {ws : List (List UInt8)} (h : ScrC w OB T ws W) (hT : w.heap.size ≤ T) (i : Nat) (u : Value) : ScrC w OB T ws (W.setCell ⟨T, i, none⟩ u) := by
 obtain ⟨⟨v, h1, h2⟩, ⟨cs, h3⟩, h4⟩ := h
 refine ⟨⟨v, (heap_setCell_other W ⟨T, i, none⟩ OB _ fun e => ?_).trans h1, h2.agree fun k cs' T' hT' hk => heap_setCell_other W ⟨T, i, none⟩ k _ fun e => ?_⟩, ⟨_, heap_setCell_same W T i _ _ u h3⟩, h4.setCell hT _⟩
 ·have e : OB = T := e
  subst e; rw [h1] at h3; cases h3
 ·have e : k = T := e
  subst e
  rw [h3] at hk
  injection hk with hk
  injection hk with _ h2 _
  rcases hT' with rfl | rfl | rfl <;> cases h2
set_option maxHeartbeats 1000000 in
theorem script1_any (w W : World) (hG : Xe.HasG W.heap) {RB OB R T : Nat} {s : ByteArray} (hrb : W.heap[RB]? = some (.cells #[.pointer (some ⟨R, 0, none⟩)] 199 (0, 0))) (hob : W.heap[OB]? = some (.cells #[.slice none 0 0] 129 (0, 0)))
  (hT : W.heap[T]? = some (.cells #[.int .i64 0, .int .i64 0, .bool false] 202 (0, 0))) (h : RdAt W R s 0) (hR0 : 0 < R) (hwR : w.heap.size ≤ R) (hwO : w.heap.size ≤ OB) (hb : Below w.heap.size w W)
  (hs : s.size ≤ 100000) {wd : List UInt8} {r : List (List UInt8)} (hw : ∀ x ∈ wd :: r, Sw x) (hl : (wd :: r).length ≤ 100000) (hat : At s 0 (wd :: r)) :
  Calls Tryz.prog 133 #[.pointer (some ⟨RB, 0, none⟩), .pointer (some ⟨OB, 0, none⟩)] W fun e w' => e = .returned (.tuple #[]) ∧ W.heap.size ≤ w'.heap.size ∧ w'.heap[T]? = W.heap[T]? ∧ ScrC w OB T (wd :: r) w' := by
 have c0 := (show W.cell? ⟨RB, 0, none⟩ = some (.pointer (some ⟨R, 0, none⟩)) by rw [Lib.cell_of_heap hrb]; rfl)
 have hOR : OB ≠ R := fun e => by subst e; unfold RdAt rdO at h; rw [hob] at h; cases h
 have hTR : T ≠ R := fun e => by subst e; unfold RdAt rdO at h; rw [hT] at h; cases h
 have hTO : T ≠ OB := fun e => by subst e; rw [hob] at hT; cases hT
 have HW := Lib.hid hw
 have HAT := Lib.hid hat
 have HR := Lib.hid h
 have HOB := Lib.hid hob
 have HT := Lib.hid hT
 have HB := Lib.hid hb
 clear hw hat h hob hrb hb hT
 go_enter Tryz.func133, Tryz.ntmps133
 go_wp2_with (go_at_call 134; refine (commands_any _ hG HR.out hR0 hs HW.out hl HAT.out).mono ?_; intro e w2 hx; obtain ⟨v, rfl, hcs, hoff⟩ := hx; obtain ⟨g, c, rfl⟩ := zam (n := 0) hcs.choose_spec.1; dsimp only; have ho2 := hoff.obj HOB.out hOR; have d0 := (show w2.cell? ⟨OB, 0, none⟩ = some (.slice none 0 0) by rw [Lib.cell_of_heap ho2]; rfl); have f0 : w2.frozen? ⟨OB, 0, none⟩ = false := Lib.frozen_of_heap ho2 0; have HO2 := Lib.hid ho2; have HCS := Lib.hid hcs; have HOFF := Lib.hid hoff; clear ho2 hcs hoff)
 first | go_end0 | refine bodyPost_ret (results_none rfl _ _ _) rfl ?_
 have hset := heap_setCell_same w2 OB 0 _ _ (.slice (some ⟨g, 0, none⟩) 1 c) HO2.out
 have ht2 := HOFF.out.obj HT.out hTR
 refine ⟨rfl, by simpa using HOFF.out.size, (heap_setCell_other w2 ⟨OB, 0, none⟩ T _ (by exact hTO)).trans (ht2.trans HT.out.symm), ⟨_, hset, ?_⟩, ⟨_, (heap_setCell_other w2 ⟨OB, 0, none⟩ T _ (by exact hTO)).trans ht2⟩, (HB.out.trans (HOFF.out.to hwR HB.out.size)).setCell hwO _⟩
 refine (HCS.out.mono HB.out.size).agree fun k cs T' hT' hk => heap_setCell_other w2 ⟨OB, 0, none⟩ k _ fun e => ?_
 have e : k = OB := e
 subst e
 rw [HO2.out] at hk
 injection hk with hk
 injection hk with _ h2 _
 rcases hT' with rfl | rfl | rfl <;> cases h2
end Go.Proofs.YtfkeeieoapimlaaGreatDoor
end
section
namespace Go.Proofs.YtfkeeieoapimlaaGreatDoor
open Go.ChangeShapes Go.WideShapes Go.ChangeAt Go.RowKit
set_option maxRecDepth 100000
structure StartS (w : World) (s : ByteArray) (A : World) : Prop where
 size : A.heap.size = w.heap.size + 1 + 1 + 1
 ob : A.heap[w.heap.size]? = some (.cells #[.slice none 0 0] 129 (0, 0))
 rd : RdAt A (w.heap.size + 1) s 0
 rb : A.heap[w.heap.size + 1 + 1]? = some (.cells #[.pointer (some ⟨w.heap.size + 1, 0, none⟩)] 199 (0, 0))
 below : Below w.heap.size w A
theorem start_script (w : World) (s : ByteArray) {A : World} (h : ((w.alloc (.cells #[.slice none 0 0] 129)).alloc (rdO s 0)).alloc (.cells #[.pointer (some ⟨w.heap.size + 1, 0, none⟩)] 199) = A) : StartS w s A := by
 obtain ⟨A1, hA1, sA1, aN1, aO1, bA1⟩ := zag w #[.slice none 0 0] 129
 obtain ⟨A2, hA2, sA2, aN2, aO2, bA2⟩ := zag A1 #[.string s, .int .i64 0, .int .i64 0, .bool true, .bool true, .bool true] 245
 obtain ⟨A3, hA3, sA3, aN3, aO3, bA3⟩ := zag A2 #[.pointer (some ⟨w.heap.size + 1, 0, none⟩)] 199
 have : A = A3 := by rw [← h, hA1]; show (A1.alloc (.cells #[.string s, .int .i64 0, .int .i64 0, .bool true, .bool true, .bool true] 245)).alloc _ = A3; rw [hA2, hA3]
 subst this
 have hb3 : Below w.heap.size w A := bA1.trans ((bA2.mono (by omega)).trans (bA3.mono (by omega)))
 refine ⟨by omega, (aO3 _ (by omega)).trans ((aO2 _ (by omega)).trans aN1), ?_, ?_, hb3⟩
 ·rw [← sA1]; exact (aO3 _ (by omega)).trans aN2
 ·rw [← sA1, ← sA2]; rw [← sA1] at aN3; exact aN3
set_option maxHeartbeats 1000000 in
theorem parse_any (w : World) (hG : Xe.HasG w.heap) (s : ByteArray) (hs : s.size ≤ 100000) {wd : List UInt8} {r : List (List UInt8)} (hw : ∀ x ∈ wd :: r, Sw x) (hl : (wd :: r).length ≤ 100000) (hat : L s = zaO (wd :: r)) :
  Calls Tryz.prog 81 #[.string s] w fun e w' => ∃ v, e = .returned (.tuple #[v, .int .i64 0, .int .i64 0]) ∧ CSl w' w.heap.size v (wd :: r) ∧ Below w.heap.size w w' := by
 have hmf : ∀ (fn : Fn) (first cap : Array Value) (w : World), (Instr.makeFunc fn first cap).run Tryz.prog w = .ok (.func fn first cap) w := fun _ _ _ _ => rfl
 have hAt : At s 0 (wd :: r) := ⟨Nat.zero_le _, by rw [List.drop_zero]; exact hat⟩
 have hpos := HasG.pos hG
 obtain ⟨A3, hA3⟩ : ∃ A3, ((w.alloc (.cells #[.slice none 0 0] 129)).alloc (rdO s 0)).alloc (.cells #[.pointer (some ⟨w.heap.size + 1, 0, none⟩)] 199) = A3 := ⟨_, rfl⟩
 have hS := start_script w s hA3
 have HS := Lib.hid hS
 have HA3 := Lib.hid hA3
 have HW := Lib.hid hw
 have HAT := Lib.hid hAt
 have hsz := hS.size
 have hc : ∀ W, Below A3.heap.size A3 W → W.heap[A3.heap.size]? = some (.cells #[.int .i64 0, .int .i64 0, .bool false] 202 (0, 0)) → Calls Tryz.prog 133 #[.pointer (some ⟨w.heap.size + 1 + 1, 0, none⟩), .pointer (some ⟨w.heap.size, 0, none⟩)] W fun e w' => e = .returned (.tuple #[]) ∧ W.heap.size ≤ w'.heap.size ∧ w'.heap[A3.heap.size]? = W.heap[A3.heap.size]? ∧ ScrC w w.heap.size A3.heap.size (wd :: r) w' := by
  intro W hb hT
  have hBW : Below w.heap.size w W := HS.out.below.trans (hb.mono (by omega))
  exact script1_any w W (HasG.below hG hBW hpos) ((hb.block _ (by omega)).trans HS.out.rb) ((hb.block _ (by omega)).trans HS.out.ob) hT ((hb.block _ (by omega)).trans HS.out.rd) (by omega) (by omega) (Nat.le_refl _) hBW hs HW.out hl HAT.out
 have HC := Lib.hid hc
 clear hA3 hw hAt hat hc hS
 go_enter Tryz.func81, Tryz.ntmps81
 go_wp2_with (first | (go_at_call 131; refine (whole_any _ _).mono ?_; rintro e w1 ⟨rfl, rfl⟩) | (go_at_call 132; rw [HA3.out]; refine (reads_any A3 (C := ScrC w w.heap.size A3.heap.size (wd :: r)) HC.out (fun W i u h => h.set (by omega) i u)).mono ?_; intro e w2 hx; obtain ⟨rfl, hC⟩ := hx; dsimp only; obtain ⟨v, hv, hcs⟩ := hC.ob; obtain ⟨g, c, rfl⟩ := zam (n := 0) hcs.choose_spec.1; have a0 := (show w2.cell? ⟨w.heap.size, 0, none⟩ = some (.slice (some ⟨g, 0, none⟩) (0 + 1) c) by rw [Lib.cell_of_heap hv]; rfl); have f0 : w2.frozen? ⟨w.heap.size, 0, none⟩ = false := Lib.frozen_of_heap hv 0; have n0 : w.heap.size < w2.heap.size := (Array.getElem?_eq_some_iff.1 hv).1; have HV := Lib.hid hv; have HCS := Lib.hid hcs; have HBL := Lib.hid hC.below; clear hC hv hcs))
 have hset := heap_setCell_same w2 w.heap.size 0 _ _ (.slice (some ⟨g, 0, none⟩) 1 c) HV.out
 have hW : ∃ W, (w2.setCell ⟨w.heap.size, 0, none⟩ (.slice (some ⟨g, 0, none⟩) 1 c)).alloc (.cells #[.int .i64 0, .int .i64 0, .bool false] 202) = W := ⟨_, rfl⟩
 obtain ⟨W, hW⟩ := hW
 have hWc : W.heap[w.heap.size]? = some (.cells #[.slice (some ⟨g, 0, none⟩) 1 c] 129 (0, 0)) := by
  rw [← hW, heap_alloc_old _ _ (by simpa using n0)]; exact hset
 have q0 := (show W.cell? ⟨w.heap.size, 0, none⟩ = some (.slice (some ⟨g, 0, none⟩) 1 c) by rw [Lib.cell_of_heap hWc]; rfl)
 have hfin : CSl W w.heap.size (.slice (some ⟨g, 0, none⟩) 1 c) (wd :: r) ∧ Below w.heap.size w W := by
  subst hW
  refine ⟨HCS.out.agree fun k cs T' hT' hk => ?_, (HBL.out.setCell (Nat.le_refl _) _).alloc (by have := HBL.out.size; simpa using this) _⟩
  have hlt := (Array.getElem?_eq_some_iff.1 hk).1
  rw [heap_alloc_old _ _ (by simpa using hlt)]
  refine heap_setCell_other w2 ⟨w.heap.size, 0, none⟩ k _ fun e => ?_
  have e : k = w.heap.size := e
  subst e
  rw [HV.out] at hk
  injection hk with hk
  injection hk with _ h2 _
  rcases hT' with rfl | rfl | rfl <;> cases h2
 rw [hW]
 clear hset hW hWc
 refine bodyPost_ret (v := .tuple #[.slice (some ⟨g, 0, none⟩) 1 c, .int .i64 0, .int .i64 0]) ?_ rfl ⟨_, rfl, hfin.1, hfin.2⟩
 simp [results, Tryz.results81, go_sem, q0]
end Go.Proofs.YtfkeeieoapimlaaGreatDoor
end
section
namespace Go.Proofs.YtfkeeieoapimlaaGreatDoor
open Go.ChangeShapes Go.WideShapes Go.ChangeAt Go.RowKit
set_option maxRecDepth 100000
theorem info144 : (Tryz.prog.info? 144).map (fun i => (i.zero, i.size, i.bytes)) = some (some (.agg #[.int .i64 0, .int .i64 0, .string ⟨#[]⟩]), 3, 32) := by kernel_rfl
def ins1 (p : Nat × ByteArray) : List Value := [.int .i64 (p.1 : Int), .int .i64 0, .string p.2]
def insC (l : List (Nat × ByteArray)) : List Value := l.flatMap ins1
theorem insC_snoc (l : List (Nat × ByteArray)) (p : Nat × ByteArray) : insC (l ++ [p]) = insC l ++ ins1 p := by simp [insC]
structure MInv (w0 : World) (base M : Nat) (l : List (Nat × ByteArray)) (W : World) : Prop where
 hM : base ≤ M
 hb : base ≤ W.heap.size
 at_ : ∃ v, W.heap[M]? = some (.cells #[v] 210 (0, 0)) ∧ W.ownsRow base 144 3 v l.length (insC l)
 below : Below base w0 W
theorem MInv.drew {w0 W : World} {base M : Nat} {l : List (Nat × ByteArray)} (h : MInv w0 base M l W) : MInv w0 base M l W.drew := ⟨h.hM, h.hb, h.at_, h.below.drew⟩
theorem MInv.lt {w0 W : World} {base M : Nat} {l : List (Nat × ByteArray)} (h : MInv w0 base M l W) : M < W.heap.size := by
 obtain ⟨v, h1, _⟩ := h.at_
 exact (Array.getElem?_eq_some_iff.1 h1).1
theorem MInv.past {w0 W W' : World} {base M : Nat} {l : List (Nat × ByteArray)} (h : MInv w0 base M l W) (hb : Below W.heap.size W W') : MInv w0 base M l W' := by
 obtain ⟨v, h1, h2⟩ := h.at_
 exact ⟨h.hM, Nat.le_trans h.hb hb.size, ⟨v, (hb.block _ (Array.getElem?_eq_some_iff.1 h1).1).trans h1, zaz h2 hb⟩, h.below.trans (hb.mono h.hb)⟩
theorem ins_new (w : World) (p : Nat × ByteArray) : ∀ j x, (ins1 p)[j]? = some x → (w.alloc (.cells #[.int .i64 (p.1 : Int), .int .i64 0, .string p.2] 144)).cell? ((⟨w.heap.size, 0, none⟩ : Addr).add j) = some x := by
 intro j x hj
 match j, hj with
 | 0, hj => simp [ins1] at hj; subst hj; simp [Addr.add]
 | 1, hj => simp [ins1] at hj; subst hj; simp [Addr.add]
 | 2, hj => simp [ins1] at hj; subst hj; simp [Addr.add]
theorem ins_cell (p : Nat × ByteArray) : ∀ x ∈ ins1 p, x.oneCell' = true := by
 intro x hx
 simp only [ins1, List.mem_cons, List.not_mem_nil, or_false] at hx
 rcases hx with rfl | rfl | rfl <;> rfl
def KeepT (w w' : World) : Prop := ∀ (k : Nat) (cs : Array Value) (T : Nat), T ≠ 144 → T ≠ 210 → w.heap[k]? = some (.cells cs T (0, 0)) → w'.heap[k]? = some (.cells cs T (0, 0))
theorem KeepT.refl (w : World) : KeepT w w := fun _ _ _ _ _ h => h
theorem KeepT.trans {a b c : World} (h : KeepT a b) (k : KeepT b c) : KeepT a c := fun j cs T h1 h2 h3 => k j cs T h1 h2 (h j cs T h1 h2 h3)
theorem KeepT.of {w w' : World} (h : Below w.heap.size w w') : KeepT w w' := fun k cs T _ _ hk => (h.block k (Array.getElem?_eq_some_iff.1 hk).1).trans hk
theorem MInv.keep {W W3 : World} {base M : Nat} {l : List (Nat × ByteArray)} {v v' : Value} (h1 : W.heap[M]? = some (.cells #[v] 210 (0, 0))) (h2 : W.ownsRow base 144 3 v l.length (insC l))
  (hg : W.grownBy W3 v.ownBlock) : KeepT W (W3.setCell ⟨M, 0, none⟩ v') := by
 intro k cs T hT1 hT2 hk
 have hne : k ≠ M := fun e => by
  subst e
  rw [h1] at hk
  injection hk with hk
  injection hk with _ h2 _
  exact hT2 h2.symm
 refine (heap_setCell_other W3 ⟨M, 0, none⟩ k _ hne).trans ((hg.block k (Array.getElem?_eq_some_iff.1 hk).1 fun e => ?_).trans hk)
 obtain ⟨c, hc⟩ := zal h2 e.symm
 rw [hk] at hc
 injection hc with hc
 injection hc with _ h2 _
 exact hT1 h2
theorem MInv.add {w0 W W3 : World} {base M : Nat} {l : List (Nat × ByteArray)} {p : Nat × ByteArray} {v v' : Value} (h : MInv w0 base M l W) (h1 : W.heap[M]? = some (.cells #[v] 210 (0, 0))) (h2 : W.ownsRow base 144 3 v l.length (insC l))
  (ho : W3.ownsRow base 144 3 v' (l.length + 1) (insC l ++ ins1 p)) (hg : W.grownBy W3 v.ownBlock) : MInv w0 base M (l ++ [p]) (W3.setCell ⟨M, 0, none⟩ v') := by
 have hne : v.ownBlock ≠ some M := fun e => by
  obtain ⟨c, hc⟩ := zal h2 e
  rw [h1] at hc
  cases hc
 have k1 : W3.heap[M]? = some (.cells #[v] 210 (0, 0)) := (hg.block M (Array.getElem?_eq_some_iff.1 h1).1 (fun e => hne e.symm)).trans h1
 have hb : Below base w0 W3 := h.below.grown hg h.hb fun k hk => (h2.lt k hk).1
 refine ⟨h.hM, by have := hg.size; have := h.hb; simp; omega, ⟨v', heap_setCell_same W3 M 0 _ _ v' k1, ?_⟩, hb.setCell h.hM _⟩
 rw [insC_snoc, List.length_append]
 refine zak ho fun k hk => heap_setCell_other W3 ⟨M, 0, none⟩ k _ fun e => ?_
 have e : k = M := e
 subst e
 obtain ⟨c, hc⟩ := zal ho hk
 rw [k1] at hc
 cases hc
set_option maxHeartbeats 1000000 in
theorem add_any (w0 w : World) {base M : Nat} {l : List (Nat × ByteArray)} (h : MInv w0 base M l w) (hl : l.length ≤ 1000000) (n : Nat) (t : ByteArray) :
  Calls Tryz.prog 136 #[.pointer (some ⟨M, 0, none⟩), .int .i64 (n : Int), .int .i64 0, .string t] w fun e w' => e = .returned (.int .i64 (l.length : Int)) ∧ MInv w0 base M (l ++ [(n, t)]) w' ∧ KeepT w w' := by
 obtain ⟨i1, hj, hy0, hy1, hy2⟩ := info_parts info144
 obtain ⟨v, h1, h2⟩ := h.at_
 obtain ⟨va, vc, rfl⟩ := zbE h2
 have c0 := (show w.cell? ⟨M, 0, none⟩ = some (.slice va l.length vc) by rw [Lib.cell_of_heap h1]; rfl)
 have f0 : w.frozen? ⟨M, 0, none⟩ = false := Lib.frozen_of_heap h1 0
 have lM := h.lt
 have hne : (Value.slice va l.length vc).ownBlock ≠ some M := fun e => by
  obtain ⟨c, hc⟩ := zal h2 e
  rw [h1] at hc
  cases hc
 have HI := Lib.hid h
 have H1 := Lib.hid h1
 have H2 := Lib.hid h2
 have HNE := Lib.hid hne
 have u1 : IntKind.i64.wrap ((l.length : Int) + 1 - 1) = (l.length : Int) := by rw [show (l.length : Int) + 1 - 1 = (l.length : Int) by omega]; exact IntWalk.i64_in _ (by omega)
 clear h h1 h2 hne
 go_enter Tryz.func136, Tryz.ntmps136
 go_wp2_with (at_builtin; refine zaa rfl _ _ 88 rfl base 144 i1 _ 3 32 Tryz.underlying88 hj hy0 hy1 hy2 rfl (by decide) (.slice va l.length vc) l.length (insC l) rfl (by exact World.ownsRow.alloc (w := w) H2.out _) ⟨w.heap.size, 0, none⟩ 1 1 (ins1 (n, t)) rfl rfl (by exact ins_new w (n, t)) (by exact ins_cell _) (by simp only [maxLen]; omega) (by omega) (by have := HI.out.hb; simp; omega) ?_; intro v' w3 ho hg hn; obtain ⟨g3, cap3, rfl⟩ := zam ho; have hg4 := zb4 (w := w) hg; have q3 := za1 hg4 rfl c0 HNE.out; have z3 := zbt hg4 rfl c0 f0 HNE.out; have HF := Lib.hid (HI.out.add H1.out H2.out ho hg4); have HK := Lib.hid (MInv.keep (v' := .slice (some ⟨g3, 0, none⟩) (l.length + 1) cap3) H1.out H2.out hg4); clear ho hg hn hg4)
 go_ret
 exact ⟨rfl, HF.out, HK.out⟩
theorem add_at (w0 w : World) {base M : Nat} {l : List (Nat × ByteArray)} (h : MInv w0 base M l w) (hl : l.length ≤ 1000000) (n : Nat) (t : ByteArray) (m : Int) (hm : (n : Int) = m) :
  Calls Tryz.prog 136 #[.pointer (some ⟨M, 0, none⟩), .int .i64 m, .int .i64 0, .string t] w fun e w' => e = .returned (.int .i64 (l.length : Int)) ∧ MInv w0 base M (l ++ [(n, t)]) w' ∧ KeepT w w' := hm ▸ add_any w0 w h hl n t
set_option maxHeartbeats 1000000 in
theorem token_any (w0 w : World) {base M : Nat} {l : List (Nat × ByteArray)} (h : MInv w0 base M l w) (hl : l.length ≤ 1000000) (x : ByteArray) :
  Calls Tryz.prog 198 #[.pointer (some ⟨M, 0, none⟩), .agg #[.int .i64 1, .string x, .bool false, .slice none 0 0]] w fun e w' => e = .returned (.tuple #[]) ∧ MInv w0 base M (l ++ [(1, x)]) w' ∧ KeepT w w' := by
 obtain ⟨A, hA, sA, aN, aO, bA⟩ := zag w #[.int .i64 1, .string x, .bool false, .slice none 0 0] 261
 have hI := h.past bA
 have y0 : A.cell? ⟨w.heap.size, 0, none⟩ = some (.int .i64 1) := (za8 aN 0).trans rfl
 have y1 : A.cell? ⟨w.heap.size, 1, none⟩ = some (.string x) := (za8 aN 1).trans rfl
 have y2 : A.cell? ⟨w.heap.size, 2, none⟩ = some (.bool false) := (za8 aN 2).trans rfl
 have HA := Lib.hid hA
 have HI := Lib.hid hI
 have HK0 := Lib.hid (KeepT.of bA)
 clear hA sA aN aO bA h hI
 go_enter Tryz.func198, Tryz.ntmps198
 go_wp2_with (fail)
 rw [HA.out]
 go_region_law ((go_simp; go_at_call 136; refine (add_at w0 A.drew HI.out.drew hl 1 x 1 rfl).mono ?_; rintro e w2 ⟨rfl, hI2, hK2⟩; dsimp only; have HI2 := Lib.hid hI2; have HK2 := Lib.hid hK2; clear hI2 hK2))
 all_goals
  first | go_end0 | refine bodyPost_ret (results_none rfl _ _ _) rfl ?_
  exact ⟨rfl, HI2.out, HK0.out.trans HK2.out⟩
theorem tok_at {w0 W : World} {m base g c : Nat} {x : ByteArray} (h : zdd w0 m (.slice (some ⟨g, 0, none⟩) 1 c) x) (hb : Below base w0 W) (hlt : g < base) :
  W.cell? ⟨g, 0, none⟩ = some (.int .i64 1) ∧ W.cell? ⟨g, 1, none⟩ = some (.string x) ∧ W.cell? ⟨g, 2, none⟩ = some (.bool false) ∧ W.cell? ⟨g, 3, none⟩ = some (.slice none 0 0) := by
 have hc := h.cells (g := g) rfl
 refine ⟨?_, ?_, ?_, ?_⟩ <;> rw [hb.cell (p := ⟨g, _, none⟩) hlt]
 ·simpa [Addr.add] using hc 0 _ rfl
 ·simpa [Addr.add] using hc 1 _ rfl
 ·simpa [Addr.add] using hc 2 _ rfl
 ·simpa [Addr.add] using hc 3 _ rfl
set_option maxHeartbeats 1000000 in
theorem tokens_one (w0 w : World) {base M m g c : Nat} {l : List (Nat × ByteArray)} (h : MInv w0 base M l w) (hl : l.length ≤ 1000000) {x : ByteArray} (ht : zdd w0 m (.slice (some ⟨g, 0, none⟩) 1 c) x) (hlt : g < base) :
  Calls Tryz.prog 137 #[.pointer (some ⟨M, 0, none⟩), .slice (some ⟨g, 0, none⟩) 1 c] w fun e w' => e = .returned (.tuple #[]) ∧ MInv w0 base M (l ++ [(1, x)]) w' ∧ KeepT w w' := by
 have HI := Lib.hid h
 have HT := Lib.hid ht
 clear h ht
 go_enter Tryz.func137, Tryz.ntmps137
 go_wp2
 go_loopg [8] 1 (fun k iv wr => (iv = .int .i64 0 ∧ k = 1 ∧ wr = w) ∨ (iv = .int .i64 1 ∧ k = 0 ∧ MInv w0 base M (l ++ [(1, x)]) wr ∧ KeepT w wr))
 case atStart => exact .inl ⟨rfl, rfl, rfl⟩
 case round =>
  rcases hrel with ⟨rfl, rfl, hw⟩ | ⟨rfl, rfl, hI, hK⟩
  ·obtain rfl : w = wr := hw.symm
   obtain ⟨c0, c1, c2, c3⟩ := tok_at HT.out HI.out.below hlt
   obtain ⟨A, hA, sA, aN, aO, bA⟩ := zag w #[.int .i64 1, .string x, .bool false, .slice none 0 0] 261
   have HA := Lib.hid hA
   have HI2 := Lib.hid (HI.out.past bA)
   have HK0 := Lib.hid (KeepT.of bA)
   clear hA sA aN aO bA
   go_wp2_with (go_at_call 198; rw [HA.out]; refine (token_any w0 A HI2.out hl x).mono ?_; rintro e w2 ⟨rfl, hI3, hK3⟩; dsimp only; have HI3 := Lib.hid hI3; have HK3 := Lib.hid hK3; clear hI3 hK3)
   go_roundg 0
   case measure => omega
   case rel => exact .inr ⟨rfl, rfl, HI3.out, HK0.out.trans HK3.out⟩
  ·have HI2 := Lib.hid hI
   have HK2 := Lib.hid hK
   clear hI hK
   go_wp2
   first | go_end0 | refine bodyPost_ret (results_none rfl _ _ _) rfl ?_
   exact ⟨rfl, HI2.out, HK2.out⟩
end Go.Proofs.YtfkeeieoapimlaaGreatDoor
end
section
namespace Go.Proofs.YtfkeeieoapimlaaGreatDoor
open Go.ChangeShapes Go.WideShapes Go.ChangeAt Go.RowKit
set_option maxRecDepth 100000
def bt (l : List UInt8) : ByteArray := ⟨l.toArray⟩
def insW (ws : List (List UInt8)) : List (Nat × ByteArray) := ws.flatMap fun wd => [(1, bt wd), (6, ⟨#[]⟩)]
def zbe (ws : List (List UInt8)) : List (Nat × ByteArray) := ((5, ⟨#[]⟩) :: insW ws) ++ [(8, ⟨#[]⟩)]
theorem insW_snoc (ws : List (List UInt8)) (wd : List UInt8) : insW (ws ++ [wd]) = insW ws ++ [(1, bt wd)] ++ [(6, ⟨#[]⟩)] := by simp [insW]
theorem zfp (ws : List (List UInt8)) : (insW ws).length = ws.length * 2 := by
 induction ws with
 | nil => rfl
 | cons a l ih => simp [insW] at ih ⊢; omega
theorem cmd_at {w0 W : World} {m g c : Nat} {u : Value} (h : w0.ownsRow m 214 2 (.slice (some ⟨g, 0, none⟩) 1 c) 1 [.int .i64 0, u]) (hb : Below w0.heap.size w0 W) :
  W.cell? ⟨g, 0, none⟩ = some (.int .i64 0) ∧ W.cell? ⟨g, 1, none⟩ = some u := by
 have hc := h.cells (g := g) rfl
 have hlt := (h.lt g rfl).2
 refine ⟨?_, ?_⟩ <;> rw [hb.cell (p := ⟨g, _, none⟩) hlt]
 ·simpa [Addr.add] using hc 0 _ rfl
 ·simpa [Addr.add] using hc 1 _ rfl
theorem word_at {w0 W : World} {m g n c k : Nat} {ws : List (List UInt8)} {wd : List UInt8} (h : WSl w0 m (.slice (some ⟨g, 0, none⟩) n c) ws) (hb : Below w0.heap.size w0 W) (hk : ws[k]? = some wd) :
  ∃ h' c', W.cell? ⟨g, k * 2, none⟩ = some (.bool false) ∧ W.cell? ⟨g, k * 2 + 1, none⟩ = some (.slice (some ⟨h', 0, none⟩) 1 c') ∧ zdd w0 m (.slice (some ⟨h', 0, none⟩) 1 c') (bt wd) ∧ h' < w0.heap.size := by
 obtain ⟨xs, h1, h2⟩ := h
 obtain ⟨v, x, e1, e2, e3, e4⟩ := h2.at hk
 obtain ⟨h', c', rfl⟩ := zam (n := 0) e3
 have hc := h1.cells (g := g) rfl
 have hlt := (h1.lt g rfl).2
 have hx : x = bt wd := by rw [← e4]; exact (mk_L x).symm
 subst hx
 refine ⟨h', c', ?_, ?_, e3, (e3.lt h' rfl).2⟩
 ·rw [hb.cell (p := ⟨g, _, none⟩) hlt]; have := hc _ _ e1; unfold Addr.add at this; simp at this; (split at this <;> simp_all)
 ·rw [hb.cell (p := ⟨g, _, none⟩) hlt]; simpa [Addr.add] using hc _ _ e2
set_option maxHeartbeats 2000000 in
theorem cmds_one (w0 w : World) {M m g c : Nat} (h : MInv w0 w0.heap.size M [] w) {ws : List (List UInt8)} (hne : ws ≠ []) (hl : ws.length ≤ 100000) (hc : CSl w0 m (.slice (some ⟨g, 0, none⟩) 1 c) ws) :
  Calls Tryz.prog 84 #[.pointer (some ⟨M, 0, none⟩), .slice (some ⟨g, 0, none⟩) 1 c] w fun e w' => e = .returned (.tuple #[]) ∧ MInv w0 w0.heap.size M (zbe ws) w' ∧ KeepT w w' := by
 obtain ⟨u, hu, hw⟩ := hc
 have hform : ∃ g2 c2, u = .slice (some ⟨g2, 0, none⟩) ws.length c2 := by
  obtain ⟨xs, h1, _⟩ := hw
  cases ws with
  | nil => exact absurd rfl hne
  | cons a r => exact zam (n := r.length) h1
 obtain ⟨g2, c2, rfl⟩ := hform
 have HI := Lib.hid h
 have HU := Lib.hid hu
 have HW := Lib.hid hw
 clear h hu hw
 go_enter Tryz.func84, Tryz.ntmps84
 go_wp2
 go_loopg [17] 1 (fun k iv wr => (iv = .int .i64 0 ∧ k = 1 ∧ wr = w) ∨ (iv = .int .i64 1 ∧ k = 0 ∧ MInv w0 w0.heap.size M (zbe ws) wr ∧ KeepT w wr))
 case atStart => exact .inl ⟨rfl, rfl, rfl⟩
 case round =>
  rcases hrel with ⟨rfl, rfl, hw⟩ | ⟨rfl, rfl, hI, hKK⟩
  ·obtain rfl : w = wr := hw.symm
   obtain ⟨c0, c1⟩ := cmd_at HU.out HI.out.below
   obtain ⟨A, hA, sA, aN, aO, bA⟩ := zag w #[.int .i64 0, .slice (some ⟨g2, 0, none⟩) ws.length c2] 214
   have HA := Lib.hid hA
   have HI2 := Lib.hid (HI.out.past bA)
   have HAN := Lib.hid aN
   have HKA := Lib.hid (KeepT.of bA)
   clear hA sA aN aO bA
   go_wp2_with (go_at_call 136; rw [HA.out]; refine (add_at w0 A HI2.out (by decide) 5 _ 5 rfl).mono ?_; rintro e w2 ⟨rfl, hI3, hK3⟩; dsimp only; have hbx := hK3 _ _ _ (by decide) (by decide) HAN.out; have d1 := (show w2.cell? ⟨w.heap.size, 1, none⟩ = some (.slice (some ⟨g2, 0, none⟩) ws.length c2) by rw [Lib.cell_of_heap hbx]; rfl); have HI3 := Lib.hid hI3; have HK3 := Lib.hid (HKA.out.trans hK3); clear hI3 hK3 hbx)
   go_loopg [35] ws.length (fun k iv wr => ∃ j : Nat, iv = .int .i64 (j : Int) ∧ k = ws.length - j ∧ j ≤ ws.length ∧ MInv w0 w0.heap.size M ((5, ⟨#[]⟩) :: insW (ws.take j)) wr ∧ KeepT w wr)
   case atStart => exact ⟨0, rfl, rfl, Nat.zero_le _, HI3.out, HK3.out⟩
   case round =>
    obtain ⟨j, rfl, hk, hj0, hI, hKK⟩ := hrel
    have HKK := Lib.hid hKK
    have HI4 := Lib.hid hI
    have HK4 := Lib.hid hk
    clear hI hk hKK
    have hlen : ((5, (⟨#[]⟩ : ByteArray)) :: insW (ws.take j)).length = j * 2 + 1 := by rw [List.length_cons, zfp, List.length_take]; omega
    have HLEN := Lib.hid hlen
    clear hlen
    by_cases hlt : j < ws.length
    ·have htk : ws.take (j + 1) = ws.take j ++ [ws[j]] := by rw [List.take_succ_eq_append_getElem hlt]
     obtain ⟨h', c', e0, e1, e2, e3⟩ := word_at HW.out HI4.out.below (List.getElem?_eq_getElem hlt)
     obtain ⟨A2, hA2, sA2, aN2, aO2, bA2⟩ := zag wr #[.bool false, .slice (some ⟨h', 0, none⟩) 1 c'] 216
     have HA2 := Lib.hid hA2
     have HI5 := Lib.hid (HI4.out.past bA2)
     have HAN2 := Lib.hid aN2
     have HKA2 := Lib.hid (HKK.out.trans (KeepT.of bA2))
     have HE2 := Lib.hid e2
     have HTK := Lib.hid htk
     have y0 : A2.cell? ⟨wr.heap.size, 0, none⟩ = some (.bool false) := (za8 aN2 0).trans rfl
     have y1 : A2.cell? ⟨wr.heap.size, 1, none⟩ = some (.slice (some ⟨h', 0, none⟩) 1 c') := (za8 aN2 1).trans rfl
     have u1 : IntKind.i64.wrap ((j : Int) + 1) = (j : Int) + 1 := IntWalk.i64_in _ (by omega)
     have t1 : (j : Int) < (ws.length : Int) := by omega
     have t0 : (0 : Int) ≤ (j : Int) := by omega
     clear hA2 sA2 aN2 aO2 bA2 e2 htk
     generalize ws[j] = wd at *
     go_wp2_with (first
      | (go_at_call 137; rw [HA2.out]; refine (tokens_one w0 A2 HI5.out (by have := HLEN.out; omega) HE2.out e3).mono ?_; rintro e w5 ⟨rfl, hI6, hK6⟩; dsimp only; have hbx := hK6 _ _ _ (by decide) (by decide) HAN2.out; have z0 := (show w5.cell? ⟨wr.heap.size, 0, none⟩ = some (.bool false) by rw [Lib.cell_of_heap hbx]; rfl); have HI6 := Lib.hid hI6; have HK6 := Lib.hid (HKA2.out.trans hK6); clear hI6 hK6 hbx)
      | (go_at_call 136; refine (add_at w0 w5 HI6.out (by have := HLEN.out; rw [List.length_append]; simp only [List.length_cons, List.length_nil] at *; omega) 6 _ 6 rfl).mono ?_; rintro e w6 ⟨rfl, hI7, hK7⟩; dsimp only; have HI7 := Lib.hid hI7; have HK7 := Lib.hid (HK6.out.trans hK7); clear hI7 hK7))
     go_roundg (ws.length - (j + 1))
     case measure => rw [HK4.out]; omega
     case rel =>
      refine ⟨j + 1, by simp, rfl, by omega, ?_, HK7.out⟩
      rw [HTK.out, insW_snoc]
      exact HI7.out
    ·have hj : j = ws.length := by omega
     subst hj
     have t1 : ¬ ((ws.length : Int) < (ws.length : Int)) := by omega
     go_wp2_with (go_at_call 136; refine (add_at w0 wr HI4.out (by have := HLEN.out; omega) 8 _ 8 rfl).mono ?_; rintro e w6 ⟨rfl, hI7, hK7⟩; dsimp only; have HI7 := Lib.hid hI7; have HK7 := Lib.hid (HKK.out.trans hK7); clear hI7 hK7)
     go_roundg 0
     case measure => omega
     case rel =>
      refine .inr ⟨rfl, rfl, ?_, HK7.out⟩
      have := HI7.out
      rw [List.take_length] at this
      exact this
  ·have HI2 := Lib.hid hI
   have HK2 := Lib.hid hKK
   clear hI hKK
   go_wp2
   first | go_end0 | refine bodyPost_ret (results_none rfl _ _ _) rfl ?_
   exact ⟨rfl, HI2.out, HK2.out⟩
set_option maxHeartbeats 1000000 in
theorem turned1_idle (p q r : Value) (w : World) :
  CallsD Tryz.prog 135 #[p, q, r] .returning w fun e u' w' => e = .returned (.tuple #[]) ∧ u' = .returning ∧ w' = w := by
 refine callsD_of_wpS Tryz.func135 rfl fun c₀ cs hu => ?_
 apply wpS_seq
 apply wpS_region
 simp [wpOpsS, go_sem, recoverD, hu, Exit.thenS, Tryz.ntmps135, Array.replicate]
 refine wpS_of_wp ?_
 go_wp2
 cases c₀
 simp_all [bodyPostS, results, Tryz.results135]
set_option maxHeartbeats 1000000 in
theorem script83_any (w0 w : World) {M m g c LB : Nat} (h : MInv w0 w0.heap.size M [] w) {ws : List (List UInt8)} (hne : ws ≠ []) (hl : ws.length ≤ 100000) (hc : CSl w0 m (.slice (some ⟨g, 0, none⟩) 1 c) ws)
  (hLB : w.cell? ⟨LB, 0, none⟩ = some (.slice (some ⟨g, 0, none⟩) 1 c)) :
  Calls Tryz.prog 83 #[.pointer (some ⟨M, 0, none⟩), .pointer (some ⟨LB, 0, none⟩)] w fun e w' => e = .returned (.tuple #[]) ∧ MInv w0 w0.heap.size M (zbe ws) w' ∧ KeepT w w' := by
 have HI := Lib.hid h
 have HC := Lib.hid hc
 clear h hc
 go_enter Tryz.func83, Tryz.ntmps83
 go_wp2_with (go_at_call 84; refine (cmds_one w0 w HI.out hne hl HC.out).mono ?_; rintro e w6 ⟨rfl, hI7, hK7⟩; dsimp only; have HI7 := Lib.hid hI7; have HK7 := Lib.hid hK7; clear hI7 hK7)
 first | go_end0 | refine bodyPost_ret (results_none rfl _ _ _) rfl ?_
 exact ⟨rfl, HI7.out, HK7.out⟩
end Go.Proofs.YtfkeeieoapimlaaGreatDoor
end
