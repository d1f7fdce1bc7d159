/-
  The maker of instructions: code.Script of a text that is one command; The words of an if of plain truths, as conditions and bodies. Plain lists; The m. Conditions: none.
-/
import Derived.Test.YtfkeeieoapimlaaGreatDoorB15ToB22
import Derived.Test.YtfkeeieoapimlaaGreatDoorB1ToB5a
import Derived.Shelf.LaysM
import Derived.Shelf.Strings.Search3
import Derived.Test.YtfkeeieoapimlaaGreatDoorProg
import Derived.Test.YtfkeeieoapimlaaGreatDoorB4ToB14
import Derived.Test.YtfkeeieoapimlaaGreatDoorZeToKA
import Derived.CallsIn
set_option linter.unusedVariables false
set_option linter.unusedSimpArgs false
set_option linter.unusedSectionVars false
set_option linter.deprecated false
section
namespace Go.Proofs.YtfkeeieoapimlaaGreatDoor
open Go.ChangeShapes Go.WideShapes Go.ChangeAt Go.RowKit
set_option maxRecDepth 100000
structure StartT (w A : World) : Prop where
 size : A.heap.size = w.heap.size + 1 + 1 + 1 + 1
 r0 : A.heap[w.heap.size]? = some (.cells #[.slice none 0 0] 88 (0, 0))
 r1 : A.heap[w.heap.size + 1]? = some (.cells #[.int .i64 0] 3 (0, 0))
 r2 : A.heap[w.heap.size + 1 + 1]? = some (.cells #[.int .i64 0] 28 (0, 0))
 m : A.heap[w.heap.size + 1 + 1 + 1]? = some (.cells #[.slice none 0 0] 210 (0, 0))
 below : Below w.heap.size w A
theorem start_turn (w : World) {A : World} (h : (((w.alloc (.cells #[.slice none 0 0] 88)).alloc (.cells #[.int .i64 0] 3)).alloc (.cells #[.int .i64 0] 28)).alloc (.cells #[.slice none 0 0] 210) = A) : StartT w A := by
 obtain ⟨A1, hA1, sA1, aN1, aO1, bA1⟩ := zag w #[.slice none 0 0] 88
 obtain ⟨A2, hA2, sA2, aN2, aO2, bA2⟩ := zag A1 #[.int .i64 0] 3
 obtain ⟨A3, hA3, sA3, aN3, aO3, bA3⟩ := zag A2 #[.int .i64 0] 28
 obtain ⟨A4, hA4, sA4, aN4, aO4, bA4⟩ := zag A3 #[.slice none 0 0] 210
 have : A = A4 := by rw [← h, hA1, hA2, hA3, hA4]
 subst this
 refine ⟨by omega, (aO4 _ (by omega)).trans ((aO3 _ (by omega)).trans ((aO2 _ (by omega)).trans aN1)), ?_, ?_, ?_, bA1.trans ((bA2.mono (by omega)).trans ((bA3.mono (by omega)).trans (bA4.mono (by omega))))⟩
 ·rw [← sA1]; exact (aO4 _ (by omega)).trans ((aO3 _ (by omega)).trans aN2)
 ·rw [← sA1, ← sA2]; exact (aO4 _ (by omega)).trans aN3
 ·rw [← sA1, ← sA2, ← sA3]; exact aN4
theorem load_one {w : World} {b : Nat} {t : TypeId} {v : Value} (ha : ∀ w, (isAgg t).run Tryz.prog w = .ok false w) (h : w.heap[b]? = some (.cells #[v] t (0, 0))) : (loadVar t ⟨b, 0, none⟩).run Tryz.prog w = .ok v w := by
 have ha' := ha w
 have hc : w.cell? ⟨b, 0, none⟩ = some v := by rw [Lib.cell_of_heap h]; rfl
 simp [loadVar, ha', hc, go_sem]
theorem agg3 (w : World) : (isAgg 3).run Tryz.prog w = .ok false w := by kernel_rfl
theorem agg28 (w : World) : (isAgg 28).run Tryz.prog w = .ok false w := by kernel_rfl
theorem agg88 (w : World) : (isAgg 88).run Tryz.prog w = .ok false w := by kernel_rfl
theorem results_turn {fn : Func} {p0 p1 p2 b0 b1 b2 : Nat} {v i j : Value} (hf : fn.results = #[.cell p0 88, .cell p1 3, .cell p2 28]) {tmps : Array Value} (h0 : tmps.getD p0 undef = .pointer (some ⟨b0, 0, none⟩)) (h1 : tmps.getD p1 undef = .pointer (some ⟨b1, 0, none⟩)) (h2 : tmps.getD p2 undef = .pointer (some ⟨b2, 0, none⟩))
  {W : World} (v0 : W.heap[b0]? = some (.cells #[v] 88 (0, 0))) (v1 : W.heap[b1]? = some (.cells #[i] 3 (0, 0))) (v2 : W.heap[b2]? = some (.cells #[j] 28 (0, 0))) :
  (results fn tmps).run Tryz.prog W = .ok (.tuple #[v, i, j]) W := by
 rw [Array.getD_eq_getD_getElem?] at h0 h1 h2
 simp [results, hf, h0, h1, h2, asAddr]
 rw [load_one agg88 v0]
 simp
 rw [load_one agg3 v1]
 simp
 rw [load_one agg28 v2]
 simp
def CodeAt (W : World) (m : Nat) (v : Value) (l : List (Nat × ByteArray)) : Prop := W.ownsRow m 144 3 v l.length (insC l)
set_option maxHeartbeats 1000000 in
theorem turned_any (w : World) {m g c LB : Nat} {ws : List (List UInt8)} (hne : ws ≠ []) (hl : ws.length ≤ 100000) (hc : CSl w m (.slice (some ⟨g, 0, none⟩) 1 c) ws) (hLB : w.heap[LB]? = some (.cells #[.slice (some ⟨g, 0, none⟩) 1 c] 129 (0, 0))) :
  Calls Tryz.prog 82 #[.func (.func 83) #[] #[.pointer (some ⟨LB, 0, none⟩)]] w fun e w' => ∃ v, e = .returned (.tuple #[v, .int .i64 0, .int .i64 0]) ∧ CodeAt w' w.heap.size v (zbe ws) ∧ Below w.heap.size w w' := by
 have hmf : ∀ (fn : Fn) (first cap : Array Value) (w : World), (Instr.makeFunc fn first cap).run Tryz.prog w = .ok (.func fn first cap) w := fun _ _ _ _ => rfl
 obtain ⟨A, hA⟩ : ∃ A, (((w.alloc (.cells #[.slice none 0 0] 88)).alloc (.cells #[.int .i64 0] 3)).alloc (.cells #[.int .i64 0] 28)).alloc (.cells #[.slice none 0 0] 210) = A := ⟨_, rfl⟩
 have hS := start_turn w hA
 have hLBlt := (Array.getElem?_eq_some_iff.1 hLB).1
 have hlb : A.cell? ⟨LB, 0, none⟩ = some (.slice (some ⟨g, 0, none⟩) 1 c) := by rw [Lib.cell_of_heap ((hS.below.block _ hLBlt).trans hLB)]; rfl
 have hI : MInv w w.heap.size (w.heap.size + 1 + 1 + 1) [] A := ⟨by omega, hS.below.size, ⟨_, hS.m, World.ownsRow_nil _ _ _ _⟩, hS.below⟩
 have HI := Lib.hid hI
 have HS := Lib.hid hS
 have HA := Lib.hid hA
 have HC := Lib.hid hc
 have HLB := Lib.hid hlb
 clear hI hS hA hc hlb hLB
 go_enter_defers Tryz.func82, Tryz.ntmps82
 go_wp2_with (go_at_call 83; rw [HA.out]; refine (script83_any w A HI.out hne hl HC.out HLB.out).mono ?_; rintro e w2 ⟨rfl, hI2, hK2⟩; dsimp only; obtain ⟨v, hv, hrow⟩ := hI2.at_; obtain ⟨va, vc, rfl⟩ := zbE hrow; have h0 := hK2 _ _ _ (by decide) (by decide) HS.out.r0; have h1 := hK2 _ _ _ (by decide) (by decide) HS.out.r1; have h2 := hK2 _ _ _ (by decide) (by decide) HS.out.r2; have a0 := (show w2.cell? ⟨w.heap.size, 0, none⟩ = some (.slice none 0 0) by rw [Lib.cell_of_heap h0]; rfl); have a1 := (show w2.cell? ⟨w.heap.size + 1, 0, none⟩ = some (.int .i64 0) by rw [Lib.cell_of_heap h1]; rfl); have a2 := (show w2.cell? ⟨w.heap.size + 1 + 1, 0, none⟩ = some (.int .i64 0) by rw [Lib.cell_of_heap h2]; rfl); have a3 := (show w2.cell? ⟨w.heap.size + 1 + 1 + 1, 0, none⟩ = some (.slice va (zbe ws).length vc) by rw [Lib.cell_of_heap hv]; rfl); have f0 : w2.frozen? ⟨w.heap.size, 0, none⟩ = false := Lib.frozen_of_heap h0 0; have f1 : w2.frozen? ⟨w.heap.size + 1, 0, none⟩ = false := Lib.frozen_of_heap h1 0; have f2 : w2.frozen? ⟨w.heap.size + 1 + 1, 0, none⟩ = false := Lib.frozen_of_heap h2 0; have H0 := Lib.hid h0; have H1 := Lib.hid h1; have H2 := Lib.hid h2; have HROW := Lib.hid hrow; have HB2 := Lib.hid hI2.below; clear hI2 hK2 hv hrow h0 h1 h2)
 refine leaves_cons (f := 135) (args := #[.pointer (some ⟨w.heap.size, 0, none⟩), .pointer (some ⟨w.heap.size + 1, 0, none⟩), .pointer (some ⟨w.heap.size + 1 + 1, 0, none⟩)]) (by simp) (by simp [go_sem]) ?_
 refine (turned1_idle _ _ _ _).mono ?_
 rintro e u' w'' ⟨rfl, rfl, rfl⟩
 have n01 : (w.heap.size : Nat) ≠ w.heap.size + 1 := by omega
 have n02 : (w.heap.size : Nat) ≠ w.heap.size + 1 + 1 := by omega
 have n12 : (w.heap.size + 1 : Nat) ≠ w.heap.size + 1 + 1 := by omega
 obtain ⟨V, hV⟩ : ∃ V : Value, V = .slice va (zbe ws).length vc := ⟨_, rfl⟩
 rw [← hV]
 have v0 := (heap_setCell_other (((w2.setCell ⟨w.heap.size, 0, none⟩ V).setCell ⟨w.heap.size + 1, 0, none⟩ (.int .i64 0))) ⟨w.heap.size + 1 + 1, 0, none⟩ w.heap.size (.int .i64 0) (by exact n02)).trans ((heap_setCell_other ((w2.setCell ⟨w.heap.size, 0, none⟩ V)) ⟨w.heap.size + 1, 0, none⟩ w.heap.size (.int .i64 0) (by exact n01)).trans (heap_setCell_same w2 w.heap.size 0 _ _ V H0.out))
 have v1 := (heap_setCell_other (((w2.setCell ⟨w.heap.size, 0, none⟩ V).setCell ⟨w.heap.size + 1, 0, none⟩ (.int .i64 0))) ⟨w.heap.size + 1 + 1, 0, none⟩ (w.heap.size + 1) (.int .i64 0) (by exact n12)).trans (heap_setCell_same (w2.setCell ⟨w.heap.size, 0, none⟩ V) (w.heap.size + 1) 0 _ _ (.int .i64 0) ((heap_setCell_other w2 ⟨w.heap.size, 0, none⟩ (w.heap.size + 1) V (by exact fun e => n01 e.symm)).trans H1.out))
 have v2 := heap_setCell_same ((w2.setCell ⟨w.heap.size, 0, none⟩ V).setCell ⟨w.heap.size + 1, 0, none⟩ (.int .i64 0)) (w.heap.size + 1 + 1) 0 _ _ (.int .i64 0) ((heap_setCell_other (w2.setCell ⟨w.heap.size, 0, none⟩ V) ⟨w.heap.size + 1, 0, none⟩ (w.heap.size + 1 + 1) (.int .i64 0) (by exact fun e => n12 e.symm)).trans ((heap_setCell_other w2 ⟨w.heap.size, 0, none⟩ (w.heap.size + 1 + 1) V (by exact fun e => n02 e.symm)).trans H2.out))
 have hrow : CodeAt (((w2.setCell ⟨w.heap.size, 0, none⟩ V).setCell ⟨w.heap.size + 1, 0, none⟩ (.int .i64 0)).setCell ⟨w.heap.size + 1 + 1, 0, none⟩ (.int .i64 0)) w.heap.size V (zbe ws) := by
  rw [hV]
  refine zak HROW.out fun k hk => ?_
  obtain ⟨c', hc'⟩ := zal HROW.out hk
  have e0 : k ≠ w.heap.size := fun e => by subst e; rw [H0.out] at hc'; cases hc'
  have e1 : k ≠ w.heap.size + 1 := fun e => by subst e; rw [H1.out] at hc'; cases hc'
  have e2 : k ≠ w.heap.size + 1 + 1 := fun e => by subst e; rw [H2.out] at hc'; cases hc'
  rw [heap_setCell_other _ _ _ _ (by exact e2), heap_setCell_other _ _ _ _ (by exact e1), heap_setCell_other _ _ _ _ (by exact e0)]
 have hB : Below w.heap.size w (((w2.setCell ⟨w.heap.size, 0, none⟩ V).setCell ⟨w.heap.size + 1, 0, none⟩ (.int .i64 0)).setCell ⟨w.heap.size + 1 + 1, 0, none⟩ (.int .i64 0)) :=
  ((HB2.out.setCell (p := ⟨w.heap.size, 0, none⟩) (Nat.le_refl _) _).setCell (p := ⟨w.heap.size + 1, 0, none⟩) (by show w.heap.size ≤ w.heap.size + 1; omega) _).setCell (p := ⟨w.heap.size + 1 + 1, 0, none⟩) (by show w.heap.size ≤ w.heap.size + 1 + 1; omega) _
 refine ⟨.tuple #[V, .int .i64 0, .int .i64 0], ?_, V, rfl, hrow, hB⟩
 exact results_turn rfl rfl rfl rfl v0 v1 v2
set_option maxHeartbeats 1000000 in
theorem code_any (w : World) (hG : Xe.HasG w.heap) (s : ByteArray) (hs : s.size ≤ 100000) {ws : List (List UInt8)} (hne : ws ≠ []) (hw : ∀ x ∈ ws, Sw x) (hl : ws.length ≤ 100000) (hat : L s = zaO ws) :
  Calls Tryz.prog 35 #[.string s] w fun e w' => ∃ v, e = .returned (.tuple #[v, .int .i64 0, .int .i64 0]) ∧ CodeAt w' w.heap.size v (zbe ws) ∧ Below w.heap.size w w' := by
 have hmf : ∀ (fn : Fn) (first cap : Array Value) (w : World), (Instr.makeFunc fn first cap).run Tryz.prog w = .ok (.func fn first cap) w := fun _ _ _ _ => rfl
 obtain ⟨wd, r, rfl⟩ := List.exists_cons_of_ne_nil hne
 have HW := Lib.hid hw
 have HAT := Lib.hid hat
 clear hw hat
 go_enter Tryz.func35, Tryz.ntmps35
 go_wp2_with (first
  | (go_at_call 81; refine (parse_any w hG s hs HW.out hl HAT.out).mono ?_; rintro e w2 ⟨v, rfl, hcs, hb⟩; obtain ⟨g, c, rfl⟩ := zam (n := 0) hcs.choose_spec.1; dsimp only; obtain ⟨A, hA, sA, aN, aO, bA⟩ := zag w2 #[.slice (some ⟨g, 0, none⟩) (0 + 1) c] 129; have HA := Lib.hid hA; have HAN := Lib.hid aN; have HB := Lib.hid (hb.trans (bA.mono hb.size)); have HCS := Lib.hid (hcs.agree (W' := A) fun k cs T _ hk => bA.block k (Array.getElem?_eq_some_iff.1 hk).1); clear hcs hb hA sA aN aO bA)
  | (go_at_call 82; rw [HA.out]; refine (turned_any A hne hl HCS.out HAN.out).mono ?_; rintro e w3 ⟨v, rfl, hrow, hb⟩; dsimp only; have HROW := Lib.hid (zaq hrow HB.out.size); have HB3 := Lib.hid (HB.out.trans (hb.mono HB.out.size)); clear hrow hb))
 refine bodyPost_ret (v := .tuple #[v, .int .i64 0, .int .i64 0]) ?_ rfl ⟨_, rfl, HROW.out, HB3.out⟩
 simp [results, Tryz.results35, go_sem]
end Go.Proofs.YtfkeeieoapimlaaGreatDoor
end
section
namespace Go.Proofs.YtfkeeieoapimlaaGreatDoor
def lastW (last : Bool) : List (List UInt8) := if last = true then [wLast, bodE] else []
def lastB (last : Bool) : List (List UInt8) := if last = true then [bodE] else []
def tailW (p : Bool × Nat) (r : List (Bool × Nat)) (last : Bool) : List (List UInt8) := tvw p.1 :: bod p.2 :: (r.flatMap (fun q => [wElif, tvw q.1, bod q.2]) ++ lastW last)
theorem bod_ne (i : Nat) (w : List UInt8) (h : w.length ≠ 13) : bod i ≠ w := fun e => h (by rw [← e]; rfl)
theorem zcW (w c : List UInt8) (r : List (List UInt8)) : zbU w (c :: r) = if c = w then r else c :: r := rfl
theorem cndA_one {c b : List UInt8} {r : List (List UInt8)} (h : zbU zeR r = [b]) : cnd (c :: r) = some ([c], [b]) := by
 rw [cnd.eq_def]
 dsimp only
 split
 ·rename_i hd; rw [h] at hd; cases hd
 ·rename_i b' hd; rw [h] at hd; cases hd; rfl
 ·rename_i b' x r3 hd; rw [h] at hd; cases hd
theorem cndA_more {c b : List UInt8} {r r3 : List (List UInt8)} (h : zbU zeR r = b :: zft :: r3) : cnd (c :: r) = (cnd r3).map fun p => (c :: p.1, b :: p.2) := by
 rw [cnd.eq_def]
 dsimp only
 split
 ·rename_i hd; rw [h] at hd; cases hd
 ·rename_i b' hd; rw [h] at hd; cases hd
 ·rename_i b' x r3' hd; rw [h] at hd; cases hd; rw [if_pos rfl]
theorem cndA_last {c b x z : List UInt8} {r r3 : List (List UInt8)} (h : zbU zeR r = b :: x :: r3) (hx : x ≠ zft) (hz : zbU wElse (x :: r3) = [z]) : cnd (c :: r) = some ([c], [b, z]) := by
 rw [cnd.eq_def]
 dsimp only
 split
 ·rename_i hd; rw [h] at hd; cases hd
 ·rename_i b' hd; rw [h] at hd; cases hd
 ·rename_i b' x' r3' hd
  rw [h] at hd
  cases hd
  rw [if_neg hx]
  split
  ·rename_i z' hz'; rw [hz] at hz'; cases hz'; rfl
  ·rename_i hn; exact absurd hz (hn z)
theorem cndA_tail : ∀ (r : List (Bool × Nat)) (p : Bool × Nat) (last : Bool), cnd (tailW p r last) = some ((p :: r).map (fun q => tvw q.1), (p :: r).map (fun q => bod q.2) ++ lastB last) := by
 intro r
 induction r with
 | nil =>
   intro p last
   cases last with
   | false => exact cndA_one (by show zbU zeR [bod p.2] = [bod p.2]; rw [zcW, if_neg (bod_ne _ zeR (by decide))])
   | true => exact cndA_last (by show zbU zeR [bod p.2, wLast, bodE] = [bod p.2, wLast, bodE]; rw [zcW, if_neg (bod_ne _ zeR (by decide))]) (by decide) (by rw [zcW, if_pos (by decide)])
 | cons q r ih =>
   intro p last
   have hx : tailW p (q :: r) last = tvw p.1 :: bod p.2 :: wElif :: tailW q r last := by simp [tailW]
   rw [hx, cndA_more (b := bod p.2) (r3 := tailW q r last) (by rw [zcW, if_neg (bod_ne _ zeR (by decide))]; rfl), ih q last]
   simp
theorem flat_shift : ∀ (l : List Bool) (k : Nat), 0 < k → (l.zipIdx k).flatMap grp = (l.zipIdx k).flatMap (fun q => [wElif, tvw q.1, bod q.2])
 | [], _, _ => rfl
 | t :: l, k, h => by
   rw [List.zipIdx_cons, List.flatMap_cons, List.flatMap_cons, flat_shift l (k + 1) (Nat.succ_pos _)]
   unfold grp
   rw [if_pos h]; rfl
theorem zbS (t : Bool) (ts : List Bool) (last : Bool) : wdsL (t :: ts) last = wIf :: tailW (t, 0) (ts.zipIdx 1) last := by
 unfold wdsL wdsC tailW
 rw [List.zipIdx_cons, List.flatMap_cons, flat_shift _ _ (Nat.succ_pos _)]
 simp [grp, lastW]
end Go.Proofs.YtfkeeieoapimlaaGreatDoor
end
section
namespace Go.Proofs.YtfkeeieoapimlaaGreatDoor
open Go.ChangeShapes Go.WideShapes Go.ChangeAt Go.RowKit
set_option maxRecDepth 100000
def okV (t : ByteArray) : Value := .agg #[.int .i64 0, .int .i64 0, .string t]
theorem zbf {fn : Func} {p T : Nat} (hf : fn.results = #[.cell p 31]) {tmps : Array Value} (hp : tmps.getD p undef = .pointer (some ⟨T, 0, none⟩) := by rfl) {W : World} {a b c : Value} (hW : W.heap[T]? = some (.cells #[a, b, c] 31 (0, 0))) {Q : Ending → World → Prop}
  (hQ : Q (.returned (.agg #[a, b, c])) W) : bodyPost Tryz.prog fn Q Exit.ret { tmps := tmps, defers := [] } W := by
 have c0 : W.cell? ⟨T, 0, none⟩ = some a := by rw [Lib.cell_of_heap hW]; rfl
 have c1 : W.cell? ⟨T, 1, none⟩ = some b := by rw [Lib.cell_of_heap hW]; rfl
 have c2 : W.cell? ⟨T, 2, none⟩ = some c := by rw [Lib.cell_of_heap hW]; rfl
 rw [Array.getD_eq_getD_getElem?] at hp
 refine bodyPost_ret (v := .agg #[a, b, c]) ?_ rfl hQ
 simp [results, hf, hp, go_sem, c0, c1, c2]
theorem zc3 {W : World} {T : Nat} {x y z a b c : Value} (hW : W.heap[T]? = some (.cells #[x, y, z] 31 (0, 0))) :
  (((W.setCell ⟨T, 0, none⟩ a).setCell ⟨T, 1, none⟩ b).setCell ⟨T, 2, none⟩ c).heap[T]? = some (.cells #[a, b, c] 31 (0, 0)) :=
 heap_setCell_same _ _ 2 _ _ _ (heap_setCell_same _ _ 1 _ _ _ (heap_setCell_same _ _ 0 _ _ _ hW))
set_option maxHeartbeats 1000000 in
theorem ok_any (t : ByteArray) (w : World) : Calls Tryz.prog 74 #[.string t] w fun e w' => e = .returned (okV t) ∧ Below w.heap.size w w' := by
 go_enter Tryz.func74, Tryz.ntmps74
 go_wp2
 exact zbf (p := 2) rfl rfl (heap_alloc_new w _) ⟨rfl, Below.alloc (Below.refl _ _) (Nat.le_refl _) _⟩
set_option maxHeartbeats 1000000 in
theorem zch (t : ByteArray) (w : World) : Calls Tryz.prog 87 #[okV t] w fun e w' => e = .returned (.bool false) ∧ Below w.heap.size w w' := by
 unfold okV
 go_enter Tryz.func87, Tryz.ntmps87
 go_wp2
 go_ret
 exact ⟨rfl, Below.alloc (Below.refl _ _) (Nat.le_refl _) _⟩
set_option maxHeartbeats 1000000 in
theorem text_any (t : ByteArray) (ht : t.size ≤ 65536) (w : World) : Calls Tryz.prog 88 #[.string t] w fun e w' => e = .returned (okV t) ∧ Below w.heap.size w w' := by
 obtain ⟨A, hA, sA, aN, aO, bA⟩ := zag w #[.int .i64 0, .int .i64 0, .string ⟨#[]⟩] 31
 have lA : w.heap.size < A.heap.size := by omega
 have HA := Lib.hid hA
 have HAN := Lib.hid aN
 have HB := Lib.hid bA
 have t1 : decide ((65536 : Int) < (t.size : Int)) = false := decide_eq_false (by omega)
 have t2 : ¬ ((65536 : Int) < (t.size : Int)) := by omega
 clear hA sA aN aO bA
 go_enter Tryz.func88, Tryz.ntmps88
 go_wp2_with (go_at_call 74; rw [HA.out]; refine (ok_any t A).mono ?_; rintro e w2 ⟨rfl, hb⟩; unfold okV; dsimp only; have hT := (hb.block w.heap.size lA).trans HAN.out; have a0 := (show w2.cell? ⟨w.heap.size, 0, none⟩ = some (.int .i64 0) by rw [Lib.cell_of_heap hT]; rfl); have a1 := (show w2.cell? ⟨w.heap.size, 1, none⟩ = some (.int .i64 0) by rw [Lib.cell_of_heap hT]; rfl); have a2 := (show w2.cell? ⟨w.heap.size, 2, none⟩ = some (.string ⟨#[]⟩) by rw [Lib.cell_of_heap hT]; rfl); have f0 : w2.frozen? ⟨w.heap.size, 0, none⟩ = false := Lib.frozen_of_heap hT 0; have f1 : w2.frozen? ⟨w.heap.size, 1, none⟩ = false := Lib.frozen_of_heap hT 1; have f2 : w2.frozen? ⟨w.heap.size, 2, none⟩ = false := Lib.frozen_of_heap hT 2; have HT := Lib.hid hT; have HB2 := Lib.hid (HB.out.trans (hb.mono HB.out.size)); clear hb hT)
 exact zbf (p := 2) rfl rfl (zc3 HT.out) ⟨rfl, ((HB2.out.setCell (p := ⟨w.heap.size, 0, none⟩) (Nat.le_refl _) _).setCell (p := ⟨w.heap.size, 1, none⟩) (Nat.le_refl _) _).setCell (p := ⟨w.heap.size, 2, none⟩) (Nat.le_refl _) _⟩
structure Pa (R : Nat) (row : Option Nat) (w w' : World) : Prop where
 os : w'.os = w.os
 tape : w'.tape = w.tape
 output : w'.output = w.output
 size : w.heap.size ≤ w'.heap.size
 block : ∀ k, k < w.heap.size → k ≠ R → row ≠ some k → w'.heap[k]? = w.heap[k]?
theorem Pa.below {R : Nat} {row : Option Nat} {w w' : World} {B : Nat} (h : Pa R row w w') (hB : B ≤ w.heap.size) (hR : B ≤ R) (hr : ∀ k, row = some k → B ≤ k) : Below B w w' :=
 ⟨h.os, h.tape, h.output, h.size, fun k hk => h.block k (by omega) (by omega) fun e => by have := hr k e; omega⟩
theorem push_fin {w w1 w3 : World} {R base T : Nat} {xv at_ vt vw v' : Value} {t : ByteArray} {x y z : Value} (hR : w.heap[R]? = some (.cells #[xv, at_, vt, vw] 139 (0, 0))) (hrow : w.ownsRow base 9 1 vt 0 []) (hT : w.heap.size ≤ T)
  (hAT : w1.heap[T]? = some (.cells #[x, y, z] 31 (0, 0))) (hb : Below w.heap.size w w1) (ho : w3.ownsRow base 9 1 v' (0 + 1) ([] ++ [.string t])) (hg : w1.grownBy w3 vt.ownBlock) (hn : SameOrNew w1 vt v') (a b c : Value) :
  ((((w3.setCell ⟨R, 2, none⟩ v').setCell ⟨T, 0, none⟩ a).setCell ⟨T, 1, none⟩ b).setCell ⟨T, 2, none⟩ c).heap[T]? = some (.cells #[a, b, c] 31 (0, 0)) ∧
  (∃ vt', ((((w3.setCell ⟨R, 2, none⟩ v').setCell ⟨T, 0, none⟩ a).setCell ⟨T, 1, none⟩ b).setCell ⟨T, 2, none⟩ c).heap[R]? = some (.cells #[xv, at_, vt', vw] 139 (0, 0)) ∧
   World.ownsRow ((((w3.setCell ⟨R, 2, none⟩ v').setCell ⟨T, 0, none⟩ a).setCell ⟨T, 1, none⟩ b).setCell ⟨T, 2, none⟩ c) base 9 1 vt' 1 [.string t] ∧ SameOrNew w vt vt') ∧
  Pa R vt.ownBlock w ((((w3.setCell ⟨R, 2, none⟩ v').setCell ⟨T, 0, none⟩ a).setCell ⟨T, 1, none⟩ b).setCell ⟨T, 2, none⟩ c) := by
 have lR := (Array.getElem?_eq_some_iff.1 hR).1
 have hRT : R ≠ T := by omega
 have hTR : T ≠ R := by omega
 have hr1 : w1.ownsRow base 9 1 vt 0 [] := zaz hrow hb
 have hne : ∀ (k : Nat) (cs : Array Value) (U : Nat), U ≠ 9 → w1.heap[k]? = some (.cells cs U (0, 0)) → w3.heap[k]? = some (.cells cs U (0, 0)) := by
  intro k cs U hU hk
  refine (hg.block k (Array.getElem?_eq_some_iff.1 hk).1 fun e => ?_).trans hk
  obtain ⟨c', hc'⟩ := zal hr1 e.symm
  rw [hk] at hc'
  cases hc'
  exact hU rfl
 have kR : w3.heap[R]? = some (.cells #[xv, at_, vt, vw] 139 (0, 0)) := hne _ _ _ (by decide) ((hb.block _ lR).trans hR)
 have kT := hne _ _ _ (by decide) hAT
 have sR := heap_setCell_same w3 R 2 _ _ v' kR
 have sT : (w3.setCell ⟨R, 2, none⟩ v').heap[T]? = some (.cells #[x, y, z] 31 (0, 0)) := (heap_setCell_other w3 ⟨R, 2, none⟩ T v' hTR).trans kT
 have far : ∀ k, k ≠ T → ((((w3.setCell ⟨R, 2, none⟩ v').setCell ⟨T, 0, none⟩ a).setCell ⟨T, 1, none⟩ b).setCell ⟨T, 2, none⟩ c).heap[k]? = (w3.setCell ⟨R, 2, none⟩ v').heap[k]? := fun k hk =>
  (heap_setCell_other _ ⟨T, 2, none⟩ k c (by exact hk)).trans ((heap_setCell_other _ ⟨T, 1, none⟩ k b (by exact hk)).trans (heap_setCell_other _ ⟨T, 0, none⟩ k a (by exact hk)))
 refine ⟨zc3 sT, ⟨v', (far R hRT).trans sR, zak ho fun k hk => ?_, hn.back hb.size⟩, hg.os.trans hb.os, hg.tape.trans hb.tape, hg.output.trans hb.output, ?_, fun k hk hkR hkr => ?_⟩
 ·obtain ⟨c', hc'⟩ := zal ho hk
  have e1 : k ≠ T := fun e => by subst e; rw [kT] at hc'; cases hc'
  have e2 : k ≠ R := fun e => by subst e; rw [kR] at hc'; cases hc'
  rw [far k e1]
  exact heap_setCell_other w3 ⟨R, 2, none⟩ k v' e2
 ·have := hb.size; have := hg.size; simp; omega
 ·rw [far k (by omega), heap_setCell_other w3 ⟨R, 2, none⟩ k v' hkR, hg.block k (Nat.lt_of_lt_of_le hk hb.size) (fun e => hkr e.symm), hb.block k hk]
structure OutT (w : World) (t : ByteArray) (A : World) : Prop where
 size : A.heap.size = w.heap.size + 1 + 1
 bx : A.heap[w.heap.size]? = some (.cells #[.int .i64 0, .int .i64 0, .string t] 31 (0, 0))
 ot : A.heap[w.heap.size + 1]? = some (.cells #[.int .i64 0, .int .i64 0, .string ⟨#[]⟩] 31 (0, 0))
 below : Below w.heap.size w A
theorem start_out (w : World) (t : ByteArray) {A : World} (h : (w.alloc (.cells #[.int .i64 0, .int .i64 0, .string t] 31)).alloc (.cells #[.int .i64 0, .int .i64 0, .string ⟨#[]⟩] 31) = A) : OutT w t A := by
 obtain ⟨A1, hA1, sA1, aN1, aO1, bA1⟩ := zag w #[.int .i64 0, .int .i64 0, .string t] 31
 obtain ⟨A2, hA2, sA2, aN2, aO2, bA2⟩ := zag A1 #[.int .i64 0, .int .i64 0, .string ⟨#[]⟩] 31
 have : A = A2 := by rw [← h, hA1, hA2]
 subst this
 refine ⟨by omega, (aO2 _ (by omega)).trans aN1, ?_, bA1.trans (bA2.mono (by omega))⟩
 rw [← sA1]; exact aN2
set_option maxHeartbeats 2000000 in
theorem push_any (w : World) {R base : Nat} {xv at_ vt vw : Value} (t : ByteArray) (hR : w.heap[R]? = some (.cells #[xv, at_, vt, vw] 139 (0, 0))) (hrow : w.ownsRow base 9 1 vt 0 []) (hbase : base ≤ w.heap.size) :
  Calls Tryz.prog 199 #[.pointer (some ⟨R, 0, none⟩), okV t] w fun e w' => e = .returned (okV t) ∧ (∃ vt', w'.heap[R]? = some (.cells #[xv, at_, vt', vw] 139 (0, 0)) ∧ w'.ownsRow base 9 1 vt' 1 [.string t] ∧ SameOrNew w vt vt') ∧ Pa R vt.ownBlock w w' := by
 obtain ⟨i0, hi, hz0, hz1, hz2⟩ := info_parts info9
 obtain ⟨A, hA⟩ : ∃ A, (w.alloc (.cells #[.int .i64 0, .int .i64 0, .string t] 31)).alloc (.cells #[.int .i64 0, .int .i64 0, .string ⟨#[]⟩] 31) = A := ⟨_, rfl⟩
 have hO := start_out w t hA
 obtain ⟨va, vc, rfl⟩ := zbE hrow
 have lR := (Array.getElem?_eq_some_iff.1 hR).1
 have b0 := (show A.cell? ⟨w.heap.size, 0, none⟩ = some (.int .i64 0) by rw [Lib.cell_of_heap hO.bx]; rfl)
 have b1 := (show A.cell? ⟨w.heap.size, 1, none⟩ = some (.int .i64 0) by rw [Lib.cell_of_heap hO.bx]; rfl)
 have b2 := (show A.cell? ⟨w.heap.size, 2, none⟩ = some (.string t) by rw [Lib.cell_of_heap hO.bx]; rfl)
 have HA := Lib.hid hA
 have HO := Lib.hid hO
 have HR := Lib.hid hR
 have HROW := Lib.hid hrow
 clear hA hO hR hrow
 unfold okV
 go_enter Tryz.func199, Tryz.ntmps199
 go_wp2_with (go_at_call 87; rw [HA.out]; refine (zch t A).mono ?_; rintro e w1 ⟨rfl, hb⟩; dsimp only; have hB := HO.out.below.trans (hb.mono HO.out.below.size); have h0 := (hb.block _ (by have := HO.out.size; omega)).trans HO.out.bx; have h1 := (hb.block _ (by have := HO.out.size; omega)).trans HO.out.ot; have h2 := (hB.block _ lR).trans HR.out; have q2 := (show w1.cell? ⟨R, 2, none⟩ = some (.slice va 0 vc) by rw [Lib.cell_of_heap h2]; rfl); have z2 : w1.frozen? ⟨R, 2, none⟩ = false := Lib.frozen_of_heap h2 2; have y0 := (show w1.cell? ⟨w.heap.size, 0, none⟩ = some (.int .i64 0) by rw [Lib.cell_of_heap h0]; rfl); have y1 := (show w1.cell? ⟨w.heap.size, 1, none⟩ = some (.int .i64 0) by rw [Lib.cell_of_heap h0]; rfl); have y2 := (show w1.cell? ⟨w.heap.size, 2, none⟩ = some (.string t) by rw [Lib.cell_of_heap h0]; rfl); have HB1 := Lib.hid hB; have H0 := Lib.hid h0; have H1 := Lib.hid h1; have H2 := Lib.hid h2; have HROW1 := Lib.hid (zaz HROW.out hB); clear hb hB h0 h1 h2)
 have hne : ∀ k, k = R ∨ k = w.heap.size ∨ k = w.heap.size + 1 → (Value.slice va 0 vc).ownBlock ≠ some k := by
  intro k hk e
  obtain ⟨c', hc'⟩ := zal HROW.out e
  have hlt := (Array.getElem?_eq_some_iff.1 hc').1
  rcases hk with rfl | rfl | rfl
  ·rw [HR.out] at hc'; cases hc'
  ·omega
  ·omega
 have HNE := Lib.hid hne
 have HS1 := Lib.hid HB1.out.size
 have lR1 : R < w1.heap.size := by have := HS1.out; omega
 have lB1 : w.heap.size < w1.heap.size := (Array.getElem?_eq_some_iff.1 H0.out).1
 have n1 : R ≠ w.heap.size := by omega
 have n2 : w.heap.size ≠ R := by omega
 have n3 : R ≠ w.heap.size + 1 := by omega
 have n4 : w.heap.size + 1 ≠ R := by omega
 clear hne b0 b1 b2
 go_region_law ((refine zbR rfl (.tmp 12) (.tmp 15) 24 rfl base 9 i0 _ 1 16 Tryz.underlying24 hi hz0 hz1 hz2 rfl (by decide) (.slice va 0 vc) 0 [] rfl (by exact World.ownsRow.alloc (w := w1.drew) HROW1.out _) ⟨w1.heap.size, 0, none⟩ 1 1 [.string t] rfl rfl (by exact one_new w1.drew _ _) (by simp [Value.oneCell']) (by simp only [maxLen]; omega) (by omega) (by have := HS1.out; simp; omega) ?_; intro v' w3 ho hg hn; obtain ⟨g3, cap3, rfl⟩ := zam ho; have hg4 := zdX (zb4 (w := w1.drew) hg); have hn4 := tag_past (w := w1.drew) hn; have q3 := za1 hg4 rfl q2 (HNE.out _ (.inl rfl)); have z3 := zbt hg4 rfl q2 z2 (HNE.out _ (.inl rfl)); have y3 := za1 hg4 rfl y0 (HNE.out _ (.inr (.inl rfl))); have y4 := za1 hg4 rfl y1 (HNE.out _ (.inr (.inl rfl))); have y5 := za1 hg4 rfl y2 (HNE.out _ (.inr (.inl rfl))); have h3 := (hg4.block (w.heap.size + 1) (Array.getElem?_eq_some_iff.1 H1.out).1 (fun e => HNE.out _ (.inr (.inr rfl)) e.symm)).trans H1.out; have x0 := (show w3.cell? ⟨w.heap.size + 1, 0, none⟩ = some (.int .i64 0) by rw [Lib.cell_of_heap h3]; rfl); have x1 := (show w3.cell? ⟨w.heap.size + 1, 1, none⟩ = some (.int .i64 0) by rw [Lib.cell_of_heap h3]; rfl); have x2 := (show w3.cell? ⟨w.heap.size + 1, 2, none⟩ = some (.string ⟨#[]⟩) by rw [Lib.cell_of_heap h3]; rfl); have f0 : w3.frozen? ⟨w.heap.size + 1, 0, none⟩ = false := Lib.frozen_of_heap h3 0; have f1 : w3.frozen? ⟨w.heap.size + 1, 1, none⟩ = false := Lib.frozen_of_heap h3 1; have f2 : w3.frozen? ⟨w.heap.size + 1, 2, none⟩ = false := Lib.frozen_of_heap h3 2; have HO3 := Lib.hid ho; have HG4 := Lib.hid hg4; have HN4 := Lib.hid hn4; clear ho hg hn hg4 hn4 h3))
 all_goals
  go_wp2
  have hF := push_fin HR.out HROW.out (Nat.le_succ _) H1.out HB1.out HO3.out HG4.out HN4.out (.int .i64 0) (.int .i64 0) (.string t)
  exact zbf (p := 4) rfl rfl hF.1 ⟨rfl, hF.2.1, hF.2.2⟩
end Go.Proofs.YtfkeeieoapimlaaGreatDoor
end
section
namespace Go.Proofs.YtfkeeieoapimlaaGreatDoor
open Go.ChangeShapes Go.WideShapes Go.ChangeAt Go.RowKit
set_option maxRecDepth 100000
def insV (op : Int) (t : ByteArray) : Value := .agg #[.int .i64 op, .int .i64 0, .string t]
theorem Pa.after {R : Nat} {row : Option Nat} {w w1 w2 : World} (hb : Below w.heap.size w w1) (h : Pa R row w1 w2) : Pa R row w w2 :=
 ⟨h.os.trans hb.os, h.tape.trans hb.tape, h.output.trans hb.output, Nat.le_trans hb.size h.size, fun k hk h1 h2 => (h.block k (Nat.lt_of_lt_of_le hk hb.size) h1 h2).trans (hb.block k hk)⟩
theorem Pa.set {R : Nat} {row : Option Nat} {w w1 : World} (h : Pa R row w w1) {p : Addr} (hp : w.heap.size ≤ p.block) (u : Value) : Pa R row w (w1.setCell p u) :=
 ⟨h.os, h.tape, h.output, by have := h.size; simpa using this, fun k hk h1 h2 => (heap_setCell_other w1 p k u (by omega)).trans (h.block k hk h1 h2)⟩
def KeepU (w w' : World) : Prop := ∀ (k : Nat) (cs : Array Value) (T : Nat), T ≠ 139 → T ≠ 9 → T ≠ 24 → w.heap[k]? = some (.cells cs T (0, 0)) → w'.heap[k]? = some (.cells cs T (0, 0))
theorem KeepU.trans {a b c : World} (h : KeepU a b) (k : KeepU b c) : KeepU a c := fun j cs T h1 h2 h3 h4 => k j cs T h1 h2 h3 (h j cs T h1 h2 h3 h4)
theorem KeepU.of {w w' : World} (h : Below w.heap.size w w') : KeepU w w' := fun k cs T _ _ _ hk => (h.block k (Array.getElem?_eq_some_iff.1 hk).1).trans hk
theorem Pa.keep {R : Nat} {v : Value} {w w' : World} {cs : Array Value} {base n : Nat} {xs : List Value} (h : Pa R v.ownBlock w w') (hR : w.heap[R]? = some (.cells cs 139 (0, 0))) (hr : w.ownsRow base 9 1 v n xs) : KeepU w w' := by
 intro k c T h1 h2 h3 hk
 refine (h.block k (Array.getElem?_eq_some_iff.1 hk).1 (fun e => ?_) fun e => ?_).trans hk
 ·subst e; rw [hR] at hk; cases hk; exact h1 rfl
 ·obtain ⟨c', hc'⟩ := zal hr e; rw [hk] at hc'; cases hc'; exact h2 rfl
structure RB (w0 : World) (base R : Nat) (xv : Value) (at_ : Int) (ts : List ByteArray) (l : List (List UInt8)) (W : World) (vt vw u : Value) : Prop where
 hR : W.heap[R]? = some (.cells #[xv, .int .i64 at_, vt, vw] 139 (0, 0))
 rt : W.ownsRow base 9 1 vt ts.length (ts.map Value.string)
 rw_ : W.ownsRow base 24 1 vw 1 [u]
 ru : OwnTx W base u l
 sep : ∀ k, vt.ownBlock = some k → u.ownBlock ≠ some k
 below : Below base w0 W
 hb : base ≤ W.heap.size
 bR : base ≤ R
def RBx (w0 : World) (base R : Nat) (xv : Value) (at_ : Int) (ts : List ByteArray) (l : List (List UInt8)) (W : World) : Prop := ∃ vt vw u, RB w0 base R xv at_ ts l W vt vw u
theorem RB.past {w0 : World} {base R : Nat} {xv : Value} {at_ : Int} {ts : List ByteArray} {l : List (List UInt8)} {W W' : World} {vt vw u : Value} (h : RB w0 base R xv at_ ts l W vt vw u) (hb : Below W.heap.size W W') : RB w0 base R xv at_ ts l W' vt vw u :=
 ⟨(hb.block _ (Array.getElem?_eq_some_iff.1 h.hR).1).trans h.hR, zaz h.rt hb, zaz h.rw_ hb, zaz h.ru hb, h.sep, h.below.trans (hb.mono h.hb), Nat.le_trans h.hb hb.size, h.bR⟩
theorem RB.push {w0 : World} {base R : Nat} {xv : Value} {at_ : Int} {l : List (List UInt8)} {W W' : World} {vt vw u vt' : Value} {t : ByteArray} (h : RB w0 base R xv at_ [] l W vt vw u)
  (h1 : W'.heap[R]? = some (.cells #[xv, .int .i64 at_, vt', vw] 139 (0, 0))) (h2 : W'.ownsRow base 9 1 vt' 1 [.string t]) (h3 : SameOrNew W vt vt') (hp : Pa R vt.ownBlock W W') : RB w0 base R xv at_ [t] l W' vt' vw u := by
 have hne : ∀ k, vw.ownBlock = some k ∨ u.ownBlock = some k → k ≠ R ∧ vt.ownBlock ≠ some k := by
  rintro k (hk | hk)
  ·obtain ⟨c, hc⟩ := zal h.rw_ hk
   refine ⟨fun e => ?_, fun e => ?_⟩
   ·subst e; rw [h.hR] at hc; cases hc
   ·obtain ⟨c', hc'⟩ := zal h.rt e; rw [hc] at hc'; cases hc'
  ·obtain ⟨c, hc⟩ := zal h.ru hk
   refine ⟨fun e => ?_, fun e => h.sep k e hk⟩
   subst e; rw [h.hR] at hc; cases hc
 refine ⟨h1, h2, zak h.rw_ fun k hk => ?_, zak h.ru fun k hk => ?_, fun k hk e => ?_, h.below.trans (hp.below h.hb h.bR fun k hk => (h.rt.lt k hk).1), Nat.le_trans h.hb hp.size, h.bR⟩
 ·obtain ⟨a, b⟩ := hne k (.inl hk)
  obtain ⟨c, hc⟩ := zal h.rw_ hk
  exact hp.block k (Array.getElem?_eq_some_iff.1 hc).1 a b
 ·obtain ⟨a, b⟩ := hne k (.inr hk)
  obtain ⟨c, hc⟩ := zal h.ru hk
  exact hp.block k (Array.getElem?_eq_some_iff.1 hc).1 a b
 ·rcases h3 with h3 | h3
  ·exact h.sep k (h3 ▸ hk) e
  ·have := h3 k hk; have := (h.ru.lt k e).2; omega
structure OutI (w : World) (op : Int) (t : ByteArray) (A : World) : Prop where
 size : A.heap.size = w.heap.size + 1 + 1
 bx : A.heap[w.heap.size]? = some (.cells #[.int .i64 op, .int .i64 0, .string t] 144 (0, 0))
 ot : A.heap[w.heap.size + 1]? = some (.cells #[.int .i64 0, .int .i64 0, .string ⟨#[]⟩] 31 (0, 0))
 below : Below w.heap.size w A
theorem zfq (w : World) (op : Int) (t : ByteArray) {A : World} (h : (w.alloc (.cells #[.int .i64 op, .int .i64 0, .string t] 144)).alloc (.cells #[.int .i64 0, .int .i64 0, .string ⟨#[]⟩] 31) = A) : OutI w op t A := by
 obtain ⟨A1, hA1, sA1, aN1, aO1, bA1⟩ := zag w #[.int .i64 op, .int .i64 0, .string t] 144
 obtain ⟨A2, hA2, sA2, aN2, aO2, bA2⟩ := zag A1 #[.int .i64 0, .int .i64 0, .string ⟨#[]⟩] 31
 have : A = A2 := by rw [← h, hA1, hA2]
 subst this
 refine ⟨by omega, (aO2 _ (by omega)).trans aN1, ?_, bA1.trans (bA2.mono (by omega))⟩
 rw [← sA1]; exact aN2
theorem RB.out {w0 : World} {base R T : Nat} {xv : Value} {at_ : Int} {ts : List ByteArray} {l : List (List UInt8)} {W : World} {vt vw u : Value} (h : RB w0 base R xv at_ ts l W vt vw u) {cs : Array Value} (hT : W.heap[T]? = some (.cells cs 31 (0, 0))) (hb : base ≤ T) (i : Nat) (a : Value) : RB w0 base R xv at_ ts l (W.setCell ⟨T, i, none⟩ a) vt vw u := by
 have far : ∀ k, k ≠ T → (W.setCell ⟨T, i, none⟩ a).heap[k]? = W.heap[k]? := fun k hk => heap_setCell_other W ⟨T, i, none⟩ k a (by exact hk)
 have ne : ∀ (v : Value) (e n : Nat) (xs : List Value), e ≠ 31 → W.ownsRow base e 1 v n xs → ∀ k, v.ownBlock = some k → k ≠ T := fun v e n xs he hr k hk hkT => by
  subst hkT
  obtain ⟨c, hc⟩ := zal hr hk
  rw [hT] at hc
  cases hc
  exact he rfl
 have hRT : R ≠ T := fun e => by subst e; rw [h.hR] at hT; cases hT
 exact ⟨(far R hRT).trans h.hR, zak h.rt fun k hk => far k (ne _ _ _ _ (by decide) h.rt k hk), zak h.rw_ fun k hk => far k (ne _ _ _ _ (by decide) h.rw_ k hk), zak h.ru fun k hk => far k (ne _ _ _ _ (by decide) h.ru k hk), h.sep, h.below.setCell hb _, by simpa using h.hb, h.bR⟩
theorem KeepU.set {w W : World} (h : KeepU w W) {T i : Nat} (hT : w.heap.size ≤ T) (a : Value) : KeepU w (W.setCell ⟨T, i, none⟩ a) := fun k cs U h1 h2 h3 hk => by
 have hlt := (Array.getElem?_eq_some_iff.1 hk).1
 exact (heap_setCell_other W ⟨T, i, none⟩ k a (by show k ≠ T; omega)).trans (h k cs U h1 h2 h3 hk)
set_option maxHeartbeats 2000000 in
theorem doPush_any (w0 w : World) {base R : Nat} {xv : Value} {at_ : Int} {l : List (List UInt8)} (h : RBx w0 base R xv at_ [] l w) (t : ByteArray) :
  Calls Tryz.prog 138 #[.pointer (some ⟨R, 0, none⟩), insV 1 t] w fun e w' => e = .returned (okV t) ∧ RBx w0 base R xv at_ [t] l w' ∧ KeepU w w' := by
 obtain ⟨vt, vw, u, h⟩ := h
 obtain ⟨A, hA⟩ : ∃ A, (w.alloc (.cells #[.int .i64 1, .int .i64 0, .string t] 144)).alloc (.cells #[.int .i64 0, .int .i64 0, .string ⟨#[]⟩] 31) = A := ⟨_, rfl⟩
 have hO := zfq w 1 t hA
 have HA := Lib.hid hA
 have HO := Lib.hid hO
 have HI := Lib.hid h
 clear hA hO h
 unfold insV
 go_enter Tryz.func138, Tryz.ntmps138
 go_wp2_with (first
  | (go_at_call 74; rw [HA.out]; refine (ok_any t A).mono ?_; rintro e w1 ⟨rfl, hb⟩; dsimp only; have HI1 := Lib.hid ((HI.out.past HO.out.below).past hb); have HB1 := Lib.hid (HO.out.below.trans (hb.mono HO.out.below.size)); have HT1 := Lib.hid ((hb.block _ (by have := HO.out.size; omega)).trans HO.out.ot); clear hb)
  | (go_at_call 199; refine (push_any w1 t HI1.out.hR HI1.out.rt HI1.out.hb).mono ?_; rintro e w2 ⟨rfl, ⟨vt', h1, h2, h3⟩, hp⟩; unfold okV; dsimp only; have hK := hp.keep HI1.out.hR HI1.out.rt; have hT := hK _ _ _ (by decide) (by decide) (by decide) HT1.out; have x0 := (show w2.cell? ⟨w.heap.size + 1, 0, none⟩ = some (.int .i64 0) by rw [Lib.cell_of_heap hT]; rfl); have x1 := (show w2.cell? ⟨w.heap.size + 1, 1, none⟩ = some (.int .i64 0) by rw [Lib.cell_of_heap hT]; rfl); have x2 := (show w2.cell? ⟨w.heap.size + 1, 2, none⟩ = some (.string ⟨#[]⟩) by rw [Lib.cell_of_heap hT]; rfl); have f0 : w2.frozen? ⟨w.heap.size + 1, 0, none⟩ = false := Lib.frozen_of_heap hT 0; have f1 : w2.frozen? ⟨w.heap.size + 1, 1, none⟩ = false := Lib.frozen_of_heap hT 1; have f2 : w2.frozen? ⟨w.heap.size + 1, 2, none⟩ = false := Lib.frozen_of_heap hT 2; have HI2 := Lib.hid (HI1.out.push h1 h2 h3 hp); have HK2 := Lib.hid ((KeepU.of HB1.out).trans hK); have HT2 := Lib.hid hT; clear h1 h2 h3 hp hK hT))
 have hs := HI.out.hb
 have s0 := heap_setCell_same w2 (w.heap.size + 1) 0 _ _ (.int .i64 0) HT2.out
 have s1 := heap_setCell_same _ (w.heap.size + 1) 1 _ _ (.int .i64 0) s0
 exact zbf (p := 4) rfl rfl (zc3 HT2.out) ⟨rfl, ⟨_, _, _, ((HI2.out.out HT2.out (by omega) 0 _).out s0 (by omega) 1 _).out s1 (by omega) 2 _⟩, ((HK2.out.set (Nat.le_succ _) _).set (Nat.le_succ _) _).set (Nat.le_succ _) _⟩
end Go.Proofs.YtfkeeieoapimlaaGreatDoor
end
section
namespace Go.Proofs.YtfkeeieoapimlaaGreatDoor
open Go.ChangeShapes Go.WideShapes Go.ChangeAt Go.RowKit
set_option maxRecDepth 100000
theorem below_drewN (w : World) (n : Nat) : Below w.heap.size w (w.drewN n) := ⟨rfl, rfl, rfl, Nat.le_refl _, fun _ _ => rfl⟩
theorem ownsRow_less {W : World} {base e g c : Nat} {x : Value} (h : W.ownsRow base e 1 (.slice (some ⟨g, 0, none⟩) 1 c) 1 [x]) : W.ownsRow base e 1 (.slice (some ⟨g, 0, none⟩) 0 c) 0 [] := by
 rcases h.2 with ⟨h, _⟩ | ⟨g', cap, cur, h0, h1, h2, h3, h4, h5, h6⟩
 ·cases h
 ·cases h0
  exact ⟨rfl, .inr ⟨g, c, cur, rfl, h1, h2, Nat.zero_le _, h4, h5, by simp⟩⟩
theorem RB.setR {w0 : World} {base R i : Nat} {xv : Value} {at_ at' : Int} {ts ts' : List ByteArray} {l : List (List UInt8)} {W : World} {vt vt' vw u a : Value} (h : RB w0 base R xv at_ ts l W vt vw u)
  (ha : (#[xv, .int .i64 at_, vt, vw] : Array Value).setIfInBounds i a = #[xv, .int .i64 at', vt', vw]) (hr : W.ownsRow base 9 1 vt' ts'.length (ts'.map Value.string)) (hs : ∀ k, vt'.ownBlock = some k → vt.ownBlock = some k) :
  RB w0 base R xv at' ts' l (W.setCell ⟨R, i, none⟩ a) vt' vw u := by
 have far : ∀ k, k ≠ R → (W.setCell ⟨R, i, none⟩ a).heap[k]? = W.heap[k]? := fun k hk => heap_setCell_other W ⟨R, i, none⟩ k a (by exact hk)
 have ne : ∀ (v : Value) (e n : Nat) (xs : List Value), e ≠ 139 → W.ownsRow base e 1 v n xs → ∀ k, v.ownBlock = some k → k ≠ R := fun v e n xs he hr k hk hkT => by
  subst hkT
  obtain ⟨c, hc⟩ := zal hr hk
  rw [h.hR] at hc
  cases hc
  exact he rfl
 refine ⟨by rw [← ha]; exact heap_setCell_same W R i _ _ a h.hR, zak hr fun k hk => far k (ne _ _ _ _ (by decide) hr k hk), zak h.rw_ fun k hk => far k (ne _ _ _ _ (by decide) h.rw_ k hk), zak h.ru fun k hk => far k (ne _ _ _ _ (by decide) h.ru k hk), fun k hk => h.sep k (hs k hk), h.below.setCell h.bR _, by simpa using h.hb, h.bR⟩
theorem KeepU.setR {w W : World} (h : KeepU w W) {R i : Nat} {cs : Array Value} (hR : W.heap[R]? = some (.cells cs 139 (0, 0))) (a : Value) : KeepU w (W.setCell ⟨R, i, none⟩ a) := fun k cs U h1 h2 h3 hk => by
 have hk' := h k cs U h1 h2 h3 hk
 refine (heap_setCell_other W ⟨R, i, none⟩ k a fun e => ?_).trans hk'
 have e : k = R := e
 subst e
 rw [hR] at hk'; cases hk'; exact h1 rfl
theorem RB.drewN {w0 : World} {base R : Nat} {xv : Value} {at_ : Int} {ts : List ByteArray} {l : List (List UInt8)} {W : World} {vt vw u : Value} (h : RB w0 base R xv at_ ts l W vt vw u) (n : Nat) : RB w0 base R xv at_ ts l (W.drewN n) vt vw u := h.past (below_drewN _ n)
theorem RB.drew {w0 : World} {base R : Nat} {xv : Value} {at_ : Int} {ts : List ByteArray} {l : List (List UInt8)} {W : World} {vt vw u : Value} (h : RB w0 base R xv at_ ts l W vt vw u) : RB w0 base R xv at_ ts l W.drew vt vw u := h.past (Below.refl _ _).drew
def PopR (w0 : World) (base R : Nat) (xv : Value) (at_ : Int) (t : ByteArray) (l : List (List UInt8)) (vw u : Value) (w : World) (e : Ending) (w' : World) : Prop :=
 ∃ g c, e = .returned (.slice (some ⟨g, 0, none⟩) 1 c) ∧ w'.cell? ⟨g, 0, none⟩ = some (.string t) ∧ RB w0 base R xv at_ [] l w' (.slice (some ⟨g, 0, none⟩) 0 c) vw u ∧ KeepU w w'
set_option maxHeartbeats 2000000 in
theorem pop_any (w0 w : World) {base R : Nat} {xv vt vw u : Value} {at_ : Int} {l : List (List UInt8)} {t : ByteArray} (h : RB w0 base R xv at_ [t] l w vt vw u) :
  Calls Tryz.prog 200 #[.pointer (some ⟨R, 0, none⟩), .int .i64 1] w fun e w' => PopR w0 base R xv at_ t l vw u w e w' := by
 obtain ⟨g, c, rfl⟩ := zam (n := 0) h.rt
 have c2 := (show w.cell? ⟨R, 2, none⟩ = some (.slice (some ⟨g, 0, none⟩) (0 + 1) c) by rw [Lib.cell_of_heap h.hR]; rfl)
 have f2 : w.frozen? ⟨R, 2, none⟩ = false := Lib.frozen_of_heap h.hR 2
 have hg := h.rt.cells (g := g) rfl 0 _ rfl
 have hg' : w.cell? ⟨g, 0, none⟩ = some (.string t) := by simpa [Addr.add] using hg
 have HI := Lib.hid h
 have HG := Lib.hid hg'
 have u1 : IntKind.i64.wrap ((1 : Int) - 1) = 0 := rfl
 have u0 : IntKind.i64.wrap 0 = 0 := rfl
 clear h hg hg'
 go_enter Tryz.func200, Tryz.ntmps200
 go_wp2
 go_quiet (fail)
 go_wp2
 refine zfo (fun W => RB w0 base R xv at_ [t] l W (.slice (some ⟨g, 0, none⟩) (0 + 1) c) vw u ∧ KeepU w W ∧ W.cell? ⟨g, 0, none⟩ = some (.string t)) ⟨HI.out.drewN _, KeepU.of (below_drewN _ _), HG.out⟩ ?_
 clear c2 f2 HI HG
 rintro W ⟨hI, hK, hg⟩
 have c2 := (show W.cell? ⟨R, 2, none⟩ = some (.slice (some ⟨g, 0, none⟩) (0 + 1) c) by rw [Lib.cell_of_heap hI.hR]; rfl)
 have f2 : W.frozen? ⟨R, 2, none⟩ = false := Lib.frozen_of_heap hI.hR 2
 have t0 : (0 : Int) ≤ (c : Int) := by omega
 have t1 : ¬ ((c : Int) < 0) := by omega
 have hgR : g ≠ R := fun e => by
  obtain ⟨c', hc'⟩ := zal hI.rt (k := g) rfl
  rw [e, hI.hR] at hc'; cases hc'
 have HI := Lib.hid hI
 have HK := Lib.hid hK
 have HG := Lib.hid hg
 clear hI hK hg
 go_region_law (fail)
 all_goals
  go_wp2
  go_ret
  refine ⟨g, c, rfl, ?_, HI.out.drew.setR (i := 2) rfl (ts' := []) (ownsRow_less HI.out.drew.rt) (fun k hk => hk), (HK.out.trans (KeepU.of (Below.refl _ W).drew)).setR HI.out.drew.hR _⟩
  rw [World.cell?_of_block (heap_setCell_other W.drew ⟨R, 2, none⟩ g _ (by exact hgR))]
  exact HG.out
end Go.Proofs.YtfkeeieoapimlaaGreatDoor
end
section
namespace Go.Proofs.YtfkeeieoapimlaaGreatDoor
open Go.ChangeShapes Go.WideShapes Go.ChangeAt Go.RowKit
set_option maxRecDepth 100000
theorem infoW24 : (Tryz.prog.info? 24).map (fun i => (i.zero, i.size, i.bytes)) = some (some (.slice none 0 0), 1, 24) := by kernel_rfl
theorem RB.begun {w0 A w3 : World} {base R : Nat} {xv vw' : Value} {at_ : Int} (hR : A.heap[R]? = some (.cells #[xv, .int .i64 at_, .slice none 0 0, .slice none 0 0] 139 (0, 0))) (hb : Below base w0 A) (hbs : base ≤ A.heap.size) (bR : base ≤ R)
  (ho : w3.ownsRow base 24 1 vw' (0 + 1) ([] ++ [.slice none 0 0])) (hg : A.grownBy w3 none) : RB w0 base R xv at_ [] [] (w3.setCell ⟨R, 3, none⟩ vw') (.slice none 0 0) vw' (.slice none 0 0) ∧ KeepU A (w3.setCell ⟨R, 3, none⟩ vw') := by
 have far : ∀ k, k ≠ R → (w3.setCell ⟨R, 3, none⟩ vw').heap[k]? = w3.heap[k]? := fun k hk => heap_setCell_other w3 ⟨R, 3, none⟩ k vw' (by exact hk)
 have h3 : ∀ k, k < A.heap.size → w3.heap[k]? = A.heap[k]? := fun k hk => hg.block k hk (fun e => by cases e)
 have lR := (Array.getElem?_eq_some_iff.1 hR).1
 have kR := (h3 R lR).trans hR
 refine ⟨⟨heap_setCell_same w3 R 3 _ _ vw' kR, World.ownsRow_nil _ _ _ _, zak ho fun k hk => far k fun e => ?_, World.ownsRow_nil _ _ _ _, fun k hk => (by cases hk), (hb.grown hg hbs fun k hk => by cases hk).setCell bR _, by have := hg.size; simp; omega, bR⟩, fun k cs T h1 h2 h4 hk => ?_⟩
 ·subst e
  obtain ⟨c, hc⟩ := zal ho hk
  rw [kR] at hc; cases hc
 ·refine (far k fun e => ?_).trans ((h3 k (Array.getElem?_eq_some_iff.1 hk).1).trans hk)
  subst e; rw [hR] at hk; cases hk; exact h1 rfl
set_option maxHeartbeats 2000000 in
theorem begin_any (w0 w : World) {base R : Nat} {xv : Value} {at_ : Int} (hR : w.heap[R]? = some (.cells #[xv, .int .i64 at_, .slice none 0 0, .slice none 0 0] 139 (0, 0))) (hb : Below base w0 w) (hbs : base ≤ w.heap.size) (bR : base ≤ R) :
  Calls Tryz.prog 142 #[.pointer (some ⟨R, 0, none⟩), insV 5 ⟨#[]⟩] w fun e w' => e = .returned (okV ⟨#[]⟩) ∧ RBx w0 base R xv at_ [] [] w' ∧ KeepU w w' := by
 obtain ⟨i0, hi, hz0, hz1, hz2⟩ := info_parts infoW24
 obtain ⟨A, hA⟩ : ∃ A, (w.alloc (.cells #[.int .i64 5, .int .i64 0, .string ⟨#[]⟩] 144)).alloc (.cells #[.int .i64 0, .int .i64 0, .string ⟨#[]⟩] 31) = A := ⟨_, rfl⟩
 have hO := zfq w 5 ⟨#[]⟩ hA
 have lR := (Array.getElem?_eq_some_iff.1 hR).1
 have hRA := (hO.below.block _ lR).trans hR
 have c3 := (show A.cell? ⟨R, 3, none⟩ = some (.slice none 0 0) by rw [Lib.cell_of_heap hRA]; rfl)
 have f3 : A.frozen? ⟨R, 3, none⟩ = false := Lib.frozen_of_heap hRA 3
 have c3w := (show w.cell? ⟨R, 3, none⟩ = some (.slice none 0 0) by rw [Lib.cell_of_heap hR]; rfl)
 have lR2 : R < w.heap.size + 1 := by omega
 have HA := Lib.hid hA
 have HO := Lib.hid hO
 have HRA := Lib.hid hRA
 have HB := Lib.hid (hb.trans (hO.below.mono hbs))
 have lA : R < A.heap.size := by have := hO.size; omega
 clear hA hO hR hRA hb
 unfold insV
 go_enter Tryz.func142, Tryz.ntmps142
 go_wp2_with (first
  | (at_builtin; rw [HA.out]; refine zaa rfl _ _ 137 rfl base 24 i0 _ 1 24 Tryz.underlying137 hi hz0 hz1 hz2 rfl (by decide) (.slice none 0 0) 0 [] rfl (World.ownsRow_nil _ _ _ _) ⟨w.heap.size + 1 + 1, 0, none⟩ 1 1 [.slice none 0 0] rfl rfl (by rw [← HO.out.size]; exact one_new A _ _) (by simp [Value.oneCell']) (by simp only [maxLen]; omega) (by omega) (by have := HO.out.size; simp; omega) ?_; intro v' w3 ho hg hn; obtain ⟨g3, cap3, rfl⟩ := zam ho; have hg4 := zb4 (w := A) hg; have q3 := za1 hg4 rfl c3 (fun e => by cases e); have z3 := zbt hg4 rfl c3 f3 (fun e => by cases e); have hbg := RB.begun HRA.out HB.out (by have := HO.out.size; omega) bR ho hg4; have HI1 := Lib.hid hbg.1; have HK1 := Lib.hid ((KeepU.of HO.out.below).trans hbg.2); have HT1 := Lib.hid (hbg.2 _ _ _ (by decide) (by decide) (by decide) HO.out.ot); clear ho hg hn hg4 hbg)
  | (go_at_call 74; refine (ok_any _ _).mono ?_; rintro e w4 ⟨rfl, hb4⟩; unfold okV; dsimp only; have hT := (hb4.block _ (Array.getElem?_eq_some_iff.1 HT1.out).1).trans HT1.out; have x0 := (show w4.cell? ⟨w.heap.size + 1, 0, none⟩ = some (.int .i64 0) by rw [Lib.cell_of_heap hT]; rfl); have x1 := (show w4.cell? ⟨w.heap.size + 1, 1, none⟩ = some (.int .i64 0) by rw [Lib.cell_of_heap hT]; rfl); have x2 := (show w4.cell? ⟨w.heap.size + 1, 2, none⟩ = some (.string ⟨#[]⟩) by rw [Lib.cell_of_heap hT]; rfl); have f0 : w4.frozen? ⟨w.heap.size + 1, 0, none⟩ = false := Lib.frozen_of_heap hT 0; have f1 : w4.frozen? ⟨w.heap.size + 1, 1, none⟩ = false := Lib.frozen_of_heap hT 1; have f2 : w4.frozen? ⟨w.heap.size + 1, 2, none⟩ = false := Lib.frozen_of_heap hT 2; have HI2 := Lib.hid (HI1.out.past hb4); have HK2 := Lib.hid (HK1.out.trans (KeepU.of hb4)); have HT2 := Lib.hid hT; clear hb4 hT))
 have s0 := heap_setCell_same w4 (w.heap.size + 1) 0 _ _ (.int .i64 0) HT2.out
 have s1 := heap_setCell_same _ (w.heap.size + 1) 1 _ _ (.int .i64 0) s0
 exact zbf (p := 4) rfl rfl (zc3 HT2.out) ⟨rfl, ⟨_, _, _, ((HI2.out.out HT2.out (by omega) 0 _).out s0 (by omega) 1 _).out s1 (by omega) 2 _⟩, ((HK2.out.set (Nat.le_succ _) _).set (Nat.le_succ _) _).set (Nat.le_succ _) _⟩
end Go.Proofs.YtfkeeieoapimlaaGreatDoor
end
section
namespace Go.Proofs
open Go.Shelf
def Tryz.lays219_ren : Go.Shelf.Ren := ⟨fun | 219 => 130 | 217 => 129 | 225 => 190 | 224 => 191 | 267 => 192 | 266 => 189 | 314 => 247 | n => n, fun | 9 => 9 | 3 => 3 | 4 => 4 | 5 => 5 | 46 => 256 | 146 => 317 | 51 => 316 | n => n, fun | 1 => 0 | n => n⟩
theorem Tryz.lays219 : Go.Proofs.Lays.n219 Tryz.prog Tryz.lays219_ren := {
 mixed := by kernel_rfl
 f217 := Tryz.func129.trans (congrArg some (by kernel_rfl))
 f219 := Tryz.func130.trans (congrArg some (by kernel_rfl))
 f224 := Tryz.func191.trans (congrArg some (by kernel_rfl))
 f225 := Tryz.func190.trans (congrArg some (by kernel_rfl))
 f266 := Tryz.func189.trans (congrArg some (by kernel_rfl))
 f267 := Tryz.func192.trans (congrArg some (by kernel_rfl))
 f314 := Tryz.func247.trans (congrArg some (by kernel_rfl))
 t3 := Tryz.underlying3
 a3 := Tryz.isAgg3
 z3 := Tryz.sizeOf3
 v3 := Tryz.zeroValue3
 t4 := Tryz.underlying4
 a4 := Tryz.isAgg4
 z4 := Tryz.sizeOf4
 v4 := Tryz.zeroValue4
 t5 := Tryz.underlying5
 a5 := Tryz.isAgg5
 z5 := Tryz.sizeOf5
 v5 := Tryz.zeroValue5
 t9 := Tryz.underlying9
 a9 := Tryz.isAgg9
 z9 := Tryz.sizeOf9
 v9 := Tryz.zeroValue9
 t46 := Tryz.underlying256
 a46 := Tryz.isAgg256
 z46 := Tryz.sizeOf256
 v46 := Tryz.zeroValue256
 t51 := Tryz.underlying316
 a51 := Tryz.isAgg316
 z51 := Tryz.sizeOf316
 v51 := Tryz.zeroValue316
 t146 := Tryz.underlying317
 a146 := Tryz.isAgg317
 z146 := Tryz.sizeOf317
 v146 := Tryz.zeroValue317
 g1 := by kernel_rfl }
open Go.RowKit Go.Lib in
theorem Tryz.stringslite_Index (s sub : ByteArray) (m : Int) (w : World) (hs : s.size < 4294967281) (hm : w.cell? ⟨0, 0, none⟩ = some (.int .i64 m)) :
  Calls Tryz.prog 130 #[.string s, .string sub] w fun e w' => e = .returned (.int .i64 (Lib.index s.data.toList sub.data.toList)) ∧ w' = w := Any.stringslite_Index Tryz.lays219 s sub m w hs hm
end Go.Proofs
end
section
open Go Go.Proofs Go.Proofs.YtfkeeieoapimlaaGreatDoor Go.Xe
noncomputable section
namespace Go.Xe.Cards
theorem cell_glob {w : World} {m : Int} {t : TypeId} (h : w.heap[theG]? = some (.cells #[.int .i64 m] t)) : w.cell? ⟨0, 0, none⟩ = some (.int .i64 m) := by
 have h' : w.heap[0]? = some (.cells #[.int .i64 m] t) := h
 simp [World.cell?, h']
def J0 : zaR := fun f => if f = 130 then some (.pre fun args h => ite' (sameL args [.str 4 1600614252, .str 2 14906]) (some (AV.int .i64 (-1), h)) none) else none
theorem J0_ok : KnownOk Tryz.prog J0 := by
 refine ⟨fun f k h => ?_, fun f k hk args h e w us s ha => ?_, fun f k h => ?_⟩
 ·unfold J0 at h; split at h <;> cases h
 ·unfold J0 at hk
  split at hk
  ·rename_i hf
   subst hf
   cases hk
   intro v h' hv
   have hv' : ite' (sameL args [.str 4 1600614252, .str 2 14906]) (some (AV.int .i64 (-1), h)) none = some (v, h') := hv
   cases hq : sameL args [.str 4 1600614252, .str 2 14906] with
   | false => rw [hq, ite'_false] at hv'; cases hv'
   | true =>
     rw [hq, ite'_true] at hv'
     cases hv'
     have hx := zgn hq
     subst hx
     obtain ⟨us⟩ := us
     cases ha with
     | cons _ u1 _ l1 h1 h2 =>
       cases h2 with
       | cons _ u2 _ l2 h3 h4 =>
         cases h4
         have e1 := zbm h1
         have e2 := zbm h3
         subst e1 e2
         obtain ⟨m, t, hm⟩ := s.glob.1
         refine CallsIn.mono (callsIn_wide.2 (Tryz.stringslite_Index (zae 4 1600614252) (zae 2 14906) m w (by decide) (cell_glob hm))) fun en w' hen => ?_
         obtain ⟨rfl, rfl⟩ := hen
         have hz : Lib.index (zae 4 1600614252).data.toList (zae 2 14906).data.toList = -1 := by decide
         rw [hz]
         exact ⟨e, s, .int _ _, .refl e h w'⟩
  ·cases hk
 ·unfold J0 at h; split at h <;> cases h
def IX : zaR := addReix J0 11
theorem iX : KnownOk Tryz.prog IX := addReix_ok J0_ok _
end Go.Xe.Cards
end
end
