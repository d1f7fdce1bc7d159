/-
  The machine: Script; The machine: Eval; The machine: New, Set, Get; The law: a row of truths; the words' sizes; the line; The law: its walk. Conditions: none.
-/
import Derived.Test.YtfkeeieoapimlaaGreatDoorBM2ToBM10
import Derived.Test.YtfkeeieoapimlaaGreatDoorBM12
import Derived.Test.YtfkeeieoapimlaaGreatDoorBKg
import Derived.Test.YtfkeeieoapimlaaGreatDoorBshToB3b
set_option linter.unusedVariables false
set_option linter.unusedSimpArgs false
set_option linter.unusedSectionVars false
set_option linter.deprecated false
section
namespace Go.Proofs.YtfkeeieoapimlaaGreatDoor
open Go.ChangeShapes Go.WideShapes Go.ChangeAt Go.RowKit Go.Xe Go.Xe.Cards
set_option maxRecDepth 100000
theorem def33 (W : World) {bx X F : Nat} (h0 : W.cell? ⟨bx, 0, none⟩ = some (.pointer (some ⟨X, 0, none⟩))) (h1 : W.cell? ⟨X, 0, none⟩ = some (.pointer (some ⟨F, 0, none⟩))) (h2 : W.cell? ⟨F, 1, none⟩ = some (.int .i64 1)) (f2 : W.frozen? ⟨F, 1, none⟩ = false) :
  CallsD Tryz.prog 33 #[.pointer (some ⟨bx, 0, none⟩)] .returning W fun e u' w' => u' = .returning ∧ (e = .returned (.tuple #[]) ∧ w' = W.setCell ⟨F, 1, none⟩ (.int .i64 0)) := by
 have u1 : IntKind.i64.wrap (1 - 1 : Int) = 0 := rfl
 go_enter_d Tryz.func33, Tryz.ntmps33
 go_wp2
 go_end0
 exact ⟨rfl, rfl⟩
theorem results_out {fn : Func} {p T : Nat} (hf : fn.results = #[.cell p 31]) {tmps : Array Value} (hp : tmps.getD p undef = .pointer (some ⟨T, 0, none⟩) := by rfl) {W : World} {a b c : Value} (hW : W.heap[T]? = some (.cells #[a, b, c] 31 (0, 0))) :
  (results fn tmps).run Tryz.prog W = .ok (.agg #[a, b, c]) W := by
 have c0 : W.cell? ⟨T, 0, none⟩ = some a := by rw [Lib.cell_of_heap hW]; rfl
 have c1 : W.cell? ⟨T, 1, none⟩ = some b := by rw [Lib.cell_of_heap hW]; rfl
 have c2 : W.cell? ⟨T, 2, none⟩ = some c := by rw [Lib.cell_of_heap hW]; rfl
 rw [Array.getD_eq_getD_getElem?] at hp
 simp [results, hf, hp, go_sem, c0, c1, c2]
theorem ms_lt {n : Nat} {l : List IE} {e : Env} {w : World} (ms : MS n l e w) {h : AH} {k : Nat} (o : Xe.Own e h k) : k < w.heap.size := by
 obtain ⟨b, en, L, h1, h2, rfl⟩ := o
 exact (ms.sat.locs b L h2).2
theorem codeC_len' (ws : List (List UInt8)) : (zbe ws).length = ws.length * 2 + 2 := by simp [zbe, zfp]
theorem code_form {W : World} {m : Nat} {v : Value} {ws : List (List UInt8)} (h : CodeAt W m v (zbe ws)) : ∃ g c, v = .slice (some ⟨g, 0, none⟩) (zbe ws).length c := by
 have h' : W.ownsRow m 144 3 v (zbe ws).length (insC (zbe ws)) := h
 rcases h'.2 with ⟨_, h0⟩ | ⟨g, cap, cur, rfl, _⟩
 ·rw [codeC_len'] at h0; omega
 ·exact ⟨g, cap, rfl⟩
theorem keepK {m C : Nat} {e : Env} {w w3 W4 : World} (ms : MS 365 (kK :: lS4 m C) e w) {K ext : Nat} (hK : e.loc 363 = some ⟨K, 0, ext⟩) (hb : Below w.heap.size w w3) {v x y : Value} (h4 : ((w3.setCell ⟨K, 0, none⟩ v).setCell ⟨K, 2, none⟩ x).setCell ⟨K, 4, none⟩ y = W4) :
  MS 365 (lS4 m C) e W4 ∧ (∀ B, B ≤ w.heap.size → StepB B e (zad 365 (kK :: lS4 m C)) w e (zad 365 (lS4 m C)) W4) ∧ ¬ Xe.Own e (zad 365 (lS4 m C)) K ∧ K < w.heap.size ∧ K ≠ 0 ∧ ∀ k, k ≠ K → W4.heap[k]? = w3.heap[k]? := by
 have far : ∀ k, k ≠ K → W4.heap[k]? = w3.heap[k]? := fun k hk => by
  rw [← h4]
  exact (heap_setCell_other _ ⟨K, 4, none⟩ k y (by exact hk)).trans ((heap_setCell_other _ ⟨K, 2, none⟩ k x (by exact hk)).trans (heap_setCell_other w3 ⟨K, 0, none⟩ k v (by exact hk)))
 have own : Xe.Own e (zad 365 (kK :: lS4 m C)) K := ⟨363, _, _, gk_K4 m C, hK, rfl⟩
 have hlt := ms.lt own
 have h0 : K ≠ 0 := fun h => ms.sat.glob.own K (.inl h) own
 have hno : ¬ Xe.Own e (zad 365 (lS4 m C)) K := by
  rintro ⟨b, en, L, h1, h2, h3⟩
  obtain ⟨g1, g2, g3⟩ := (sub_K4 m C).get b en h1
  have hne : (363 : Nat) ≠ b := by
   intro h
   subst h
   have : (zad 365 (lS4 m C)).get 363 = none := by kernel_rfl
   rw [this] at h1
   cases h1
  rcases ms.sat.sep 363 b _ en _ _ (gk_K4 m C) g1 hK h2 hne h3.symm with h | h
  ·cases h
  ·obtain ⟨p, hp, rfl, rfl⟩ := zfT h1
   have := List.all_eq_true.1 (List.all_eq_true.1 (olds_K4 m C) p hp) 363 h
   cases this
 have hsz : W4.heap.size = w3.heap.size := by rw [← h4]; simp
 have hst : ∀ B, B ≤ w.heap.size → StepB B e (zad 365 (kK :: lS4 m C)) w e (zad 365 (lS4 m C)) W4 := fun B hB => by
  have a : StepB B e (zad 365 (kK :: lS4 m C)) w e (zad 365 (lS4 m C)) w := StepB.subL (sub_K4 m C)
  refine ⟨.refl e, a.nxt, by rw [hsz]; exact hb.size, fun k hk ho => ⟨(far k fun hkK => ho (hkK ▸ own)).trans (hb.block k (by omega)), (a.keep k hk ho).2⟩, ?_, ?_, ?_, a.new, a.gone⟩
  ·rw [← h4]; exact hb.os
  ·rw [← h4]; exact hb.tape
  ·rw [← h4]; exact hb.output
 refine ⟨((ms.sub (sub_K4 m C)).below hb).others (by rw [hsz]; exact Nat.le_refl _) fun k hk hx => far k ?_, hst, hno, hlt, h0, far⟩
 rintro rfl
 rcases hx with hx | hx
 ·exact h0 hx
 ·exact hno hx
structure StartQ (w : World) (X : Nat) (A : World) : Prop where
 size : A.heap.size = w.heap.size + 1 + 1
 bx : A.heap[w.heap.size]? = some (.cells #[.pointer (some ⟨X, 0, none⟩)] 26 (0, 0))
 t : A.heap[w.heap.size + 1]? = some (.cells #[.int .i64 0, .int .i64 0, .string ⟨#[]⟩] 31 (0, 0))
 below : Below w.heap.size w A
theorem start_q (w : World) (X : Nat) {A : World} (h : (w.alloc (.cells #[.pointer (some ⟨X, 0, none⟩)] 26)).alloc (.cells #[.int .i64 0, .int .i64 0, .string ⟨#[]⟩] 31) = A) : StartQ w X A := by
 obtain ⟨A1, hA1, sA1, aN1, aO1, bA1⟩ := zag w #[.pointer (some ⟨X, 0, none⟩)] 26
 obtain ⟨A2, hA2, sA2, aN2, aO2, bA2⟩ := zag A1 #[.int .i64 0, .int .i64 0, .string ⟨#[]⟩] 31
 have : A = A2 := by rw [← h, hA1, hA2]
 subst this
 refine ⟨by omega, (aO2 _ (by omega)).trans aN1, ?_, bA1.trans (bA2.mono (by omega))⟩
 rw [← sA1]; exact aN2
structure KQ (B X : Nat) (W : World) : Prop where
 bx : W.heap[B]? = some (.cells #[.pointer (some ⟨X, 0, none⟩)] 26 (0, 0))
 t : W.heap[B + 1]? = some (.cells #[.int .i64 0, .int .i64 0, .string ⟨#[]⟩] 31 (0, 0))
theorem KQ.keep {B X : Nat} {W W' : World} {e e' : Env} {h h' : AH} (k : KQ B X W) (st : Step e h W e' h' W') (h1 : ¬ Xe.Own e h B) (h2 : ¬ Xe.Own e h (B + 1)) : KQ B X W' ∧ ¬ Xe.Own e' h' B ∧ ¬ Xe.Own e' h' (B + 1) := by
 obtain ⟨a1, a2⟩ := st.keep B (Array.getElem?_eq_some_iff.1 k.bx).1 h1
 obtain ⟨b1, b2⟩ := st.keep (B + 1) (Array.getElem?_eq_some_iff.1 k.t).1 h2
 exact ⟨⟨a1.trans k.bx, b1.trans k.t⟩, a2, b2⟩
theorem KQ.past {B X : Nat} {W W' : World} (k : KQ B X W) (hb : Below W.heap.size W W') : KQ B X W' :=
 ⟨(hb.block _ (Array.getElem?_eq_some_iff.1 k.bx).1).trans k.bx, (hb.block _ (Array.getElem?_eq_some_iff.1 k.t).1).trans k.t⟩
theorem KQ.far {B X K : Nat} {W W' : World} (k : KQ B X W) (h : ∀ j, j ≠ K → W'.heap[j]? = W.heap[j]?) (h1 : B ≠ K) (h2 : B + 1 ≠ K) : KQ B X W' := ⟨(h _ h1).trans k.bx, (h _ h2).trans k.t⟩
theorem KQ.box {B X : Nat} {W : World} (k : KQ B X W) : W.cell? ⟨B, 0, none⟩ = some (.pointer (some ⟨X, 0, none⟩)) := by rw [Lib.cell_of_heap k.bx]; rfl
theorem KQ.out {B X : Nat} {W : World} (k : KQ B X W) : (W.cell? ⟨B + 1, 0, none⟩ = some (.int .i64 0) ∧ W.cell? ⟨B + 1, 1, none⟩ = some (.int .i64 0) ∧ W.cell? ⟨B + 1, 2, none⟩ = some (.string ⟨#[]⟩)) ∧ W.frozen? ⟨B + 1, 0, none⟩ = false ∧ W.frozen? ⟨B + 1, 1, none⟩ = false ∧ W.frozen? ⟨B + 1, 2, none⟩ = false :=
 ⟨⟨by rw [Lib.cell_of_heap k.t]; rfl, by rw [Lib.cell_of_heap k.t]; rfl, by rw [Lib.cell_of_heap k.t]; rfl⟩, Lib.frozen_of_heap k.t 0, Lib.frozen_of_heap k.t 1, Lib.frozen_of_heap k.t 2⟩
def ScriptR (m C : Nat) (want : List UInt8) (n : Nat) (l : List IE) (e : Env) (w : World) (en : Ending) (w' : World) : Prop :=
 ∃ e' n' l' s, en = .returned (okV (bt want)) ∧ FinD m C want n' l' s ∧ MS n' l' e' w' ∧ Step e (zad n l) w e' (zad n' l') w'
set_option maxHeartbeats 4000000 in
theorem script_any (m C : Nat) {e : Env} {w : World} (ms : MS 363 lS2 e w) {X ext : Nat} (hX : e.loc 24 = some ⟨X, 0, ext⟩) {t : Bool} {ts : List Bool} {last : Bool} (hn : ts.length ≤ 100) (hs : L (zae (m + 14) C) = zaO (wdsL (t :: ts) last)) (hsz : (zae (m + 14) C).size ≤ 100000) :
  Calls Tryz.prog 16 #[.pointer (some ⟨X, 0, none⟩), .string (zae (m + 14) C)] w fun en w' => ScriptR m C (zaE (t :: ts).zipIdx last) 363 lS2 e w en w' := by
 obtain ⟨want, hwant⟩ : ∃ x, x = zaE (t :: ts).zipIdx last := ⟨_, rfl⟩
 rw [← hwant]
 have HWA := Lib.hid hwant
 clear hwant
 obtain ⟨F, extF, arrF, hF, _, _⟩ := MSrow ms gf_S2 (by decide)
 obtain ⟨u0, x0, r0, _⟩ := zbi ms gx_S2 (by decide) hX (i := 0) rfl
 rw [zds r0 hF] at x0
 obtain ⟨u1, x1, r1, z1⟩ := zbi ms gf_S2 (by decide) hF (i := 1) rfl
 rw [vr_int r1] at x1
 have u2 : IntKind.i64.wrap (0 + 1 : Int) = 1 := rfl
 obtain ⟨msp, stp⟩ := ms.put (i := 1) gf_S2 (by decide) hF (VR.int (e := e) .i64 1)
 have hsz0 : (w.setCell ⟨F, 1, none⟩ (.int .i64 1)).heap.size = w.heap.size := by simp
 obtain ⟨W1, hW1⟩ : ∃ W1, ((w.setCell ⟨F, 1, none⟩ (.int .i64 1)).alloc (.cells #[.pointer (some ⟨X, 0, none⟩)] 26)).alloc (.cells #[.int .i64 0, .int .i64 0, .string ⟨#[]⟩] 31) = W1 := ⟨_, rfl⟩
 have hS := start_q _ X hW1
 have st1 : StepB w.heap.size e (zad 363 lS2) w e (zad 363 lS3) W1 := ((stp w.heap.size (Nat.le_refl _)).trans (StepB.subL (B := w.heap.size) sub_S3)).trans (StepB.of_below (hsz0 ▸ hS.below))
 have ms3 : MS 363 lS3 e W1 := (msp.sub sub_S3).below hS.below
 have nb : ∀ h k, w.heap.size ≤ k → ¬ Xe.Own e h k := fun h k hk ho => absurd (ms_lt ms ho) (by omega)
 have lF : F < w.heap.size := (ms.sat.locs 5 _ hF).2
 have lX : X < w.heap.size := (ms.sat.locs 24 _ hX).2
 have hq1 : KQ w.heap.size X W1 := by
  have h1 := hS.bx
  have h2 := hS.t
  rw [hsz0] at h1 h2
  exact ⟨h1, h2⟩
 have HW1 := Lib.hid hW1
 have HM3 := Lib.hid ms3
 have HST1 := Lib.hid st1
 have HQ1 := Lib.hid hq1
 have HNB := Lib.hid nb
 have HS := Lib.hid hs
 have HSZ := Lib.hid hsz
 have HLN := Lib.hid (show (wdsL (t :: ts) last).length ≤ 100000 by have h1 := zef (t :: ts) last; rw [List.length_cons] at h1; omega)
 clear hW1 ms3 st1 hq1 nb hs hsz msp stp hS r0 r1 ms hsz0
 go_enter_defers Tryz.func16, Tryz.ntmps16
 go_wp2_with (first
  | (go_at_call 34; rw [HW1.out]; refine (zaX (n2 := 365) (k_keepK m C) (by decide) (by kernel_rfl) (by kernel_rfl) HM3.out (us := #[_, _]) (.cons _ _ _ _ (.ptr 24 0 _ hX) (.cons _ _ _ _ (.str (m + 14) C) .nil))).mono ?_; rintro en w2 ⟨u, e2, rfl, hu, ms2, st2⟩; obtain ⟨K, extK, arrK, hK, hKA, hKR⟩ := MSrow ms2 (gk_K4 m C) (by decide); obtain rfl := zds hu hK; dsimp only; obtain ⟨hq2, nb2, nt2⟩ := HQ1.out.keep st2 (HNB.out _ _ (Nat.le_refl _)) (HNB.out _ _ (Nat.le_succ _)); obtain ⟨v2, k2, r2, _⟩ := zbi ms2 (gk_K4 m C) (by decide) hK (i := 2) rfl; rw [vr_bool r2] at k2; have HM2 := Lib.hid ms2; have HK := Lib.hid hK; have HQ2 := Lib.hid hq2; have HNB2 := Lib.hid nb2; have HNT2 := Lib.hid nt2; have HST2 := Lib.hid (HST1.out.trans (st2.toB HST1.out.size)); have HS2 := Lib.hid (Nat.le_trans HST1.out.size st2.size); have hX2 := st2.le.loc _ _ hX; have hF2 := st2.le.loc _ _ hF; have HKA := Lib.hid hKA; have HKR := Lib.hid hKR; clear hu ms2 st2 hq2 nb2 nt2 r2 hK hKA hKR)
  | (go_at_call 35; refine (code_any w2 HM2.out.g _ HSZ.out (by rw [zbS]; exact List.cons_ne_nil _ _) (sw_wdsL _ _) HLN.out HS.out).mono ?_; rintro en w3 ⟨v, rfl, hcode, hb3⟩; obtain ⟨g, c, rfl⟩ := code_form hcode; dsimp only; have ms3 := HM2.out.below hb3; obtain ⟨_, y0, _, q0⟩ := zbi ms3 (gk_K4 m C) (by decide) HK.out (i := 0) rfl; obtain ⟨_, y2, _, q2⟩ := zbi ms3 (gk_K4 m C) (by decide) HK.out (i := 2) rfl; obtain ⟨_, y4, _, q4⟩ := zbi ms3 (gk_K4 m C) (by decide) HK.out (i := 4) rfl; have HB3 := Lib.hid hb3; have HCODE := Lib.hid hcode; clear ms3 hb3 hcode))
 obtain ⟨W4, hW4⟩ : ∃ W4, ((w3.setCell ⟨K, 0, none⟩ (.slice (some ⟨g, 0, none⟩) (zbe (wdsL (t :: ts) last)).length c)).setCell ⟨K, 2, none⟩ (.bool true)).setCell ⟨K, 4, none⟩ (.bool true) = W4 := ⟨_, rfl⟩
 rw [hW4]
 obtain ⟨ms4, st4, noK, ltK, K0, far4⟩ := keepK HM2.out HK.out HB3.out hW4
 have ownK : Xe.Own e2 (zad 365 (kK :: lS4 m C)) K := ⟨363, _, _, gk_K4 m C, HK.out, rfl⟩
 have less : ∀ k, ¬ Xe.Own e2 (zad 365 (kK :: lS4 m C)) k → ¬ Xe.Own e2 (zad 365 (lS4 m C)) k := fun k h o => h (o.sub fun b en hb => ((sub_K4 m C).get b en hb).1)
 have hcode4 : CodeAt W4 w2.heap.size (.slice (some ⟨g, 0, none⟩) (zbe (wdsL (t :: ts) last)).length c) (zbe (wdsL (t :: ts) last)) := zak HCODE.out fun k hk => far4 k fun hkK => by have := (World.ownsRow.lt HCODE.out k hk).1; omega
 have hq4 : KQ w.heap.size X W4 := (HQ2.out.past HB3.out).far far4 (fun h => HNB2.out (h ▸ ownK)) (fun h => HNT2.out (h ▸ ownK))
 have hK4 : W4.heap[K]? = some (.cells (((arrK.setIfInBounds 0 (.slice (some ⟨g, 0, none⟩) (zbe (wdsL (t :: ts) last)).length c)).setIfInBounds 2 (.bool true)).setIfInBounds 4 (.bool true)) 90 (0, 0)) := by
  rw [← hW4]
  exact heap_setCell_same _ K 4 _ _ _ (heap_setCell_same _ K 2 _ _ _ (heap_setCell_same _ K 0 _ _ _ ((HB3.out.block K ltK).trans HKA.out)))
 have k4 : W4.cell? ⟨K, 0, none⟩ = some (.slice (some ⟨g, 0, none⟩) (zbe (wdsL (t :: ts) last)).length c) := by
  obtain ⟨u, hu, _⟩ := HKR.out 0 _ rfl
  have hlt := (Array.getElem?_eq_some_iff.1 hu).1
  rw [Lib.cell_of_heap hK4]
  simp [Array.getElem?_setIfInBounds, hlt]
 have b4 := hq4.box
 have hrun : ∀ V, Below W4.heap.size W4 V → Calls Tryz.prog 37 #[.pointer (some ⟨X, 0, none⟩), .slice (some ⟨g, 0, none⟩) (zbe (wdsL (t :: ts) last)).length c] V fun en w' => OutR m C want 365 (lS4 m C) e2 V en w' := fun V hV =>
  HWA.out ▸ run_any m C (ms4.below hV) hX2 hn (zaz hcode4 hV)
 have HRUN := Lib.hid hrun
 have HQ4 := Lib.hid hq4
 have HK4 := Lib.hid hK4
 have HNB4 := Lib.hid (less _ HNB2.out)
 have HNT4 := Lib.hid (less _ HNT2.out)
 have HNK4 := Lib.hid noK
 have HST4 := Lib.hid (HST2.out.trans (st4 w.heap.size HS2.out))
 have HMS4 := Lib.hid ms4
 clear hrun hq4 hcode4 hK4 ms4 st4 noK far4 less ownK hW4 y0 y2 y4 q0 q2 q4
 have b4d : W4.drew.cell? ⟨w.heap.size, 0, none⟩ = some (.pointer (some ⟨X, 0, none⟩)) := b4
 have k4d : W4.drew.cell? ⟨K, 0, none⟩ = some (.slice (some ⟨g, 0, none⟩) (zbe (wdsL (t :: ts) last)).length c) := k4
 have lw : w.heap.size < W4.heap.size := (Array.getElem?_eq_some_iff.1 HQ4.out.bx).1
 have nK1 : K ≠ w.heap.size := fun h => HNB2.out (h ▸ (⟨363, _, _, gk_K4 m C, HK.out, rfl⟩ : Xe.Own e2 (zad 365 (kK :: lS4 m C)) K))
 have nK2 : K ≠ w.heap.size + 1 := fun h => HNT2.out (h ▸ (⟨363, _, _, gk_K4 m C, HK.out, rfl⟩ : Xe.Own e2 (zad 365 (kK :: lS4 m C)) K))
 have nK3 : w.heap.size ≠ K := nK1.symm
 have nK4 : w.heap.size + 1 ≠ K := nK2.symm
 have lK4 : K < W4.heap.size := (Array.getElem?_eq_some_iff.1 HK4.out).1
 go_region_held3 (fun W => W.cell? ⟨w.heap.size, 0, none⟩ = some (.pointer (some ⟨X, 0, none⟩)) ∧ W.cell? ⟨K, 0, none⟩ = some (.slice (some ⟨g, 0, none⟩) (zbe (wdsL (t :: ts) last)).length c)) (first | exact ⟨by assumption, by assumption⟩ | go_keep) ((go_at_call 37; refine (HRUN.out W4.drew (Below.refl _ _).drew).mono ?_; rintro en w5 ⟨e5, n5, l5, rfl, hf5, ms5, st5⟩; unfold okV; dsimp only; have hq5 := KQ.keep (W := W4.drew) ⟨HQ4.out.bx, HQ4.out.t⟩ st5 HNB4.out HNT4.out; have hk5 := (st5.keep K lK4 HNK4.out).1.trans HK4.out; have b5 := hq5.1.box; have k5 : w5.cell? ⟨K, 0, none⟩ = some (.slice (some ⟨g, 0, none⟩) (zbe (wdsL (t :: ts) last)).length c) := (by have h1 := k4; rw [Lib.cell_of_heap HK4.out] at h1; rw [Lib.cell_of_heap hk5]; exact h1); obtain ⟨⟨t0, t1, t2⟩, f0, f1, f2⟩ := hq5.1.out; have HQ5 := Lib.hid hq5; have HF5 := Lib.hid hf5; have HM5 := Lib.hid ms5; have hX5 := st5.le.loc _ _ hX2; have hF5 := st5.le.loc _ _ hF2; have HST5 := Lib.hid (HST4.out.trans (StepB.trans (StepB.of_below (Below.refl _ _).drew) (st5.toB (Nat.le_of_lt lw)))); clear hq5 hk5 hf5 ms5 st5))
 obtain ⟨W6, hW6⟩ : ∃ W6, ((w5.setCell ⟨w.heap.size + 1, 0, none⟩ (.int .i64 0)).setCell ⟨w.heap.size + 1, 1, none⟩ (.int .i64 0)).setCell ⟨w.heap.size + 1, 2, none⟩ (.string (bt want)) = W6 := ⟨_, rfl⟩
 rw [hW6]
 have hbB : Below w.heap.size w5 W6 := hW6 ▸ (((Below.refl w.heap.size w5).setCell (p := ⟨w.heap.size + 1, 0, none⟩) (Nat.le_succ _) (.int .i64 0)).setCell (p := ⟨w.heap.size + 1, 1, none⟩) (Nat.le_succ _) (.int .i64 0)).setCell (p := ⟨w.heap.size + 1, 2, none⟩) (Nat.le_succ _) (.string (bt want))
 have far6 : ∀ j, j ≠ w.heap.size + 1 → W6.heap[j]? = w5.heap[j]? := fun j hj => by
  rw [← hW6]
  exact (heap_setCell_other _ ⟨w.heap.size + 1, 2, none⟩ j _ (by exact hj)).trans ((heap_setCell_other _ ⟨w.heap.size + 1, 1, none⟩ j _ (by exact hj)).trans (heap_setCell_other w5 ⟨w.heap.size + 1, 0, none⟩ j _ (by exact hj)))
 have hT6 : W6.heap[w.heap.size + 1]? = some (.cells #[.int .i64 0, .int .i64 0, .string (bt want)] 31 (0, 0)) := hW6 ▸ zc3 HQ5.out.1.t
 have ms6 : MS n5 l5 e5 W6 := HM5.out.others hbB.size fun j hj hx => far6 j (by
  rintro rfl
  rcases hx with hx | hx
  ·have : w.heap.size + 1 = 0 := hx
   omega
  ·exact HQ5.out.2.2 hx)
 obtain ⟨s, hfF, hD⟩ := HF5.out.down
 obtain ⟨cs, hcs, cs0, _⟩ := fin_x HF5.out
 obtain ⟨_, xx, rx, _⟩ := zbi ms6 hcs (by decide) hX5 cs0
 rw [zds rx hF5] at xx
 obtain ⟨_, xf, rf, zf⟩ := zbi ms6 hfF (by decide) hF5 (i := 1) rfl
 rw [vr_int rf] at xf
 have b6 : W6.cell? ⟨w.heap.size, 0, none⟩ = some (.pointer (some ⟨X, 0, none⟩)) := by rw [Lib.cell_of_heap ((far6 _ (by omega)).trans HQ5.out.1.bx)]; rfl
 obtain ⟨ms7, st7⟩ := ms6.put (i := 1) hfF (by decide) hF5 (VR.int (e := e5) .i64 0)
 have HD := Lib.hid hD
 have H7 := Lib.hid ms7
 have HS7 := Lib.hid (((HST5.out.trans (StepB.of_below hbB)).trans (st7 w.heap.size (Nat.le_trans HST5.out.size hbB.size))).toStep)
 have HT7 := Lib.hid ((heap_setCell_other W6 ⟨F, 1, none⟩ (w.heap.size + 1) (.int .i64 0) (by show w.heap.size + 1 ≠ F; omega)).trans hT6)
 clear ms7 st7 hD hT6 far6 hbB hW6 ms6
 go_wp2
 refine leaves_cons (f := 33) (args := #[.pointer (some ⟨w.heap.size, 0, none⟩)]) (by simp) (by simp [go_sem]) ?_
 refine (def33 W6 b6 xx xf zf).mono ?_
 rintro en u' w'' ⟨rfl, rfl, rfl⟩
 exact ⟨okV (bt want), results_out rfl rfl HT7.out, e5, n5, _, s, rfl, HD.out, H7.out, HS7.out⟩
end Go.Proofs.YtfkeeieoapimlaaGreatDoor
end
section
namespace Go.Proofs.YtfkeeieoapimlaaGreatDoor
open Go.ChangeShapes Go.WideShapes Go.ChangeAt Go.RowKit Go.Xe Go.Xe.Cards
set_option maxRecDepth 100000
structure KT (B n : Nat) (l : List IE) (e : Env) (W : World) : Prop where
 ms : MS n l e W
 t : W.heap[B]? = some (.cells #[.int .i64 0, .int .i64 0, .string ⟨#[]⟩] 31 (0, 0))
 no : ¬ Xe.Own e (zad n l) B
theorem KT.start {n : Nat} {l : List IE} {e : Env} {w A : World} (ms : MS n l e w) (aN : A.heap[w.heap.size]? = some (.cells #[.int .i64 0, .int .i64 0, .string ⟨#[]⟩] 31 (0, 0))) (bA : Below w.heap.size w A) : KT w.heap.size n l e A :=
 ⟨ms.below bA, aN, fun o => absurd (ms_lt ms o) (Nat.lt_irrefl _)⟩
theorem KT.keep {B n n' : Nat} {l l' : List IE} {e e' : Env} {W W' : World} (h : KT B n l e W) (ms : MS n' l' e' W') (st : Step e (zad n l) W e' (zad n' l') W') : KT B n' l' e' W' := by
 obtain ⟨a1, a2⟩ := st.keep B (Array.getElem?_eq_some_iff.1 h.t).1 h.no
 exact ⟨ms, a1.trans h.t, a2⟩
theorem KT.past {B n : Nat} {l : List IE} {e : Env} {W W' : World} (h : KT B n l e W) (hb : Below W.heap.size W W') : KT B n l e W' := ⟨h.ms.below hb, (hb.block _ (Array.getElem?_eq_some_iff.1 h.t).1).trans h.t, h.no⟩
theorem KT.cells {B n : Nat} {l : List IE} {e : Env} {W : World} (k : KT B n l e W) : (W.cell? ⟨B, 0, none⟩ = some (.int .i64 0) ∧ W.cell? ⟨B, 1, none⟩ = some (.int .i64 0) ∧ W.cell? ⟨B, 2, none⟩ = some (.string ⟨#[]⟩)) ∧ (W.frozen? ⟨B, 0, none⟩ = false ∧ W.frozen? ⟨B, 1, none⟩ = false ∧ W.frozen? ⟨B, 2, none⟩ = false) ∧ B < W.heap.size :=
 ⟨⟨by rw [Lib.cell_of_heap k.t]; rfl, by rw [Lib.cell_of_heap k.t]; rfl, by rw [Lib.cell_of_heap k.t]; rfl⟩, ⟨Lib.frozen_of_heap k.t 0, Lib.frozen_of_heap k.t 1, Lib.frozen_of_heap k.t 2⟩, (Array.getElem?_eq_some_iff.1 k.t).1⟩
theorem KT.fin {B n : Nat} {l : List IE} {e : Env} {W W6 : World} (k : KT B n l e W) {x y z : Value} (h : ((W.setCell ⟨B, 0, none⟩ x).setCell ⟨B, 1, none⟩ y).setCell ⟨B, 2, none⟩ z = W6) :
  W6.heap[B]? = some (.cells #[x, y, z] 31 (0, 0)) ∧ MS n l e W6 ∧ Below B W W6 ∧ ∀ j, j ≠ B → W6.heap[j]? = W.heap[j]? := by
 subst h
 have far : ∀ j, j ≠ B → (((W.setCell ⟨B, 0, none⟩ x).setCell ⟨B, 1, none⟩ y).setCell ⟨B, 2, none⟩ z).heap[j]? = W.heap[j]? := fun j hj =>
  (heap_setCell_other _ ⟨B, 2, none⟩ j z (by exact hj)).trans ((heap_setCell_other _ ⟨B, 1, none⟩ j y (by exact hj)).trans (heap_setCell_other W ⟨B, 0, none⟩ j x (by exact hj)))
 have hb : Below B W (((W.setCell ⟨B, 0, none⟩ x).setCell ⟨B, 1, none⟩ y).setCell ⟨B, 2, none⟩ z) := (((Below.refl B W).setCell (p := ⟨B, 0, none⟩) (Nat.le_refl _) x).setCell (p := ⟨B, 1, none⟩) (Nat.le_refl _) y).setCell (p := ⟨B, 2, none⟩) (Nat.le_refl _) z
 refine ⟨zc3 k.t, k.ms.others hb.size fun j hj hx => far j ?_, hb, far⟩
 rintro rfl
 rcases hx with hx | hx
 ·obtain ⟨q, t, hq⟩ := k.ms.g
  rw [show Xe.theG = j from hx.symm, k.t] at hq
  cases hq
 ·exact k.no hx
set_option maxHeartbeats 1000000 in
theorem eval1_any (m C : Nat) {e : Env} {w : World} (ms : MS 363 lS2 e w) {X ext bx bs : Nat} (hX : e.loc 24 = some ⟨X, 0, ext⟩) {t : Bool} {ts : List Bool} {last : Bool} (hn : ts.length ≤ 100) (hs : L (zae (m + 14) C) = zaO (wdsL (t :: ts) last)) (hsz : (zae (m + 14) C).size ≤ 100000)
  (h0 : w.cell? ⟨bx, 0, none⟩ = some (.pointer (some ⟨X, 0, none⟩))) (h1 : w.cell? ⟨bs, 0, none⟩ = some (.string (zae (m + 14) C))) :
  Calls Tryz.prog 15 #[.pointer (some ⟨bx, 0, none⟩), .pointer (some ⟨bs, 0, none⟩)] w fun en w' => ScriptR m C (zaE (t :: ts).zipIdx last) 363 lS2 e w en w' := by
 obtain ⟨want, hwant⟩ : ∃ x, x = zaE (t :: ts).zipIdx last := ⟨_, rfl⟩
 rw [← hwant]
 obtain ⟨A, hA, sA, aN, aO, bA⟩ := zag w #[.int .i64 0, .int .i64 0, .string ⟨#[]⟩] 31
 have HSC := Lib.hid (script_any m C (ms.below bA) hX hn hs hsz)
 rw [← hwant] at HSC
 have HK := Lib.hid (KT.start ms aN bA)
 have HA := Lib.hid hA
 have HST := Lib.hid (StepB.of_below (e := e) (h := zad 363 lS2) bA)
 have l0 : bx < w.heap.size := World.block_lt_of_cell? w _ h0
 have l1 : bs < w.heap.size := World.block_lt_of_cell? w _ h1
 clear hwant hA sA aN aO bA hs hsz ms
 go_enter Tryz.func15, Tryz.ntmps15
 go_wp2_with (go_at_call 16; rw [HA.out]; refine HSC.out.mono ?_; rintro en w5 ⟨e5, n5, l5, s5, rfl, hd5, ms5, st5⟩; unfold okV; dsimp only; have hK5 := HK.out.keep ms5 st5; obtain ⟨⟨x0, x1, x2⟩, ⟨f0, f1, f2⟩, lT⟩ := hK5.cells; have HK5 := Lib.hid hK5; have HD5 := Lib.hid hd5; have HST5 := Lib.hid (HST.out.trans (st5.toB HST.out.size)); clear hK5 hd5 ms5 st5)
 obtain ⟨k1, k2, k3, _⟩ := HK5.out.fin rfl (x := .int .i64 0) (y := .int .i64 0) (z := .string (bt want))
 exact zbf (p := 2) rfl rfl k1 ⟨e5, n5, l5, s5, rfl, HD5.out, k2, (HST5.out.trans (StepB.of_below k3)).toStep⟩
theorem two_out (w : World) (c c' : Array Value) : ((w.alloc (.cells c 31)).alloc (.cells c' 31)).heap[w.heap.size + 1]? = some (.cells c' 31 (0, 0)) ∧ Below w.heap.size w ((w.alloc (.cells c 31)).alloc (.cells c' 31)) := by
 obtain ⟨A1, hA1, sA1, aN1, aO1, bA1⟩ := zag w c 31
 obtain ⟨A2, hA2, sA2, aN2, aO2, bA2⟩ := zag A1 c' 31
 rw [hA1, hA2]
 refine ⟨?_, bA1.trans (bA2.mono (by omega))⟩
 rw [← sA1]; exact aN2
set_option maxHeartbeats 1000000 in
theorem ended_any (s : ByteArray) (w : World) {X F : Nat} (h0 : w.cell? ⟨X, 0, none⟩ = some (.pointer (some ⟨F, 0, none⟩))) (h19 : w.cell? ⟨X, 19, none⟩ = some (.bool false)) (h2 : w.cell? ⟨F, 2, none⟩ = some (.pointer none)) :
  Calls Tryz.prog 31 #[.pointer (some ⟨X, 0, none⟩), okV s] w fun en w' => en = .returned (okV s) ∧ Below w.heap.size w w' := by
 have lX : X < w.heap.size := World.block_lt_of_cell? w _ h0
 have lF : F < w.heap.size := World.block_lt_of_cell? w _ h2
 unfold okV
 go_enter Tryz.func31, Tryz.ntmps31
 go_wp2
 exact zbf (p := 4) rfl rfl (two_out w _ _).1 ⟨rfl, (two_out w _ _).2⟩
set_option maxHeartbeats 1000000 in
theorem caught_any (s : ByteArray) (w : World) {X : Nat} (h9 : w.cell? ⟨X, 9, none⟩ = some (.slice none 0 0)) :
  Calls Tryz.prog 30 #[.pointer (some ⟨X, 0, none⟩), okV s] w fun en w' => en = .returned (okV s) ∧ Below w.heap.size w w' := by
 have lX : X < w.heap.size := World.block_lt_of_cell? w _ h9
 unfold okV
 go_enter Tryz.func30, Tryz.ntmps30
 go_wp2
 exact zbf (p := 4) rfl rfl (two_out w _ _).1 ⟨rfl, (two_out w _ _).2⟩
def EvalR (want : List UInt8) (n : Nat) (l : List IE) (e : Env) (w : World) (en : Ending) (w' : World) : Prop :=
 ∃ e' n' l', en = .returned (okV (bt want)) ∧ FinG want n' l' ∧ MS n' l' e' w' ∧ Step e (zad n l) w e' (zad n' l') w'
set_option maxHeartbeats 4000000 in
theorem outer_any (m C : Nat) {e : Env} {w : World} (ms : MS 363 lS1 e w) {X ext bx bs : Nat} (hX : e.loc 24 = some ⟨X, 0, ext⟩) {t : Bool} {ts : List Bool} {last : Bool} (hn : ts.length ≤ 100) (hs : L (zae (m + 14) C) = zaO (wdsL (t :: ts) last)) (hsz : (zae (m + 14) C).size ≤ 100000)
  {cx cs : Array Value} {tx tsx : TypeId} (h0 : w.heap[bx]? = some (.cells cx tx (0, 0))) (c0 : cx[0]? = some (.pointer (some ⟨X, 0, none⟩))) (h1 : w.heap[bs]? = some (.cells cs tsx (0, 0))) (c1 : cs[0]? = some (.string (zae (m + 14) C))) (n0 : ∀ h, ¬ Xe.Own e h bx) (n1 : ∀ h, ¬ Xe.Own e h bs) :
  Calls Tryz.prog 14 #[.pointer (some ⟨X, 0, none⟩), .int .i64 100, .func (.func 15) #[] #[.pointer (some ⟨bx, 0, none⟩), .pointer (some ⟨bs, 0, none⟩)]] w fun en w' => EvalR (zaE (t :: ts).zipIdx last) 363 lS1 e w en w' := by
 obtain ⟨want, hwant⟩ : ∃ x, x = zaE (t :: ts).zipIdx last := ⟨_, rfl⟩
 rw [← hwant]
 obtain ⟨F, extF, arrF, hF, _, _⟩ := MSrow ms (gf_S1) (by decide)
 obtain ⟨_, x0, r0, _⟩ := zbi ms gx_S1 (by decide) hX (i := 0) rfl
 rw [zds r0 hF] at x0
 obtain ⟨_, f0, q0, z0⟩ := zbi ms gf_S1 (by decide) hF (i := 0) rfl
 obtain ⟨ms1, st1⟩ := ms.put (i := 0) gf_S1 (by decide) hF (VR.int (e := e) .i64 100)
 have st1 := (st1 w.heap.size (Nat.le_refl _)).trans (StepB.subL (B := w.heap.size) sub_S2)
 have ms1 := ms1.sub sub_S2
 have hsz0 : (w.setCell ⟨F, 0, none⟩ (.int .i64 100)).heap.size = w.heap.size := by simp
 obtain ⟨A, hA, sA, aN, aO, bA⟩ := zag (w.setCell ⟨F, 0, none⟩ (.int .i64 100)) #[.int .i64 0, .int .i64 0, .string ⟨#[]⟩] 31
 have lX : X < w.heap.size := World.block_lt_of_cell? w _ x0
 have lF : F < w.heap.size := World.block_lt_of_cell? w _ f0
 have l0 : bx < w.heap.size := (Array.getElem?_eq_some_iff.1 h0).1
 have l1 : bs < w.heap.size := (Array.getElem?_eq_some_iff.1 h1).1
 have ownF : Xe.Own e (zad 363 lS1) F := ⟨5, _, _, gf_S1, hF, rfl⟩
 have fx : bx ≠ F := fun h => n0 _ (h ▸ ownF)
 have fs : bs ≠ F := fun h => n1 _ (h ▸ ownF)
 have hA0 : A.cell? ⟨bx, 0, none⟩ = some (.pointer (some ⟨X, 0, none⟩)) := by
  rw [Lib.cell_of_heap ((bA.block bx (by omega)).trans ((heap_setCell_other w ⟨F, 0, none⟩ bx _ (by exact fx)).trans h0))]
  exact c0
 have hA1 : A.cell? ⟨bs, 0, none⟩ = some (.string (zae (m + 14) C)) := by
  rw [Lib.cell_of_heap ((bA.block bs (by omega)).trans ((heap_setCell_other w ⟨F, 0, none⟩ bs _ (by exact fs)).trans h1))]
  exact c1
 have hK := KT.start ms1 aN bA
 have HEV := Lib.hid (eval1_any m C (ms1.below bA) hX hn hs hsz hA0 hA1)
 rw [← hwant] at HEV
 rw [hsz0] at hK
 have HK := Lib.hid hK
 have HA := Lib.hid hA
 have HST := Lib.hid (st1.trans (StepB.of_below (hsz0 ▸ bA)))
 have hlo : max (100 : Int) 0 = 100 := rfl
 have hhi : min (100 : Int) 100000 = 100 := rfl
 clear hwant hA sA aN aO bA hs hsz ms ms1 st1 hsz0 hK h0 h1 c0 c1 n0 n1 ownF fx fs hA0 hA1 r0 q0
 go_enter Tryz.func14, Tryz.ntmps14
 go_wp2_with (first
  | (go_at_call 15; rw [HA.out]; refine HEV.out.mono ?_; rintro en w5 ⟨e5, n5, l5, s5, rfl, hd5, ms5, st5⟩; dsimp only; have hK5 := HK.out.keep ms5 st5; have hX5 := st5.le.loc _ _ hX; have hF5 := st5.le.loc _ _ hF; obtain ⟨xs, l6, g24, y0, y9, y19, y14, hsub, hfin⟩ := hd5.x; obtain ⟨_, p0, r0, _⟩ := zbi ms5 g24 (by decide) hX5 y0; rw [zds r0 hF5] at p0; obtain ⟨_, p9, r9, _⟩ := zbi ms5 g24 (by decide) hX5 y9; rw [vr_snil r9] at p9; obtain ⟨_, p19, r19, _⟩ := zbi ms5 g24 (by decide) hX5 y19; rw [vr_bool r19] at p19; obtain ⟨_, p2, r2, _⟩ := zbi ms5 hd5.f (by decide) hF5 (i := 2) rfl; rw [vr_pnil r2] at p2; have HK5 := Lib.hid hK5; have HD5 := Lib.hid hd5; have HG24 := Lib.hid g24; have HY0 := Lib.hid y0; have HY14 := Lib.hid y14; have HSUB := Lib.hid hsub; have HFIN := Lib.hid hfin; have HST5 := Lib.hid (HST.out.trans (st5.toB HST.out.size)); have HS5 := Lib.hid (Nat.le_trans HST.out.size st5.size); clear hK5 hd5 ms5 st5 g24 y0 y9 y19 y14 hsub hfin r0 r9 r19 r2)
  | (go_at_call 31; refine (ended_any (bt want) w5 p0 p19 p2).mono ?_; rintro en w6 ⟨rfl, hb6⟩; dsimp only; have HB6 := Lib.hid hb6; have p96 := (hb6.cell (p := ⟨X, 9, none⟩) (World.block_lt_of_cell? w5 _ p9)).trans p9; clear hb6)
  | (go_at_call 30; refine (caught_any (bt want) w6 p96).mono ?_; rintro en w7 ⟨rfl, hb7⟩; unfold okV; dsimp only; have hb := HB6.out.trans (hb7.mono HB6.out.size); have hK7 := HK5.out.past hb; obtain ⟨⟨t0, t1, t2⟩, ⟨z70, z71, z72⟩, lT⟩ := hK7.cells; obtain ⟨_, v0, r0, _⟩ := zbi hK7.ms HG24.out (by decide) hX5 HY0.out; rw [zds r0 hF5] at v0; obtain ⟨_, v1, r1, _⟩ := zbi hK7.ms HD5.out.f (by decide) hF5 (i := 0) rfl; rw [vr_int r1] at v1; obtain ⟨_, v14, r14, z14⟩ := zbi hK7.ms HG24.out (by decide) hX5 HY14.out; have lX7 : X < w7.heap.size := World.block_lt_of_cell? w7 _ v0; have lF7 : F < w7.heap.size := World.block_lt_of_cell? w7 _ v1; have HK7 := Lib.hid hK7; have HST7 := Lib.hid (HST5.out.trans (StepB.of_below (hb.mono HS5.out))); clear hb hb7 hK7 r0 r1 r14))
 obtain ⟨ms8, st8⟩ := HK7.out.ms.put (i := 14) HG24.out (by decide) hX5 (VR.int (e := e5) .i64 (s5 : Int))
 have hsz : w.heap.size ≤ w7.heap.size := Nat.le_of_lt lT
 have hsz8 : (w7.setCell ⟨X, 14, none⟩ (.int .i64 (s5 : Int))).heap.size = w7.heap.size := by simp
 have k8 := HK7.out.keep ms8 (st8 _ (Nat.le_refl _)).toStep
 have k9 : KT w.heap.size n5 l6 e5 (w7.setCell ⟨X, 14, none⟩ (.int .i64 (s5 : Int))) := ⟨ms8.sub HSUB.out, k8.t, fun o => k8.no (o.sub fun b en hb => (HSUB.out.get b en hb).1)⟩
 have stB := (HST7.out.trans (st8 w.heap.size hsz)).trans (StepB.subL (B := w.heap.size) HSUB.out)
 obtain ⟨q1, q2, q3, _⟩ := k9.fin rfl (x := .int .i64 0) (y := .int .i64 0) (z := .string (bt want))
 obtain ⟨A9, hA9, sA9, aN9, aO9, bA9⟩ := zag (((((w7.setCell ⟨X, 14, none⟩ (.int .i64 (s5 : Int))).setCell ⟨w.heap.size, 0, none⟩ (.int .i64 0)).setCell ⟨w.heap.size, 1, none⟩ (.int .i64 0)).setCell ⟨w.heap.size, 2, none⟩ (.string (bt want)))) #[.int .i64 0, .int .i64 0, .string (bt want)] 31
 rw [hA9]
 have hq : w.heap.size ≤ ((((w7.setCell ⟨X, 14, none⟩ (.int .i64 (s5 : Int))).setCell ⟨w.heap.size, 0, none⟩ (.int .i64 0)).setCell ⟨w.heap.size, 1, none⟩ (.int .i64 0)).setCell ⟨w.heap.size, 2, none⟩ (.string (bt want))).heap.size := Nat.le_trans (by rw [hsz8]; exact hsz) q3.size
 exact zbf (p := 6) rfl rfl ((bA9.block _ (Array.getElem?_eq_some_iff.1 q1).1).trans q1) ⟨e5, n5, l6, rfl, HFIN.out, q2.below bA9, ((stB.trans (StepB.of_below q3)).trans (StepB.of_below (bA9.mono hq))).toStep⟩
set_option maxHeartbeats 4000000 in
theorem eval_any (m C : Nat) {e : Env} {w : World} (ms : MS 363 lS1 e w) {X ext : Nat} (hX : e.loc 24 = some ⟨X, 0, ext⟩) {t : Bool} {ts : List Bool} {last : Bool} (hn : ts.length ≤ 100) (hs : L (zae (m + 14) C) = zaO (wdsL (t :: ts) last)) (hsz : (zae (m + 14) C).size ≤ 100000) :
  Calls Tryz.prog 7 #[.pointer (some ⟨X, 0, none⟩), .string (zae (m + 14) C), .int .i64 100] w fun en w' => EvalR (zaE (t :: ts).zipIdx last) 363 lS1 e w en w' := by
 obtain ⟨want, hwant⟩ : ∃ x, x = zaE (t :: ts).zipIdx last := ⟨_, rfl⟩
 rw [← hwant]
 obtain ⟨A1, hA1, sA1, aN1, aO1, bA1⟩ := zag w #[.pointer (some ⟨X, 0, none⟩)] 26
 obtain ⟨A2, hA2, sA2, aN2, aO2, bA2⟩ := zag A1 #[.string (zae (m + 14) C)] 9
 obtain ⟨A3, hA3, sA3, aN3, aO3, bA3⟩ := zag A2 #[.int .i64 0, .int .i64 0, .string ⟨#[]⟩] 31
 have b12 : Below w.heap.size w A2 := bA1.trans (bA2.mono (by omega))
 have b13 : Below w.heap.size w A3 := b12.trans (bA3.mono (by omega))
 have nb : ∀ h k, w.heap.size ≤ k → ¬ Xe.Own e h k := fun h k hk ho => absurd (ms_lt ms ho) (by omega)
 have x1 : A3.heap[w.heap.size]? = some (.cells #[.pointer (some ⟨X, 0, none⟩)] 26 (0, 0)) := (aO3 _ (by omega)).trans ((aO2 _ (by omega)).trans aN1)
 have x2 : A3.heap[w.heap.size + 1]? = some (.cells #[.string (zae (m + 14) C)] 9 (0, 0)) := by rw [← sA1]; exact (aO3 _ (by omega)).trans aN2
 have HOU := Lib.hid (outer_any m C (ms.below b13) hX hn hs hsz x1 rfl x2 rfl (fun h => nb h _ (Nat.le_refl _)) (fun h => nb h _ (Nat.le_succ _)))
 rw [← hwant] at HOU
 have hK : KT (w.heap.size + 1 + 1) 363 lS1 e A3 := ⟨ms.below b13, by rw [← sA1, ← sA2]; exact aN3, nb _ _ (by omega)⟩
 have HK := Lib.hid hK
 have HA1 := Lib.hid hA1
 have HA2 := Lib.hid hA2
 have HA3 := Lib.hid hA3
 have HST := Lib.hid (StepB.of_below (e := e) (h := zad 363 lS1) b13)
 clear hwant hA1 sA1 aN1 aO1 bA1 hA2 sA2 aN2 aO2 bA2 hA3 sA3 aN3 aO3 bA3 hs hsz ms hK b12 b13 x1 x2 nb
 have hmf : ∀ (fn : Fn) (first cap : Array Value) (w : World), (Instr.makeFunc fn first cap).run Tryz.prog w = .ok (.func fn first cap) w := fun _ _ _ _ => rfl
 go_enter Tryz.func7, Tryz.ntmps7
 go_wp2_with (go_at_call 14; rw [HA1.out, HA2.out, HA3.out]; refine HOU.out.mono ?_; rintro en w5 ⟨e5, n5, l5, rfl, hf5, ms5, st5⟩; unfold okV; dsimp only; have hK5 := HK.out.keep ms5 st5; obtain ⟨⟨x0, x1, x2⟩, ⟨f0, f1, f2⟩, lT⟩ := hK5.cells; have HK5 := Lib.hid hK5; have HF5 := Lib.hid hf5; have HST5 := Lib.hid (HST.out.trans (st5.toB HST.out.size)); clear hK5 hf5 ms5 st5)
 obtain ⟨k1, k2, k3, _⟩ := HK5.out.fin rfl (x := .int .i64 0) (y := .int .i64 0) (z := .string (bt want))
 exact zbf (p := 6) rfl rfl k1 ⟨e5, n5, l5, rfl, HF5.out, k2, (HST5.out.trans (StepB.of_below (k3.mono (by omega)))).toStep⟩
end Go.Proofs.YtfkeeieoapimlaaGreatDoor
end
section
namespace Go.Proofs.YtfkeeieoapimlaaGreatDoor
open Go.ChangeShapes Go.WideShapes Go.ChangeAt Go.RowKit Go.Xe Go.Xe.Cards
set_option maxRecDepth 100000
def logT : ByteArray := ⟨#[108, 111, 103, 95]⟩
theorem log_eq : zae 4 1600614252 = logT := by kernel_rfl
theorem nil_eq : zae 0 0 = (⟨#[]⟩ : ByteArray) := by kernel_rfl
theorem gx_S0 : (zad 360 lS0).get 24 = some (.cells xS1 58 true 0 []) := by kernel_rfl
theorem new_any (w : World) (hG : HasG w.heap) : Calls Tryz.prog 5 #[] w fun en w' => ∃ e0 e X ext, en = .returned (.pointer (some ⟨X, 0, none⟩)) ∧ e.loc 24 = some ⟨X, 0, ext⟩ ∧ MS 360 lS0 e w' ∧ Step e0 (zad 1 []) w e (zad 360 lS0) w' := by
 have m0 : MS 1 [] _ w := ⟨sat0 w.heap hG, fun X => rfl⟩
 refine ((callsIn_wide (n := 0)).1 (open_full pok iX k_new (n2 := 360) (by decide) (by kernel_rfl) (by kernel_rfl) m0 (us := #[]) .nil)).mono ?_
 rintro en w' ⟨u, e', rfl, hv, ms, st⟩
 obtain ⟨X, ext, arr, hX, _, _⟩ := MSrow ms gx_S0 (by decide)
 obtain rfl := zds hv hX
 exact ⟨_, e', X, ext, rfl, hX, ms, st⟩
theorem set_any {e : Env} {w : World} (ms : MS 360 lS0 e w) {X ext : Nat} (hX : e.loc 24 = some ⟨X, 0, ext⟩) : Calls Tryz.prog 6 #[.pointer (some ⟨X, 0, none⟩), .string logT, .string ⟨#[]⟩] w fun en w' => ∃ e', en = .returned (.int .i64 0) ∧ MS 363 lS1 e' w' ∧ Step e (zad 360 lS0) w e' (zad 363 lS1) w' := by
 rw [← log_eq, ← nil_eq]
 refine (zaX k_set (n2 := 363) (by decide) (by kernel_rfl) (by kernel_rfl) ms (us := #[_, _, _]) (.cons _ _ _ _ (.ptr 24 0 _ hX) (.cons _ _ _ _ (.str 4 1600614252) (.cons _ _ _ _ (.str 0 0) .nil)))).mono ?_
 rintro en w' ⟨u, e', rfl, hv, ms', st⟩
 obtain rfl := vr_int hv
 exact ⟨e', rfl, ms', st⟩
def GetR (want : List UInt8) (n : Nat) (l : List IE) (e : Env) (w : World) (en : Ending) (w' : World) : Prop :=
 ∃ e', en = .returned (.tuple #[.string (bt want), .int .i64 0]) ∧ Step e (zad n l) w e' (zad n []) w'
theorem za0 {n k c : Nat} {l : List IE} {want : List UInt8} (hr : zao ([] : List IE) (run Tryz.prog J0 9 [.ptr 24 0, .str 4 1600614252] (zad n l)) = some (.tup [.str k c, .int .i64 (0)], 0, [], ([] : List IE).map fun p => some p.e)) (hb : zae k c = bt want)
  {e : Env} {w : World} (ms : MS n l e w) {X ext : Nat} (hX : e.loc 24 = some ⟨X, 0, ext⟩) : Calls Tryz.prog 9 #[.pointer (some ⟨X, 0, none⟩), .string logT] w fun en w' => GetR want n l e w en w' := by
 rw [← log_eq]
 refine (zaX hr (Nat.le_refl _) (by rfl) rfl ms (us := #[_, _]) (.cons _ _ _ _ (.ptr 24 0 _ hX) (.cons _ _ _ _ (.str 4 1600614252) .nil))).mono ?_
 rintro en w' ⟨u, e', rfl, hv, _, st⟩
 obtain ⟨x, y, rfl, h1, h2⟩ := vr_tup2 hv
 rw [zbm h1, vr_int h2, hb]
 exact ⟨e', rfl, st⟩
theorem get_any {want : List UInt8} {n : Nat} {l : List IE} (h : FinG want n l) {e : Env} {w : World} (ms : MS n l e w) {X ext : Nat} (hX : e.loc 24 = some ⟨X, 0, ext⟩) : Calls Tryz.prog 9 #[.pointer (some ⟨X, 0, none⟩), .string logT] w fun en w' => GetR want n l e w en w' := by
 cases h with
 | none => exact za0 g_0 (by kernel_rfl) ms hX
 | first => exact za0 g_a (by kernel_rfl) ms hX
 | last => exact za0 g_x (by kernel_rfl) ms hX
 | more i h =>
   match i, h with
   | 0, _ => exact za0 g_b0 (by kernel_rfl) ms hX
   | 1, _ => exact za0 g_b1 (by kernel_rfl) ms hX
   | 2, _ => exact za0 g_b2 (by kernel_rfl) ms hX
   | 3, _ => exact za0 g_b3 (by kernel_rfl) ms hX
   | 4, _ => exact za0 g_b4 (by kernel_rfl) ms hX
   | 5, _ => exact za0 g_b5 (by kernel_rfl) ms hX
   | 6, _ => exact za0 g_b6 (by kernel_rfl) ms hX
   | 7, _ => exact za0 g_b7 (by kernel_rfl) ms hX
   | 8, _ => exact za0 g_b8 (by kernel_rfl) ms hX
   | 9, _ => exact za0 g_b9 (by kernel_rfl) ms hX
   | 10, _ => exact za0 g_b10 (by kernel_rfl) ms hX
   | 11, _ => exact za0 g_b11 (by kernel_rfl) ms hX
   | 12, _ => exact za0 g_b12 (by kernel_rfl) ms hX
   | 13, _ => exact za0 g_b13 (by kernel_rfl) ms hX
   | 14, _ => exact za0 g_b14 (by kernel_rfl) ms hX
   | 15, _ => exact za0 g_b15 (by kernel_rfl) ms hX
   | 16, _ => exact za0 g_b16 (by kernel_rfl) ms hX
   | 17, _ => exact za0 g_b17 (by kernel_rfl) ms hX
   | 18, _ => exact za0 g_b18 (by kernel_rfl) ms hX
   | 19, _ => exact za0 g_b19 (by kernel_rfl) ms hX
   | 20, _ => exact za0 g_b20 (by kernel_rfl) ms hX
   | 21, _ => exact za0 g_b21 (by kernel_rfl) ms hX
   | 22, _ => exact za0 g_b22 (by kernel_rfl) ms hX
   | 23, _ => exact za0 g_b23 (by kernel_rfl) ms hX
   | 24, _ => exact za0 g_b24 (by kernel_rfl) ms hX
   | 25, _ => exact za0 g_b25 (by kernel_rfl) ms hX
   | i + 26, h => omega
end Go.Proofs.YtfkeeieoapimlaaGreatDoor
end
section
namespace Go.Proofs.YtfkeeieoapimlaaGreatDoor
open Go.ChangeShapes Go.WideShapes Go.ChangeAt Go.RowKit Go.Xe
set_option maxRecDepth 100000
def BRow (w : World) (v : Value) (ts : List Bool) : Prop :=
 (v = .slice none 0 0 ∧ ts = []) ∨ ∃ (a : Addr) (c : Nat), v = .slice (some a) ts.length c ∧ ∀ (i : Nat) t, ts[i]? = some t → w.cell? (a.add i) = some (.bool t)
theorem sum_le : ∀ (l : List (List UInt8)) (b : Nat), (∀ x ∈ l, x.length ≤ b) → sumL l ≤ (b + 1) * l.length
 | [], b, _ => by simp [sumL]
 | x :: l, b, h => by
   have h1 := sum_le l b fun y hy => h y (List.mem_cons_of_mem _ hy)
   have h2 := h x (List.mem_cons_self)
   unfold sumL at h1 ⊢
   rw [List.map_cons, List.sum_cons, List.length_cons, Nat.mul_add]
   omega
theorem zfr {ts : List Bool} (last : Bool) (h : ts.length ≤ 30) : sumL (wdsL ts last) ≤ 2000 := by
 have h1 := sum_le (wdsL ts last) 13 fun x hx => word_len hx
 have h2 := zef ts last
 omega
theorem line_long (t : Bool) (ts : List Bool) (last : Bool) : 14 ≤ (zaO (wdsL (t :: ts) last)).length := by
 rw [zbS]
 unfold tailW
 have e1 := Br.quo (br_bod (t, 0).2)
 rw [zcy, zcy, zcy, e1]
 simp [bod, apl]
 omega
theorem line_back (q : ByteArray) (h : 14 ≤ q.size) : zae (q.size - 14 + 14) (zbJ (L q)) = q := by
 have h1 : q.size - 14 + 14 = q.size := by omega
 rw [h1]
 unfold zae
 rw [← zcX q, zcr]
 exact mk_L q
theorem line_any (w : World) (hG : HasG w.heap) (u : Value) (l : List (List UInt8)) (hu : StrRow w u l) (hl : sumL l ≤ 2000) : Calls Tryz.prog 8 #[u] w fun e w' => ∃ q, e = .returned (.string q) ∧ L q = zaO l ∧ Below w.heap.size w w' := by
 obtain ⟨m, tt, hm⟩ := hG
 have hm' : w.cell? ⟨0, 0, none⟩ = some (.int .i64 m) := (cell_of_row w 0 0 _ tt _ hm).trans rfl
 obtain ⟨a, c, rfl, ha⟩ := hu.form
 have HU := Lib.hid hu
 clear hu ha
 go_enter Tryz.func8, Tryz.ntmps8
 go_wp2_with (go_at_call 17; refine (join_any m (fun s hs w hw => quote_any s hs m w hw) w hm' _ l HU.out hl).mono ?_; rintro e w2 ⟨⟨q, rfl, hq⟩, hb⟩; dsimp only; have HQ := Lib.hid hq; have HB := Lib.hid hb; clear hq hb)
 go_ret
 exact ⟨q, rfl, HQ.out, HB.out⟩
theorem eval_line {e : Env} {w : World} (ms : MS 363 Cards.lS1 e w) {X ext : Nat} (hX : e.loc 24 = some ⟨X, 0, ext⟩) {ts : List Bool} {last : Bool} (h1 : 1 ≤ ts.length) (h30 : ts.length ≤ 30) {q : ByteArray} (hq : L q = zaO (wdsL ts last)) :
  Calls Tryz.prog 7 #[.pointer (some ⟨X, 0, none⟩), .string q, .int .i64 100] w fun en w' => EvalR (zaE ts.zipIdx last) 363 Cards.lS1 e w en w' := by
 obtain ⟨t, r, rfl⟩ : ∃ t r, ts = t :: r := by
  cases ts with
  | nil => simp at h1
  | cons t r => exact ⟨t, r, rfl⟩
 have h14 : 14 ≤ q.size := by rw [← zcX, hq]; exact line_long t r last
 have hback := line_back q h14
 have hlen : q.size ≤ 100000 := by
  rw [← zcX, hq]
  have h2 := joinT_len (wdsL (t :: r) last)
  have h3 := zfr (ts := t :: r) last h30
  omega
 have h := eval_any (q.size - 14) (zbJ (L q)) ms hX (t := t) (ts := r) (last := last) (by rw [List.length_cons] at h30; omega) (by rw [hback]; exact hq) (by rw [hback]; exact hlen)
 rw [hback] at h
 exact h
end Go.Proofs.YtfkeeieoapimlaaGreatDoor
end
section
namespace Go.Proofs.YtfkeeieoapimlaaGreatDoor
open Go.ChangeShapes Go.WideShapes Go.ChangeAt Go.RowKit Go.Xe
set_option maxRecDepth 100000
def AwakeOk : Prop := ∀ w : World, HasG w.heap → Calls Tryz.prog 4 #[] w fun e w' => e = .returned (.bool true) ∧ Below w.heap.size w w'
set_option maxHeartbeats 1000000 in
theorem chosen_out (hA : AwakeOk) (w : World) (hG : HasG w.heap) (v : Value) (ts : List Bool) (last : Bool) (hv : BRow w v ts) (hn : ts.length = 0 ∨ 30 < ts.length) :
  Calls Tryz.prog 3 #[v, .bool last] w fun e w' => e = .returned (.bool true) ∧ Below w.heap.size w w' := by
 have HAW := Lib.hid (hA w hG)
 clear hA
 have hform : ∃ a c, v = .slice a ts.length c := by
  rcases hv with ⟨rfl, rfl⟩ | ⟨a, c, rfl, _⟩
  ·exact ⟨_, _, rfl⟩
  ·exact ⟨_, _, rfl⟩
 obtain ⟨a, c, rfl⟩ := hform
 clear hv
 rcases hn with hn | hn
 ·have t0 : ¬ ((30 : Int) < (ts.length : Int)) := by omega
  have t1 : (ts.length : Int) = 0 := by omega
  have HN := Lib.hid hn
  clear hn
  go_enter Tryz.func3, Tryz.ntmps3
  go_wp2_with (go_at_call 4; refine HAW.out.mono ?_; rintro e w2 ⟨rfl, hb⟩; dsimp only; have HB := Lib.hid hb; clear hb)
  go_ret
  exact ⟨rfl, HB.out⟩
 ·have t0 : ((30 : Int) < (ts.length : Int)) := by omega
  have HN := Lib.hid hn
  clear hn
  go_enter Tryz.func3, Tryz.ntmps3
  go_wp2_with (go_at_call 4; refine HAW.out.mono ?_; rintro e w2 ⟨rfl, hb⟩; dsimp only; have HB := Lib.hid hb; clear hb)
  go_ret
  exact ⟨rfl, HB.out⟩
end Go.Proofs.YtfkeeieoapimlaaGreatDoor
end
