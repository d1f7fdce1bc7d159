/-
  The runner: run, its loop. Conditions: none.
-/
import Derived.Test.YtfkeeieoapimlaaGreatDoorBM11
set_option linter.unusedVariables false
set_option linter.unusedSimpArgs false
set_option linter.unusedSectionVars false
set_option linter.deprecated false
section
namespace Go.Proofs.YtfkeeieoapimlaaGreatDoor
open Go.ChangeShapes Go.WideShapes Go.ChangeAt Go.RowKit Go.Xe Go.Xe.Cards
set_option maxRecDepth 100000
set_option maxHeartbeats 4000000 in
theorem run_any (m C : Nat) {e : Env} {w : World} (ms : MS 365 (lS4 m C) e w) {X ext : Nat} (hX : e.loc 24 = some ⟨X, 0, ext⟩) {t : Bool} {ts : List Bool} {last : Bool} (hn : ts.length ≤ 100) {b g c : Nat}
  (hc : CodeAt w b (.slice (some ⟨g, 0, none⟩) (zbe (wdsL (t :: ts) last)).length c) (zbe (wdsL (t :: ts) last))) :
  Calls Tryz.prog 37 #[.pointer (some ⟨X, 0, none⟩), .slice (some ⟨g, 0, none⟩) (zbe (wdsL (t :: ts) last)).length c] w fun en w' => OutR m C (zaE (t :: ts).zipIdx last) 365 (lS4 m C) e w en w' := by
 obtain ⟨want, hwant⟩ : ∃ x, x = zaE (t :: ts).zipIdx last := ⟨_, rfl⟩
 rw [← hwant]
 have HWA := Lib.hid hwant
 clear hwant
 obtain ⟨A, hA⟩ : ∃ A, (w.alloc (.cells #[.int .i64 0, .int .i64 0, .string ⟨#[]⟩] 31)).alloc (.cells #[.pointer (some ⟨X, 0, none⟩), .int .i64 0, .slice none 0 0, .slice none 0 0] 139) = A := ⟨_, rfl⟩
 have hS := start_run w _ hA
 have HS := Lib.hid hS
 have hGA : HasG A.heap := HasG.below (w := w) ms.g hS.below (HasG.pos (w := w) ms.g)
 have HGA := Lib.hid hGA
 have HA := Lib.hid hA
 have HMS := Lib.hid ms
 have HC := Lib.hid hc
 clear hA ms hc hS hGA
 go_enter Tryz.func37, Tryz.ntmps37
 go_wp2_with (first | (go_at_call 86; rw [HA.out]; refine (deeds_any A HGA.out).mono ?_; rintro en w2 ⟨rfl, hb⟩; dsimp only) | (refine zgj 141 (.tmp 6) (.tmp 12) deeds0 deedsC rfl rfl rfl rfl rfl (by kernel_rfl) rfl one141 ?_; obtain ⟨A2, hA2⟩ : ∃ A2, w2.alloc (.cells deedsC 141) = A2 := ⟨_, rfl⟩; rw [hA2]; have HRI := Lib.hid (RunI.start (ws := wdsL (t :: ts) last) HS.out hb hA2); have lD0 : w.heap.size ≤ w2.heap.size := (by have h1 := HS.out.size; have h2 := hb.size; omega); have LD0 := Lib.hid lD0; clear hA2 hb lD0))
 go_loopg [] ((wdsL (t :: ts) last).length * 2 + 3) (fun k' wr => ∃ k, k' = (wdsL (t :: ts) last).length * 2 + 3 - k ∧ ((k ≤ (wdsL (t :: ts) last).length * 2 + 1 ∧ RunI w (.pointer (some ⟨X, 0, none⟩)) w2.heap.size (wdsL (t :: ts) last) k wr) ∨ (k = (wdsL (t :: ts) last).length * 2 + 2 ∧ RunF m C want e w (.pointer (some ⟨X, 0, none⟩)) k wr)))
 case atStart => exact ⟨0, rfl, .inl ⟨by omega, HRI.out⟩⟩
 case round =>
  obtain ⟨k, hk, hcase⟩ := hrel
  have hcl := codeC_len (wdsL (t :: ts) last)
  rcases hcase with ⟨hk1, hI⟩ | ⟨hk2, hF⟩
  ·obtain ⟨vt, vw, hR⟩ := hI.next
   obtain ⟨⟨op, tx⟩, hp⟩ := hI.ins
   obtain ⟨d0, d1, d2⟩ := code_at HC.out hI.below hp
   have c1 := (show wr.cell? ⟨w.heap.size + 1, 1, none⟩ = some (.int .i64 (k : Int)) by rw [Lib.cell_of_heap hR]; rfl)
   have f1 : wr.frozen? ⟨w.heap.size + 1, 1, none⟩ = false := Lib.frozen_of_heap hR 1
   have t0 : (0 : Int) ≤ (k : Int) := by omega
   have t1 : (k : Int) < ((zbe (wdsL (t :: ts) last)).length : Int) := by omega
   have lR : w.heap.size + 1 < wr.heap.size := (Array.getElem?_eq_some_iff.1 hR).1
   have u1 : IntKind.i64.wrap ((k : Int) + 1) = (k : Int) + 1 := IntWalk.i64_in _ (by have := zef (t :: ts) last; rw [List.length_cons] at this; omega)
   have HI := Lib.hid hI
   have HP := Lib.hid hp
   have HR := Lib.hid hR
   have HK := Lib.hid hk
   have HCL := Lib.hid hcl
   clear hI hp hR hk hcl
   go_wp2_with (fail)
   obtain ⟨W5, hW5⟩ : ∃ W5, (wr.setCell ⟨w.heap.size + 1, 1, none⟩ (.int .i64 ((k : Int) + 1))).alloc (.cells #[.int .i64 (op : Int), .int .i64 0, .string tx] 144) = W5 := ⟨_, rfl⟩
   rw [hW5]
   obtain ⟨s4, sD, sB, sBel, sR, sRB⟩ := run_step HI.out HR.out hW5
   have lb7 : wr.heap.size < W5.heap.size := (Array.getElem?_eq_some_iff.1 sB).1
   have lD5 : w2.heap.size < W5.heap.size := (Array.getElem?_eq_some_iff.1 sD).1
   have n71 : ¬ wr.heap.size = W5.heap.size := by omega
   have n72 : ¬ W5.heap.size = wr.heap.size := by omega
   have n73 : ¬ w2.heap.size = W5.heap.size := by omega
   have n74 : ¬ W5.heap.size = w2.heap.size := by omega
   have S4 := Lib.hid s4
   have SD := Lib.hid sD
   have SB := Lib.hid sB
   have SBel := Lib.hid sBel
   have SR := Lib.hid sR
   have SRB := Lib.hid sRB
   have b0 := (show W5.cell? ⟨wr.heap.size, 0, none⟩ = some (.int .i64 (op : Int)) by rw [Lib.cell_of_heap sB]; rfl)
   have b1 := (show W5.cell? ⟨wr.heap.size, 1, none⟩ = some (.int .i64 0) by rw [Lib.cell_of_heap sB]; rfl)
   have b2 := (show W5.cell? ⟨wr.heap.size, 2, none⟩ = some (.string tx) by rw [Lib.cell_of_heap sB]; rfl)
   clear hW5 s4 sD sB sBel sR sRB c1 f1 d0 d1 d2
   rcases HI.out.ph with ⟨hk0, hR0⟩ | ⟨j, hkj, hj, hrb⟩ | ⟨j, wd, hkj, hj, hrb⟩
   ·skip
    subst hk0
    have hp := HP.out
    rw [codeC_0] at hp
    cases hp
    rw [hR0] at HR
    have hvt := HR.out
    cases hvt
    clear hR0
    have q5 := (show W5.cell? ⟨w2.heap.size, 5, none⟩ = some (.func (.func 142) #[] #[]) by rw [Lib.cell_of_heap SD.out]; rfl)
    have LB0 := Lib.hid (HI.out.below.size)
    have LT8 := Lib.hid (show w.heap.size ≤ W5.heap.size by have h1 := HI.out.below.size; omega)
    have HCALL := Lib.hid (fun (V : World) (hV : Below W5.heap.size W5 V) => run_begin (ws := (wdsL (t :: ts) last)) S4.out SD.out SR.out SBel.out hV)
    have b0' : W5.drew.cell? ⟨wr.heap.size, 0, none⟩ = some (.int .i64 5) := b0
    have b1' : W5.drew.cell? ⟨wr.heap.size, 1, none⟩ = some (.int .i64 0) := b1
    have b2' : W5.drew.cell? ⟨wr.heap.size, 2, none⟩ = some (.string ⟨#[]⟩) := b2
    have q5' : W5.drew.cell? ⟨w2.heap.size, 5, none⟩ = some (.func (.func 142) #[] #[]) := q5
    go_region_held3 (fun W => W.cell? ⟨wr.heap.size, 0, none⟩ = some (.int .i64 5) ∧ W.cell? ⟨wr.heap.size, 1, none⟩ = some (.int .i64 0) ∧ W.cell? ⟨wr.heap.size, 2, none⟩ = some (.string ⟨#[]⟩) ∧ W.cell? ⟨w2.heap.size, 5, none⟩ = some (.func (.func 142) #[] #[])) (first | exact ⟨by assumption, by assumption, by assumption, by assumption⟩ | go_keep) ((go_at_call 142; first
     | (refine (HCALL.out W5.drew (Below.refl _ _).drew).mono ?_; rintro en w6 ⟨rfl, hJ, hK⟩; unfold okV; dsimp only; have HJ6 := Lib.hid hJ; have hbx := hK wr.heap.size _ 144 ⟨LB0.out, by decide, by decide, by decide, SB.out⟩; have hdx := hK w2.heap.size _ 141 ⟨LD0.out, by decide, by decide, by decide, SD.out⟩; have e0 := (show w6.cell? ⟨wr.heap.size, 0, none⟩ = some (.int .i64 5) by rw [Lib.cell_of_heap hbx]; rfl); have e1 := (show w6.cell? ⟨wr.heap.size, 1, none⟩ = some (.int .i64 0) by rw [Lib.cell_of_heap hbx]; rfl); have e2 := (show w6.cell? ⟨wr.heap.size, 2, none⟩ = some (.string ⟨#[]⟩) by rw [Lib.cell_of_heap hbx]; rfl); have e3 := (show w6.cell? ⟨w2.heap.size, 5, none⟩ = some (.func (.func 142) #[] #[]) by rw [Lib.cell_of_heap hdx]; rfl); have l6 : wr.heap.size < w6.heap.size := (Array.getElem?_eq_some_iff.1 hbx).1; have l7 : w2.heap.size < w6.heap.size := (Array.getElem?_eq_some_iff.1 hdx).1; clear hbx hdx; clear hJ hK)
     | (refine (HCALL.out (W5.alloc (.cells #[.int .i64 0, .int .i64 0, .string ⟨#[]⟩] 31)).drew ((Below.refl _ _).alloc (Nat.le_refl _) _).drew).mono ?_; rintro en w6 ⟨rfl, hJ, hK⟩; unfold okV; dsimp only; have HJ6 := Lib.hid hJ; have hbx := hK wr.heap.size _ 144 ⟨LB0.out, by decide, by decide, by decide, ((heap_alloc_old W5 _ lb7).trans (SB.out))⟩; have hdx := hK w2.heap.size _ 141 ⟨LD0.out, by decide, by decide, by decide, ((heap_alloc_old W5 _ lD5).trans (SD.out))⟩; have e0 := (show w6.cell? ⟨wr.heap.size, 0, none⟩ = some (.int .i64 5) by rw [Lib.cell_of_heap hbx]; rfl); have e1 := (show w6.cell? ⟨wr.heap.size, 1, none⟩ = some (.int .i64 0) by rw [Lib.cell_of_heap hbx]; rfl); have e2 := (show w6.cell? ⟨wr.heap.size, 2, none⟩ = some (.string ⟨#[]⟩) by rw [Lib.cell_of_heap hbx]; rfl); have e3 := (show w6.cell? ⟨w2.heap.size, 5, none⟩ = some (.func (.func 142) #[] #[]) by rw [Lib.cell_of_heap hdx]; rfl); have l6 : wr.heap.size < w6.heap.size := (Array.getElem?_eq_some_iff.1 hbx).1; have l7 : w2.heap.size < w6.heap.size := (Array.getElem?_eq_some_iff.1 hdx).1; clear hbx hdx; have hT8 := hK W5.heap.size _ 31 ⟨LT8.out, by decide, by decide, by decide, heap_alloc_new W5 (.cells #[.int .i64 0, .int .i64 0, .string ⟨#[]⟩] 31)⟩; have x0 := (show w6.cell? ⟨W5.heap.size, 0, none⟩ = some (.int .i64 0) by rw [Lib.cell_of_heap hT8]; rfl); have x1 := (show w6.cell? ⟨W5.heap.size, 1, none⟩ = some (.int .i64 0) by rw [Lib.cell_of_heap hT8]; rfl); have x2 := (show w6.cell? ⟨W5.heap.size, 2, none⟩ = some (.string ⟨#[]⟩) by rw [Lib.cell_of_heap hT8]; rfl); have f0 : w6.frozen? ⟨W5.heap.size, 0, none⟩ = false := Lib.frozen_of_heap hT8 0; have f1 : w6.frozen? ⟨W5.heap.size, 1, none⟩ = false := Lib.frozen_of_heap hT8 1; have f2 : w6.frozen? ⟨W5.heap.size, 2, none⟩ = false := Lib.frozen_of_heap hT8 2; have HT8 := Lib.hid hT8; clear hJ hK hT8)))
    ·obtain ⟨A8, hA8, sA8, aN8, aO8, bA8⟩ := zag w6 #[.int .i64 0, .int .i64 0, .string ⟨#[]⟩] 31
     have HA8 := Lib.hid hA8
     have HJ8 := Lib.hid (HJ6.out.past bA8)
     have y0 := (show A8.cell? ⟨w6.heap.size, 0, none⟩ = some (.int .i64 0) by rw [Lib.cell_of_heap aN8]; rfl)
     have y1 := (show A8.cell? ⟨w6.heap.size, 1, none⟩ = some (.int .i64 0) by rw [Lib.cell_of_heap aN8]; rfl)
     have y2 := (show A8.cell? ⟨w6.heap.size, 2, none⟩ = some (.string ⟨#[]⟩) by rw [Lib.cell_of_heap aN8]; rfl)
     clear hA8 sA8 aN8 aO8 bA8
     rw [HA8.out]
     go_wp2_with (go_at_call 87; refine (zch ⟨#[]⟩ A8).mono ?_; rintro en w9 ⟨rfl, hb9⟩; dsimp only; have HJ9 := Lib.hid (HJ8.out.past hb9); clear hb9)
     go_roundg ((wdsL (t :: ts) last).length * 2 + 3 - (0 + 1))
     case measure => rw [HK.out]; omega
     case rel => exact ⟨(0 + 1), rfl, .inl ⟨by omega, HJ9.out⟩⟩
    ·have lT8 : w.heap.size < W5.heap.size := Nat.lt_of_lt_of_le (Nat.lt_succ_self _) (Nat.le_of_lt (Array.getElem?_eq_some_iff.1 SR.out).1)
     have s0 := heap_setCell_same w6 W5.heap.size 0 _ _ (.int .i64 0) HT8.out
     have s1 := heap_setCell_same _ W5.heap.size 1 _ _ (.int .i64 0) s0
     have s2 := heap_setCell_same _ W5.heap.size 2 _ _ (.string ⟨#[]⟩) s1
     obtain ⟨A8, hA8⟩ : ∃ A8, ((w6.setCell ⟨W5.heap.size, 0, none⟩ (.int .i64 0)).setCell ⟨W5.heap.size, 1, none⟩ (.int .i64 0)).setCell ⟨W5.heap.size, 2, none⟩ (.string ⟨#[]⟩) = A8 := ⟨_, rfl⟩
     have hJ8 := RunI.out (i := 2) (a := .string ⟨#[]⟩) (RunI.out (i := 1) (a := .int .i64 0) (RunI.out (i := 0) (a := .int .i64 0) (HJ6.out) HT8.out lT8) s0 lT8) s1 lT8
     rw [hA8] at hJ8 s2
     have HJ8 := Lib.hid hJ8
     have y0 := (show A8.cell? ⟨W5.heap.size, 0, none⟩ = some (.int .i64 0) by rw [Lib.cell_of_heap s2]; rfl)
     have y1 := (show A8.cell? ⟨W5.heap.size, 1, none⟩ = some (.int .i64 0) by rw [Lib.cell_of_heap s2]; rfl)
     have y2 := (show A8.cell? ⟨W5.heap.size, 2, none⟩ = some (.string ⟨#[]⟩) by rw [Lib.cell_of_heap s2]; rfl)
     have HA8 := Lib.hid hA8
     clear hA8 hJ8 s0 s1 s2
     rw [HA8.out]
     go_wp2_with (go_at_call 87; refine (zch ⟨#[]⟩ A8).mono ?_; rintro en w9 ⟨rfl, hb9⟩; dsimp only; have HJ9 := Lib.hid (HJ8.out.past hb9); clear hb9)
     go_roundg ((wdsL (t :: ts) last).length * 2 + 3 - (0 + 1))
     case measure => rw [HK.out]; omega
     case rel => exact ⟨(0 + 1), rfl, .inl ⟨by omega, HJ9.out⟩⟩
   ·rcases Nat.lt_or_ge j (wdsL (t :: ts) last).length with hlj | hge
    ·obtain ⟨wd, hwd⟩ : ∃ wd, (wdsL (t :: ts) last)[j]? = some wd := ⟨_, List.getElem?_eq_getElem hlj⟩
     have hp := HP.out
     rw [hkj, (zeg _ hwd).1] at hp
     cases hp
     have HKJ := Lib.hid hkj
     have HJW := Lib.hid hwd
     have HRB := Lib.hid (SRB.out _ _ hrb)
     have HJL := Lib.hid hlj
     clear hkj hwd hrb hlj hj
     have q5 := (show W5.cell? ⟨w2.heap.size, 1, none⟩ = some (.func (.func 138) #[] #[]) by rw [Lib.cell_of_heap SD.out]; rfl)
     have LB0 := Lib.hid (HI.out.below.size)
     have LT8 := Lib.hid (show w.heap.size ≤ W5.heap.size by have h1 := HI.out.below.size; omega)
     have HCALL := Lib.hid (fun (V : World) (hV : Below W5.heap.size W5 V) => run_push S4.out SD.out HRB.out HKJ.out HJW.out hV)
     have b0' : W5.drew.cell? ⟨wr.heap.size, 0, none⟩ = some (.int .i64 1) := b0
     have b1' : W5.drew.cell? ⟨wr.heap.size, 1, none⟩ = some (.int .i64 0) := b1
     have b2' : W5.drew.cell? ⟨wr.heap.size, 2, none⟩ = some (.string (bt wd)) := b2
     have q5' : W5.drew.cell? ⟨w2.heap.size, 1, none⟩ = some (.func (.func 138) #[] #[]) := q5
     go_region_held3 (fun W => W.cell? ⟨wr.heap.size, 0, none⟩ = some (.int .i64 1) ∧ W.cell? ⟨wr.heap.size, 1, none⟩ = some (.int .i64 0) ∧ W.cell? ⟨wr.heap.size, 2, none⟩ = some (.string (bt wd)) ∧ W.cell? ⟨w2.heap.size, 1, none⟩ = some (.func (.func 138) #[] #[])) (first | exact ⟨by assumption, by assumption, by assumption, by assumption⟩ | go_keep) ((go_at_call 138; first
      | (refine (HCALL.out W5.drew (Below.refl _ _).drew).mono ?_; rintro en w6 ⟨rfl, hJ, hK⟩; unfold okV; dsimp only; have HJ6 := Lib.hid hJ; have hbx := hK wr.heap.size _ 144 ⟨LB0.out, by decide, by decide, by decide, SB.out⟩; have hdx := hK w2.heap.size _ 141 ⟨LD0.out, by decide, by decide, by decide, SD.out⟩; have e0 := (show w6.cell? ⟨wr.heap.size, 0, none⟩ = some (.int .i64 1) by rw [Lib.cell_of_heap hbx]; rfl); have e1 := (show w6.cell? ⟨wr.heap.size, 1, none⟩ = some (.int .i64 0) by rw [Lib.cell_of_heap hbx]; rfl); have e2 := (show w6.cell? ⟨wr.heap.size, 2, none⟩ = some (.string (bt wd)) by rw [Lib.cell_of_heap hbx]; rfl); have e3 := (show w6.cell? ⟨w2.heap.size, 1, none⟩ = some (.func (.func 138) #[] #[]) by rw [Lib.cell_of_heap hdx]; rfl); have l6 : wr.heap.size < w6.heap.size := (Array.getElem?_eq_some_iff.1 hbx).1; have l7 : w2.heap.size < w6.heap.size := (Array.getElem?_eq_some_iff.1 hdx).1; clear hbx hdx; clear hJ hK)
      | (refine (HCALL.out (W5.alloc (.cells #[.int .i64 0, .int .i64 0, .string ⟨#[]⟩] 31)).drew ((Below.refl _ _).alloc (Nat.le_refl _) _).drew).mono ?_; rintro en w6 ⟨rfl, hJ, hK⟩; unfold okV; dsimp only; have HJ6 := Lib.hid hJ; have hbx := hK wr.heap.size _ 144 ⟨LB0.out, by decide, by decide, by decide, ((heap_alloc_old W5 _ lb7).trans (SB.out))⟩; have hdx := hK w2.heap.size _ 141 ⟨LD0.out, by decide, by decide, by decide, ((heap_alloc_old W5 _ lD5).trans (SD.out))⟩; have e0 := (show w6.cell? ⟨wr.heap.size, 0, none⟩ = some (.int .i64 1) by rw [Lib.cell_of_heap hbx]; rfl); have e1 := (show w6.cell? ⟨wr.heap.size, 1, none⟩ = some (.int .i64 0) by rw [Lib.cell_of_heap hbx]; rfl); have e2 := (show w6.cell? ⟨wr.heap.size, 2, none⟩ = some (.string (bt wd)) by rw [Lib.cell_of_heap hbx]; rfl); have e3 := (show w6.cell? ⟨w2.heap.size, 1, none⟩ = some (.func (.func 138) #[] #[]) by rw [Lib.cell_of_heap hdx]; rfl); have l6 : wr.heap.size < w6.heap.size := (Array.getElem?_eq_some_iff.1 hbx).1; have l7 : w2.heap.size < w6.heap.size := (Array.getElem?_eq_some_iff.1 hdx).1; clear hbx hdx; have hT8 := hK W5.heap.size _ 31 ⟨LT8.out, by decide, by decide, by decide, heap_alloc_new W5 (.cells #[.int .i64 0, .int .i64 0, .string ⟨#[]⟩] 31)⟩; have x0 := (show w6.cell? ⟨W5.heap.size, 0, none⟩ = some (.int .i64 0) by rw [Lib.cell_of_heap hT8]; rfl); have x1 := (show w6.cell? ⟨W5.heap.size, 1, none⟩ = some (.int .i64 0) by rw [Lib.cell_of_heap hT8]; rfl); have x2 := (show w6.cell? ⟨W5.heap.size, 2, none⟩ = some (.string ⟨#[]⟩) by rw [Lib.cell_of_heap hT8]; rfl); have f0 : w6.frozen? ⟨W5.heap.size, 0, none⟩ = false := Lib.frozen_of_heap hT8 0; have f1 : w6.frozen? ⟨W5.heap.size, 1, none⟩ = false := Lib.frozen_of_heap hT8 1; have f2 : w6.frozen? ⟨W5.heap.size, 2, none⟩ = false := Lib.frozen_of_heap hT8 2; have HT8 := Lib.hid hT8; clear hJ hK hT8)))
     ·obtain ⟨A8, hA8, sA8, aN8, aO8, bA8⟩ := zag w6 #[.int .i64 0, .int .i64 0, .string (bt wd)] 31
      have HA8 := Lib.hid hA8
      have HJ8 := Lib.hid (HJ6.out.past bA8)
      have y0 := (show A8.cell? ⟨w6.heap.size, 0, none⟩ = some (.int .i64 0) by rw [Lib.cell_of_heap aN8]; rfl)
      have y1 := (show A8.cell? ⟨w6.heap.size, 1, none⟩ = some (.int .i64 0) by rw [Lib.cell_of_heap aN8]; rfl)
      have y2 := (show A8.cell? ⟨w6.heap.size, 2, none⟩ = some (.string (bt wd)) by rw [Lib.cell_of_heap aN8]; rfl)
      clear hA8 sA8 aN8 aO8 bA8
      rw [HA8.out]
      go_wp2_with (go_at_call 87; refine (zch (bt wd) A8).mono ?_; rintro en w9 ⟨rfl, hb9⟩; dsimp only; have HJ9 := Lib.hid (HJ8.out.past hb9); clear hb9)
      go_roundg ((wdsL (t :: ts) last).length * 2 + 3 - (k + 1))
      case measure => rw [HK.out]; omega
      case rel => exact ⟨(k + 1), rfl, .inl ⟨by have h1 := HKJ.out; have h2 := HJL.out; omega, HJ9.out⟩⟩
     ·have lT8 : w.heap.size < W5.heap.size := Nat.lt_of_lt_of_le (Nat.lt_succ_self _) (Nat.le_of_lt (Array.getElem?_eq_some_iff.1 SR.out).1)
      have s0 := heap_setCell_same w6 W5.heap.size 0 _ _ (.int .i64 0) HT8.out
      have s1 := heap_setCell_same _ W5.heap.size 1 _ _ (.int .i64 0) s0
      have s2 := heap_setCell_same _ W5.heap.size 2 _ _ (.string (bt wd)) s1
      obtain ⟨A8, hA8⟩ : ∃ A8, ((w6.setCell ⟨W5.heap.size, 0, none⟩ (.int .i64 0)).setCell ⟨W5.heap.size, 1, none⟩ (.int .i64 0)).setCell ⟨W5.heap.size, 2, none⟩ (.string (bt wd)) = A8 := ⟨_, rfl⟩
      have hJ8 := RunI.out (i := 2) (a := .string (bt wd)) (RunI.out (i := 1) (a := .int .i64 0) (RunI.out (i := 0) (a := .int .i64 0) (HJ6.out) HT8.out lT8) s0 lT8) s1 lT8
      rw [hA8] at hJ8 s2
      have HJ8 := Lib.hid hJ8
      have y0 := (show A8.cell? ⟨W5.heap.size, 0, none⟩ = some (.int .i64 0) by rw [Lib.cell_of_heap s2]; rfl)
      have y1 := (show A8.cell? ⟨W5.heap.size, 1, none⟩ = some (.int .i64 0) by rw [Lib.cell_of_heap s2]; rfl)
      have y2 := (show A8.cell? ⟨W5.heap.size, 2, none⟩ = some (.string (bt wd)) by rw [Lib.cell_of_heap s2]; rfl)
      have HA8 := Lib.hid hA8
      clear hA8 hJ8 s0 s1 s2
      rw [HA8.out]
      go_wp2_with (go_at_call 87; refine (zch (bt wd) A8).mono ?_; rintro en w9 ⟨rfl, hb9⟩; dsimp only; have HJ9 := Lib.hid (HJ8.out.past hb9); clear hb9)
      go_roundg ((wdsL (t :: ts) last).length * 2 + 3 - (k + 1))
      case measure => rw [HK.out]; omega
      case rel => exact ⟨(k + 1), rfl, .inl ⟨by have h1 := HKJ.out; have h2 := HJL.out; omega, HJ9.out⟩⟩
    ·have hjn : j = (wdsL (t :: ts) last).length := by omega
     have hp := HP.out
     rw [hkj, hjn, codeC_call] at hp
     cases hp
     have HKJ := Lib.hid (show k = (wdsL (t :: ts) last).length * 2 + 1 by omega)
     have HKJ2 := Lib.hid hjn
     have HRB := Lib.hid (SRB.out _ _ hrb)
     clear hkj hjn hrb hj hge
     have q5 := (show W5.cell? ⟨w2.heap.size, 8, none⟩ = some (.func (.func 145) #[] #[]) by rw [Lib.cell_of_heap SD.out]; rfl)
     have LB0 := Lib.hid (HI.out.below.size)
     have LT8 := Lib.hid (show w.heap.size ≤ W5.heap.size by have h1 := HI.out.below.size; omega)
     have HCALL := Lib.hid (fun (V : World) (hV : Below W5.heap.size W5 V) => run_call m C HMS.out hX hn HWA.out S4.out HRB.out HKJ2.out SBel.out hV)
     have b0' : W5.drew.cell? ⟨wr.heap.size, 0, none⟩ = some (.int .i64 8) := b0
     have b1' : W5.drew.cell? ⟨wr.heap.size, 1, none⟩ = some (.int .i64 0) := b1
     have b2' : W5.drew.cell? ⟨wr.heap.size, 2, none⟩ = some (.string ⟨#[]⟩) := b2
     have q5' : W5.drew.cell? ⟨w2.heap.size, 8, none⟩ = some (.func (.func 145) #[] #[]) := q5
     go_region_held3 (fun W => W.cell? ⟨wr.heap.size, 0, none⟩ = some (.int .i64 8) ∧ W.cell? ⟨wr.heap.size, 1, none⟩ = some (.int .i64 0) ∧ W.cell? ⟨wr.heap.size, 2, none⟩ = some (.string ⟨#[]⟩) ∧ W.cell? ⟨w2.heap.size, 8, none⟩ = some (.func (.func 145) #[] #[])) (first | exact ⟨by assumption, by assumption, by assumption, by assumption⟩ | go_keep) ((go_at_call 145; first
      | (refine (HCALL.out W5.drew (Below.refl _ _).drew).mono ?_; rintro en w6 ⟨rfl, hJ, hK⟩; unfold okV; dsimp only; have HJ6 := Lib.hid hJ; have hbx := hK wr.heap.size _ 144 ⟨LB0.out, by decide, by decide, by decide, SB.out⟩; have hdx := hK w2.heap.size _ 141 ⟨LD0.out, by decide, by decide, by decide, SD.out⟩; have e0 := (show w6.cell? ⟨wr.heap.size, 0, none⟩ = some (.int .i64 8) by rw [Lib.cell_of_heap hbx]; rfl); have e1 := (show w6.cell? ⟨wr.heap.size, 1, none⟩ = some (.int .i64 0) by rw [Lib.cell_of_heap hbx]; rfl); have e2 := (show w6.cell? ⟨wr.heap.size, 2, none⟩ = some (.string ⟨#[]⟩) by rw [Lib.cell_of_heap hbx]; rfl); have e3 := (show w6.cell? ⟨w2.heap.size, 8, none⟩ = some (.func (.func 145) #[] #[]) by rw [Lib.cell_of_heap hdx]; rfl); have l6 : wr.heap.size < w6.heap.size := (Array.getElem?_eq_some_iff.1 hbx).1; have l7 : w2.heap.size < w6.heap.size := (Array.getElem?_eq_some_iff.1 hdx).1; clear hbx hdx; clear hJ hK)
      | (refine (HCALL.out (W5.alloc (.cells #[.int .i64 0, .int .i64 0, .string ⟨#[]⟩] 31)).drew ((Below.refl _ _).alloc (Nat.le_refl _) _).drew).mono ?_; rintro en w6 ⟨rfl, hJ, hK⟩; unfold okV; dsimp only; have HJ6 := Lib.hid hJ; have hbx := hK wr.heap.size _ 144 ⟨LB0.out, by decide, by decide, by decide, ((heap_alloc_old W5 _ lb7).trans (SB.out))⟩; have hdx := hK w2.heap.size _ 141 ⟨LD0.out, by decide, by decide, by decide, ((heap_alloc_old W5 _ lD5).trans (SD.out))⟩; have e0 := (show w6.cell? ⟨wr.heap.size, 0, none⟩ = some (.int .i64 8) by rw [Lib.cell_of_heap hbx]; rfl); have e1 := (show w6.cell? ⟨wr.heap.size, 1, none⟩ = some (.int .i64 0) by rw [Lib.cell_of_heap hbx]; rfl); have e2 := (show w6.cell? ⟨wr.heap.size, 2, none⟩ = some (.string ⟨#[]⟩) by rw [Lib.cell_of_heap hbx]; rfl); have e3 := (show w6.cell? ⟨w2.heap.size, 8, none⟩ = some (.func (.func 145) #[] #[]) by rw [Lib.cell_of_heap hdx]; rfl); have l6 : wr.heap.size < w6.heap.size := (Array.getElem?_eq_some_iff.1 hbx).1; have l7 : w2.heap.size < w6.heap.size := (Array.getElem?_eq_some_iff.1 hdx).1; clear hbx hdx; have hT8 := hK W5.heap.size _ 31 ⟨LT8.out, by decide, by decide, by decide, heap_alloc_new W5 (.cells #[.int .i64 0, .int .i64 0, .string ⟨#[]⟩] 31)⟩; have x0 := (show w6.cell? ⟨W5.heap.size, 0, none⟩ = some (.int .i64 0) by rw [Lib.cell_of_heap hT8]; rfl); have x1 := (show w6.cell? ⟨W5.heap.size, 1, none⟩ = some (.int .i64 0) by rw [Lib.cell_of_heap hT8]; rfl); have x2 := (show w6.cell? ⟨W5.heap.size, 2, none⟩ = some (.string ⟨#[]⟩) by rw [Lib.cell_of_heap hT8]; rfl); have f0 : w6.frozen? ⟨W5.heap.size, 0, none⟩ = false := Lib.frozen_of_heap hT8 0; have f1 : w6.frozen? ⟨W5.heap.size, 1, none⟩ = false := Lib.frozen_of_heap hT8 1; have f2 : w6.frozen? ⟨W5.heap.size, 2, none⟩ = false := Lib.frozen_of_heap hT8 2; have HT8 := Lib.hid hT8; clear hJ hK hT8)))
     ·obtain ⟨A8, hA8, sA8, aN8, aO8, bA8⟩ := zag w6 #[.int .i64 0, .int .i64 0, .string (bt want)] 31
      have HA8 := Lib.hid hA8
      have HJ8 := Lib.hid (HJ6.out.past bA8)
      have y0 := (show A8.cell? ⟨w6.heap.size, 0, none⟩ = some (.int .i64 0) by rw [Lib.cell_of_heap aN8]; rfl)
      have y1 := (show A8.cell? ⟨w6.heap.size, 1, none⟩ = some (.int .i64 0) by rw [Lib.cell_of_heap aN8]; rfl)
      have y2 := (show A8.cell? ⟨w6.heap.size, 2, none⟩ = some (.string (bt want)) by rw [Lib.cell_of_heap aN8]; rfl)
      clear hA8 sA8 aN8 aO8 bA8
      rw [HA8.out]
      go_wp2_with (go_at_call 87; refine (zch (bt want) A8).mono ?_; rintro en w9 ⟨rfl, hb9⟩; dsimp only; have HJ9 := Lib.hid (HJ8.out.past hb9); clear hb9)
      go_roundg ((wdsL (t :: ts) last).length * 2 + 3 - (k + 1))
      case measure => rw [HK.out]; omega
      case rel => exact ⟨(k + 1), rfl, .inr ⟨by have h1 := HKJ.out; omega, HJ9.out.toF⟩⟩
     ·have lT8 : w.heap.size < W5.heap.size := Nat.lt_of_lt_of_le (Nat.lt_succ_self _) (Nat.le_of_lt (Array.getElem?_eq_some_iff.1 SR.out).1)
      have KF8 := Lib.hid (show KF w.heap.size (W5.alloc (.cells #[.int .i64 0, .int .i64 0, .string ⟨#[]⟩] 31)).drew W5.heap.size #[.int .i64 0, .int .i64 0, .string ⟨#[]⟩] 31 from ⟨LT8.out, by decide, by decide, by decide, heap_alloc_new W5 (.cells #[.int .i64 0, .int .i64 0, .string ⟨#[]⟩] 31)⟩)
      have s0 := heap_setCell_same w6 W5.heap.size 0 _ _ (.int .i64 0) HT8.out
      have s1 := heap_setCell_same _ W5.heap.size 1 _ _ (.int .i64 0) s0
      have s2 := heap_setCell_same _ W5.heap.size 2 _ _ (.string (bt want)) s1
      obtain ⟨A8, hA8⟩ : ∃ A8, ((w6.setCell ⟨W5.heap.size, 0, none⟩ (.int .i64 0)).setCell ⟨W5.heap.size, 1, none⟩ (.int .i64 0)).setCell ⟨W5.heap.size, 2, none⟩ (.string (bt want)) = A8 := ⟨_, rfl⟩
      have hJ8 := RunG.out (i := 2) (a := .string (bt want)) (RunG.out (i := 1) (a := .int .i64 0) (RunG.out (i := 0) (a := .int .i64 0) (HJ6.out) KF8.out HT8.out lT8) KF8.out s0 lT8) KF8.out s1 lT8
      rw [hA8] at hJ8 s2
      have HJ8 := Lib.hid hJ8
      have y0 := (show A8.cell? ⟨W5.heap.size, 0, none⟩ = some (.int .i64 0) by rw [Lib.cell_of_heap s2]; rfl)
      have y1 := (show A8.cell? ⟨W5.heap.size, 1, none⟩ = some (.int .i64 0) by rw [Lib.cell_of_heap s2]; rfl)
      have y2 := (show A8.cell? ⟨W5.heap.size, 2, none⟩ = some (.string (bt want)) by rw [Lib.cell_of_heap s2]; rfl)
      have HA8 := Lib.hid hA8
      clear hA8 hJ8 s0 s1 s2
      rw [HA8.out]
      go_wp2_with (go_at_call 87; refine (zch (bt want) A8).mono ?_; rintro en w9 ⟨rfl, hb9⟩; dsimp only; have HJ9 := Lib.hid (HJ8.out.past hb9); clear hb9)
      go_roundg ((wdsL (t :: ts) last).length * 2 + 3 - (k + 1))
      case measure => rw [HK.out]; omega
      case rel => exact ⟨(k + 1), rfl, .inr ⟨by have h1 := HKJ.out; omega, HJ9.out.toF⟩⟩
   ·have hp := HP.out
    rw [hkj, (zeg _ hj).2] at hp
    cases hp
    have HKJ := Lib.hid hkj
    have HJW := Lib.hid hj
    have HJL := Lib.hid (List.getElem?_eq_some_iff.1 hj).1
    have HRB := Lib.hid (SRB.out _ _ hrb)
    have HWD := Lib.hid (show wd.length ≤ 65536 by have h1 := word_len (List.mem_of_getElem? hj); omega)
    have HWN := Lib.hid (show (wdsL (t :: ts) last).length ≤ 100000 by have h1 := zef (t :: ts) last; rw [List.length_cons] at h1; omega)
    clear hkj hj hrb
    have q5 := (show W5.cell? ⟨w2.heap.size, 6, none⟩ = some (.func (.func 143) #[] #[]) by rw [Lib.cell_of_heap SD.out]; rfl)
    have LB0 := Lib.hid (HI.out.below.size)
    have LT8 := Lib.hid (show w.heap.size ≤ W5.heap.size by have h1 := HI.out.below.size; omega)
    have HCALL := Lib.hid (fun (V : World) (hV : Below W5.heap.size W5 V) => run_add S4.out SD.out HRB.out HKJ.out HJW.out HWD.out HWN.out hV)
    have b0' : W5.drew.cell? ⟨wr.heap.size, 0, none⟩ = some (.int .i64 6) := b0
    have b1' : W5.drew.cell? ⟨wr.heap.size, 1, none⟩ = some (.int .i64 0) := b1
    have b2' : W5.drew.cell? ⟨wr.heap.size, 2, none⟩ = some (.string ⟨#[]⟩) := b2
    have q5' : W5.drew.cell? ⟨w2.heap.size, 6, none⟩ = some (.func (.func 143) #[] #[]) := q5
    go_region_held3 (fun W => W.cell? ⟨wr.heap.size, 0, none⟩ = some (.int .i64 6) ∧ W.cell? ⟨wr.heap.size, 1, none⟩ = some (.int .i64 0) ∧ W.cell? ⟨wr.heap.size, 2, none⟩ = some (.string ⟨#[]⟩) ∧ W.cell? ⟨w2.heap.size, 6, none⟩ = some (.func (.func 143) #[] #[])) (first | exact ⟨by assumption, by assumption, by assumption, by assumption⟩ | go_keep) ((go_at_call 143; first
     | (refine (HCALL.out W5.drew (Below.refl _ _).drew).mono ?_; rintro en w6 ⟨rfl, hJ, hK⟩; unfold okV; dsimp only; have HJ6 := Lib.hid hJ; have hbx := hK wr.heap.size _ 144 ⟨LB0.out, by decide, by decide, by decide, SB.out⟩; have hdx := hK w2.heap.size _ 141 ⟨LD0.out, by decide, by decide, by decide, SD.out⟩; have e0 := (show w6.cell? ⟨wr.heap.size, 0, none⟩ = some (.int .i64 6) by rw [Lib.cell_of_heap hbx]; rfl); have e1 := (show w6.cell? ⟨wr.heap.size, 1, none⟩ = some (.int .i64 0) by rw [Lib.cell_of_heap hbx]; rfl); have e2 := (show w6.cell? ⟨wr.heap.size, 2, none⟩ = some (.string ⟨#[]⟩) by rw [Lib.cell_of_heap hbx]; rfl); have e3 := (show w6.cell? ⟨w2.heap.size, 6, none⟩ = some (.func (.func 143) #[] #[]) by rw [Lib.cell_of_heap hdx]; rfl); have l6 : wr.heap.size < w6.heap.size := (Array.getElem?_eq_some_iff.1 hbx).1; have l7 : w2.heap.size < w6.heap.size := (Array.getElem?_eq_some_iff.1 hdx).1; clear hbx hdx; clear hJ hK)
     | (refine (HCALL.out (W5.alloc (.cells #[.int .i64 0, .int .i64 0, .string ⟨#[]⟩] 31)).drew ((Below.refl _ _).alloc (Nat.le_refl _) _).drew).mono ?_; rintro en w6 ⟨rfl, hJ, hK⟩; unfold okV; dsimp only; have HJ6 := Lib.hid hJ; have hbx := hK wr.heap.size _ 144 ⟨LB0.out, by decide, by decide, by decide, ((heap_alloc_old W5 _ lb7).trans (SB.out))⟩; have hdx := hK w2.heap.size _ 141 ⟨LD0.out, by decide, by decide, by decide, ((heap_alloc_old W5 _ lD5).trans (SD.out))⟩; have e0 := (show w6.cell? ⟨wr.heap.size, 0, none⟩ = some (.int .i64 6) by rw [Lib.cell_of_heap hbx]; rfl); have e1 := (show w6.cell? ⟨wr.heap.size, 1, none⟩ = some (.int .i64 0) by rw [Lib.cell_of_heap hbx]; rfl); have e2 := (show w6.cell? ⟨wr.heap.size, 2, none⟩ = some (.string ⟨#[]⟩) by rw [Lib.cell_of_heap hbx]; rfl); have e3 := (show w6.cell? ⟨w2.heap.size, 6, none⟩ = some (.func (.func 143) #[] #[]) by rw [Lib.cell_of_heap hdx]; rfl); have l6 : wr.heap.size < w6.heap.size := (Array.getElem?_eq_some_iff.1 hbx).1; have l7 : w2.heap.size < w6.heap.size := (Array.getElem?_eq_some_iff.1 hdx).1; clear hbx hdx; have hT8 := hK W5.heap.size _ 31 ⟨LT8.out, by decide, by decide, by decide, heap_alloc_new W5 (.cells #[.int .i64 0, .int .i64 0, .string ⟨#[]⟩] 31)⟩; have x0 := (show w6.cell? ⟨W5.heap.size, 0, none⟩ = some (.int .i64 0) by rw [Lib.cell_of_heap hT8]; rfl); have x1 := (show w6.cell? ⟨W5.heap.size, 1, none⟩ = some (.int .i64 0) by rw [Lib.cell_of_heap hT8]; rfl); have x2 := (show w6.cell? ⟨W5.heap.size, 2, none⟩ = some (.string ⟨#[]⟩) by rw [Lib.cell_of_heap hT8]; rfl); have f0 : w6.frozen? ⟨W5.heap.size, 0, none⟩ = false := Lib.frozen_of_heap hT8 0; have f1 : w6.frozen? ⟨W5.heap.size, 1, none⟩ = false := Lib.frozen_of_heap hT8 1; have f2 : w6.frozen? ⟨W5.heap.size, 2, none⟩ = false := Lib.frozen_of_heap hT8 2; have HT8 := Lib.hid hT8; clear hJ hK hT8)))
    ·obtain ⟨A8, hA8, sA8, aN8, aO8, bA8⟩ := zag w6 #[.int .i64 0, .int .i64 0, .string ⟨#[]⟩] 31
     have HA8 := Lib.hid hA8
     have HJ8 := Lib.hid (HJ6.out.past bA8)
     have y0 := (show A8.cell? ⟨w6.heap.size, 0, none⟩ = some (.int .i64 0) by rw [Lib.cell_of_heap aN8]; rfl)
     have y1 := (show A8.cell? ⟨w6.heap.size, 1, none⟩ = some (.int .i64 0) by rw [Lib.cell_of_heap aN8]; rfl)
     have y2 := (show A8.cell? ⟨w6.heap.size, 2, none⟩ = some (.string ⟨#[]⟩) by rw [Lib.cell_of_heap aN8]; rfl)
     clear hA8 sA8 aN8 aO8 bA8
     rw [HA8.out]
     go_wp2_with (go_at_call 87; refine (zch ⟨#[]⟩ A8).mono ?_; rintro en w9 ⟨rfl, hb9⟩; dsimp only; have HJ9 := Lib.hid (HJ8.out.past hb9); clear hb9)
     go_roundg ((wdsL (t :: ts) last).length * 2 + 3 - (k + 1))
     case measure => rw [HK.out]; omega
     case rel => exact ⟨(k + 1), rfl, .inl ⟨by have h1 := HKJ.out; have h2 := HJL.out; omega, HJ9.out⟩⟩
    ·have lT8 : w.heap.size < W5.heap.size := Nat.lt_of_lt_of_le (Nat.lt_succ_self _) (Nat.le_of_lt (Array.getElem?_eq_some_iff.1 SR.out).1)
     have s0 := heap_setCell_same w6 W5.heap.size 0 _ _ (.int .i64 0) HT8.out
     have s1 := heap_setCell_same _ W5.heap.size 1 _ _ (.int .i64 0) s0
     have s2 := heap_setCell_same _ W5.heap.size 2 _ _ (.string ⟨#[]⟩) s1
     obtain ⟨A8, hA8⟩ : ∃ A8, ((w6.setCell ⟨W5.heap.size, 0, none⟩ (.int .i64 0)).setCell ⟨W5.heap.size, 1, none⟩ (.int .i64 0)).setCell ⟨W5.heap.size, 2, none⟩ (.string ⟨#[]⟩) = A8 := ⟨_, rfl⟩
     have hJ8 := RunI.out (i := 2) (a := .string ⟨#[]⟩) (RunI.out (i := 1) (a := .int .i64 0) (RunI.out (i := 0) (a := .int .i64 0) (HJ6.out) HT8.out lT8) s0 lT8) s1 lT8
     rw [hA8] at hJ8 s2
     have HJ8 := Lib.hid hJ8
     have y0 := (show A8.cell? ⟨W5.heap.size, 0, none⟩ = some (.int .i64 0) by rw [Lib.cell_of_heap s2]; rfl)
     have y1 := (show A8.cell? ⟨W5.heap.size, 1, none⟩ = some (.int .i64 0) by rw [Lib.cell_of_heap s2]; rfl)
     have y2 := (show A8.cell? ⟨W5.heap.size, 2, none⟩ = some (.string ⟨#[]⟩) by rw [Lib.cell_of_heap s2]; rfl)
     have HA8 := Lib.hid hA8
     clear hA8 hJ8 s0 s1 s2
     rw [HA8.out]
     go_wp2_with (go_at_call 87; refine (zch ⟨#[]⟩ A8).mono ?_; rintro en w9 ⟨rfl, hb9⟩; dsimp only; have HJ9 := Lib.hid (HJ8.out.past hb9); clear hb9)
     go_roundg ((wdsL (t :: ts) last).length * 2 + 3 - (k + 1))
     case measure => rw [HK.out]; omega
     case rel => exact ⟨(k + 1), rfl, .inl ⟨by have h1 := HKJ.out; have h2 := HJL.out; omega, HJ9.out⟩⟩
  ·obtain ⟨e', n', l', vt', vw', hf, ms', st, hR, hrow, h4, hno⟩ := hF
   obtain ⟨g9, c9, rfl⟩ := zam (n := 0) hrow
   have hcl := codeC_len (wdsL (t :: ts) last)
   have c1 := (show wr.cell? ⟨w.heap.size + 1, 1, none⟩ = some (.int .i64 (k : Int)) by rw [Lib.cell_of_heap hR]; rfl)
   have c2 := (show wr.cell? ⟨w.heap.size + 1, 2, none⟩ = some (.slice (some ⟨g9, 0, none⟩) 1 c9) by rw [Lib.cell_of_heap hR]; rfl)
   have c3 : wr.cell? ⟨g9, 0, none⟩ = some (.string (bt want)) := by have := hrow.cells (g := g9) rfl 0 _ rfl; simpa [Addr.add] using this
   have t0 : (0 : Int) ≤ (k : Int) := by omega
   have t1 : ¬ ((k : Int) < ((zbe (wdsL (t :: ts) last)).length : Int)) := by omega
   have hlw : (bt want).size ≤ 65536 := by rw [HWA.out]; exact Nat.le_trans (wantT_len _ _) (by decide)
   have l4 : w.heap.size < wr.heap.size := (Array.getElem?_eq_some_iff.1 h4).1
   have HLW := Lib.hid hlw
   have HF := Lib.hid hf
   have HM := Lib.hid ms'
   have HST := Lib.hid st
   have H4 := Lib.hid h4
   have HNO := Lib.hid hno
   have HG0 := Lib.hid (HasG.pos (w := w) HMS.out.g)
   clear hf ms' st hR hrow h4 hno hk hk2 hcl hlw
   go_wp2_with (go_at_call 88; refine (text_any (bt want) HLW.out wr).mono ?_; rintro en w7 ⟨rfl, hb7⟩; unfold okV; dsimp only; have hT7 := (hb7.block _ l4).trans H4.out; have a0 := (show w7.cell? ⟨w.heap.size, 0, none⟩ = some (.int .i64 0) by rw [Lib.cell_of_heap hT7]; rfl); have a1 := (show w7.cell? ⟨w.heap.size, 1, none⟩ = some (.int .i64 0) by rw [Lib.cell_of_heap hT7]; rfl); have a2 := (show w7.cell? ⟨w.heap.size, 2, none⟩ = some (.string ⟨#[]⟩) by rw [Lib.cell_of_heap hT7]; rfl); have f0 : w7.frozen? ⟨w.heap.size, 0, none⟩ = false := Lib.frozen_of_heap hT7 0; have f1 : w7.frozen? ⟨w.heap.size, 1, none⟩ = false := Lib.frozen_of_heap hT7 1; have f2 : w7.frozen? ⟨w.heap.size, 2, none⟩ = false := Lib.frozen_of_heap hT7 2; have HT7 := Lib.hid hT7; have HB7 := Lib.hid hb7; clear hT7 hb7)
   have hbB := (((Below.refl w.heap.size w7).setCell (p := ⟨w.heap.size, 0, none⟩) (Nat.le_refl _) (.int .i64 0)).setCell (p := ⟨w.heap.size, 1, none⟩) (Nat.le_refl _) (.int .i64 0)).setCell (p := ⟨w.heap.size, 2, none⟩) (Nat.le_refl _) (.string (bt want))
   refine zbf (p := 4) rfl rfl (zc3 HT7.out) ⟨e', n', l', rfl, HF.out, (HM.out.below HB7.out).others hbB.size fun j hj hx => ?_, ((HST.out.trans (StepB.of_below (HB7.out.mono (Nat.le_of_lt l4)))).trans (StepB.of_below hbB)).toStep⟩
   have hne : j ≠ w.heap.size := by
    rintro rfl
    rcases hx with hx | hx
    ·have : w.heap.size = 0 := hx
     have := HG0.out
     omega
    ·exact HNO.out hx
   exact (heap_setCell_other _ ⟨w.heap.size, 2, none⟩ j _ (by exact hne)).trans ((heap_setCell_other _ ⟨w.heap.size, 1, none⟩ j _ (by exact hne)).trans (heap_setCell_other w7 ⟨w.heap.size, 0, none⟩ j _ (by exact hne)))
end Go.Proofs.YtfkeeieoapimlaaGreatDoor
end
