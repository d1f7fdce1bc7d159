/-
  The program's Rounds; What the document's Rounds20 keeps in its first loop. Conditions: none.
-/
import Derived.Test.YtjibdoofogmkcaaGreatDoorWr2ToWr6
import Derived.Test.YtjibdoofogmkcaaGreatDoorUnbToWr1
import Derived.Laws.OwnMore
set_option linter.unusedVariables false
set_option linter.unusedSimpArgs false
set_option linter.unusedSectionVars false
set_option linter.deprecated false
section
namespace Go.Proofs.YtjibdoofogmkcaaGreatDoor
open Go.RowKit Go.Shelf
open Go.ChangeShapes Go.WideShapes Go.ChangeAt
attribute [local go_sem] Oper.semAt_some
set_option maxRecDepth 100000
set_option maxHeartbeats 2000000 in
theorem rounds_made (w : World) (u v : Value) (names lists : List (List UInt8)) (hu : StrRow w u names) (hv : StrRow w v lists) (hn : names.length ≤ 1000) (hb1 : ∀ x ∈ names, x.length ≤ 1000) (hb2 : ∀ x ∈ lists, x.length ≤ 1000) :
    Calls Tryz.prog 8 #[u, v] w (RoundsR w names lists) := by
  obtain ⟨a, c, rfl, ha⟩ := hu.form
  obtain ⟨b, d, rfl, hb⟩ := hv.form
  obtain ⟨i0, hi, hz0, hz1, hz2⟩ := info_parts info22
  have HA := Lib.hid ha
  have HB := Lib.hid hb
  have HB1 := Lib.hid hb1
  have HB2 := Lib.hid hb2
  clear hu hv ha hb hb1 hb2
  refine (callsIn_wide (n := 8)).1 ?_
  refine callsIn_of_wp_marks Tryz.func8 rfl trivial ?_ rfl
  simp only [Tryz.ntmps8, List.size_toArray, List.length_cons, List.length_nil, Nat.reduceAdd, Nat.reduceSub, Array.replicate_succ, Array.replicate_zero, List.push_toArray, List.append_toArray, List.nil_append, List.cons_append]
  by_cases hlen : names.length = lists.length
  · have HL := Lib.hid hlen
    have e1 : ((names.length : Int) != (lists.length : Int)) = false := by simp [hlen]
    by_cases h0 : names.length = 0
    · have e0 : ((names.length : Int) == 0) = true := by simp [h0]
      have HE := Lib.hid (show rnd names lists = .error 1 by unfold rnd; rw [if_pos (.inr h0)])
      clear hlen h0
      gi_wp2
      refine ⟨_, results_tmp2 rfl _ _ _, ?_⟩
      exact RoundsR.error HE.out (Below.refl _ _)
    · have e0 : ((names.length : Int) == 0) = false := beq_eq_false_iff_ne.2 (by omega)
      have H0 := Lib.hid h0
      clear hlen h0
      gi_wp2
      clear e0 e1
      gi_loopw [6, 7, 8, 30] (fun nv lv bv iv wr => ∃ (i : Nat) (vs ls : List (List (List UInt8))), iv = .int .i64 (i : Int) ∧ bv = .bool (vs.any (·.isEmpty)) ∧ RI w names lists i nv lv vs ls wr) (fun nv lv bv iv wr => names.length - (intOf iv).toNat)
      case atStart => exact ⟨0, [], [], rfl, rfl, ⟨by omega, rfl, rfl, by simp, by simp, OwnRows.nil _ _, OwnRows.nil _ _, apart_nil _, Below.refl _ _⟩⟩
      case round =>
        obtain ⟨i, vs, ls, rfl, rfl, hR⟩ := hrel
        rename World => w0
        have R := Lib.hid hR
        have hi2 := hR.hi
        have hbel := hR.bel
        by_cases hlt : i < names.length
        · have t1 : (i : Int) < (names.length : Int) := by omega
          have t2 : (i : Int) < (lists.length : Int) := by have := HL.out; omega
          obtain ⟨x, hx⟩ : ∃ x, names[i]? = some x := ⟨_, List.getElem?_eq_getElem hlt⟩
          obtain ⟨y, hy⟩ : ∃ y, lists[i]? = some y := ⟨_, List.getElem?_eq_getElem (by have := HL.out; omega)⟩
          obtain ⟨p, rfl, hpx⟩ := HA.out i x hx
          obtain ⟨q, rfl, hqy⟩ := HB.out i y hy
          have c1 := cell_later hpx hbel
          unfold strV at c1
          have HXL := Lib.hid <| HB1.out x (List.mem_of_getElem? hx)
          have HYL := Lib.hid <| HB2.out y (List.mem_of_getElem? hy)
          have HX := Lib.hid hx
          have HY := Lib.hid hy
          have HQ := Lib.hid hqy
          clear hx hy hpx hqy hR
          cases hsx : spl x with
          | none =>
            have HSX := Lib.hid hsx
            have HE := Lib.hid (R.out.bad1 HL.out HX.out hsx H0.out)
            clear hsx
            cases hsy : spl y with
            | none =>
              have HSY := Lib.hid hsy
              clear hsy
              gi_wp2_with (first | (refine ⟨trivial, ?_⟩; gi_at_call 17; refine (split_bad HXL.out HSX.out _ _).mono ?_; clear HSX; rintro e w1 ⟨k1, rfl, hb1⟩; dsimp only; have c2 := cell_later HQ.out (R.out.bel.trans (hb1.mono R.out.bel.size)); unfold strV at c2; have HB1x := Lib.hid hb1; clear hb1) | (refine ⟨trivial, ?_⟩; gi_at_call 17; refine (split_bad HYL.out HSY.out _ _).mono ?_; clear HSY c2; rintro e w2 ⟨k2, rfl, hb2⟩; dsimp only; have HB2x := Lib.hid hb2; clear hb2))
              refine ⟨_, results_tmp2 rfl _ _ _, ?_⟩
              exact RoundsR.error HE.out ((R.out.bel.trans (HB1x.out.mono R.out.bel.size)).trans (HB2x.out.mono (R.out.bel.trans (HB1x.out.mono R.out.bel.size)).size))
            | some ys =>
              have HSY := Lib.hid hsy
              clear hsy
              gi_wp2_with (first | (refine ⟨trivial, ?_⟩; gi_at_call 17; refine (split_bad HXL.out HSX.out _ _).mono ?_; clear HSX; rintro e w1 ⟨k1, rfl, hb1⟩; dsimp only; have c2 := cell_later HQ.out (R.out.bel.trans (hb1.mono R.out.bel.size)); unfold strV at c2; have HB1x := Lib.hid hb1; clear hb1) | (refine ⟨trivial, ?_⟩; gi_at_call 17; refine (split_ok HYL.out HSY.out _ _).mono ?_; clear HSY c2; rintro e w2 ⟨ya, yc, rfl, ho2, hb2⟩; dsimp only; have HO2 := Lib.hid ho2; clear ho2; have HB2x := Lib.hid hb2; clear hb2))
              refine ⟨_, results_tmp2 rfl _ _ _, ?_⟩
              exact RoundsR.error HE.out ((R.out.bel.trans (HB1x.out.mono R.out.bel.size)).trans (HB2x.out.mono (R.out.bel.trans (HB1x.out.mono R.out.bel.size)).size))
          | some xs =>
            have HSX := Lib.hid hsx
            clear hsx
            cases hsy : spl y with
            | none =>
              have HSY := Lib.hid hsy
              have HE := Lib.hid (R.out.bad2 HL.out HX.out HY.out HSX.out hsy H0.out)
              clear hsy
              gi_wp2_with (first | (refine ⟨trivial, ?_⟩; gi_at_call 17; refine (split_ok HXL.out HSX.out _ _).mono ?_; clear HSX; rintro e w1 ⟨xa, xc, rfl, ho1, hb1⟩; dsimp only; have c2 := cell_later HQ.out (R.out.bel.trans (hb1.mono R.out.bel.size)); unfold strV at c2; have HO1 := Lib.hid ho1; clear ho1; have HB1x := Lib.hid hb1; clear hb1) | (refine ⟨trivial, ?_⟩; gi_at_call 17; refine (split_bad HYL.out HSY.out _ _).mono ?_; clear HSY c2; rintro e w2 ⟨k2, rfl, hb2⟩; dsimp only; have HB2x := Lib.hid hb2; clear hb2))
              refine ⟨_, results_tmp2 rfl _ _ _, ?_⟩
              exact RoundsR.error HE.out ((R.out.bel.trans (HB1x.out.mono R.out.bel.size)).trans (HB2x.out.mono (R.out.bel.trans (HB1x.out.mono R.out.bel.size)).size))
            | some ys =>
              have HSY := Lib.hid hsy
              clear hsy
              cases hbb : vs.any (·.isEmpty) with
              | false =>
                by_cases hxe : xs.length = 0
                · have t5 : ((xs.length : Int) == 0) = true := by simp [hxe]
                  have HXE := Lib.hid hxe
                  clear hxe
                  have HBB := Lib.hid hbb
                  have HSXc := Lib.hid HSX.out
                  have HSYc := Lib.hid HSY.out
                  clear hbb
                  gi_wp2_with (first | (refine ⟨trivial, ?_⟩; gi_at_call 17; refine (split_ok HXL.out HSXc.out _ _).mono ?_; clear HSXc; rintro e w1 ⟨xa, xc, rfl, ho1, hb1⟩; dsimp only; have c2 := cell_later HQ.out (R.out.bel.trans (hb1.mono R.out.bel.size)); unfold strV at c2; have HO1 := Lib.hid ho1; have R1 := Lib.hid (R.out.later hb1); clear ho1 hb1) | (refine ⟨trivial, ?_⟩; gi_at_call 17; refine (split_ok HYL.out HSYc.out _ _).mono ?_; clear HSYc c2; rintro e w2 ⟨ya, yc, rfl, ho2, hb2⟩; dsimp only; have hx0 := ownsRow_mono (HO1.out.later hb2) (Nat.zero_le _); have HX0 := Lib.hid hx0; have hy0 := ownsRow_mono ho2 (Nat.zero_le _); have HY0 := Lib.hid hy0; have R2 := Lib.hid (R1.out.later hb2); have hsz2 := R2.out.bel.size; have hvl := R2.out.hv; have hll := R2.out.hl; obtain ⟨us, hu1, hu2⟩ := R2.out.ru; have HU1 := Lib.hid hu1; have HU2 := Lib.hid hu2; clear ho2 hb2 HO1 R1 hx0 hy0 hu1 hu2) | (gi_at_builtin; refine wpListIn_append_tag _ rfl _ _ 28 rfl w.heap.size 22 i0 (.slice none 0 0) 1 24 Tryz.underlying28 hi hz0 hz1 hz2 rfl (by decide) _ _ _ rfl (HU1.out.alloc _) ⟨w2.heap.size, 0, none⟩ 1 1 [.slice xa xs.length xc] rfl rfl (cell_one_new _ _ _) (by simp [Value.oneCell']) (by simp only [maxLen]; omega) (by omega) (by simp; omega) ?_; intro u' w3 o g n; obtain ⟨g1, ⟨vu, hv1, hv2⟩, g3, g4, g5⟩ := OwnRows.app HU1.out HU2.out R2.out.rv R2.out.ap HX0.out R2.out.bel.size o g n; have hsz3 := g5.size; have HY1 := Lib.hid (g4 _ _ HY0.out); have G1 := Lib.hid g1; have G3 := Lib.hid g3; have G5 := Lib.hid g5; have HV1 := Lib.hid hv1; have HV2 := Lib.hid hv2; clear o g n g1 g3 g4 g5 hv1 hv2 HU1 HU2 HX0 HY0) | (gi_at_builtin; refine wpListIn_append_tag _ rfl _ _ 28 rfl w.heap.size 22 i0 (.slice none 0 0) 1 24 Tryz.underlying28 hi hz0 hz1 hz2 rfl (by decide) _ _ _ rfl (HV1.out.alloc _) ⟨w3.heap.size, 0, none⟩ 1 1 [.slice ya ys.length yc] rfl rfl (cell_one_new _ _ _) (by simp [Value.oneCell']) (by simp only [maxLen]; omega) (by omega) (by simp; omega) ?_; intro v' w4 o g n; obtain ⟨k1, k2, k3, _, k5⟩ := OwnRows.app HV1.out HV2.out G1.out G3.out.symm HY1.out (by omega) o g n; have RN := Lib.hid (R2.out.next HX.out HSX.out HY.out HSY.out k2 k1 k3.symm (G5.out.trans k5)); clear o g n k1 k2 k3 k5 HV1 HV2 HY1 G1 G3 G5))
                  go_roundw
                  case rel => exact ⟨i + 1, _, _, by go_num, by simp [List.any_append, HBB.out, List.eq_nil_of_length_eq_zero HXE.out], RN.out⟩
                  case measure => simp [intOf]; omega
                · have t5 : ((xs.length : Int) == 0) = false := beq_eq_false_iff_ne.2 (by omega)
                  have HXE := Lib.hid hxe
                  clear hxe
                  have HBB := Lib.hid hbb
                  have HSXc := Lib.hid HSX.out
                  have HSYc := Lib.hid HSY.out
                  clear hbb
                  gi_wp2_with (first | (refine ⟨trivial, ?_⟩; gi_at_call 17; refine (split_ok HXL.out HSXc.out _ _).mono ?_; clear HSXc; rintro e w1 ⟨xa, xc, rfl, ho1, hb1⟩; dsimp only; have c2 := cell_later HQ.out (R.out.bel.trans (hb1.mono R.out.bel.size)); unfold strV at c2; have HO1 := Lib.hid ho1; have R1 := Lib.hid (R.out.later hb1); clear ho1 hb1) | (refine ⟨trivial, ?_⟩; gi_at_call 17; refine (split_ok HYL.out HSYc.out _ _).mono ?_; clear HSYc c2; rintro e w2 ⟨ya, yc, rfl, ho2, hb2⟩; dsimp only; have hx0 := ownsRow_mono (HO1.out.later hb2) (Nat.zero_le _); have HX0 := Lib.hid hx0; have hy0 := ownsRow_mono ho2 (Nat.zero_le _); have HY0 := Lib.hid hy0; have R2 := Lib.hid (R1.out.later hb2); have hsz2 := R2.out.bel.size; have hvl := R2.out.hv; have hll := R2.out.hl; obtain ⟨us, hu1, hu2⟩ := R2.out.ru; have HU1 := Lib.hid hu1; have HU2 := Lib.hid hu2; clear ho2 hb2 HO1 R1 hx0 hy0 hu1 hu2) | (gi_at_builtin; refine wpListIn_append_tag _ rfl _ _ 28 rfl w.heap.size 22 i0 (.slice none 0 0) 1 24 Tryz.underlying28 hi hz0 hz1 hz2 rfl (by decide) _ _ _ rfl (HU1.out.alloc _) ⟨w2.heap.size, 0, none⟩ 1 1 [.slice xa xs.length xc] rfl rfl (cell_one_new _ _ _) (by simp [Value.oneCell']) (by simp only [maxLen]; omega) (by omega) (by simp; omega) ?_; intro u' w3 o g n; obtain ⟨g1, ⟨vu, hv1, hv2⟩, g3, g4, g5⟩ := OwnRows.app HU1.out HU2.out R2.out.rv R2.out.ap HX0.out R2.out.bel.size o g n; have hsz3 := g5.size; have HY1 := Lib.hid (g4 _ _ HY0.out); have G1 := Lib.hid g1; have G3 := Lib.hid g3; have G5 := Lib.hid g5; have HV1 := Lib.hid hv1; have HV2 := Lib.hid hv2; clear o g n g1 g3 g4 g5 hv1 hv2 HU1 HU2 HX0 HY0) | (gi_at_builtin; refine wpListIn_append_tag _ rfl _ _ 28 rfl w.heap.size 22 i0 (.slice none 0 0) 1 24 Tryz.underlying28 hi hz0 hz1 hz2 rfl (by decide) _ _ _ rfl (HV1.out.alloc _) ⟨w3.heap.size, 0, none⟩ 1 1 [.slice ya ys.length yc] rfl rfl (cell_one_new _ _ _) (by simp [Value.oneCell']) (by simp only [maxLen]; omega) (by omega) (by simp; omega) ?_; intro v' w4 o g n; obtain ⟨k1, k2, k3, _, k5⟩ := OwnRows.app HV1.out HV2.out G1.out G3.out.symm HY1.out (by omega) o g n; have RN := Lib.hid (R2.out.next HX.out HSX.out HY.out HSY.out k2 k1 k3.symm (G5.out.trans k5)); clear o g n k1 k2 k3 k5 HV1 HV2 HY1 G1 G3 G5))
                  go_roundw
                  case rel => exact ⟨i + 1, _, _, by go_num, by simp [List.any_append, HBB.out, show ¬ xs = [] from fun e => HXE.out (by rw [e]; rfl)], RN.out⟩
                  case measure => simp [intOf]; omega
              | true =>
                have HBB := Lib.hid hbb
                have HSXc := Lib.hid HSX.out
                have HSYc := Lib.hid HSY.out
                clear hbb
                gi_wp2_with (first | (refine ⟨trivial, ?_⟩; gi_at_call 17; refine (split_ok HXL.out HSXc.out _ _).mono ?_; clear HSXc; rintro e w1 ⟨xa, xc, rfl, ho1, hb1⟩; dsimp only; have c2 := cell_later HQ.out (R.out.bel.trans (hb1.mono R.out.bel.size)); unfold strV at c2; have HO1 := Lib.hid ho1; have R1 := Lib.hid (R.out.later hb1); clear ho1 hb1) | (refine ⟨trivial, ?_⟩; gi_at_call 17; refine (split_ok HYL.out HSYc.out _ _).mono ?_; clear HSYc c2; rintro e w2 ⟨ya, yc, rfl, ho2, hb2⟩; dsimp only; have hx0 := ownsRow_mono (HO1.out.later hb2) (Nat.zero_le _); have HX0 := Lib.hid hx0; have hy0 := ownsRow_mono ho2 (Nat.zero_le _); have HY0 := Lib.hid hy0; have R2 := Lib.hid (R1.out.later hb2); have hsz2 := R2.out.bel.size; have hvl := R2.out.hv; have hll := R2.out.hl; obtain ⟨us, hu1, hu2⟩ := R2.out.ru; have HU1 := Lib.hid hu1; have HU2 := Lib.hid hu2; clear ho2 hb2 HO1 R1 hx0 hy0 hu1 hu2) | (gi_at_builtin; refine wpListIn_append_tag _ rfl _ _ 28 rfl w.heap.size 22 i0 (.slice none 0 0) 1 24 Tryz.underlying28 hi hz0 hz1 hz2 rfl (by decide) _ _ _ rfl (HU1.out.alloc _) ⟨w2.heap.size, 0, none⟩ 1 1 [.slice xa xs.length xc] rfl rfl (cell_one_new _ _ _) (by simp [Value.oneCell']) (by simp only [maxLen]; omega) (by omega) (by simp; omega) ?_; intro u' w3 o g n; obtain ⟨g1, ⟨vu, hv1, hv2⟩, g3, g4, g5⟩ := OwnRows.app HU1.out HU2.out R2.out.rv R2.out.ap HX0.out R2.out.bel.size o g n; have hsz3 := g5.size; have HY1 := Lib.hid (g4 _ _ HY0.out); have G1 := Lib.hid g1; have G3 := Lib.hid g3; have G5 := Lib.hid g5; have HV1 := Lib.hid hv1; have HV2 := Lib.hid hv2; clear o g n g1 g3 g4 g5 hv1 hv2 HU1 HU2 HX0 HY0) | (gi_at_builtin; refine wpListIn_append_tag _ rfl _ _ 28 rfl w.heap.size 22 i0 (.slice none 0 0) 1 24 Tryz.underlying28 hi hz0 hz1 hz2 rfl (by decide) _ _ _ rfl (HV1.out.alloc _) ⟨w3.heap.size, 0, none⟩ 1 1 [.slice ya ys.length yc] rfl rfl (cell_one_new _ _ _) (by simp [Value.oneCell']) (by simp only [maxLen]; omega) (by omega) (by simp; omega) ?_; intro v' w4 o g n; obtain ⟨k1, k2, k3, _, k5⟩ := OwnRows.app HV1.out HV2.out G1.out G3.out.symm HY1.out (by omega) o g n; have RN := Lib.hid (R2.out.next HX.out HSX.out HY.out HSY.out k2 k1 k3.symm (G5.out.trans k5)); clear o g n k1 k2 k3 k5 HV1 HV2 HY1 G1 G3 G5))
                go_roundw
                case rel => exact ⟨i + 1, _, _, by go_num, by simp [List.any_append, HBB.out, Bool.true_or], RN.out⟩
                case measure => simp [intOf]; omega
        · have t1 : ¬ (i : Int) < (names.length : Int) := by omega
          obtain ⟨hs1, hs2⟩ := hR.done (by omega) HL.out
          have HS1 := Lib.hid hs1
          have HS2 := Lib.hid hs2
          clear hs1 hs2 hR
          cases hbb : vs.any (·.isEmpty) with
          | true =>
            have HE := Lib.hid (rnd_bare HL.out H0.out HS1.out HS2.out hbb)
            clear hbb
            gi_wp2
            refine ⟨_, results_tmp2 rfl _ _ _, ?_⟩
            exact RoundsR.error HE.out R.out.bel
          | false =>
            have HE := Lib.hid (rnd_ok HL.out H0.out HS1.out HS2.out hbb)
            have HN := Lib.hid (any_ne hbb)
            clear hbb
            have hvl := R.out.hv
            have hll := R.out.hl
            gi_wp2_with (refine ⟨trivial, ?_⟩; gi_at_call 18; refine (callsIn_wide.2 (mk_rounds _ _ _ vs ls (R.out.ru.later ((Below.refl _ w0).alloc (Nat.le_refl _) _)).rows (R.out.rv.later ((Below.refl _ w0).alloc (Nat.le_refl _) _)).rows (by omega) (by omega) HN.out (splAll_len HB1.out HS1.out) (splAll_len HB2.out HS2.out))).mono ?_; clear HN; rintro e w1 ⟨rfl, m1, m2, m3, m4⟩; dsimp only; simp only [World.size_alloc] at m1 m2 m3 m4; have M1 := Lib.hid m1; have M2 := Lib.hid m2; have M3 := Lib.hid m3; have M4 := Lib.hid m4; clear m1 m2 m3 m4)
            have hsz1 : w0.heap.size + 4 ≤ w1.heap.size := (Array.getElem?_eq_some_iff.1 M3.out).1
            have hbx1 : w1.heap[w0.heap.size]? = some (.cells #[.slice none 0 0] 28 (0, 0)) := (M4.out.block _ (by omega)).trans (heap_alloc_new _ _)
            have hbw : Below w0.heap.size w0 w1 := ((Below.refl w0.heap.size w0).alloc (Nat.le_refl _) _).trans (M4.out.mono (by omega))
            have hru1 : OwnRows w1 0 u6 vs := (R.out.ru.later hbw).mono (Nat.zero_le _)
            have hrv1 : OwnRows w1 0 u7 ls := (R.out.rv.later hbw).mono (Nat.zero_le _)
            have HBX1 := Lib.hid hbx1
            have HRU1 := Lib.hid hru1
            have HRV1 := Lib.hid hrv1
            have HBW := Lib.hid (R.out.bel.trans (hbw.mono R.out.bel.size))
            have hws := R.out.bel.size
            clear hbx1 hbw hru1 hrv1
            have eg := enters_of (P := Tryz.prog) (f := 29) Tryz.func29 (by kernel_rfl) rfl
            refine range_enter rfl (by omega) (gf := 29) (lb := #[.pointer (some ⟨w0.heap.size + 1 + 2, 0, none⟩), .pointer (some ⟨w0.heap.size + 1 + 1, 0, none⟩), .pointer (some ⟨w0.heap.size + 1, 0, none⟩)]) rfl trivial eg ?_
            intro fn hfn
            generalize hRec : recOf fn _ #[76] _ _ _ LoopState.ready none = rec
            refine (rounds_all 7 (by omega) u6 u7 vs ls (by omega) (by omega) (splAll_len HB1.out HS1.out) (splAll_len HB2.out HS2.out) (most vs ls) (most_le (splAll_len HB1.out HS1.out) (splAll_len HB2.out HS2.out)) (fun k W => RJ w1 w0.heap.size rec (fun k => rowAll k vs ls) k W) (w1.heap.size + 1) (w0.heap.size + 1 + 2) (w0.heap.size + 1 + 1) (w0.heap.size + 1) ?hJM ?hJB ?hY _ ?h0).mono ?post
            case hJM =>
              intro k W h
              exact ⟨(h.oth _ (by omega) (by omega)).trans M1.out, (h.oth _ (by omega) (by omega)).trans M2.out, (h.oth _ (by omega) (by omega)).trans M3.out, (h.rows ⟨_, HBX1.out⟩ HRU1.out).rows, (h.rows ⟨_, HBX1.out⟩ HRV1.out).rows⟩
            case hJB =>
              intro k W W' h hb
              exact h.next hb
            case h0 =>
              exact {
                os := ((Below.refl 0 w1).alloc (Nat.zero_le _) _).alloc (Nat.zero_le _) _
                oth := fun j hj _ => by rw [heap_alloc_old _ _ (by simp; omega), heap_alloc_old _ _ hj]
                rec' := by have h := heap_alloc_new (w1.alloc (.deferred (some []))) (.loop rec); rw [World.size_alloc] at h; exact h
                dfr := by rw [heap_alloc_old _ _ (by simp)]; exact heap_alloc_new w1 _
                box := ⟨_, [], by rw [heap_alloc_old _ _ (by simp; omega), heap_alloc_old _ _ (by omega)]; exact HBX1.out, World.ownsRow_nil _ _ _ _, fun i hi => by omega⟩ }
            case hY =>
              intro k W sv hJ hk hrow
              have hl := hJ.rec'
              rw [← hRec] at hl
              obtain ⟨v, us, hb1, hb2, hb3⟩ := hJ.box
              refine range_round (v := sv) (R := fun W' => RJ w1 w0.heap.size rec (fun k => rowAll k vs ls) (k + 1) W') (a₁ := ?a1) rfl trivial hl ?assign ?body
              case assign =>
                intro K hK
                gi_wp2
                exact hK
              case body =>
                have hlt : w1.heap.size + 1 < W.heap.size := (Array.getElem?_eq_some_iff.1 hl).1
                generalize hbz : recOf fn _ #[76] _ _ _ LoopState.busy none = busy
                generalize hWb : W.putObj (w1.heap.size + 1) (.loop busy) = Wb
                have hoth : ∀ j, j ≠ w1.heap.size + 1 → Wb.heap[j]? = W.heap[j]? := fun j hj => by rw [← hWb]; exact World.putObj_heap_other hj
                have c0 : Wb.cell? ⟨w0.heap.size, 0, none⟩ = some v := Boxed.cell (t := 28) ((hoth _ (by omega)).trans hb1)
                have hrowb : Wb.ownsRow w1.heap.size 22 1 v k us := ownsRow_keep hb2 fun j c _ hc => hoth j (by rintro rfl; rw [hl] at hc; cases hc)
                have hszb : Hid (Wb.heap.size = W.heap.size) := Lib.hid (by rw [← hWb]; simp)
                have hszc : w1.heap.size ≤ Wb.heap.size := by rw [hszb.out]; omega
                have hkm : k ≤ 2000 := Nat.le_trans (Nat.le_of_lt hk) (most_le (splAll_len HB1.out HS1.out) (splAll_len HB2.out HS2.out))
                have HROWB := Lib.hid hrowb
                have HBX := Lib.hid ((hoth _ (by omega)).trans hb1)
                have HNE : Hid (some w0.heap.size ≠ v.ownBlock) := Lib.hid fun e => by obtain ⟨c, hc⟩ := ownsRow_blk hb2 e.symm; rw [hb1] at hc; cases hc
                have HJ := Lib.hid hJ
                have HWB := Lib.hid hWb
                have HX := Lib.hid (And.intro hb1 (And.intro hb2 hb3))
                have HROW := Lib.hid hrow
                obtain ⟨ra, rc, rfl⟩ := ownsRow_form hrow
                clear hrowb hJ hWb hb1 hb2 hb3 hrow hoth
                gi_wp2_with (gi_at_builtin; refine (Hid.out (p := _) ?_))
                refine Lib.hid ?_
                refine wpListIn_append_own _ rfl _ _ 28 rfl w1.heap.size 22 i0 (.slice none 0 0) 1 24 Tryz.underlying28 hi hz0 hz1 hz2 rfl (by decide) _ _ _ rfl (World.ownsRow.alloc HROWB.out _) ⟨Wb.heap.size, 0, none⟩ 1 1 [.slice ra (rowAll k vs ls).length rc] rfl rfl (cell_one_new _ _ _) (by simp [Value.oneCell']) (by simp only [maxLen]; omega) (by omega) (by simp; omega) ?_
                intro v' w5 hown' hgrow _
                have hbx5 : w5.heap[w0.heap.size]? = some (.cells #[v] 28 (0, 0)) := (hgrow.block _ (by rw [World.size_alloc]; have := hszb.out; omega) HNE.out).trans ((heap_alloc_old _ _ (by have := hszb.out; omega)).trans HBX.out)
                have c5 : w5.cell? ⟨w0.heap.size, 0, none⟩ = some v := Boxed.cell (t := 28) hbx5
                have f5 : w5.frozen? ⟨w0.heap.size, 0, none⟩ = false := Boxed.frozen (t := 28) hbx5
                obtain ⟨va, vc, rfl⟩ := ownsRow_form hown'
                have HO5 := Lib.hid hown'
                have HG5 := Lib.hid hgrow
                clear hown' hgrow hbx5
                gi_wp2
                have h9 := RJ.step (busy := busy) HJ.out (by omega) HX.out.1 HX.out.2.1 HX.out.2.2 HROW.out (by have h := HG5.out; rw [← HWB.out] at h; exact h) HO5.out
                exact h9
            case post =>
              rintro e W ⟨⟨v, rfl⟩, hJ⟩
              have hl := hJ.rec'
              have hel := run_endLoop (P := Tryz.prog) hl (by rw [← hRec]; simp)
              have hpend : rec.pending = none := by rw [← hRec]
              refine ⟨_, _, hel, ?_⟩
              rw [hpend]
              dsimp only
              generalize hW0 : W.putObj (w1.heap.size + 1) (Obj.loop _) = W0
              obtain ⟨ov, c0, hd0, hfin, hbel⟩ := RJ.last hJ HBW.out hws hW0
              have HF := Lib.hid (RoundsR.ok HE.out hfin hbel)
              have HD := Lib.hid hd0
              clear hJ hl hel hpend hW0 hd0 hfin hbel
              gi_wp2
              refine ⟨by simp, .inl ⟨_, _, rfl, run_takeDeferred HD.out, ?_⟩⟩
              refine ⟨_, results_tmp2 rfl _ _ _, ?_⟩
              exact HF.out
  · have e1 : ((names.length : Int) != (lists.length : Int)) = true := bne_iff_ne.2 (by omega)
    have HE := Lib.hid (show rnd names lists = .error 1 by unfold rnd; rw [if_pos (.inl hlen)])
    clear hlen
    gi_wp2
    refine ⟨_, results_tmp2 rfl _ _ _, ?_⟩
    exact RoundsR.error HE.out (Below.refl _ _)
end Go.Proofs.YtjibdoofogmkcaaGreatDoor
end
section
namespace Go.Proofs.YtjibdoofogmkcaaGreatDoor
open Go.RowKit Go.Shelf
open Go.ChangeShapes Go.WideShapes Go.ChangeAt
def RowsA (W : World) (m : Nat) (u av : Value) (vs : List (List (List UInt8))) : Prop :=
  ∃ us, W.ownsRow m 22 1 u vs.length us ∧ ∀ (i : Nat) (l : List (List UInt8)), vs[i]? = some l → ∃ z, us[i]? = some z ∧ OwnTx W 0 z l ∧ Apart av z
theorem RowsA.later {W W' : World} {m : Nat} {u av : Value} {vs : List (List (List UInt8))} (h : RowsA W m u av vs) (hb : Below W.heap.size W W') : RowsA W' m u av vs := by
  obtain ⟨us, h1, h2⟩ := h
  refine ⟨us, ownsRow_below h1 hb, fun i l hi => ?_⟩
  obtain ⟨z, h3, h4, h5⟩ := h2 i l hi
  exact ⟨z, h3, h4.later hb, h5⟩
theorem RowsA.own {W : World} {m : Nat} {u av : Value} {vs : List (List (List UInt8))} (h : RowsA W m u av vs) : OwnRows W m u vs := by
  obtain ⟨us, h1, h2⟩ := h
  refine ⟨us, h1, fun i l hi => ?_⟩
  obtain ⟨z, h3, h4, _⟩ := h2 i l hi
  exact ⟨z, h3, h4⟩
theorem RowsA.nil (W : World) (m : Nat) (av : Value) : RowsA W m (.slice none 0 0) av [] := ⟨[], World.ownsRow_nil W m 22 1, fun i l hi => by simp at hi⟩
structure AI (W : World) (m : Nat) (u v av : Value) (vs ls : List (List (List UInt8))) (al : List (List UInt8)) : Prop where
  ru : RowsA W m u av vs
  rv : RowsA W m v av ls
  ra : OwnTx W m av al
  ap : Apart u v
  sz : m ≤ W.heap.size
theorem AI.later {W W' : World} {m : Nat} {u v av : Value} {vs ls : List (List (List UInt8))} {al : List (List UInt8)} (h : AI W m u v av vs ls al) (hb : Below W.heap.size W W') : AI W' m u v av vs ls al :=
  ⟨h.ru.later hb, h.rv.later hb, h.ra.later hb, h.ap, by have := hb.size; have := h.sz; omega⟩
theorem AI.swap {W : World} {m : Nat} {u v av : Value} {vs ls : List (List (List UInt8))} {al : List (List UInt8)} (h : AI W m u v av vs ls al) : AI W m v u av ls vs al := ⟨h.rv, h.ru, h.ra, h.ap.symm, h.sz⟩
theorem AI.app {W W2 : World} {m : Nat} {u u' v av x : Value} {vs ls : List (List (List UInt8))} {al l : List (List UInt8)} {us : List Value} {tmp : Obj} (h : AI W m u v av vs ls al)
    (h1 : W.ownsRow m 22 1 u vs.length us) (h2 : ∀ (i : Nat) (l : List (List UInt8)), vs[i]? = some l → ∃ z, us[i]? = some z ∧ OwnTx W 0 z l ∧ Apart av z)
    (hx : OwnTx W 0 x l) (hxa : Apart av x) (o : W2.ownsRow m 22 1 u' (vs.length + 1) (us ++ [x])) (g : (W.alloc tmp).grownBy W2 u.ownBlock) (n : SameOrNew (W.alloc tmp) u u') :
    AI W2 m u' v av (vs ++ [l]) ls al ∧ (∀ y t, OwnTx W 0 y t → OwnTx W2 0 y t) ∧ Below m W W2 := by
  obtain ⟨k1, k2, k3, k4, k5⟩ := OwnRows.app h1 (fun i l hi => by obtain ⟨z, a, b, _⟩ := h2 i l hi; exact ⟨z, a, b⟩) h.rv.own h.ap hx h.sz o g n
  obtain ⟨vu, hv1, hv2⟩ := h.rv
  obtain ⟨j1, j2⟩ := row_apart hv1 h.ap (by simp) (fun k hk => heap_alloc_old _ _ hk) g n
  have hul := ownsRow_len h1
  have hra : OwnTx W2 m av al := by
    refine ownsRow_agree h.ra fun k hk => ?_
    have hlt := (h.ra.lt k hk).2
    rw [g.block k (by simp; omega) (fun e => apart_types h1 h.ra (by decide) k e.symm hk), heap_alloc_old W _ hlt]
  refine ⟨⟨⟨us ++ [x], by simpa using o, fun i t hi => ?_⟩, ⟨vu, j1, fun i t hi => ?_⟩, hra, j2, by have := k5.size; have := h.sz; omega⟩, k4, k5⟩
  · by_cases hlt : i < vs.length
    · rw [List.getElem?_append_left hlt] at hi
      obtain ⟨z, a, b, c⟩ := h2 i t hi
      exact ⟨z, by rw [List.getElem?_append_left (by omega)]; exact a, k4 _ _ b, c⟩
    · have hil : i = vs.length := by
        have := (List.getElem?_eq_some_iff.1 hi).1
        simp at this; omega
      subst hil
      rw [List.getElem?_append_right (Nat.le_refl _)] at hi
      simp at hi
      subst hi
      exact ⟨x, by rw [List.getElem?_append_right (by omega)]; simp [hul], k4 _ _ hx, hxa⟩
  · obtain ⟨z, a, b, c⟩ := hv2 i t hi
    exact ⟨z, a, k4 _ _ b, c⟩
theorem AI.all {W W2 : World} {m : Nat} {u v av av' : Value} {vs ls : List (List (List UInt8))} {al al' : List (List UInt8)} (h : AI W m u v av vs ls al) (o : OwnTx W2 m av' al') (g : W.grownBy W2 av.ownBlock) (n : SameOrNew W av av') : AI W2 m u v av' vs ls al' ∧ Below m W W2 := by
  have keep : ∀ {u : Value} {vs : List (List (List UInt8))}, RowsA W m u av vs → RowsA W2 m u av' vs := by
    rintro u vs ⟨us, h1, h2⟩
    refine ⟨us, ownsRow_agree h1 fun k hk => g.block k (h1.lt k hk).2 (fun e => apart_types h1 h.ra (by decide) k hk e.symm), fun i t hi => ?_⟩
    obtain ⟨z, a, b, c⟩ := h2 i t hi
    obtain ⟨d1, d2⟩ := apart_grown b c (Nat.le_refl _) (fun _ _ => rfl) g n
    exact ⟨z, a, d1, d2⟩
  have hb : Below m W W2 := (Below.refl m W).grown g h.sz (fun k hk => (h.ra.lt k hk).1)
  exact ⟨⟨keep h.ru, keep h.rv, o, h.ap, by have := hb.size; have := h.sz; omega⟩, hb⟩
theorem wpList_append_row {P : Program} {w : World} {ops : Array Oper} {rest : List Oper} {o : Oper} {a : Act} {Q : Exit → Act → World → Prop} (hgd : o.guard = none) (s x : Operand)
    (ho : o.op = .call { callee := .builtin .append, args := #[s, x], argTypes := #[22, 22] })
    (m : Nat) (i : TypeInfo) (z : Value) (ht : P.underlying 22 = some (.slice 9)) (hi : P.info? 9 = some i) (hz : i.zero = some z)
    (hsize : i.size = 1) (hby : i.bytes = 16) (hzs : z.cells.size = 1)
    (v xv : Value) (l xs : List (List UInt8)) (hs : a.eval s = v) (hx : a.eval x = xv) (hown : OwnTx w m v l) (hxo : OwnTx w 0 xv xs) (hn1 : l.length ≤ 1000000) (hn2 : xs.length ≤ 1000) (hm : m ≤ w.heap.size)
    (h : ∀ v' w', OwnTx w' m v' (l ++ xs) → w.grownBy w' v.ownBlock → SameOrNew w v v' → wpList P ops Q rest (a.put o.dst v') w') : wpList P ops Q (o :: rest) a w := by
  obtain ⟨xa, xc, rfl⟩ := ownsRow_form hxo
  rcases hxo.2 with ⟨e1, e2⟩ | ⟨g, cap, cur, e1, _, hg, hnc, hcm, hcs, htake⟩
  · have hxs : xs = [] := List.eq_nil_of_length_eq_zero e2
    subst hxs
    rw [e1] at hx
    refine wpList_plain hgd fun K hK => ?_
    have hr := run_append_owned_none (w := w) (P := P) m 22 o.type 9 i 1 ht hi v l.length (l.map strV) hown
    unfold Oper.wp execOp
    simp only [ho, resolve, invoke, builtin, Sem.run_bind, Sem.run_pure, Result.andThen_ok, List.map_toArray, List.map_cons, List.map_nil, hs, hx, hr]
    exact hK _ _ (h v w (by simpa using hown) ⟨rfl, rfl, rfl, Nat.le_refl _, fun _ _ _ => rfl⟩ (.inl rfl))
  · simp only [Value.slice.injEq] at e1
    obtain ⟨rfl, _, rfl⟩ := e1
    refine wpList_append_tag hgd s x 22 ho m 9 i z 1 16 ht hi hz hsize hby hzs (by decide) v l.length (l.map strV) hs hown ⟨g, 0, none⟩ xs.length xc (xs.map strV) hx (by simp) (fun j u hu => hxo.cells (g := g) rfl j u hu) (by intro u hu; simp [strV] at hu; obtain ⟨_, _, rfl⟩ := hu; simp [Value.oneCell']) (by simp only [maxLen]; omega) (by omega) hm ?_
    intro v' w' o' g' n'
    exact h v' w' (by unfold OwnTx; simpa using o') g' n'
structure SI (w : World) (names lists : List (List UInt8)) (i : Nat) (u v av : Value) (vs ls : List (List (List UInt8))) (W : World) : Prop where
  hi : i ≤ names.length
  hv : vs.length = i
  hl : ls.length = i
  en : splAll names = (splAll (names.drop i)).map (vs ++ ·)
  el : splAll lists = (splAll (lists.drop i)).map (ls ++ ·)
  ai : AI W w.heap.size u v av vs ls vs.flatten
  al : vs.flatten.length ≤ i * 1000
  bel : Below w.heap.size w W
theorem SI.next {w W W' : World} {names lists : List (List UInt8)} {i : Nat} {u v av u' v' av' : Value} {vs ls : List (List (List UInt8))} (h : SI w names lists i u v av vs ls W) {x y : List UInt8} {xs ys : List (List UInt8)} (hx : names[i]? = some x) (hsx : spl x = some xs) (hxl : xs.length ≤ 1000) (hy : lists[i]? = some y) (hsy : spl y = some ys)
    (h1 : AI W' w.heap.size u' v' av' (vs ++ [xs]) (ls ++ [ys]) (vs.flatten ++ xs)) (hb : Below w.heap.size W W') : SI w names lists (i + 1) u' v' av' (vs ++ [xs]) (ls ++ [ys]) W' :=
  ⟨by have := (List.getElem?_eq_some_iff.1 hx).1; omega, by simp [h.hv], by simp [h.hl], splAll_good hx hsx vs h.en, splAll_good hy hsy ls h.el, by simpa using h1, by have := h.al; rw [List.flatten_append, List.length_append]; simp only [List.flatten_cons, List.flatten_nil, List.append_nil]; omega, h.bel.trans hb⟩
theorem SI.bad1 {w W : World} {names lists : List (List UInt8)} {i : Nat} {u v av : Value} {vs ls : List (List (List UInt8))} (h : SI w names lists i u v av vs ls W) (hl : names.length = lists.length) {x : List UInt8} (hx : names[i]? = some x) (hs : spl x = none) (h0 : ¬ names.length = 0) : rnd names lists = .error 2 :=
  rnd_bad1 hl h0 (splAll_bad hx hs _ h.en)
theorem SI.bad2 {w W : World} {names lists : List (List UInt8)} {i : Nat} {u v av : Value} {vs ls : List (List (List UInt8))} (h : SI w names lists i u v av vs ls W) (hl : names.length = lists.length) {y : List UInt8} (hy : lists[i]? = some y) (hs : spl y = none) (h0 : ¬ names.length = 0) : rnd names lists = .error 2 :=
  rnd_bad2 hl h0 (splAll_bad hy hs _ h.el)
theorem SI.done {w W : World} {names lists : List (List UInt8)} {u v av : Value} {vs ls : List (List (List UInt8))} {i : Nat} (h : SI w names lists i u v av vs ls W) (hi : i = names.length) (hl : names.length = lists.length) : splAll names = some vs ∧ splAll lists = some ls := by
  subst hi
  refine ⟨?_, ?_⟩
  · rw [h.en, List.drop_length]; simp [splAll]
  · rw [h.el, hl, List.drop_length]; simp [splAll]
def RRoundsR (w : World) (names lists : List (List UInt8)) (e : Ending) (w' : World) : Prop :=
  (∀ rs, rnd names lists = .ok rs → ∃ v av s, e = .returned (.tuple #[v, av, s, .int .i64 0]) ∧ OwnRows w' w.heap.size v rs) ∧
  (∀ k, rnd names lists = .error k → ∃ av s, e = .returned (.tuple #[.slice none 0 0, av, s, .int .i64 k])) ∧ Below w.heap.size w w'
theorem RRoundsR.error {w w' : World} {names lists : List (List UInt8)} {k : Int} {av s : Value} (h : rnd names lists = .error k) (hb : Below w.heap.size w w') : RRoundsR w names lists (.returned (.tuple #[.slice none 0 0, av, s, .int .i64 k])) w' :=
  ⟨fun rs h' => by (rw [h] at h'; cases h'), fun k' h' => by (rw [h] at h'; cases h'; exact ⟨_, _, rfl⟩), hb⟩
theorem RRoundsR.ok {w w' : World} {names lists : List (List UInt8)} {rs : List (List (List UInt8))} {v av s : Value} (h : rnd names lists = .ok rs) (hv : OwnRows w' w.heap.size v rs) (hb : Below w.heap.size w w') : RRoundsR w names lists (.returned (.tuple #[v, av, s, .int .i64 0])) w' :=
  ⟨fun rs' h' => by (rw [h] at h'; cases h'; exact ⟨v, _, _, rfl, hv⟩), fun k h' => by (rw [h] at h'; cases h'), hb⟩
theorem rsplit_ok {x : List UInt8} {xs : List (List UInt8)} (hs : x.length ≤ 1000) (h : spl x = some xs) (w : World) :
    Calls Tryz.prog 84 #[.string ⟨x.toArray⟩] w fun e w' => ∃ a c, e = .returned (.tuple #[.slice a xs.length c, .int .i64 0, .int .i64 0]) ∧ OwnTx w' w.heap.size (.slice a xs.length c) xs ∧ Below w.heap.size w w' := by
  refine (rsplit_any ⟨x.toArray⟩ (by simpa [ByteArray.size] using hs) w).mono ?_
  rintro e w' ⟨h1, _, h3⟩
  obtain ⟨sv, rfl, h4⟩ := h1 xs h
  obtain ⟨a, c, rfl⟩ := ownsRow_form h4
  exact ⟨a, c, rfl, h4, h3⟩
theorem rsplit_bad {x : List UInt8} (hs : x.length ≤ 1000) (h : spl x = none) (w : World) :
    Calls Tryz.prog 84 #[.string ⟨x.toArray⟩] w fun e w' => ∃ k : Int, e = .returned (.tuple #[.slice none 0 0, .int .i64 k, .int .i64 2]) ∧ Below w.heap.size w w' := by
  refine (rsplit_any ⟨x.toArray⟩ (by simpa [ByteArray.size] using hs) w).mono ?_
  rintro e w' ⟨_, h2, h3⟩
  obtain ⟨k, rfl⟩ := h2 h
  exact ⟨k, rfl, h3⟩
theorem apart_newer {W W' : World} {m : Nat} {u x : Value} {al l : List (List UInt8)} (h : OwnTx W m u al) (hx : OwnTx W' W.heap.size x l) : Apart u x := fun k h1 h2 => by
  have := (h.lt k h1).2
  have := (hx.lt k h2).1
  omega
theorem results_tmp4 {fn : Func} {t u v x : Tmp} (h : fn.results = #[.tmp t, .tmp u, .tmp v, .tmp x]) (tmps : Array Value) (P : Program) (w : World) :
    (results fn tmps).run P w = .ok (.tuple #[tmps.getD t undef, tmps.getD u undef, tmps.getD v undef, tmps.getD x undef]) w := by
  simp [results, h, go_sem]
end Go.Proofs.YtjibdoofogmkcaaGreatDoor
end
