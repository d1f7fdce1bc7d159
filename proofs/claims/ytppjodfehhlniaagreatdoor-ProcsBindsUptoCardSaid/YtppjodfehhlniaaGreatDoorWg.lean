/-
  The document's Unescape, case by case. Conditions: none.
-/
import Derived.Test.YtppjodfehhlniaaGreatDoorWkToV2
set_option linter.unusedVariables false
set_option linter.unusedSimpArgs false
set_option linter.unusedSectionVars false
set_option linter.deprecated false
section
namespace Go.Proofs.YtppjodfehhlniaaGreatDoor
open Go.ChangeShapes Go.WideShapes Go.ChangeAt Go.RowKit
set_option maxRecDepth 100000
theorem zpf (t : ByteArray) (h1 : 1 < t.size) : (t.extract 1 2).size = 1 := by rw [ByteArray.size_extract]; omega
theorem zvB (t : ByteArray) (h1 : 1 < t.size) : ub (t.extract 1 2) 0 = ub t 1 := by
 have a := zak (t.extract 1 2) (show 0 < (t.extract 1 2).size by rw [zpf t h1]; decide)
 rw [List.drop_zero, ze0, zak t h1] at a
 exact (List.cons.inj a).1.symm
theorem zeV (t s : ByteArray) (hs : L s = [97, 98, 102, 110, 114, 116, 118]) (h1 : 1 < t.size) (z : Int) (hz : fstV (fst [97, 98, 102, 110, 114, 116, 118] (ub t 1)) = z) (w : World) :
  Calls Tryz.prog 104 #[.string (t.extract 1 2), .string s, .int .i64 0] w fun e w' => e = .returned (.int .i64 z) ∧ w = w' := by
 have h := ziS (t.extract 1 2) s (zpf t h1) (by have := za7 s; rw [hs] at this; simp at this; omega) w
 rw [hs, zvB t h1, hz] at h
 exact h
set_option maxHeartbeats 1000000 in
theorem zlb (t : ByteArray) (hs : t.size ≤ 1000000) (w : World) (h92 : byte t 0 = 92) (h1 : 1 < t.size) (k : Nat) (hk : k < 7) (hf : fst [97, 98, 102, 110, 114, 116, 118] (ub t 1) = some k) (hl : ltr (ub t 1) = ([7, 8, 12, 10, 13, 9, 11] : List UInt8)[k]?) :
  Calls Tryz.prog 338 #[.string t] w fun e w' => e = uneV (L t) ∧ Below w.heap.size w w' := by
 have hby := zam t
 have hbl := zaA t 1
 have t2 : (0 : Int) < (t.size : Int) := by omega
 have t3 : (1 : Int) < (t.size : Int) := by omega
 have t4 : ((t.size : Int) == 1) = false := by simp; omega
 have t5 := zaI t (by omega)
 have t6 : (2 : Int) ≤ (t.size : Int) := by omega
 have HU := Lib.hid (zdo h92 h1)
 have HL := Lib.hid hl
 have HZ := Lib.hid (show fstV (fst [97, 98, 102, 110, 114, 116, 118] (ub t 1)) = (k : Int) by rw [hf]; rfl)
 have t7 : (k : Int) + 1 ≤ 7 := by omega
 have t8 : (0 : Int) ≤ (k : Int) := by omega
 have t9 : (k : Int) ≤ (k : Int) + 1 := by omega
 clear hl hf
 go_enter Tryz.func338, Tryz.ntmps338
 go_wp2_with (go_at_call 104; refine (zeV t _ rfl h1 (k : Int) HZ.out _).mono ?_; rintro e w' ⟨rfl, rfl⟩)
 go_ret2
 have e1 : une1 (ub t 1) ((L t).drop 2) = ([([7, 8, 12, 10, 13, 9, 11] : List UInt8).getD k 0], 2) := by
  unfold une1
  rw [HL.out, List.getD, List.getElem?_eq_getElem (show k < ([7, 8, 12, 10, 13, 9, 11] : List UInt8).length from hk)]
  rfl
 refine ⟨zaS ?_ ?_, Below.refl _ _⟩
 ·rw [HU.out, e1, ze0]
  have hk7 : k = 0 ∨ k = 1 ∨ k = 2 ∨ k = 3 ∨ k = 4 ∨ k = 5 ∨ k = 6 := by omega
  rcases hk7 with rfl | rfl | rfl | rfl | rfl | rfl | rfl <;> rfl
 ·rw [HU.out, e1]; rfl
set_option maxHeartbeats 1000000 in
theorem zmF (t : ByteArray) (hs : t.size ≤ 1000000) (w : World) (h92 : byte t 0 = 92) (h1 : 1 < t.size) (hl : ltr (ub t 1) = none) (hf : fst [97, 98, 102, 110, 114, 116, 118] (ub t 1) = none) (hx : byte t 1 = 10) :
  Calls Tryz.prog 338 #[.string t] w fun e w' => e = uneV (L t) ∧ Below w.heap.size w w' := by
 have hby := zam t
 have hbl := zaA t 1
 have t2 : (0 : Int) < (t.size : Int) := by omega
 have t3 : (1 : Int) < (t.size : Int) := by omega
 have t4 : ((t.size : Int) == 1) = false := by simp; omega
 have t5 := zaI t (by omega)
 have t6 : (2 : Int) ≤ (t.size : Int) := by omega
 have HU := Lib.hid (zdo h92 h1)
 have HL := Lib.hid hl
 have hc : ub t 1 = 10 := za3 t 1 (by decide) hx
 have HZ := Lib.hid (show fstV (fst [97, 98, 102, 110, 114, 116, 118] (ub t 1)) = -1 by rw [hf]; rfl)
 have e1 : une1 (ub t 1) ((L t).drop 2) = ([32], blk ((L t).drop 2) + 2) := by
  unfold une1
  rw [hl]
  simp only [hc]
  rw [if_pos trivial]
 have HE1 := Lib.hid e1
 clear hl hf hc e1
 go_enter Tryz.func338, Tryz.ntmps338
 go_wp2_with (go_at_call 104; refine (zeV t _ rfl h1 (-1) HZ.out _).mono ?_; rintro e w' ⟨rfl, rfl⟩)
 go_loopg [3] (t.size - 2) (fun k n wr => ∃ i : Nat, n = .int .i64 (i : Int) ∧ k = t.size - i ∧ i ≤ t.size ∧ blk ((L t).drop 2) + 2 = i + blk ((L t).drop i) ∧ w = wr)
 case atStart => exact ⟨2, rfl, by omega, by omega, by omega, rfl⟩
 case round =>
  obtain ⟨i, rfl, hk, his, heq, rfl⟩ := hrel
  have HK := Lib.hid hk
  have HEQ := Lib.hid heq
  have hb := zaA t i
  clear hk heq
  by_cases hlt : i < t.size
  ·have t7 : (i : Int) < (t.size : Int) := by omega
   by_cases hb1 : byte t i = 32
   ·have t8 : ((byte t i : Int) == 32) = true := by simp; omega
    have HB := Lib.hid hb1
    clear hb1
    go_wp2
    go_roundg (t.size - (i + 1))
    case measure => rw [HK.out]; omega
    case rel =>
     refine ⟨i + 1, by go_num, rfl, by omega, ?_, rfl⟩
     rw [HEQ.out, zak t hlt, za3 t i (by decide) HB.out]
     simp [blk]; omega
   ·have t8 : ((byte t i : Int) == 32) = false := by simp; omega
    by_cases hb2 : byte t i = 9
    ·have t9 : ((byte t i : Int) == 9) = true := by simp; omega
     have HB := Lib.hid hb2
     clear hb1 hb2
     go_wp2
     go_roundg (t.size - (i + 1))
     case measure => rw [HK.out]; omega
     case rel =>
      refine ⟨i + 1, by go_num, rfl, by omega, ?_, rfl⟩
      rw [HEQ.out, zak t hlt, za3 t i (by decide) HB.out]
      simp [blk]; omega
    ·have t9 : ((byte t i : Int) == 9) = false := by simp; omega
     have hz : blk ((L t).drop i) = 0 := by
      rw [zak t hlt]
      unfold blk
      rw [if_neg]
      rintro (h | h)
      ·exact hb1 ((zbv t i 32 (by decide)).1 h)
      ·exact hb2 ((zbv t i 9 (by decide)).1 h)
     have HZ := Lib.hid hz
     clear hb1 hb2 hz
     go_wp2
     go_ret2
     refine ⟨zaS ?_ ?_, Below.refl _ _⟩
     ·rw [HU.out, HE1.out]; rfl
     ·rw [HU.out, HE1.out]; simp only; rw [HEQ.out, HZ.out]; simp
  ·have t7 : ¬ (i : Int) < (t.size : Int) := by omega
   have hz : blk ((L t).drop i) = 0 := by rw [zas t (by omega)]; rfl
   have HZ := Lib.hid hz
   clear hz
   go_wp2
   go_ret2
   refine ⟨zaS ?_ ?_, Below.refl _ _⟩
   ·rw [HU.out, HE1.out]; rfl
   ·rw [HU.out, HE1.out]; simp only; rw [HEQ.out, HZ.out]; simp
set_option maxHeartbeats 1000000 in
theorem zoi (t : ByteArray) (hs : t.size ≤ 1000000) (w : World) (h92 : byte t 0 = 92) (h1 : 1 < t.size) (hl : ltr (ub t 1) = none) (hf : fst [97, 98, 102, 110, 114, 116, 118] (ub t 1) = none) (hx : byte t 1 = 120) :
  Calls Tryz.prog 338 #[.string t] w fun e w' => e = uneV (L t) ∧ Below w.heap.size w w' := by
 have hby := zam t
 have hbl := zaA t 1
 have t2 : (0 : Int) < (t.size : Int) := by omega
 have t3 : (1 : Int) < (t.size : Int) := by omega
 have t4 : ((t.size : Int) == 1) = false := by simp; omega
 have t5 := zaI t (by omega)
 have t6 : (2 : Int) ≤ (t.size : Int) := by omega
 have HU := Lib.hid (zdo h92 h1)
 have HL := Lib.hid hl
 have hc : ub t 1 = 120 := za3 t 1 (by decide) hx
 have HZ := Lib.hid (show fstV (fst [97, 98, 102, 110, 114, 116, 118] (ub t 1)) = -1 by rw [hf]; rfl)
 have e1 : une1 (ub t 1) ((L t).drop 2) = une2 (ub t 1) 16 2 (digs 16 ((L t).drop 2) 2 0) := by
  unfold une1
  rw [hl]
  simp only [hc]
  rw [if_neg (by decide), if_pos trivial]
 have HE1 := Lib.hid e1
 have HX := Lib.hid hx
 clear hl hf hc e1
 go_enter Tryz.func338, Tryz.ntmps338
 go_wp2_with (go_at_call 104; refine (zeV t _ rfl h1 (-1) HZ.out _).mono ?_; rintro e w' ⟨rfl, rfl⟩)
 go_loopg [3, 8] (2 + 2 - 2) (fun k n v wr => ∃ (a i : Nat), v = .int .i64 (a : Int) ∧ n = .int .i64 (i : Int) ∧ k = 2 + 2 - i ∧ 2 ≤ i ∧ i ≤ 2 + 2 ∧ i ≤ t.size ∧ a + 1 ≤ 16 ^ (i - 2) ∧
  digs 16 ((L t).drop 2) 2 0 = ((digs 16 ((L t).drop i) (2 + 2 - i) a).1, (i - 2) + (digs 16 ((L t).drop i) (2 + 2 - i) a).2) ∧ w = wr)
 case atStart => exact ⟨0, 2, rfl, rfl, by omega, by omega, by omega, by omega, by simp, by simp, rfl⟩
 case round =>
  obtain ⟨a, i, rfl, rfl, hk, hai, him, his, ha, heq, rfl⟩ := hrel
  have HK := Lib.hid hk
  have HEQ := Lib.hid heq
  have h16 : 16 ^ (i - 2) ≤ 4096 := Nat.le_trans (Nat.pow_le_pow_right (by decide) (show i - 2 ≤ 3 by omega)) (by decide)
  have ha2 : a ≤ 4095 := by omega
  have hdl := zn4 (byte t i)
  have hbi := zaA t i
  have HA := Lib.hid ha
  clear hk heq ha h16
  by_cases hlt : i < 2 + 2 ∧ i < t.size
  ·have t7 : (i : Int) < 4 := by omega
   have t8 : (i : Int) < (t.size : Int) := by omega
   obtain ⟨j, hj⟩ : ∃ j, 2 + 2 - i = j + 1 := ⟨2 + 2 - i - 1, by omega⟩
   by_cases hd : digN (byte t i) < 16
   ·have hr : rdg (byte t i) 16 = (digN (byte t i) : Int) := by unfold rdg; rw [if_pos hd]
    go_wp2_with (go_at_call 230; refine (zch _ 16 hbi (by decide) (by decide) _).mono ?_; rintro e w' ⟨rfl, rfl⟩; rw [hr])
    all_goals
     go_roundg (2 + 2 - (i + 1))
     case measure => rw [HK.out]; omega
     case rel =>
      refine ⟨a * 16 + digN (byte t i), i + 1, by first | rfl | go_num | (simp; omega), by go_num, rfl, by omega, by omega, by omega, ?_, ?_, rfl⟩
      ·have hA := HA.out
       rw [show i + 1 - 2 = (i - 2) + 1 by omega, Nat.pow_succ]; omega
      ·rw [HEQ.out, zak t hlt.2, hj]
       conv => lhs; unfold digs
       rw [zj1, if_pos hd, show 2 + 2 - (i + 1) = j by omega]
       simp only [Prod.mk.injEq, true_and]
       omega
   ·have hr : rdg (byte t i) 16 = -1 := by unfold rdg; rw [if_neg hd]
    have hz : digs 16 ((L t).drop 2) 2 0 = (a, i - 2) := by
     rw [HEQ.out, zak t hlt.2, hj]
     conv => lhs; unfold digs
     rw [zj1, if_neg hd]
     rfl
    have HZ2 := Lib.hid hz
    clear hz
    rcases Nat.eq_or_lt_of_le hai with rfl | hlt2
    ·go_wp2_with (go_at_call 230; refine (zch _ 16 hbi (by decide) (by decide) _).mono ?_; rintro e w' ⟨rfl, rfl⟩; rw [hr])
     go_ret2
     refine ⟨zaS ?_ ?_, Below.refl _ _⟩
     ·rw [HU.out, HE1.out, HZ2.out, ze0, zak t h1]; rfl
     ·rw [HU.out, HE1.out, HZ2.out]; rfl
    ·have t11 : ((i : Int) == 2) = false := by simp; omega
     go_wp2_with (go_at_call 230; refine (zch _ 16 hbi (by decide) (by decide) _).mono ?_; rintro e w' ⟨rfl, rfl⟩; rw [hr])
     rw [zjm]
     simp only [Result.andThen]
     rw [Oper.upon_value]
     go_wp2
     go_ret2
     refine ⟨zaS ?_ ?_, (Below.refl _ _).alloc (Nat.le_refl _) _⟩
     ·rw [HU.out, HE1.out, HZ2.out, ze9]
      unfold une2
      rw [if_neg (by simp; omega)]
      simp only [List.cons.injEq, and_true]
      rw [← zcu]
      congr 1 <;> omega
     ·rw [HU.out, HE1.out, HZ2.out]
      unfold une2
      rw [if_neg (by simp; omega)]
      simp; omega
  ·have t7 : ¬ ((i : Int) < 4 ∧ (i : Int) < (t.size : Int)) := by omega
   have hz : digs 16 ((L t).drop 2) 2 0 = (a, i - 2) := by
    rw [HEQ.out]
    by_cases h2 : i < t.size
    ·rw [show 2 + 2 - i = 0 by omega, zak t h2]; rfl
    ·rw [zas t (by omega)]; rfl
   have HZ2 := Lib.hid hz
   clear hz
   by_cases t8 : (i : Int) < (t.size : Int)
   ·have t9' : ¬ (i : Int) < 4 := by omega
    have t11 : ((i : Int) == 2) = false := by simp; omega
    clear t7
    go_wp2
    rw [zjm]
    simp only [Result.andThen]
    rw [Oper.upon_value]
    go_wp2
    go_ret2
    refine ⟨zaS ?_ ?_, (Below.refl _ _).alloc (Nat.le_refl _) _⟩
    ·rw [HU.out, HE1.out, HZ2.out, ze9]
     unfold une2
     rw [if_neg (by simp; omega)]
     simp only [List.cons.injEq, and_true]
     rw [← zcu]
     congr 1 <;> omega
    ·rw [HU.out, HE1.out, HZ2.out]
     unfold une2
     rw [if_neg (by simp; omega)]
     simp; omega
   ·clear t7
    rcases Nat.eq_or_lt_of_le hai with rfl | hlt2
    ·go_wp2
     go_ret2
     refine ⟨zaS ?_ ?_, Below.refl _ _⟩
     ·rw [HU.out, HE1.out, HZ2.out, ze0, zak t h1]; rfl
     ·rw [HU.out, HE1.out, HZ2.out]; rfl
    ·have t11 : ((i : Int) == 2) = false := by simp; omega
     go_wp2
     rw [zjm]
     simp only [Result.andThen]
     rw [Oper.upon_value]
     go_wp2
     go_ret2
     refine ⟨zaS ?_ ?_, (Below.refl _ _).alloc (Nat.le_refl _) _⟩
     ·rw [HU.out, HE1.out, HZ2.out, ze9]
      unfold une2
      rw [if_neg (by simp; omega)]
      simp only [List.cons.injEq, and_true]
      rw [← zcu]
      congr 1 <;> omega
     ·rw [HU.out, HE1.out, HZ2.out]
      unfold une2
      rw [if_neg (by simp; omega)]
      simp; omega
set_option maxHeartbeats 1000000 in
theorem zoj (t : ByteArray) (hs : t.size ≤ 1000000) (w : World) (h92 : byte t 0 = 92) (h1 : 1 < t.size) (hl : ltr (ub t 1) = none) (hf : fst [97, 98, 102, 110, 114, 116, 118] (ub t 1) = none) (hx : ¬ byte t 1 = 120) (hx2 : ¬ byte t 1 = 10) :
  Calls Tryz.prog 338 #[.string t] w fun e w' => e = uneV (L t) ∧ Below w.heap.size w w' := by
 have hby := zam t
 have hbl := zaA t 1
 have t2 : (0 : Int) < (t.size : Int) := by omega
 have t3 : (1 : Int) < (t.size : Int) := by omega
 have t4 : ((t.size : Int) == 1) = false := by simp; omega
 have t5 := zaI t (by omega)
 have t6 : (2 : Int) ≤ (t.size : Int) := by omega
 have HU := Lib.hid (zdo h92 h1)
 have HL := Lib.hid hl
 have t9 : ((byte t 1 : Int) == 120) = false := by simp; omega
 have t10 : ((byte t 1 : Int) == 10) = false := by simp; omega
 have h10 : ¬ ub t 1 = 10 := fun h => hx2 ((zbv t 1 10 (by decide)).1 h)
 have hc : ¬ ub t 1 = 120 := fun h => hx ((zbv t 1 120 (by decide)).1 h)
 have HZ := Lib.hid (show fstV (fst [97, 98, 102, 110, 114, 116, 118] (ub t 1)) = -1 by rw [hf]; rfl)
 have e1 : une1 (ub t 1) ((L t).drop 2) = une2 (ub t 1) 8 1 (digs 8 ((L t).drop 1) 3 0) := by
  unfold une1
  rw [hl]
  simp only
  rw [if_neg h10, if_neg hc, ← zak t h1]
 have HE1 := Lib.hid e1
 have HX := Lib.hid hx
 clear hl hf hx hx2 h10 hc e1
 go_enter Tryz.func338, Tryz.ntmps338
 go_wp2_with (go_at_call 104; refine (zeV t _ rfl h1 (-1) HZ.out _).mono ?_; rintro e w' ⟨rfl, rfl⟩)
 go_loopg [3, 8] (1 + 3 - 1) (fun k n v wr => ∃ (a i : Nat), v = .int .i64 (a : Int) ∧ n = .int .i64 (i : Int) ∧ k = 1 + 3 - i ∧ 1 ≤ i ∧ i ≤ 1 + 3 ∧ i ≤ t.size ∧ a + 1 ≤ 16 ^ (i - 1) ∧
  digs 8 ((L t).drop 1) 3 0 = ((digs 8 ((L t).drop i) (1 + 3 - i) a).1, (i - 1) + (digs 8 ((L t).drop i) (1 + 3 - i) a).2) ∧ w = wr)
 case atStart => exact ⟨0, 1, rfl, rfl, by omega, by omega, by omega, by omega, by simp, by simp, rfl⟩
 case round =>
  obtain ⟨a, i, rfl, rfl, hk, hai, him, his, ha, heq, rfl⟩ := hrel
  have HK := Lib.hid hk
  have HEQ := Lib.hid heq
  have h16 : 16 ^ (i - 1) ≤ 4096 := Nat.le_trans (Nat.pow_le_pow_right (by decide) (show i - 1 ≤ 3 by omega)) (by decide)
  have ha2 : a ≤ 4095 := by omega
  have hdl := zn4 (byte t i)
  have hbi := zaA t i
  have HA := Lib.hid ha
  clear hk heq ha h16
  by_cases hlt : i < 1 + 3 ∧ i < t.size
  ·have t7 : (i : Int) < 4 := by omega
   have t8 : (i : Int) < (t.size : Int) := by omega
   obtain ⟨j, hj⟩ : ∃ j, 1 + 3 - i = j + 1 := ⟨1 + 3 - i - 1, by omega⟩
   by_cases hd : digN (byte t i) < 8
   ·have hr : rdg (byte t i) 8 = (digN (byte t i) : Int) := by unfold rdg; rw [if_pos hd]
    go_wp2_with (go_at_call 230; refine (zch _ 8 hbi (by decide) (by decide) _).mono ?_; rintro e w' ⟨rfl, rfl⟩; rw [hr])
    all_goals
     go_roundg (1 + 3 - (i + 1))
     case measure => rw [HK.out]; omega
     case rel =>
      refine ⟨a * 8 + digN (byte t i), i + 1, by first | rfl | go_num | (simp; omega), by go_num, rfl, by omega, by omega, by omega, ?_, ?_, rfl⟩
      ·have hA := HA.out
       rw [show i + 1 - 1 = (i - 1) + 1 by omega, Nat.pow_succ]; omega
      ·rw [HEQ.out, zak t hlt.2, hj]
       conv => lhs; unfold digs
       rw [zj1, if_pos hd, show 1 + 3 - (i + 1) = j by omega]
       simp only [Prod.mk.injEq, true_and]
       omega
   ·have hr : rdg (byte t i) 8 = -1 := by unfold rdg; rw [if_neg hd]
    have hz : digs 8 ((L t).drop 1) 3 0 = (a, i - 1) := by
     rw [HEQ.out, zak t hlt.2, hj]
     conv => lhs; unfold digs
     rw [zj1, if_neg hd]
     rfl
    have HZ2 := Lib.hid hz
    clear hz
    rcases Nat.eq_or_lt_of_le hai with rfl | hlt2
    ·go_wp2_with (go_at_call 230; refine (zch _ 8 hbi (by decide) (by decide) _).mono ?_; rintro e w' ⟨rfl, rfl⟩; rw [hr])
     go_ret2
     refine ⟨zaS ?_ ?_, Below.refl _ _⟩
     ·rw [HU.out, HE1.out, HZ2.out, ze0, zak t h1]; rfl
     ·rw [HU.out, HE1.out, HZ2.out]; rfl
    ·have t11 : ((i : Int) == 1) = false := by simp; omega
     go_wp2_with (go_at_call 230; refine (zch _ 8 hbi (by decide) (by decide) _).mono ?_; rintro e w' ⟨rfl, rfl⟩; rw [hr])
     rw [zjm]
     simp only [Result.andThen]
     rw [Oper.upon_value]
     go_wp2
     go_ret2
     refine ⟨zaS ?_ ?_, (Below.refl _ _).alloc (Nat.le_refl _) _⟩
     ·rw [HU.out, HE1.out, HZ2.out, ze9]
      unfold une2
      rw [if_neg (by simp; omega)]
      simp only [List.cons.injEq, and_true]
      rw [← zcu]
      congr 1 <;> omega
     ·rw [HU.out, HE1.out, HZ2.out]
      unfold une2
      rw [if_neg (by simp; omega)]
      simp; omega
  ·have t7 : ¬ ((i : Int) < 4 ∧ (i : Int) < (t.size : Int)) := by omega
   have hz : digs 8 ((L t).drop 1) 3 0 = (a, i - 1) := by
    rw [HEQ.out]
    by_cases h2 : i < t.size
    ·rw [show 1 + 3 - i = 0 by omega, zak t h2]; rfl
    ·rw [zas t (by omega)]; rfl
   have HZ2 := Lib.hid hz
   clear hz
   by_cases t8 : (i : Int) < (t.size : Int)
   ·have t9' : ¬ (i : Int) < 4 := by omega
    have t11 : ((i : Int) == 1) = false := by simp; omega
    clear t7
    go_wp2
    rw [zjm]
    simp only [Result.andThen]
    rw [Oper.upon_value]
    go_wp2
    go_ret2
    refine ⟨zaS ?_ ?_, (Below.refl _ _).alloc (Nat.le_refl _) _⟩
    ·rw [HU.out, HE1.out, HZ2.out, ze9]
     unfold une2
     rw [if_neg (by simp; omega)]
     simp only [List.cons.injEq, and_true]
     rw [← zcu]
     congr 1 <;> omega
    ·rw [HU.out, HE1.out, HZ2.out]
     unfold une2
     rw [if_neg (by simp; omega)]
     simp; omega
   ·clear t7
    rcases Nat.eq_or_lt_of_le hai with rfl | hlt2
    ·exfalso; omega
    ·have t11 : ((i : Int) == 1) = false := by simp; omega
     go_wp2
     rw [zjm]
     simp only [Result.andThen]
     rw [Oper.upon_value]
     go_wp2
     go_ret2
     refine ⟨zaS ?_ ?_, (Below.refl _ _).alloc (Nat.le_refl _) _⟩
     ·rw [HU.out, HE1.out, HZ2.out, ze9]
      unfold une2
      rw [if_neg (by simp; omega)]
      simp only [List.cons.injEq, and_true]
      rw [← zcu]
      congr 1 <;> omega
     ·rw [HU.out, HE1.out, HZ2.out]
      unfold une2
      rw [if_neg (by simp; omega)]
      simp; omega
set_option maxHeartbeats 1000000 in
theorem zd1 (t : ByteArray) (hs : t.size ≤ 1000000) (w : World) : Calls Tryz.prog 338 #[.string t] w fun e w' => e = uneV (L t) ∧ Below w.heap.size w w' := by
 have hby := zam t
 by_cases h0 : t.size = 0
 ·have t5 := zd0 t h0
  have hu := zc4 t h0
  have HU := Lib.hid hu
  clear hu h0
  go_enter Tryz.func338, Tryz.ntmps338
  go_wp2
  go_ret2
  refine ⟨zaS ?_ ?_, Below.refl _ _⟩
  ·rw [HU.out]; rfl
  ·rw [HU.out]; rfl
 have t5 := zaI t h0
 have t2 : (0 : Int) < (t.size : Int) := by omega
 have a := zak t (show 0 < t.size by omega)
 rw [List.drop_zero] at a
 by_cases h92 : byte t 0 = 92
 ·by_cases h1 : t.size = 1
  ·have t4 : ((t.size : Int) == 1) = true := by simp; omega
   have hL : L t = [92] := by rw [a, za3 t 0 (by decide) h92, zas t (by omega)]; rfl
   have HL := Lib.hid hL
   clear a hL h1
   go_enter Tryz.func338, Tryz.ntmps338
   go_wp2
   go_ret2
   refine ⟨zaS ?_ ?_, Below.refl _ _⟩
   ·rw [HL.out]; rfl
   ·rw [HL.out]; rfl
  have h1' : 1 < t.size := by omega
  rcases zuS (ub t 1) with ⟨k, hk, hf, hl⟩ | ⟨hf, hl⟩
  ·exact zlb t hs w h92 h1' k hk hf hl
  ·by_cases hx : byte t 1 = 10
   ·exact zmF t hs w h92 h1' hl hf hx
   ·by_cases hx2 : byte t 1 = 120
    ·exact zoi t hs w h92 h1' hl hf hx2
    ·exact zoj t hs w h92 h1' hl hf hx2 hx
 ·have t4 : ((byte t 0 : Int) == 92) = false := by simp; omega
  have hc : ¬ ub t 0 = 92 := fun h => h92 ((zbv t 0 92 (by decide)).1 h)
  have hu : une (L t) = ([], 0) := by rw [a]; exact zey hc
  have HU := Lib.hid hu
  clear a hu hc h92
  go_enter Tryz.func338, Tryz.ntmps338
  go_wp2
  go_ret2
  refine ⟨zaS ?_ ?_, Below.refl _ _⟩
  ·rw [HU.out]; rfl
  ·rw [HU.out]; rfl
end Go.Proofs.YtppjodfehhlniaaGreatDoor
end
