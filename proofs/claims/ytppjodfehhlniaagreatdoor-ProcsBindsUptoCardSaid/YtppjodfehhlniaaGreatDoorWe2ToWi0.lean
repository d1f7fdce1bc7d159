/-
  The program's Unescape, case by case; Rows and builders in a later world; what the readers of elements hand back; The program's readers of elements; T. Conditions: none.
-/
import Derived.Test.YtppjodfehhlniaaGreatDoorUnaToVt3
import Derived.RangeFuncNested
import Derived.RangeFuncBound
import Derived.RangeFuncCalls
import Derived.RangeFuncLeaves
import Derived.Shelf.Abstract
import Derived.Shelf.RegionOpen
import Derived.OwnWalkIn
import Derived.TacticsInMore
import Derived.LoopNIn
import Derived.LoopIn
import Derived.Stop.RegionWithIn
set_option linter.unusedVariables false
set_option linter.unusedSimpArgs false
set_option linter.unusedSectionVars false
set_option linter.deprecated false
section
namespace Go.Proofs.YtppjodfehhlniaaGreatDoor
open Go.ChangeShapes Go.WideShapes Go.ChangeAt Go.RowKit
set_option maxRecDepth 100000
def digV (t : ByteArray) (base most : Int) : Value := .tuple #[.int .u8 (((digs base.toNat (L t) most.toNat 0).1 % 256 : Nat) : Int), .int .i64 ((digs base.toNat (L t) most.toNat 0).2 : Int)]
theorem ztc (t : ByteArray) (base most : Int) (hb : 1 ≤ base ∧ base ≤ 16 ∧ 0 ≤ most ∧ most ≤ 3) (hs : t.size ≤ 1000000) (w : World) :
  Calls Tryz.prog 415 #[.string t, .int .i64 base, .int .i64 most] w fun e w' => e = .returned (digV t base most) ∧ w = w' := by
 have h := zdB t base.toNat most.toNat (by omega) (by omega) (by omega) hs w
 rw [show ((base.toNat : Nat) : Int) = base by omega, show ((most.toNat : Nat) : Int) = most by omega] at h
 exact h
set_option maxHeartbeats 1000000 in
theorem zmx (t : ByteArray) (hs : t.size ≤ 1000000) (w : World) (h92 : byte t 0 = 92) (h1 : 1 < t.size) (i : Nat) (hi : i < 7) (hz : abt (ub t 1) = (i : Int)) (hl : ltr (ub t 1) = some (UInt8.ofNat (7 + i))) :
  Calls Tryz.prog 331 #[.string t] w fun e w' => e = uneV (L t) ∧ Below w.heap.size w w' := by
 have hby := zam t
 have hbl := zaA t 1
 have t2 : (0 : Int) < (t.size : Int) := by omega
 have t3 : (1 : Int) < (t.size : Int) := by omega
 have t4 : ((t.size : Int) == 1) = false := by simp; omega
 have t5 := zaI t (by omega)
 have t6 : (2 : Int) ≤ (t.size : Int) := by omega
 have HU := Lib.hid (zdo h92 h1)
 have HL := Lib.hid hl
 clear hl
 go_enter Tryz.func331, Tryz.ntmps331
 go_wp2_with (go_at_call 221; refine (zgO _ rfl _ (i : Int) (by first | exact hz | rfl) _).mono ?_; rintro e w' ⟨rfl, rfl⟩)
 rw [zjm]
 simp only [Result.andThen]
 rw [Oper.upon_value]
 go_wp2
 go_ret2
 have e1 : une1 (ub t 1) ((L t).drop 2) = ([UInt8.ofNat (7 + i)], 2) := by unfold une1; rw [HL.out]
 refine ⟨zaS ?_ ?_, (Below.refl _ _).alloc (Nat.le_refl _) _⟩
 ·rw [HU.out, e1, ze9, show ((7 : Int) + (i : Int)).toNat = 7 + i by omega]
 ·rw [HU.out, e1]; rfl
set_option maxHeartbeats 1000000 in
theorem zn5 (t : ByteArray) (hs : t.size ≤ 1000000) (w : World) (h92 : byte t 0 = 92) (h1 : 1 < t.size) (hl : ltr (ub t 1) = none) (hx : byte t 1 = 120) (v k : Nat) (hp : digs 16 ((L t).drop 2) 2 0 = (v, k)) (hk : 0 < k) :
  Calls Tryz.prog 331 #[.string t] w fun e w' => e = uneV (L t) ∧ Below w.heap.size w w' := by
 have hby := zam t
 have hbl := zaA t 1
 have t2 : (0 : Int) < (t.size : Int) := by omega
 have t3 : (1 : Int) < (t.size : Int) := by omega
 have t4 : ((t.size : Int) == 1) = false := by simp; omega
 have t5 := zaI t (by omega)
 have t6 : (2 : Int) ≤ (t.size : Int) := by omega
 have HU := Lib.hid (zdo h92 h1)
 have HL := Lib.hid hl
 have hd := fun W => zdB (t.extract 2 t.size) 16 2 (by decide) (by decide) (by decide) (by rw [ByteArray.size_extract]; omega) W
 rw [zdi, hp] at hd
 have HD := Lib.hid hd
 have HP := Lib.hid hp
 have hz : abt 120 = -1 := rfl
 have t7 : (0 : Int) < (k : Int) := by omega
 have t8 : (k : Int) ≤ 2 := by have := (zhA 16 ((L t).drop 2) 2 0).2; rw [hp] at this; simp at this; omega
 have hv : v % 256 < 256 := Nat.mod_lt _ (by decide)
 have HX := Lib.hid hx
 clear hl hd hp
 go_enter Tryz.func331, Tryz.ntmps331
 go_wp2_with (first | (go_at_call 221; refine (zgO _ rfl _ (-1) (by first | exact hz | rfl) _).mono ?_; rintro e w' ⟨rfl, rfl⟩) | (go_at_call 415; refine (HD.out _).mono ?_; rintro e w' ⟨rfl, rfl⟩))
 rw [zjm]
 simp only [Result.andThen]
 rw [Oper.upon_value]
 go_wp2
 go_ret2
 have hc : ub t 1 = 120 := za3 t 1 (by decide) HX.out
 have e1 : une1 (ub t 1) ((L t).drop 2) = ([UInt8.ofNat v], 2 + k) := by
  unfold une1
  rw [HL.out]
  simp only [hc]
  rw [if_neg (by decide), if_pos trivial, HP.out]
  unfold une2
  rw [if_neg (by simp; omega)]
 refine ⟨zaS ?_ ?_, (Below.refl _ _).alloc (Nat.le_refl _) _⟩
 ·rw [HU.out, e1, ze9, ← zcu]; rfl
 ·rw [HU.out, e1]; simp
set_option maxHeartbeats 1000000 in
theorem zn6 (t : ByteArray) (hs : t.size ≤ 1000000) (w : World) (h92 : byte t 0 = 92) (h1 : 1 < t.size) (hl : ltr (ub t 1) = none) (hx : byte t 1 = 120) (v : Nat) (hp : digs 16 ((L t).drop 2) 2 0 = (v, 0)) :
  Calls Tryz.prog 331 #[.string t] w fun e w' => e = uneV (L t) ∧ Below w.heap.size w w' := by
 have hby := zam t
 have hbl := zaA t 1
 have t2 : (0 : Int) < (t.size : Int) := by omega
 have t3 : (1 : Int) < (t.size : Int) := by omega
 have t4 : ((t.size : Int) == 1) = false := by simp; omega
 have t5 := zaI t (by omega)
 have t6 : (2 : Int) ≤ (t.size : Int) := by omega
 have HU := Lib.hid (zdo h92 h1)
 have HL := Lib.hid hl
 have hc : ub t 1 = 120 := za3 t 1 (by decide) hx
 have hp2 : digs 8 ((L t).drop 1) 3 0 = (0, 0) := by rw [zak t h1, hc]; rfl
 have HD := Lib.hid (show digV (t.extract 2 t.size) 16 2 = .tuple #[.int .u8 ((v % 256 : Nat) : Int), .int .i64 0] by
  unfold digV
  rw [zdi, show ((16 : Int).toNat) = 16 from rfl, show ((2 : Int).toNat) = 2 from rfl, hp]; rfl)
 have HE := Lib.hid (show digV (t.extract 1 t.size) 8 3 = .tuple #[.int .u8 0, .int .i64 0] by
  unfold digV
  rw [zdi, show ((8 : Int).toNat) = 8 from rfl, show ((3 : Int).toNat) = 3 from rfl, hp2]; rfl)
 have HP := Lib.hid hp
 have hz : abt 120 = -1 := rfl
 have hv : v % 256 < 256 := Nat.mod_lt _ (by decide)
 have HX := Lib.hid hx
 clear hl hp hp2
 go_enter Tryz.func331, Tryz.ntmps331
 go_wp2_with (first | (go_at_call 221; refine (zgO _ rfl _ (-1) (by first | exact hz | rfl) _).mono ?_; rintro e w' ⟨rfl, rfl⟩) | (go_at_call 415; refine (ztc _ _ _ (by decide) (by rw [ByteArray.size_extract]; omega) _).mono ?_; rintro e w' ⟨rfl, rfl⟩; first | rw [HD.out] | rw [HE.out]))
 go_ret2
 have e1 : une1 (ub t 1) ((L t).drop 2) = ([120], 2) := by
  unfold une1
  rw [HL.out]
  simp only [hc]
  rw [if_neg (by decide), if_pos trivial, HP.out]
  rfl
 refine ⟨zaS ?_ ?_, Below.refl _ _⟩
 ·rw [HU.out, e1, ze0, zak t h1, hc]; rfl
 ·rw [HU.out, e1]; rfl
set_option maxHeartbeats 1000000 in
theorem zn7 (t : ByteArray) (hs : t.size ≤ 1000000) (w : World) (h92 : byte t 0 = 92) (h1 : 1 < t.size) (hz : abt (ub t 1) = -1) (hl : ltr (ub t 1) = none) (hx : ¬ byte t 1 = 120) (v k : Nat) (hp : digs 8 ((L t).drop 1) 3 0 = (v, k)) (hk : 0 < k) :
  Calls Tryz.prog 331 #[.string t] w fun e w' => e = uneV (L t) ∧ Below w.heap.size w w' := by
 have hby := zam t
 have hbl := zaA t 1
 have t2 : (0 : Int) < (t.size : Int) := by omega
 have t3 : (1 : Int) < (t.size : Int) := by omega
 have t4 : ((t.size : Int) == 1) = false := by simp; omega
 have t5 := zaI t (by omega)
 have t6 : (2 : Int) ≤ (t.size : Int) := by omega
 have HU := Lib.hid (zdo h92 h1)
 have HL := Lib.hid hl
 have hd := fun W => zdB (t.extract 1 t.size) 8 3 (by decide) (by decide) (by decide) (by rw [ByteArray.size_extract]; omega) W
 rw [zdi, hp] at hd
 have h10 : ¬ ub t 1 = 10 := by
  intro h
  rw [zak t h1, h] at hp
  have : digs 8 (10 :: (L t).drop (1 + 1)) 3 0 = (0, 0) := rfl
  rw [this] at hp
  cases hp
  omega
 have HD := Lib.hid hd
 have HP := Lib.hid hp
 have t7 : (0 : Int) < (k : Int) := by omega
 have t8 : (k : Int) ≤ 3 := by have := (zhA 8 ((L t).drop 1) 3 0).2; rw [hp] at this; simp at this; omega
 have t9 : ((byte t 1 : Int) == 120) = false := by simp; omega
 have hv : v % 256 < 256 := Nat.mod_lt _ (by decide)
 have HX := Lib.hid hx
 clear hl hd hp hx
 go_enter Tryz.func331, Tryz.ntmps331
 go_wp2_with (first | (go_at_call 221; refine (zgO _ rfl _ (-1) (by first | exact hz | rfl) _).mono ?_; rintro e w' ⟨rfl, rfl⟩) | (go_at_call 415; refine (HD.out _).mono ?_; rintro e w' ⟨rfl, rfl⟩))
 rw [zjm]
 simp only [Result.andThen]
 rw [Oper.upon_value]
 go_wp2
 go_ret2
 have hc : ¬ ub t 1 = 120 := fun h => HX.out ((zbv t 1 120 (by decide)).1 h)
 have e1 : une1 (ub t 1) ((L t).drop 2) = ([UInt8.ofNat v], 1 + k) := by
  unfold une1
  rw [HL.out]
  simp only
  rw [if_neg h10, if_neg hc, ← zak t h1, HP.out]
  unfold une2
  rw [if_neg (by simp; omega)]
 refine ⟨zaS ?_ ?_, (Below.refl _ _).alloc (Nat.le_refl _) _⟩
 ·rw [HU.out, e1, ze9, ← zcu]; rfl
 ·rw [HU.out, e1]; simp
set_option maxHeartbeats 1000000 in
theorem zn8 (t : ByteArray) (hs : t.size ≤ 1000000) (w : World) (h92 : byte t 0 = 92) (h1 : 1 < t.size) (hz : abt (ub t 1) = -1) (hl : ltr (ub t 1) = none) (hx : ¬ byte t 1 = 120) (hx2 : ¬ byte t 1 = 10) (v : Nat) (hp : digs 8 ((L t).drop 1) 3 0 = (v, 0)) :
  Calls Tryz.prog 331 #[.string t] w fun e w' => e = uneV (L t) ∧ Below w.heap.size w w' := by
 have hby := zam t
 have hbl := zaA t 1
 have t2 : (0 : Int) < (t.size : Int) := by omega
 have t3 : (1 : Int) < (t.size : Int) := by omega
 have t4 : ((t.size : Int) == 1) = false := by simp; omega
 have t5 := zaI t (by omega)
 have t6 : (2 : Int) ≤ (t.size : Int) := by omega
 have HU := Lib.hid (zdo h92 h1)
 have HL := Lib.hid hl
 have hd := fun W => zdB (t.extract 1 t.size) 8 3 (by decide) (by decide) (by decide) (by rw [ByteArray.size_extract]; omega) W
 rw [zdi, hp] at hd
 have h10 : ¬ ub t 1 = 10 := fun h => hx2 ((zbv t 1 10 (by decide)).1 h)
 have HD := Lib.hid hd
 have HP := Lib.hid hp
 have t9 : ((byte t 1 : Int) == 120) = false := by simp; omega
 have t10 : ((byte t 1 : Int) == 10) = false := by simp; omega
 have hv : v % 256 < 256 := Nat.mod_lt _ (by decide)
 have HX := Lib.hid hx
 clear hl hd hp hx hx2
 go_enter Tryz.func331, Tryz.ntmps331
 go_wp2_with (first | (go_at_call 221; refine (zgO _ rfl _ (-1) (by first | exact hz | rfl) _).mono ?_; rintro e w' ⟨rfl, rfl⟩) | (go_at_call 415; refine (HD.out _).mono ?_; rintro e w' ⟨rfl, rfl⟩))
 go_ret2
 have hc : ¬ ub t 1 = 120 := fun h => HX.out ((zbv t 1 120 (by decide)).1 h)
 have e1 : une1 (ub t 1) ((L t).drop 2) = ([ub t 1], 2) := by
  unfold une1
  rw [HL.out]
  simp only
  rw [if_neg h10, if_neg hc, ← zak t h1, HP.out]
  rfl
 refine ⟨zaS ?_ ?_, Below.refl _ _⟩
 ·rw [HU.out, e1, ze0, zak t h1]; rfl
 ·rw [HU.out, e1]; rfl
set_option maxHeartbeats 1000000 in
theorem zn9 (t : ByteArray) (hs : t.size ≤ 1000000) (w : World) (h92 : byte t 0 = 92) (h1 : 1 < t.size) (hl : ltr (ub t 1) = none) (hx : byte t 1 = 10) :
  Calls Tryz.prog 331 #[.string t] w fun e w' => e = uneV (L t) ∧ Below w.heap.size w w' := by
 have hby := zam t
 have hbl := zaA t 1
 have t2 : (0 : Int) < (t.size : Int) := by omega
 have t3 : (1 : Int) < (t.size : Int) := by omega
 have t4 : ((t.size : Int) == 1) = false := by simp; omega
 have t5 := zaI t (by omega)
 have t6 : (2 : Int) ≤ (t.size : Int) := by omega
 have HU := Lib.hid (zdo h92 h1)
 have HL := Lib.hid hl
 have hc : ub t 1 = 10 := za3 t 1 (by decide) hx
 have hd := fun W => zdB (t.extract 1 t.size) 8 3 (by decide) (by decide) (by decide) (by rw [ByteArray.size_extract]; omega) W
 have hp : digs 8 ((L t).drop 1) 3 0 = (0, 0) := by rw [zak t h1, hc]; rfl
 rw [zdi, hp] at hd
 have e1 : une1 (ub t 1) ((L t).drop 2) = ([32], blk ((L t).drop 2) + 2) := by
  unfold une1
  rw [hl]
  simp only [hc]
  rw [if_pos trivial]
 have HE1 := Lib.hid e1
 have HD := Lib.hid hd
 have hz : abt 10 = -1 := rfl
 clear hl hd hp hc e1
 go_enter Tryz.func331, Tryz.ntmps331
 go_wp2_with (first | (go_at_call 221; refine (zgO _ rfl _ (-1) (by first | exact hz | rfl) _).mono ?_; rintro e w' ⟨rfl, rfl⟩) | (go_at_call 415; refine (HD.out _).mono ?_; rintro e w' ⟨rfl, rfl⟩))
 go_loopg [9] (t.size - 2) (fun k n wr => ∃ i : Nat, n = .int .i64 (i : Int) ∧ k = t.size - i ∧ i ≤ t.size ∧ blk ((L t).drop 2) + 2 = i + blk ((L t).drop i) ∧ w = wr)
 case atStart => exact ⟨2, rfl, by omega, by omega, by omega, rfl⟩
 case round =>
  obtain ⟨i, rfl, hk, his, heq, rfl⟩ := hrel
  have HK := Lib.hid hk
  have HEQ := Lib.hid heq
  have hb := zaA t i
  clear hk heq
  by_cases hlt : i < t.size
  ·have t7 : (i : Int) < (t.size : Int) := by omega
   by_cases hb1 : byte t i = 32
   ·have t8 : ((byte t i : Int) == 32) = true := by simp; omega
    have HB := Lib.hid hb1
    clear hb1
    go_wp2
    go_roundg (t.size - (i + 1))
    case measure => rw [HK.out]; omega
    case rel =>
     refine ⟨i + 1, by go_num, rfl, by omega, ?_, rfl⟩
     rw [HEQ.out, zak t hlt, za3 t i (by decide) HB.out]
     simp [blk]; omega
   ·have t8 : ((byte t i : Int) == 32) = false := by simp; omega
    by_cases hb2 : byte t i = 9
    ·have t9 : ((byte t i : Int) == 9) = true := by simp; omega
     have HB := Lib.hid hb2
     clear hb1 hb2
     go_wp2
     go_roundg (t.size - (i + 1))
     case measure => rw [HK.out]; omega
     case rel =>
      refine ⟨i + 1, by go_num, rfl, by omega, ?_, rfl⟩
      rw [HEQ.out, zak t hlt, za3 t i (by decide) HB.out]
      simp [blk]; omega
    ·have t9 : ((byte t i : Int) == 9) = false := by simp; omega
     have hz : blk ((L t).drop i) = 0 := by
      rw [zak t hlt]
      unfold blk
      rw [if_neg]
      rintro (h | h)
      ·exact hb1 ((zbv t i 32 (by decide)).1 h)
      ·exact hb2 ((zbv t i 9 (by decide)).1 h)
     have HZ := Lib.hid hz
     clear hb1 hb2 hz
     go_wp2
     go_ret2
     refine ⟨zaS ?_ ?_, Below.refl _ _⟩
     ·rw [HU.out, HE1.out]; rfl
     ·rw [HU.out, HE1.out]; simp only; rw [HEQ.out, HZ.out]; simp
  ·have t7 : ¬ (i : Int) < (t.size : Int) := by omega
   have hz : blk ((L t).drop i) = 0 := by rw [zas t (by omega)]; rfl
   have HZ := Lib.hid hz
   clear hz
   go_wp2
   go_ret2
   refine ⟨zaS ?_ ?_, Below.refl _ _⟩
   ·rw [HU.out, HE1.out]; rfl
   ·rw [HU.out, HE1.out]; simp only; rw [HEQ.out, HZ.out]; simp
set_option maxHeartbeats 1000000 in
theorem zhd (t : ByteArray) (hs : t.size ≤ 1000000) (w : World) : Calls Tryz.prog 331 #[.string t] w fun e w' => e = uneV (L t) ∧ Below w.heap.size w w' := by
 have hby := zam t
 by_cases h0 : t.size = 0
 ·have t5 := zd0 t h0
  have hu := zc4 t h0
  have HU := Lib.hid hu
  clear hu h0
  go_enter Tryz.func331, Tryz.ntmps331
  go_wp2
  go_ret2
  refine ⟨zaS ?_ ?_, Below.refl _ _⟩
  ·rw [HU.out]; rfl
  ·rw [HU.out]; rfl
 have t5 := zaI t h0
 have t2 : (0 : Int) < (t.size : Int) := by omega
 have a := zak t (show 0 < t.size by omega)
 rw [List.drop_zero] at a
 by_cases h92 : byte t 0 = 92
 ·by_cases h1 : t.size = 1
  ·have t4 : ((t.size : Int) == 1) = true := by simp; omega
   have hL : L t = [92] := by rw [a, za3 t 0 (by decide) h92, zas t (by omega)]; rfl
   have HL := Lib.hid hL
   clear a hL h1
   go_enter Tryz.func331, Tryz.ntmps331
   go_wp2
   go_ret2
   refine ⟨zaS ?_ ?_, Below.refl _ _⟩
   ·rw [HL.out]; rfl
   ·rw [HL.out]; rfl
  have h1' : 1 < t.size := by omega
  rcases zuN (ub t 1) with ⟨i, hi, hz, hl⟩ | ⟨hz, hl⟩
  ·exact zmx t hs w h92 h1' i hi hz hl
  ·by_cases hx : byte t 1 = 120
   ·obtain ⟨v, k, hp⟩ : ∃ v k, digs 16 ((L t).drop 2) 2 0 = (v, k) := ⟨_, _, rfl⟩
    rcases Nat.eq_zero_or_pos k with rfl | hk
    ·exact zn6 t hs w h92 h1' hl hx v hp
    ·exact zn5 t hs w h92 h1' hl hx v k hp hk
   ·obtain ⟨v, k, hp⟩ : ∃ v k, digs 8 ((L t).drop 1) 3 0 = (v, k) := ⟨_, _, rfl⟩
    rcases Nat.eq_zero_or_pos k with rfl | hk
    ·by_cases hx2 : byte t 1 = 10
     ·exact zn9 t hs w h92 h1' hl hx2
     ·exact zn8 t hs w h92 h1' hz hl hx hx2 v hp
    ·exact zn7 t hs w h92 h1' hz hl hx v k hp hk
 ·have t4 : ((byte t 0 : Int) == 92) = false := by simp; omega
  have hc : ¬ ub t 0 = 92 := fun h => h92 ((zbv t 0 92 (by decide)).1 h)
  have hu : une (L t) = ([], 0) := by rw [a]; exact zey hc
  have HU := Lib.hid hu
  clear a hu hc h92
  go_enter Tryz.func331, Tryz.ntmps331
  go_wp2
  go_ret2
  refine ⟨zaS ?_ ?_, Below.refl _ _⟩
  ·rw [HU.out]; rfl
  ·rw [HU.out]; rfl
end Go.Proofs.YtppjodfehhlniaaGreatDoor
end
section
namespace Go.Proofs.YtppjodfehhlniaaGreatDoor
open Go.ChangeShapes Go.WideShapes Go.ChangeAt Go.RowKit
theorem zaN {w : World} {b base : Nat} {e : TypeId} {size : Nat} {v : Value} {n : Nat} {xs : List Value} (h : w.ownsRow base e size v n xs) (hb : b ≤ base) : w.ownsRow b e size v n xs := by
 refine ⟨h.1, ?_⟩
 rcases h.2 with h | ⟨g, cap, cur, h1, h2, h3⟩
 ·exact .inl h
 ·exact .inr ⟨g, cap, cur, h1, Nat.le_trans hb h2, h3⟩
theorem zbl {w w' : World} {base e size : Nat} {v : Value} {n : Nat} {xs : List Value} (h : w.ownsRow base e size v n xs)
  (ha : ∀ k, v.ownBlock = some k → w'.heap[k]? = w.heap[k]?) : w'.ownsRow base e size v n xs := by
 refine ⟨h.1, ?_⟩
 rcases h.2 with hn | ⟨g, cap, cur, rfl, hb, hgg, rest⟩
 ·exact .inl hn
 ·exact .inr ⟨g, cap, cur, rfl, hb, by rw [ha g rfl]; exact hgg, rest⟩
theorem za8 {w w' : World} {base e size : Nat} {v : Value} {n : Nat} {xs : List Value} (h : w.ownsRow base e size v n xs) (hb : Below w.heap.size w w') : w'.ownsRow base e size v n xs :=
 zbl h fun k hk => hb.block k (h.lt k hk).2
theorem zb7 {b : Nat} {bs : List Value} {W W' : World} {B : Nat} (h : Lib.IsBuilder 80 5 B b bs W) (hb : Below W.heap.size W W') : Lib.IsBuilder 80 5 B b bs W' := by
 have key : ∀ p, Lib.BuilderAt 80 5 B b p bs W → Lib.BuilderAt 80 5 B b p bs W' := by
  rintro p ⟨h1, v, h2, h3, h4⟩
  exact ⟨h1, v, (hb.block _ (Array.getElem?_eq_some_iff.1 h2).1).trans h2, za8 h3 hb, h4⟩
 rcases h with h | h
 ·exact .inl (key _ h)
 ·exact .inr (key _ h)
theorem ztd (c : UInt8) (base at_ : Nat) (p : Nat × Nat) : (une2 c base at_ p).1.length = 1 := by unfold une2; split <;> rfl
theorem zuO (r : List UInt8) : (une (92 :: r)).1.length = 1 := by
 cases r with
 | nil => rfl
 | cons c t =>
   show (une1 c t).1.length = 1
   unfold une1
   split
   ·rfl
   ·split
    ·rfl
    ·split <;> exact ztd _ _ _ _
def rdV : Option (List UInt8 × Nat) → Ending
 | some p => .returned (.tuple #[.string ⟨p.1.toArray⟩, .int .i64 (p.2 : Int), .bool true])
 | none => .returned (.tuple #[.string ⟨#[]⟩, .int .i64 0, .bool false])
theorem zhC {p : List UInt8 × Nat} {s : ByteArray} {n : Int} (h1 : p.1 = L s) (h2 : (p.2 : Int) = n) : Ending.returned (.tuple #[.string s, .int .i64 n, .bool true]) = rdV (some p) := by
 obtain ⟨x, k⟩ := p
 subst h1
 subst h2
 rfl
theorem zb8 (c : UInt8) (r : List UInt8) (d : Int) : clo (c :: r) d =
  if c = 92 then (clo (r.drop 1) d).map (· + 2) else if c = 123 then (clo r (d + 1)).map (· + 1) else if c = 125 then (if d - 1 = 0 then some 0 else (clo r (d - 1)).map (· + 1)) else (clo r d).map (· + 1) := by
 cases r with
 | nil => unfold clo; simp [clo]
 | cons b r => rw [clo]; rfl
theorem zo9 (s : ByteArray) {i : Nat} (h : s.size ≤ i) : bare ((L s).drop i) = ([], 0) := by rw [zas s h, bare.eq_def]
theorem zj2 (s : ByteArray) {i : Nat} (h : i < s.size) (hw : whN (byte s i) = true) : bare ((L s).drop i) = ([], 0) := by
 rw [zak s h, bare.eq_def]
 simp only [zf7, hw, ↓reduceIte]
theorem zeB (s : ByteArray) {i : Nat} (h : i < s.size) (n : Nat) : (ub s i :: (L s).drop (i + 1)).drop n = (L s).drop (i + n) := by
 rw [← zak s h, List.drop_drop]
theorem zpa (s : ByteArray) {i : Nat} (h : i < s.size) (hw : whN (byte s i) = false) (h92 : byte s i = 92) :
  bare ((L s).drop i) = ((une ((L s).drop i)).1 ++ (bare ((L s).drop (i + (une ((L s).drop i)).2))).1, (une ((L s).drop i)).2 + (bare ((L s).drop (i + (une ((L s).drop i)).2))).2) := by
 rw [zak s h, bare.eq_def]
 have hc : ub s i = 92 := za3 s i (by decide) h92
 simp only [zf7, hw, hc, ↓reduceDIte]
 rw [if_neg (by decide), ← hc, zeB s h]
theorem zj3 (s : ByteArray) {i : Nat} (h : i < s.size) (hw : whN (byte s i) = false) (h92 : ¬ byte s i = 92) :
  bare ((L s).drop i) = (ub s i :: (bare ((L s).drop (i + 1))).1, 1 + (bare ((L s).drop (i + 1))).2) := by
 rw [zak s h, bare.eq_def]
 have hc : ¬ ub s i = 92 := fun e => h92 ((zbv s i 92 (by decide)).1 e)
 simp only [zf7, hw, hc, ↓reduceDIte]
 rw [if_neg (by decide)]
theorem zrz (s : ByteArray) {i : Nat} (h : s.size ≤ i) : quo ((L s).drop i) = none := by rw [zas s h, quo.eq_def]
theorem zpb (s : ByteArray) {i : Nat} (h : i < s.size) (h34 : byte s i = 34) : quo ((L s).drop i) = some ([], 0) := by
 rw [zak s h, quo.eq_def]
 have hc : ub s i = 34 := za3 s i (by decide) h34
 simp only [hc, ↓reduceIte]
theorem zrA (s : ByteArray) {i : Nat} (h : i < s.size) (h92 : byte s i = 92) :
  quo ((L s).drop i) = (quo ((L s).drop (i + (une ((L s).drop i)).2))).map fun p => ((une ((L s).drop i)).1 ++ p.1, (une ((L s).drop i)).2 + p.2) := by
 rw [zak s h, quo.eq_def]
 have hc : ub s i = 92 := za3 s i (by decide) h92
 simp only [hc, ↓reduceDIte]
 rw [if_neg (by decide), ← hc, zeB s h]
theorem zmy (s : ByteArray) {i : Nat} (h : i < s.size) (h34 : ¬ byte s i = 34) (h92 : ¬ byte s i = 92) :
  quo ((L s).drop i) = (quo ((L s).drop (i + 1))).map fun p => (ub s i :: p.1, 1 + p.2) := by
 rw [zak s h, quo.eq_def]
 have hc : ¬ ub s i = 92 := fun e => h92 ((zbv s i 92 (by decide)).1 e)
 have hc2 : ¬ ub s i = 34 := fun e => h34 ((zbv s i 34 (by decide)).1 e)
 simp only [hc, hc2, ↓reduceDIte, ↓reduceIte]
theorem zmz (s : ByteArray) {i : Nat} (h : i < s.size) (h92 : byte s i = 92) : (une ((L s).drop i)).1.length = 1 ∧ 1 ≤ (une ((L s).drop i)).2 ∧ i + (une ((L s).drop i)).2 ≤ s.size := by
 have h3 := zn0 ((L s).drop i)
 rw [List.length_drop, za7] at h3
 rw [zak s h, za3 s i (by decide) h92] at *
 exact ⟨zuO _, zcg _, by omega⟩
end Go.Proofs.YtppjodfehhlniaaGreatDoor
end
section
namespace Go.Proofs.YtppjodfehhlniaaGreatDoor
open Go.ChangeShapes Go.WideShapes Go.ChangeAt Go.RowKit
set_option maxRecDepth 100000
set_option maxHeartbeats 1000000 in
theorem zpY (s : ByteArray) (hs : s.size ≤ 1000000) (w : World) :
  Calls Tryz.prog 214 #[.string s] w fun e w' => e = rdV ((clo (L s) 0).map fun k => (((L s).take k).drop 1, k + 1)) ∧ w = w' := by
 have hby := zam s
 go_enter Tryz.func214, Tryz.ntmps214
 go_wp2
 go_loopg [5, 6] (s.size + 1) (fun k dv n wr => ∃ (d : Int) (i : Nat), dv = .int .i64 d ∧ n = .int .i64 (i : Int) ∧ k = s.size + 1 - i ∧ i ≤ s.size + 1 ∧ -(i : Int) ≤ d ∧ d ≤ (i : Int) ∧
  clo (L s) 0 = (clo ((L s).drop i) d).map (· + i) ∧ w = wr)
 case atStart => exact ⟨0, 0, rfl, rfl, by omega, by omega, by omega, by omega, by simp, rfl⟩
 case round =>
  obtain ⟨d, i, rfl, rfl, hk, his, hd1, hd2, heq, rfl⟩ := hrel
  have HK := Lib.hid hk
  have HEQ := Lib.hid heq
  have hb := zaA s i
  clear hk heq
  by_cases hlt : i < s.size
  ·have t7 : (i : Int) < (s.size : Int) := by omega
   have hdr := zak s hlt
   by_cases h92 : byte s i = 92
   ·have t8 : ((byte s i : Int) == 92) = true := by simp; omega
    have hc : ub s i = 92 := za3 s i (by decide) h92
    have HS := Lib.hid (show clo ((L s).drop i) d = (clo ((L s).drop (i + 2)) d).map (· + 2) by rw [hdr, zb8, if_pos hc, List.drop_drop])
    clear h92 hdr hc
    go_wp2
    go_roundg (s.size + 1 - (i + 2))
    case measure => rw [HK.out]; omega
    case rel =>
     refine ⟨d, i + 2, rfl, by go_num, rfl, by omega, by omega, by omega, ?_, rfl⟩
     rw [HEQ.out, HS.out, Option.map_map]
     congr 1; funext x; simp; omega
   ·have hc : ¬ ub s i = 92 := fun h => h92 ((zbv s i 92 (by decide)).1 h)
    have t8 : ((byte s i : Int) == 92) = false := by simp; omega
    by_cases h123 : byte s i = 123
    ·have t9 : ((byte s i : Int) == 123) = true := by simp; omega
     have hc2 : ub s i = 123 := za3 s i (by decide) h123
     have HS := Lib.hid (show clo ((L s).drop i) d = (clo ((L s).drop (i + 1)) (d + 1)).map (· + 1) by rw [hdr, zb8, if_neg hc, if_pos hc2])
     clear h92 h123 hdr hc hc2
     go_wp2
     go_roundg (s.size + 1 - (i + 1))
     case measure => rw [HK.out]; omega
     case rel =>
      refine ⟨d + 1, i + 1, rfl, by go_num, rfl, by omega, by omega, by omega, ?_, rfl⟩
      rw [HEQ.out, HS.out, Option.map_map]
      congr 1; funext x; simp; omega
    ·have hc2 : ¬ ub s i = 123 := fun h => h123 ((zbv s i 123 (by decide)).1 h)
     have t9 : ((byte s i : Int) == 123) = false := by simp; omega
     by_cases h125 : byte s i = 125
     ·have t10 : ((byte s i : Int) == 125) = true := by simp; omega
      have hc3 : ub s i = 125 := za3 s i (by decide) h125
      by_cases hd0 : d - 1 = 0
      ·have t11 : (d - 1 == 0) = true := by simp; omega
       have t12 : (1 : Int) ≤ (i : Int) := by omega
       have t13 : (i : Int) ≤ (s.size : Int) := by omega
       have HS := Lib.hid (show clo ((L s).drop i) d = some 0 by rw [hdr, zb8, if_neg hc, if_neg hc2, if_pos hc3, if_pos hd0])
       clear h92 h123 h125 hdr hc hc2 hc3 hd0
       go_wp2
       go_ret3
       refine ⟨?_, rfl⟩
       rw [HEQ.out, HS.out]
       refine zhC ?_ ?_
       ·simp only [ze0, List.drop_take]; simp
       ·simp
      ·have t11 : (d - 1 == 0) = false := by simp; omega
       have HS := Lib.hid (show clo ((L s).drop i) d = (clo ((L s).drop (i + 1)) (d - 1)).map (· + 1) by rw [hdr, zb8, if_neg hc, if_neg hc2, if_pos hc3, if_neg hd0])
       clear h92 h123 h125 hdr hc hc2 hc3 hd0
       go_wp2
       go_roundg (s.size + 1 - (i + 1))
       case measure => rw [HK.out]; omega
       case rel =>
        refine ⟨d - 1, i + 1, rfl, by go_num, rfl, by omega, by omega, by omega, ?_, rfl⟩
        rw [HEQ.out, HS.out, Option.map_map]
        congr 1; funext x; simp; omega
     ·have hc3 : ¬ ub s i = 125 := fun h => h125 ((zbv s i 125 (by decide)).1 h)
      have t10 : ((byte s i : Int) == 125) = false := by simp; omega
      have HS := Lib.hid (show clo ((L s).drop i) d = (clo ((L s).drop (i + 1)) d).map (· + 1) by rw [hdr, zb8, if_neg hc, if_neg hc2, if_neg hc3])
      clear h92 h123 h125 hdr hc hc2 hc3
      go_wp2
      go_roundg (s.size + 1 - (i + 1))
      case measure => rw [HK.out]; omega
      case rel =>
       refine ⟨d, i + 1, rfl, by go_num, rfl, by omega, by omega, by omega, ?_, rfl⟩
       rw [HEQ.out, HS.out, Option.map_map]
       congr 1; funext x; simp; omega
  ·have t7 : ¬ (i : Int) < (s.size : Int) := by omega
   have HS := Lib.hid (show clo ((L s).drop i) d = none by rw [zas s (by omega)]; simp [clo])
   go_wp2
   go_ret3
   refine ⟨?_, rfl⟩
   rw [HEQ.out, HS.out]
   rfl
end Go.Proofs.YtppjodfehhlniaaGreatDoor
end
section
namespace Go.Proofs.YtppjodfehhlniaaGreatDoor
open Go.ChangeShapes Go.WideShapes Go.ChangeAt Go.RowKit
set_option maxRecDepth 100000
set_option maxHeartbeats 2000000 in
theorem zte (s : ByteArray) (hs : s.size ≤ 1000000) (w : World) :
  Calls Tryz.prog 213 #[.string s] w fun e w' => e = rdV (some (bare (L s))) ∧ Below w.heap.size w w' := by
 have hby := zam s
 obtain ⟨A, hA, sA, aN, aO, bA⟩ := zaH w #[.pointer none, .slice none 0 0] 80
 have hbld : Lib.IsBuilder 80 5 w.heap.size w.heap.size (Lib.byteCells []) A := by rw [← hA]; exact Lib.fresh_isBuilder 80 5 w
 have HA := Lib.hid hA
 have HB := Lib.hid bA
 have HL := Lib.hid hbld
 clear hA sA aN aO bA hbld
 go_enter Tryz.func213, Tryz.ntmps213
 go_wp2
 rw [HA.out]
 go_loopg [6] s.size (fun k iv wr => ∃ (i : Nat) (acc : List UInt8), iv = .int .i64 (i : Int) ∧ k = s.size - i ∧ i ≤ s.size ∧ acc.length ≤ i ∧
  bare (L s) = (acc ++ (bare ((L s).drop i)).1, i + (bare ((L s).drop i)).2) ∧ Lib.IsBuilder 80 5 w.heap.size w.heap.size (Lib.byteCells acc) wr ∧ Below w.heap.size w wr)
 case atStart => exact ⟨0, [], rfl, rfl, Nat.zero_le _, Nat.le_refl _, by simp, HL.out, HB.out⟩
 case round =>
  obtain ⟨i, acc, rfl, hk, hi, hal, heq, hbd, hbel⟩ := hrel
  have HK := Lib.hid hk
  have HBD := Lib.hid hbd
  have HBEL := Lib.hid hbel
  have hsz := hbel.size
  have HEQ := Lib.hid heq
  clear hk hbd hbel heq
  have hcl : (Lib.byteCells acc).length ≤ 1000000 := by rw [Lib.byteCells_length]; omega
  have hb := zaA s i
  by_cases hlt : i < s.size
  ·have t1 : (i : Int) < (s.size : Int) := by omega
   have t0 : (0 : Int) ≤ (i : Int) := by omega
   have t00 : (i : Int) ≤ (s.size : Int) := by omega
   by_cases hw : whN (byte s i) = true
   ·have HZ := Lib.hid (zj2 s hlt hw)
    go_wp2_with (go_at_call 100; refine (zb5 _ hb _).mono ?_; rintro e w' ⟨rfl, rfl⟩; rw [hw])
    refine (Tryz.Builder_String_any w.heap.size w.heap.size _ wr HBD.out hsz).mono ?_
    rintro e w' ⟨rfl, hb2⟩
    dsimp only
    have HB2 := Lib.hid hb2
    clear hb2
    go_wp2
    go_ret3
    refine ⟨?_, HBEL.out.trans HB2.out⟩
    refine zhC ?_ ?_
    ·rw [HEQ.out, HZ.out]; simp [L]
    ·rw [HEQ.out, HZ.out]; simp
   ·have hwf : whN (byte s i) = false := by simpa using hw
    by_cases h92 : byte s i = 92
    ·have t2 : ((byte s i : Int) == 92) = true := by simp; omega
     obtain ⟨hu1, hu2, hu3⟩ := zmz s hlt h92
     have HZ := Lib.hid (zpa s hlt hwf h92)
     have hun := fun W => zhd (s.extract i s.size) (by rw [ByteArray.size_extract]; omega) W
     rw [zdi] at hun
     obtain ⟨x, n, hxn⟩ : ∃ x n, une ((L s).drop i) = (x, n) := ⟨_, _, rfl⟩
     unfold uneV at hun
     rw [hxn] at hun hu1 hu2 hu3 HZ
     dsimp only at hun hu1 hu2 hu3 HZ
     have HUN := Lib.hid hun
     have hns : (i : Int) + (n : Int) ≤ 1000000 := by omega
     clear hun hxn h92 hw
     go_wp2_with (first | (go_at_call 100; refine (zb5 _ hb _).mono ?_; rintro e w' ⟨rfl, rfl⟩; rw [hwf]) | (go_at_call 331; refine (HUN.out _).mono ?_; rintro e w2 ⟨rfl, hb2⟩; dsimp only; have HB2 := Lib.hid hb2; have hsz2 := hb2.size; clear hb2))
     refine (zb6 w.heap.size w.heap.size _ ⟨x.toArray⟩ w2 (zb7 HBD.out HB2.out) (by simp [ByteArray.size, hu1]; omega) (by omega)).mono ?_
     rintro e w3 ⟨rfl, hb3, hl3⟩
     dsimp only
     rw [ziP] at hb3
     have HB3 := Lib.hid (show Lib.IsBuilder 80 5 w.heap.size w.heap.size _ w3 from .inr hb3)
     have HL3 := Lib.hid hl3
     clear hb3 hl3
     go_wp2
     go_roundg (s.size - (i + n))
     case measure => rw [HK.out]; omega
     case rel =>
      refine ⟨i + n, acc ++ x, by go_num, rfl, by omega, by simp; omega, ?_, HB3.out, (HBEL.out.trans (HB2.out.mono hsz)).trans HL3.out⟩
      rw [HEQ.out, HZ.out]
      simp [Nat.add_assoc]
    ·have t2 : ((byte s i : Int) == 92) = false := by simp; omega
     have HZ := Lib.hid (zj3 s hlt hwf h92)
     clear h92 hw
     go_wp2_with (go_at_call 100; refine (zb5 _ hb _).mono ?_; rintro e w' ⟨rfl, rfl⟩; rw [hwf])
     refine (zao w.heap.size w.heap.size _ (byte s i : Int) wr HBD.out (by omega) (by omega)).mono ?_
     rintro e w3 ⟨rfl, hb3, hl3⟩
     dsimp only
     rw [zci] at hb3
     have HB3 := Lib.hid (show Lib.IsBuilder 80 5 w.heap.size w.heap.size _ w3 from .inr hb3)
     have HL3 := Lib.hid hl3
     clear hb3 hl3
     go_wp2
     go_roundg (s.size - (i + 1))
     case measure => rw [HK.out]; omega
     case rel =>
      refine ⟨i + 1, acc ++ [ub s i], by go_num, rfl, by omega, by simp; omega, ?_, HB3.out, HBEL.out.trans HL3.out⟩
      rw [HEQ.out, HZ.out]
      simp [Nat.add_assoc]
  ·have t1 : ¬ (i : Int) < (s.size : Int) := by omega
   have HZ := Lib.hid (zo9 s (show s.size ≤ i by omega))
   go_wp2_with (fail)
   refine (Tryz.Builder_String_any w.heap.size w.heap.size _ wr HBD.out hsz).mono ?_
   rintro e w' ⟨rfl, hb2⟩
   dsimp only
   have HB2 := Lib.hid hb2
   clear hb2
   go_wp2
   go_ret3
   refine ⟨?_, HBEL.out.trans HB2.out⟩
   refine zhC ?_ ?_
   ·rw [HEQ.out, HZ.out]; simp [L]
   ·rw [HEQ.out, HZ.out]; simp
end Go.Proofs.YtppjodfehhlniaaGreatDoor
end
section
namespace Go.Proofs.YtppjodfehhlniaaGreatDoor
open Go.ChangeShapes Go.WideShapes Go.ChangeAt Go.RowKit
set_option maxRecDepth 100000
set_option maxHeartbeats 2000000 in
theorem zpZ (s : ByteArray) (hs : s.size ≤ 1000000) (w : World) :
  Calls Tryz.prog 215 #[.string s] w fun e w' => e = rdV ((quo ((L s).drop 1)).map fun p => (p.1, p.2 + 2)) ∧ Below w.heap.size w w' := by
 have hby := zam s
 obtain ⟨A, hA, sA, aN, aO, bA⟩ := zaH w #[.pointer none, .slice none 0 0] 80
 have hbld : Lib.IsBuilder 80 5 w.heap.size w.heap.size (Lib.byteCells []) A := by rw [← hA]; exact Lib.fresh_isBuilder 80 5 w
 have HA := Lib.hid hA
 have HB := Lib.hid bA
 have HL := Lib.hid hbld
 clear hA sA aN aO bA hbld
 go_enter Tryz.func215, Tryz.ntmps215
 go_wp2
 rw [HA.out]
 go_loopg [6] (s.size + 1 - 1) (fun k iv wr => ∃ (i : Nat) (acc : List UInt8), iv = .int .i64 (i : Int) ∧ k = s.size + 1 - i ∧ 1 ≤ i ∧ i ≤ s.size + 1 ∧ acc.length ≤ i ∧
  quo ((L s).drop 1) = (quo ((L s).drop i)).map (fun p => (acc ++ p.1, i - 1 + p.2)) ∧ Lib.IsBuilder 80 5 w.heap.size w.heap.size (Lib.byteCells acc) wr ∧ Below w.heap.size w wr)
 case atStart => exact ⟨1, [], rfl, by omega, by omega, by omega, Nat.zero_le _, by simp, HL.out, HB.out⟩
 case round =>
  obtain ⟨i, acc, rfl, hk, hi1, hi, hal, heq, hbd, hbel⟩ := hrel
  have HK := Lib.hid hk
  have HBD := Lib.hid hbd
  have HBEL := Lib.hid hbel
  have hsz := hbel.size
  have HEQ := Lib.hid heq
  clear hk hbd hbel heq
  have hcl : (Lib.byteCells acc).length ≤ 1000001 := by rw [Lib.byteCells_length]; omega
  have hb := zaA s i
  by_cases hlt : i < s.size
  ·have t1 : (i : Int) < (s.size : Int) := by omega
   have t0 : (0 : Int) ≤ (i : Int) := by omega
   have t00 : (i : Int) ≤ (s.size : Int) := by omega
   by_cases h34 : byte s i = 34
   ·have t2 : ((byte s i : Int) == 34) = true := by simp; omega
    have HZ := Lib.hid (zpb s hlt h34)
    clear h34
    go_wp2_with (fail)
    refine (Tryz.Builder_String_any w.heap.size w.heap.size _ wr HBD.out hsz).mono ?_
    rintro e w' ⟨rfl, hb2⟩
    dsimp only
    have HB2 := Lib.hid hb2
    clear hb2
    go_wp2
    go_ret3
    refine ⟨?_, HBEL.out.trans HB2.out⟩
    rw [HEQ.out, HZ.out]
    refine zhC ?_ ?_
    ·simp [L]
    ·simp; omega
   ·have t2 : ((byte s i : Int) == 34) = false := by simp; omega
    by_cases h92 : byte s i = 92
    ·have t3 : ((byte s i : Int) == 92) = true := by simp; omega
     obtain ⟨hu1, hu2, hu3⟩ := zmz s hlt h92
     have HZ := Lib.hid (zrA s hlt h92)
     have hun := fun W => zhd (s.extract i s.size) (by rw [ByteArray.size_extract]; omega) W
     rw [zdi] at hun
     obtain ⟨x, n, hxn⟩ : ∃ x n, une ((L s).drop i) = (x, n) := ⟨_, _, rfl⟩
     unfold uneV at hun
     rw [hxn] at hun hu1 hu2 hu3 HZ
     dsimp only at hun hu1 hu2 hu3 HZ
     have HUN := Lib.hid hun
     have hns : (i : Int) + (n : Int) ≤ 1000000 := by omega
     clear hun hxn h92 h34
     go_wp2_with (go_at_call 331; refine (HUN.out _).mono ?_; rintro e w2 ⟨rfl, hb2⟩; dsimp only; have HB2 := Lib.hid hb2; have hsz2 := hb2.size; clear hb2)
     refine (zb6 w.heap.size w.heap.size _ ⟨x.toArray⟩ w2 (zb7 HBD.out HB2.out) (by simp [ByteArray.size, hu1]; omega) (by omega)).mono ?_
     rintro e w3 ⟨rfl, hb3, hl3⟩
     dsimp only
     rw [ziP] at hb3
     have HB3 := Lib.hid (show Lib.IsBuilder 80 5 w.heap.size w.heap.size _ w3 from .inr hb3)
     have HL3 := Lib.hid hl3
     clear hb3 hl3
     go_wp2
     go_roundg (s.size + 1 - (i + n))
     case measure => rw [HK.out]; omega
     case rel =>
      refine ⟨i + n, acc ++ x, by go_num, rfl, by omega, by omega, by simp; omega, ?_, HB3.out, (HBEL.out.trans (HB2.out.mono hsz)).trans HL3.out⟩
      rw [HEQ.out, HZ.out, Option.map_map]
      congr 1; funext p; simp; omega
    ·have t3 : ((byte s i : Int) == 92) = false := by simp; omega
     have HZ := Lib.hid (zmy s hlt h34 h92)
     clear h92 h34
     go_wp2_with (fail)
     refine (zao w.heap.size w.heap.size _ (byte s i : Int) wr HBD.out (by omega) (by omega)).mono ?_
     rintro e w3 ⟨rfl, hb3, hl3⟩
     dsimp only
     rw [zci] at hb3
     have HB3 := Lib.hid (show Lib.IsBuilder 80 5 w.heap.size w.heap.size _ w3 from .inr hb3)
     have HL3 := Lib.hid hl3
     clear hb3 hl3
     go_wp2
     go_roundg (s.size + 1 - (i + 1))
     case measure => rw [HK.out]; omega
     case rel =>
      refine ⟨i + 1, acc ++ [ub s i], by go_num, rfl, by omega, by omega, by simp; omega, ?_, HB3.out, HBEL.out.trans HL3.out⟩
      rw [HEQ.out, HZ.out, Option.map_map]
      congr 1; funext p; simp; omega
  ·have t1 : ¬ (i : Int) < (s.size : Int) := by omega
   have HZ := Lib.hid (zrz s (show s.size ≤ i by omega))
   go_wp2
   go_ret3
   refine ⟨?_, HBEL.out⟩
   rw [← List.drop_one, HEQ.out, HZ.out]
   rfl
end Go.Proofs.YtppjodfehhlniaaGreatDoor
end
section
namespace Go.Proofs.YtppjodfehhlniaaGreatDoor
structure El where
 at_ : Nat
 tx : List UInt8
 ok : Bool
def evs (l : List UInt8) (i : Nat) : List El :=
 match l with
 | [] => []
 | c :: r => if hw : wh c = true then evs r (i + 1)
   else match he : elm (c :: r) with
    | none => [⟨i, [], false⟩]
    | some p => if zez ((c :: r).drop p.2) = true then ⟨i, p.1, true⟩ :: evs ((c :: r).drop p.2) (i + p.2) else [⟨i, p.1, false⟩]
termination_by l.length
decreasing_by
 ·simp
 ·have := zfy (by simpa using hw) he
  simp only [List.length_drop, List.length_cons]; omega
theorem ziQ {c : UInt8} {r : List UInt8} {i : Nat} (h : wh c = true) : evs (c :: r) i = evs r (i + 1) := by
 rw [evs]; simp [h]
theorem zpc {c : UInt8} {r : List UInt8} {i : Nat} (h : wh c = false) (he : elm (c :: r) = none) : evs (c :: r) i = [⟨i, [], false⟩] := by
 rw [evs]; simp only [h]; rw [dif_neg (by decide)]
 split
 ·rfl
 ·rename_i hs; rw [he] at hs; cases hs
theorem zhD {c : UInt8} {r : List UInt8} {i : Nat} (h : wh c = false) {p : List UInt8 × Nat} (he : elm (c :: r) = some p) :
  evs (c :: r) i = if zez ((c :: r).drop p.2) = true then ⟨i, p.1, true⟩ :: evs ((c :: r).drop p.2) (i + p.2) else [⟨i, p.1, false⟩] := by
 rw [evs]; simp only [h]; rw [dif_neg (by decide)]
 split
 ·rename_i hs; rw [he] at hs; cases hs
 ·rename_i q hs; rw [he] at hs; cases hs; rfl
theorem zrB : ∀ (n : Nat) (l : List UInt8) (i : Nat), l.length ≤ n → spl l = if (evs l i).all (·.ok) = true then some ((evs l i).map (·.tx)) else none := by
 intro n
 induction n with
 | zero => intro l i h; have : l = [] := List.eq_nil_of_length_eq_zero (by omega); subst this; simp [spl, evs]
 | succ n ih =>
   intro l i h
   cases l with
   | nil => simp [spl, evs]
   | cons c r =>
     by_cases hw : wh c = true
     ·rw [zf2 hw, ziQ hw]
      exact ih r (i + 1) (by simpa using h)
     ·have hw2 : wh c = false := by simpa using hw
      cases he : elm (c :: r) with
      | none => rw [zhB hw2 he, zpc hw2 he]; simp
      | some p =>
        rw [zf3 hw2 he, zhD hw2 he]
        by_cases hk : zez ((c :: r).drop p.2) = true
        ·rw [if_pos hk, if_pos hk]
         have hp := zfy hw2 he
         rw [ih ((c :: r).drop p.2) (i + p.2) (by simp only [List.length_drop, List.length_cons] at h ⊢; omega)]
         by_cases ha : (evs ((c :: r).drop p.2) (i + p.2)).all (·.ok) = true
         ·rw [if_pos ha, if_pos (by simpa using ha)]; simp
         ·rw [if_neg ha, if_neg (by simpa using ha)]; rfl
        ·rw [if_neg hk, if_neg hk]; simp
theorem zrC {l : List UInt8} {i : Nat} (h : zez l = true) : evs l i = evs (l.drop 1) (i + 1) := by
 cases l with
 | nil => simp [evs]
 | cons c r => exact ziQ h
end Go.Proofs.YtppjodfehhlniaaGreatDoor
end
section
namespace Go.Proofs.YtppjodfehhlniaaGreatDoor
open Go.RowKit Go.Shelf
attribute [local go_sem] Oper.semAt_some
set_option maxRecDepth 100000
theorem zaT {W W' : World} (h : Below W.heap.size W W') : W.grownBy W' none := ⟨h.os, h.tape, h.output, h.size, fun k hk _ => h.block k hk⟩
def rdF (c : Nat) : Nat := if c = 123 then 214 else if c = 34 then 215 else 213
theorem zp0 (s : ByteArray) (hs : s.size ≤ 1000000) (i : Nat) (hi : i < s.size) (w : World) :
  Calls Tryz.prog (rdF (byte s i)) #[.string (s.extract i s.size)] w fun e w' => e = rdV (elm ((L s).drop i)) ∧ Below w.heap.size w w' := by
 have hsz : (s.extract i s.size).size ≤ 1000000 := by rw [ByteArray.size_extract]; omega
 have hL := zdi s i
 have hd := zak s hi
 unfold rdF
 by_cases h1 : byte s i = 123
 ·rw [if_pos h1]
  refine (zpY _ hsz w).mono ?_
  rintro e w' ⟨rfl, rfl⟩
  refine ⟨?_, Below.refl _ _⟩
  rw [hL, hd]
  unfold elm
  simp only
  rw [if_pos (show ub s i = 123 from za3 s i (by decide) h1)]
 ·have c1 : ¬ ub s i = 123 := fun h => h1 ((zbv s i 123 (by decide)).1 h)
  rw [if_neg h1]
  by_cases h2 : byte s i = 34
  ·rw [if_pos h2]
   refine (zpZ _ hsz w).mono ?_
   rintro e w' ⟨rfl, hb⟩
   refine ⟨?_, hb⟩
   rw [hL, hd]
   unfold elm
   simp only
   rw [if_neg c1, if_pos (show ub s i = 34 from za3 s i (by decide) h2)]
   rfl
  ·have c2 : ¬ ub s i = 34 := fun h => h2 ((zbv s i 34 (by decide)).1 h)
   rw [if_neg h2]
   refine (zte _ hsz w).mono ?_
   rintro e w' ⟨rfl, hb⟩
   refine ⟨?_, hb⟩
   rw [hL, hd]
   unfold elm
   simp only
   rw [if_neg c1, if_neg c2]
def encE (x : El) : Array Value := #[.int .i64 (x.at_ : Int), .agg #[.string ⟨x.tx.toArray⟩, .bool x.ok]]
def rdrs : Array Value := #[.func (.func 213) #[] #[], .func (.func 214) #[] #[], .func (.func 215) #[] #[]]
structure Caps (s : ByteArray) (B1 B2 : Nat) (W : World) : Prop where
 b1 : W.heap[B1]? = some (.cells #[.string s] 9 (0, 0))
 b2 : W.heap[B2]? = some (.cells rdrs 156 (0, 0))
theorem Caps.c1 {s : ByteArray} {B1 B2 : Nat} {W : World} (h : Caps s B1 B2 W) : W.cell? ⟨B1, 0, none⟩ = some (.string s) := by rw [Lib.cell_of_heap h.b1]; rfl
theorem Caps.d0 {s : ByteArray} {B1 B2 : Nat} {W : World} (h : Caps s B1 B2 W) : W.cell? ⟨B2, 0, none⟩ = some (.func (.func 213) #[] #[]) := by rw [Lib.cell_of_heap h.b2]; rfl
theorem Caps.d1 {s : ByteArray} {B1 B2 : Nat} {W : World} (h : Caps s B1 B2 W) : W.cell? ⟨B2, 1, none⟩ = some (.func (.func 214) #[] #[]) := by rw [Lib.cell_of_heap h.b2]; rfl
theorem Caps.d2 {s : ByteArray} {B1 B2 : Nat} {W : World} (h : Caps s B1 B2 W) : W.cell? ⟨B2, 2, none⟩ = some (.func (.func 215) #[] #[]) := by rw [Lib.cell_of_heap h.b2]; rfl
def Keep2 (B1 B2 : Nat) (W W' : World) : Prop := W'.heap[B1]? = W.heap[B1]? ∧ W'.heap[B2]? = W.heap[B2]?
theorem Keep2.trans {B1 B2 : Nat} {A B C : World} (h : Keep2 B1 B2 A B) (k : Keep2 B1 B2 B C) : Keep2 B1 B2 A C := ⟨k.1.trans h.1, k.2.trans h.2⟩
theorem Caps.keep {s : ByteArray} {B1 B2 : Nat} {W W' : World} (h : Caps s B1 B2 W) (k : Keep2 B1 B2 W W') : Caps s B1 B2 W' := ⟨k.1.trans h.b1, k.2.trans h.b2⟩
theorem Caps.below {s : ByteArray} {B1 B2 : Nat} {W W' : World} (h : Caps s B1 B2 W) (hb : Below W.heap.size W W') : Caps s B1 B2 W' :=
 ⟨(hb.block _ (Array.getElem?_eq_some_iff.1 h.b1).1).trans h.b1, (hb.block _ (Array.getElem?_eq_some_iff.1 h.b2).1).trans h.b2⟩
def zeU (R : Act → World → Prop) : Exit → Act → World → Prop
 | .normal, a, w => R a w
 | _, _, _ => False
def zfA : Code := Code.region 4 #[{ dst := some 20, op := Op.load 9 (Operand.tmp 1), type := 9, pos := "list.go:176", after := #[], guard := none }, { dst := some 21, op := Op.move (Operand.tmp 4), type := 3, pos := "list.go:176", after := #[], guard := none }, { dst := some 22, op := Op.index 9 (Operand.tmp 20) (Operand.tmp 21), type := 5, pos := "list.go:176", after := #[{ on := 0, ground := Ground.data }, { on := 1, ground := Ground.data }], guard := none }, { dst := some 23, op := Op.call { callee := Callee.value (Operand.func 101), args := #[Operand.tmp 22], argTypes := #[5] }, type := 3, pos := "list.go:176", after := #[{ on := 2, ground := Ground.data }], guard := none }, { dst := some 24, op := Op.indexAddr 156 (Operand.tmp 2) (Operand.tmp 23), type := 0, pos := "list.go:176", after := #[{ on := 3, ground := Ground.data }], guard := none }, { dst := some 25, op := Op.load 155 (Operand.tmp 24), type := 155, pos := "list.go:176", after := #[{ on := 4, ground := Ground.data }], guard := none }, { dst := some 26, op := Op.load 9 (Operand.tmp 1), type := 9, pos := "list.go:176", after := #[], guard := none }, { dst := some 27, op := Op.move (Operand.tmp 4), type := 3, pos := "list.go:176", after := #[], guard := none }, { dst := some 28, op := Op.slice 9 (Operand.tmp 26) (some (Operand.tmp 27)) none none, type := 9, pos := "list.go:176", after := #[{ on := 6, ground := Ground.data }, { on := 7, ground := Ground.data }], guard := none }, { dst := some 29, op := Op.call { callee := Callee.value (Operand.tmp 25), args := #[Operand.tmp 28], argTypes := #[9] }, type := 160, pos := "list.go:176", after := #[{ on := 5, ground := Ground.data }, { on := 8, ground := Ground.data }, { on := 3, ground := Ground.chain }], guard := none }, { dst := some 19, op := Op.move (Operand.tmp 29), type := 160, pos := "list.go:176", after := #[{ on := 9, ground := Ground.data }], guard := none }, { dst := some 30, op := Op.extract (Operand.tmp 19) 0, type := 9, pos := "list.go:176", after := #[{ on := 10, ground := Ground.data }], guard := none }, { dst := some 31, op := Op.extract (Operand.tmp 19) 1, type := 3, pos := "list.go:176", after := #[{ on := 10, ground := Ground.data }, { on := 14, ground := Ground.gcOnly Departure.lateStores }], guard := none }, { dst := some 32, op := Op.extract (Operand.tmp 19) 2, type := 4, pos := "list.go:176", after := #[{ on := 10, ground := Ground.data }, { on := 15, ground := Ground.gcOnly Departure.lateStores }], guard := none }, { dst := some 5, op := Op.assign (Operand.tmp 30), type := 9, pos := "list.go:176", after := #[{ on := 11, ground := Ground.data }, { on := 9, ground := Ground.chain }, { on := 0, ground := Ground.phase }, { on := 1, ground := Ground.phase }, { on := 2, ground := Ground.phase }, { on := 3, ground := Ground.phase }, { on := 4, ground := Ground.phase }, { on := 5, ground := Ground.phase }, { on := 6, ground := Ground.phase }, { on := 7, ground := Ground.phase }, { on := 8, ground := Ground.phase }, { on := 9, ground := Ground.phase }, { on := 10, ground := Ground.phase }, { on := 11, ground := Ground.phase }, { on := 12, ground := Ground.textOnly Departure.lateStores }, { on := 13, ground := Ground.textOnly Departure.lateStores }], guard := none }, { dst := some 6, op := Op.assign (Operand.tmp 31), type := 3, pos := "list.go:176", after := #[{ on := 12, ground := Ground.data }, { on := 14, ground := Ground.chain }, { on := 0, ground := Ground.phase }, { on := 1, ground := Ground.phase }, { on := 2, ground := Ground.phase }, { on := 3, ground := Ground.phase }, { on := 4, ground := Ground.phase }, { on := 5, ground := Ground.phase }, { on := 6, ground := Ground.phase }, { on := 7, ground := Ground.phase }, { on := 8, ground := Ground.phase }, { on := 9, ground := Ground.phase }, { on := 10, ground := Ground.phase }, { on := 11, ground := Ground.phase }, { on := 12, ground := Ground.phase }, { on := 13, ground := Ground.textOnly Departure.lateStores }, { on := 14, ground := Ground.phase }], guard := none }, { dst := some 7, op := Op.assign (Operand.tmp 32), type := 4, pos := "list.go:176", after := #[{ on := 13, ground := Ground.data }, { on := 15, ground := Ground.chain }, { on := 0, ground := Ground.phase }, { on := 1, ground := Ground.phase }, { on := 2, ground := Ground.phase }, { on := 3, ground := Ground.phase }, { on := 4, ground := Ground.phase }, { on := 5, ground := Ground.phase }, { on := 6, ground := Ground.phase }, { on := 7, ground := Ground.phase }, { on := 8, ground := Ground.phase }, { on := 9, ground := Ground.phase }, { on := 10, ground := Ground.phase }, { on := 11, ground := Ground.phase }, { on := 12, ground := Ground.phase }, { on := 13, ground := Ground.phase }, { on := 14, ground := Ground.phase }, { on := 15, ground := Ground.phase }], guard := none }] true
end Go.Proofs.YtppjodfehhlniaaGreatDoor
end
