/-
  May a text stand in braces? The program's way and the document's; What a name must not hold: the program's tests and the document's; The iterator over. Conditions: none.
-/
import Derived.Test.YtppjodfehhlniaaGreatDoorWkToV2
import Derived.Test.YtppjodfehhlniaaGreatDoorUnaToVt3
import Derived.Test.YtppjodfehhlniaaGreatDoorWe2ToWi0
set_option linter.unusedVariables false
set_option linter.unusedSimpArgs false
set_option linter.unusedSectionVars false
set_option linter.deprecated false
section
namespace Go.Proofs.YtppjodfehhlniaaGreatDoor
open Go.ChangeShapes Go.WideShapes Go.ChangeAt Go.RowKit
set_option maxRecDepth 100000
theorem zrH (b : UInt8) (r : List UInt8) (d : Nat) : bal (92 :: b :: r) d = bal r d := by rw [bal]; rfl
theorem zpe (r : List UInt8) (d : Nat) : bal (123 :: r) d = bal r (d + 1) := by
 cases r with
 | nil => simp [bal]
 | cons b r => rw [bal]; rfl
theorem zj7 (r : List UInt8) : bal (125 :: r) 0 = false := by
 cases r with
 | nil => rfl
 | cons b r => rw [bal]; rfl
theorem zmC (r : List UInt8) (d : Nat) : bal (125 :: r) (d + 1) = bal r d := by
 cases r with
 | nil => simp [bal]
 | cons b r => rw [bal]; simp
theorem zmD {c : UInt8} (h1 : c ≠ 92) (h2 : c ≠ 123) (h3 : c ≠ 125) (r : List UInt8) (d : Nat) : bal (c :: r) d = bal r d := by
 cases r with
 | nil => simp [bal, h1, h2, h3]
 | cons b r => rw [bal]; simp [h1, h2, h3]
theorem zmE (s : ByteArray) (hs : s.size ≤ 1000000) (w : World) :
  Calls Tryz.prog 104 #[.string ⟨#[92, 10]⟩, .string s, .int .i64 0] w fun e w' => (∃ k : Int, e = .returned (.int .i64 k) ∧ FirstIs (slf (L s)) k) ∧ w = w' := by
 refine (zj6 ⟨#[92, 10]⟩ s rfl hs w).mono ?_
 rintro e w' ⟨⟨k, rfl, hk⟩, rfl⟩
 refine ⟨⟨k, rfl, ?_⟩, rfl⟩
 rw [zoh]
 have a : ub ⟨#[92, 10]⟩ 0 = 92 := by decide
 have b : ub ⟨#[92, 10]⟩ 1 = 10 := by decide
 rw [a, b] at hk
 exact hk
theorem FirstIs.yes {b : Bool} {k : Int} (h : FirstIs b k) (hb : b = true) : ¬ k < 0 := by
 unfold FirstIs at h; rw [if_pos hb] at h; omega
theorem FirstIs.no {b : Bool} {k : Int} (h : FirstIs b k) (hb : b = false) : k < 0 := by
 unfold FirstIs at h; rw [if_neg (by rw [hb]; simp)] at h; omega
set_option maxHeartbeats 2000000 in
theorem zhf (s : ByteArray) (hs : s.size ≤ 1000000) (w : World) (m : Int) (hm : w.cell? ⟨2, 0, none⟩ = some (.int .i64 m)) :
  Calls Tryz.prog 107 #[.string s] w fun e w' => e = .returned (.bool (bal (L s) 0 && !slf (L s))) ∧ w = w' := by
 have hby := zam s
 go_enter Tryz.func107, Tryz.ntmps107
 go_wp2
 go_loopg [3, 4] (s.size + 1) (fun k dv n wr => ∃ (d i : Nat), dv = .int .i64 (d : Int) ∧ n = .int .i64 (i : Int) ∧ k = s.size + 1 - i ∧ i ≤ s.size ∧ d ≤ i ∧ bal (L s) 0 = bal ((L s).drop i) d ∧ w = wr)
 case atStart => exact ⟨0, 0, rfl, rfl, by omega, by omega, by omega, by simp, rfl⟩
 case round =>
  obtain ⟨d, i, rfl, rfl, hk, his, hd1, heq, rfl⟩ := hrel
  have HK := Lib.hid hk
  have HEQ := Lib.hid heq
  have hb := zaA s i
  clear hk heq
  by_cases hlt : i < s.size
  ·have t7 : (i : Int) < (s.size : Int) := by omega
   have hdr := zak s hlt
   by_cases h92 : byte s i = 92
   ·have t8 : ((byte s i : Int) == 92) = true := by simp; omega
    have hc : ub s i = 92 := za3 s i (by decide) h92
    by_cases hl2 : i + 1 = s.size
    ·have t9 : ((i : Int) + 1 == (s.size : Int)) = true := by simp; omega
     have HS := Lib.hid (show bal ((L s).drop i) d = false by rw [hdr, hc, zas s (by omega)]; rfl)
     clear h92 hdr hc hl2
     go_wp2
     go_ret
     exact ⟨zap (by rw [HEQ.out, HS.out]; rfl), rfl⟩
    ·have t9 : ((i : Int) + 1 == (s.size : Int)) = false := by simp; omega
     have hl3 : i + 1 < s.size := by omega
     have HS := Lib.hid (show bal ((L s).drop i) d = bal ((L s).drop (i + 2)) d by rw [hdr, hc, zak s hl3, zrH])
     clear h92 hdr hc hl2
     go_wp2
     go_roundg (s.size + 1 - (i + 2))
     case measure => rw [HK.out]; omega
     case rel => exact ⟨d, i + 2, rfl, by go_num, rfl, by omega, by omega, by rw [HEQ.out, HS.out], rfl⟩
   ·have hc : ¬ ub s i = 92 := fun h => h92 ((zbv s i 92 (by decide)).1 h)
    have t8 : ((byte s i : Int) == 92) = false := by simp; omega
    by_cases h123 : byte s i = 123
    ·have t9 : ((byte s i : Int) == 123) = true := by simp; omega
     have hc2 : ub s i = 123 := za3 s i (by decide) h123
     have HS := Lib.hid (show bal ((L s).drop i) d = bal ((L s).drop (i + 1)) (d + 1) by rw [hdr, hc2, zpe])
     clear h92 h123 hdr hc hc2
     go_wp2
     go_roundg (s.size + 1 - (i + 1))
     case measure => rw [HK.out]; omega
     case rel => exact ⟨d + 1, i + 1, by go_num, by go_num, rfl, by omega, by omega, by rw [HEQ.out, HS.out], rfl⟩
    ·have hc2 : ¬ ub s i = 123 := fun h => h123 ((zbv s i 123 (by decide)).1 h)
     have t9 : ((byte s i : Int) == 123) = false := by simp; omega
     by_cases h125 : byte s i = 125
     ·have t10 : ((byte s i : Int) == 125) = true := by simp; omega
      have hc3 : ub s i = 125 := za3 s i (by decide) h125
      cases d with
      | zero =>
        have HS := Lib.hid (show bal ((L s).drop i) 0 = false by rw [hdr, hc3, zj7])
        clear h92 h123 h125 hdr hc hc2 hc3
        go_wp2
        go_ret
        exact ⟨zap (by rw [HEQ.out, HS.out]; rfl), rfl⟩
      | succ d =>
        have t11 : ¬ ((d + 1 : Nat) : Int) - 1 < 0 := by omega
        have HS := Lib.hid (show bal ((L s).drop i) (d + 1) = bal ((L s).drop (i + 1)) d by rw [hdr, hc3, zmC])
        clear h92 h123 h125 hdr hc hc2 hc3
        go_wp2
        go_roundg (s.size + 1 - (i + 1))
        case measure => rw [HK.out]; omega
        case rel => exact ⟨d, i + 1, by go_num, by go_num, rfl, by omega, by omega, by rw [HEQ.out, HS.out], rfl⟩
     ·have hc3 : ¬ ub s i = 125 := fun h => h125 ((zbv s i 125 (by decide)).1 h)
      have t10 : ((byte s i : Int) == 125) = false := by simp; omega
      have HS := Lib.hid (show bal ((L s).drop i) d = bal ((L s).drop (i + 1)) d by rw [hdr, zmD hc hc2 hc3])
      clear h92 h123 h125 hdr hc hc2 hc3
      go_wp2
      go_roundg (s.size + 1 - (i + 1))
      case measure => rw [HK.out]; omega
      case rel => exact ⟨d, i + 1, rfl, by go_num, rfl, by omega, by omega, by rw [HEQ.out, HS.out], rfl⟩
  ·have t7 : ¬ (i : Int) < (s.size : Int) := by omega
   have HD := Lib.hid (show bal (L s) 0 = (d == 0) by rw [HEQ.out, zas s (by omega)]; rfl)
   cases d with
   | succ d =>
     have t8 : (((d + 1 : Nat) : Int) == 0) = false := by simp; omega
     go_wp2
     go_ret
     exact ⟨zap (by rw [HD.out]; rfl), rfl⟩
   | zero =>
     have HC := Lib.hid (show Lib.contains s.data.toList [92, 10] = slf (L s) by rw [zeC, zoh]; rfl)
     have HM := Lib.hid hm
     clear hm
     go_wp2_with (go_at_call 37; refine (Tryz.strings_Contains _ _ m _ (by omega) HM.out).mono ?_; rintro e w' ⟨rfl, rfl⟩)
     go_ret
     exact ⟨zap (by rw [HD.out]; simpa using HC.out), rfl⟩
set_option maxHeartbeats 2000000 in
theorem zga (s : ByteArray) (hs : s.size ≤ 1000000) (w : World) :
  Calls Tryz.prog 341 #[.string s] w fun e w' => e = .returned (.bool (bal (L s) 0 && !slf (L s))) ∧ w = w' := by
 have hby := zam s
 go_enter Tryz.func341, Tryz.ntmps341
 go_wp2
 go_loopg [3, 4] (s.size + 1) (fun k dv n wr => ∃ (d i : Nat), dv = .int .i64 (d : Int) ∧ n = .int .i64 (i : Int) ∧ k = s.size + 1 - i ∧ i ≤ s.size ∧ d ≤ i ∧ bal (L s) 0 = bal ((L s).drop i) d ∧ w = wr)
 case atStart => exact ⟨0, 0, rfl, rfl, by omega, by omega, by omega, by simp, rfl⟩
 case round =>
  obtain ⟨d, i, rfl, rfl, hk, his, hd1, heq, rfl⟩ := hrel
  have HK := Lib.hid hk
  have HEQ := Lib.hid heq
  have hb := zaA s i
  clear hk heq
  by_cases hlt : i < s.size
  ·have t7 : (i : Int) < (s.size : Int) := by omega
   have hdr := zak s hlt
   by_cases h92 : byte s i = 92
   ·have t8 : ((byte s i : Int) == 92) = true := by simp; omega
    have hc : ub s i = 92 := za3 s i (by decide) h92
    by_cases hl2 : i + 1 = s.size
    ·have t9 : ((i : Int) + 1 == (s.size : Int)) = true := by simp; omega
     have HS := Lib.hid (show bal ((L s).drop i) d = false by rw [hdr, hc, zas s (by omega)]; rfl)
     clear h92 hdr hc hl2
     go_wp2
     go_ret
     exact ⟨zap (by rw [HEQ.out, HS.out]; rfl), rfl⟩
    ·have t9 : ((i : Int) + 1 == (s.size : Int)) = false := by simp; omega
     have hl3 : i + 1 < s.size := by omega
     have HS := Lib.hid (show bal ((L s).drop i) d = bal ((L s).drop (i + 2)) d by rw [hdr, hc, zak s hl3, zrH])
     clear h92 hdr hc hl2
     go_wp2
     go_roundg (s.size + 1 - (i + 2))
     case measure => rw [HK.out]; omega
     case rel => exact ⟨d, i + 2, rfl, by go_num, rfl, by omega, by omega, by rw [HEQ.out, HS.out], rfl⟩
   ·have hc : ¬ ub s i = 92 := fun h => h92 ((zbv s i 92 (by decide)).1 h)
    have t8 : ((byte s i : Int) == 92) = false := by simp; omega
    by_cases h123 : byte s i = 123
    ·have t9 : ((byte s i : Int) == 123) = true := by simp; omega
     have hc2 : ub s i = 123 := za3 s i (by decide) h123
     have HS := Lib.hid (show bal ((L s).drop i) d = bal ((L s).drop (i + 1)) (d + 1) by rw [hdr, hc2, zpe])
     clear h92 h123 hdr hc hc2
     go_wp2
     go_roundg (s.size + 1 - (i + 1))
     case measure => rw [HK.out]; omega
     case rel => exact ⟨d + 1, i + 1, by go_num, by go_num, rfl, by omega, by omega, by rw [HEQ.out, HS.out], rfl⟩
    ·have hc2 : ¬ ub s i = 123 := fun h => h123 ((zbv s i 123 (by decide)).1 h)
     have t9 : ((byte s i : Int) == 123) = false := by simp; omega
     by_cases h125 : byte s i = 125
     ·have t10 : ((byte s i : Int) == 125) = true := by simp; omega
      have hc3 : ub s i = 125 := za3 s i (by decide) h125
      cases d with
      | zero =>
        have HS := Lib.hid (show bal ((L s).drop i) 0 = false by rw [hdr, hc3, zj7])
        clear h92 h123 h125 hdr hc hc2 hc3
        go_wp2
        go_ret
        exact ⟨zap (by rw [HEQ.out, HS.out]; rfl), rfl⟩
      | succ d =>
        have t11 : ¬ ((d + 1 : Nat) : Int) - 1 < 0 := by omega
        have HS := Lib.hid (show bal ((L s).drop i) (d + 1) = bal ((L s).drop (i + 1)) d by rw [hdr, hc3, zmC])
        clear h92 h123 h125 hdr hc hc2 hc3
        go_wp2
        go_roundg (s.size + 1 - (i + 1))
        case measure => rw [HK.out]; omega
        case rel => exact ⟨d, i + 1, by go_num, by go_num, rfl, by omega, by omega, by rw [HEQ.out, HS.out], rfl⟩
     ·have hc3 : ¬ ub s i = 125 := fun h => h125 ((zbv s i 125 (by decide)).1 h)
      have t10 : ((byte s i : Int) == 125) = false := by simp; omega
      have HS := Lib.hid (show bal ((L s).drop i) d = bal ((L s).drop (i + 1)) d by rw [hdr, zmD hc hc2 hc3])
      clear h92 h123 h125 hdr hc hc2 hc3
      go_wp2
      go_roundg (s.size + 1 - (i + 1))
      case measure => rw [HK.out]; omega
      case rel => exact ⟨d, i + 1, rfl, by go_num, rfl, by omega, by omega, by rw [HEQ.out, HS.out], rfl⟩
  ·have t7 : ¬ (i : Int) < (s.size : Int) := by omega
   have HD := Lib.hid (show bal (L s) 0 = (d == 0) by rw [HEQ.out, zas s (by omega)]; rfl)
   cases d with
   | succ d =>
     have t8 : (((d + 1 : Nat) : Int) == 0) = false := by simp; omega
     go_wp2
     go_ret
     exact ⟨zap (by rw [HD.out]; rfl), rfl⟩
   | zero =>
     cases hq : slf (L s) with
     | true =>
       have HQ := Lib.hid hq
       clear hq
       go_wp2_with (go_at_call 104; refine (zmE s hs _).mono ?_; rintro e w' ⟨⟨k, rfl, hk⟩, rfl⟩; have t12 := hk.yes HQ.out; clear hk)
       go_ret
       exact ⟨zap (by rw [HD.out, HQ.out]; simp [t12]), rfl⟩
     | false =>
       have HQ := Lib.hid hq
       clear hq
       go_wp2_with (go_at_call 104; refine (zmE s hs _).mono ?_; rintro e w' ⟨⟨k, rfl, hk⟩, rfl⟩; have t12 := hk.no HQ.out; clear hk)
       go_ret
       exact ⟨zap (by rw [HD.out, HQ.out]; simp [t12]), rfl⟩
end Go.Proofs.YtppjodfehhlniaaGreatDoor
end
section
namespace Go.Proofs.YtppjodfehhlniaaGreatDoor
open Go.ChangeShapes Go.WideShapes Go.ChangeAt Go.RowKit
set_option maxRecDepth 100000
theorem zrI (c : UInt8) : ∀ l : List UInt8, FirstIs (l.contains c) (fstV (fst l c))
 | [] => rfl
 | b :: l => by
   have ih := zrI c l
   unfold FirstIs at ih ⊢
   unfold fst
   by_cases h : b = c
   ·subst h; rw [if_pos rfl]; simp [fstV]
   ·rw [if_neg h]
    have hc : (b :: l).contains c = l.contains c := by
     rw [List.contains_cons]
     have : (c == b) = false := by rw [beq_eq_false_iff_ne]; exact fun e => h e.symm
     rw [this, Bool.false_or]
    rw [hc]
    cases hf : fst l c with
    | none => rw [hf] at ih; exact ih
    | some k =>
      rw [hf] at ih
      by_cases hq : l.contains c = true
      ·rw [if_pos hq]; simp [fstV]; omega
      ·rw [if_neg hq] at ih; simp [fstV] at ih
theorem zrJ (s : ByteArray) (hs : s.size ≤ 1000000) (w : World) :
  Calls Tryz.prog 104 #[.string ⟨#[40]⟩, .string s, .int .i64 0] w fun e w' => (∃ k : Int, e = .returned (.int .i64 k) ∧ FirstIs ((L s).contains 40) k) ∧ w = w' := by
 refine (ziS ⟨#[40]⟩ s rfl hs w).mono ?_
 rintro e w' ⟨rfl, rfl⟩
 refine ⟨⟨_, rfl, ?_⟩, rfl⟩
 have a : ub ⟨#[40]⟩ 0 = 40 := by decide
 rw [a]
 exact zrI 40 (L s)
theorem zth (s : ByteArray) (hs : s.size ≤ 1000000) (w : World) :
  Calls Tryz.prog 104 #[.string ⟨#[58, 58]⟩, .string s, .int .i64 0] w fun e w' => (∃ k : Int, e = .returned (.int .i64 k) ∧ FirstIs (two (L s)) k) ∧ w = w' := by
 refine (zj6 ⟨#[58, 58]⟩ s rfl hs w).mono ?_
 rintro e w' ⟨⟨k, rfl, hk⟩, rfl⟩
 refine ⟨⟨k, rfl, ?_⟩, rfl⟩
 rw [zog]
 have a : ub ⟨#[58, 58]⟩ 0 = 58 := by decide
 have b : ub ⟨#[58, 58]⟩ 1 = 58 := by decide
 rw [a, b] at hk
 exact hk
theorem FirstIs.ge {b : Bool} {k : Int} (h : FirstIs b k) (hb : b = true) : 0 ≤ k := by
 unfold FirstIs at h; rw [if_pos hb] at h; exact h
theorem FirstIs.nge {b : Bool} {k : Int} (h : FirstIs b k) (hb : b = false) : ¬ 0 ≤ k := by
 unfold FirstIs at h; rw [if_neg (by rw [hb]; simp)] at h; omega
theorem zuV (s : ByteArray) (hs : s.size ≤ 1000000) (m : Int) (w : World) (hm : w.cell? ⟨2, 0, none⟩ = some (.int .i64 m)) :
  Calls Tryz.prog 37 #[.string s, .string ⟨#[40]⟩] w fun e w' => e = .returned (.bool ((L s).contains 40)) ∧ w = w' := by
 refine (Tryz.strings_Contains s ⟨#[40]⟩ m w (by omega) hm).mono ?_
 rintro e w' ⟨rfl, rfl⟩
 exact ⟨by rw [show (⟨#[40]⟩ : ByteArray).data.toList = [40] from rfl, zhe]; rfl, rfl⟩
theorem zvA (s : ByteArray) (hs : s.size ≤ 1000000) (m : Int) (w : World) (hm : w.cell? ⟨2, 0, none⟩ = some (.int .i64 m)) :
  Calls Tryz.prog 37 #[.string s, .string ⟨#[58, 58]⟩] w fun e w' => e = .returned (.bool (two (L s))) ∧ w = w' := by
 refine (Tryz.strings_Contains s ⟨#[58, 58]⟩ m w (by omega) hm).mono ?_
 rintro e w' ⟨rfl, rfl⟩
 exact ⟨by rw [show (⟨#[58, 58]⟩ : ByteArray).data.toList = [58, 58] from rfl, zeC, zog]; rfl, rfl⟩
end Go.Proofs.YtppjodfehhlniaaGreatDoor
end
section
namespace Go.Proofs.YtppjodfehhlniaaGreatDoor
open Go.RowKit Go.Shelf
open Go.ChangeShapes Go.WideShapes Go.ChangeAt
set_option maxRecDepth 100000
def encI (x : It) : Array Value := #[.agg #[strV x.p.name, strV x.p.other, .bool x.p.has], .int .i64 (x.e : Int)]
def Sure (M0 M T : Nat) (b : Nat) : Prop := b < M0 ∨ (M ≤ b ∧ b < T)
def KeepP (M0 M T : Nat) (W W' : World) : Prop := KeepsWalks W W' ∧ ∀ b, Sure M0 M T b → W'.heap[b]? = W.heap[b]?
theorem KeepP.refl (M0 M T : Nat) (W : World) : KeepP M0 M T W W := ⟨KeepsWalks.refl W, fun _ _ => rfl⟩
theorem KeepP.trans {M0 M T : Nat} {A B C : World} (h : KeepP M0 M T A B) (k : KeepP M0 M T B C) : KeepP M0 M T A C :=
 ⟨h.1.trans k.1, fun b hb => (k.2 b hb).trans (h.2 b hb)⟩
theorem zrK {M0 M T : Nat} {w : World} (h0 : M0 ≤ w.heap.size) (hT : T ≤ w.heap.size) (W : World) (l : Nat) (o o' : Obj) (hl : w.heap.size ≤ l) (h : W.heap[l]? = some o) (_ : o.isCells = false) (hw : o.isWalk = false) : KeepP M0 M T W (W.putObj l o') :=
 ⟨KeepsWalks.putObj o' h hw, fun b hb => World.putObj_heap_other (by unfold Sure at hb; omega)⟩
structure Stab (w : World) (M0 M : Nat) (W : World) : Prop where
 size : w.heap.size ≤ W.heap.size
 same : ∀ b, Sure M0 M w.heap.size b → W.heap[b]? = w.heap[b]?
section
variable {w W W' : World} {M0 M : Nat}
theorem Stab.of (h : Below w.heap.size w W) (h0 : M0 ≤ w.heap.size) : Stab w M0 M W := ⟨h.size, fun b hb => h.block b (by unfold Sure at hb; omega)⟩
theorem Stab.below (h : Stab w M0 M W) (h0 : M0 ≤ w.heap.size) (k : Below W.heap.size W W') : Stab w M0 M W' :=
 ⟨Nat.le_trans h.size k.size, fun b hb => (k.block b (by have := h.size; unfold Sure at hb; omega)).trans (h.same b hb)⟩
theorem Stab.keep (h : Stab w M0 M W) (k : KeepP M0 M w.heap.size W W') : Stab w M0 M W' :=
 ⟨Nat.le_trans h.size k.1.size, fun b hb => (k.2 b hb).trans (h.same b hb)⟩
theorem Stab.put (h : Stab w M0 M W) (h0 : M0 ≤ w.heap.size) {mb : Nat} (hm : w.heap.size ≤ mb) (hs : W.heap.size ≤ W'.heap.size) (k : ∀ b, b ≠ mb → W'.heap[b]? = W.heap[b]?) : Stab w M0 M W' :=
 ⟨Nat.le_trans h.size hs, fun b hb => (k b (by unfold Sure at hb; omega)).trans (h.same b hb)⟩
theorem Stab.cell (h : Stab w M0 M W) {p : Addr} {v : Value} (hp : w.cell? p = some v) (hs : Sure M0 M w.heap.size p.block) : W.cell? p = some v :=
 (World.cell?_of_block (h.same _ hs)).trans hp
end
theorem zdC {w : World} {p : Addr} {v : Value} (h : w.cell? p = some v) : p.block < w.heap.size := by
 obtain ⟨o, ho, _⟩ := cells_of_cell h
 exact (Array.getElem?_eq_some_iff.1 ho).1
theorem zgb (s : ByteArray) (hs : s.size ≤ 1000000) (m : Int) (q : ByteArray) (w : World) (hq : q = ⟨#[40]⟩ ∨ q = ⟨#[58, 58]⟩) (hm : w.cell? ⟨2, 0, none⟩ = some (.int .i64 m)) :
  Calls Tryz.prog 37 #[.string s, .string q] w fun e w' => (∃ b : Bool, e = .returned (.bool b) ∧ (q = ⟨#[40]⟩ → b = (L s).contains 40) ∧ (q = ⟨#[58, 58]⟩ → b = two (L s))) ∧ w = w' := by
 rcases hq with rfl | rfl
 ·refine (zuV s hs m w hm).mono ?_
  rintro e w' ⟨rfl, rfl⟩
  exact ⟨⟨_, rfl, fun _ => rfl, fun h => absurd h (by decide)⟩, rfl⟩
 ·refine (zvA s hs m w hm).mono ?_
  rintro e w' ⟨rfl, rfl⟩
  exact ⟨⟨_, rfl, fun h => absurd h (by decide), fun _ => rfl⟩, rfl⟩
theorem put_step (w2 : World) (a b c : Value) (mb : Nat) (y : List UInt8) (es : Array MapEntry) (clk : Nat) (mr : List (List UInt8)) (hb : w2.heap[mb]? = some (.map es clk)) (h : zhr es.toList mr) (hn : mr.contains y = false) :
  ∃ W3 es', (Instr.mapUpdate 70 (.map (some mb)) (.string ⟨y.toArray⟩) (.bool true)).run Tryz.prog (w2.alloc (.cells #[a, b, c] 46)) = .ok () W3 ∧
    W3.cell? ⟨w2.heap.size, 0, none⟩ = some a ∧ W3.cell? ⟨w2.heap.size, 1, none⟩ = some b ∧ W3.cell? ⟨w2.heap.size, 2, none⟩ = some c ∧
    W3.heap[mb]? = some (.map es' (clk + 1)) ∧ zhr es'.toList (mr ++ [y]) ∧ (w2.alloc (.cells #[a, b, c] 46)).grownBy W3 (some mb) ∧ (∀ k, k ≠ mb → W3.heap[k]? = (w2.alloc (.cells #[a, b, c] 46)).heap[k]?) ∧ W3.heap.size = w2.heap.size + 1 := by
 obtain ⟨A, hA, sA, nA, oA, bA⟩ := zaH w2 #[a, b, c] 46
 have hlt : mb < w2.heap.size := (Array.getElem?_eq_some_iff.1 hb).1
 have hb2 : A.heap[mb]? = some (.map es clk) := (oA mb hlt).trans hb
 have hL : L ⟨y.toArray⟩ = y := by simp [L]
 obtain ⟨h1, h2⟩ := zuQ A mb ⟨y.toArray⟩ es clk mr hb2 h (by rw [hL]; exact hn)
 rw [hL] at h2
 rw [hA]
 refine ⟨_, es.push { key := .string ⟨y.toArray⟩, val := .bool true, born := clk }, h1, ?_⟩
 show (A.putObj mb _).cell? _ = _ ∧ (A.putObj mb _).cell? _ = _ ∧ (A.putObj mb _).cell? _ = _ ∧ (A.putObj mb _).heap[mb]? = _ ∧ _ ∧ A.grownBy (A.putObj mb _) _ ∧ (∀ k, k ≠ mb → (A.putObj mb _).heap[k]? = _) ∧ (A.putObj mb _).heap.size = _
 have hk : ∀ (o : Obj) k, k ≠ mb → (A.putObj mb o).heap[k]? = A.heap[k]? := fun o k e => World.putObj_heap_other e
 have hc : ∀ (o : Obj) i u, #[a, b, c][i]? = some u → (A.putObj mb o).cell? ⟨w2.heap.size, i, none⟩ = some u := by
  intro o i u hu
  have : (A.putObj mb o).heap[w2.heap.size]? = some (.cells #[a, b, c] 46 (0, 0)) := (hk o _ (by omega)).trans nA
  simp [World.cell?, this, hu]
 refine ⟨hc _ 0 a rfl, hc _ 1 b rfl, hc _ 2 c rfl, World.putObj_heap_same (by omega), h2, grownBy_putObj' A mb _, fun k e => hk _ k e, ?_⟩
 simp [World.putObj, sA]
end Go.Proofs.YtppjodfehhlniaaGreatDoor
end
