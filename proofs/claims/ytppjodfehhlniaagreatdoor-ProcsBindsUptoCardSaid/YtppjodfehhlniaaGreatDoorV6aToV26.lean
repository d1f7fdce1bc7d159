/-
  A text, quoted: the loop that writes backslashes; Quote, the program's; A text, quoted: the document's way; Bound, walked; The document's Bind and Par. Conditions: none.
-/
import Derived.Test.YtppjodfehhlniaaGreatDoorV4ToV31r
import Derived.Test.YtppjodfehhlniaaGreatDoorV31sToUnx
import Derived.Test.YtppjodfehhlniaaGreatDoorV28aToV8r
set_option linter.unusedVariables false
set_option linter.unusedSimpArgs false
set_option linter.unusedSectionVars false
set_option linter.deprecated false
section
namespace Go.Proofs.YtppjodfehhlniaaGreatDoor
open Go.ChangeShapes Go.WideShapes Go.ChangeAt Go.RowKit
set_option maxRecDepth 100000
theorem zbh (l : List UInt8) (x : Int) (n : Nat) (hx : x = n) (hn : n < 256) : Lib.byteCells l ++ [.int .u8 x] = Lib.byteCells (l ++ [UInt8.ofNat n]) := by
 subst hx
 unfold Lib.byteCells
 rw [List.map_append]
 congr 1
 simp
 omega
def zr7 : Code := ((Code.region 14 #[{ dst := some 39, op := Op.binOp BinOp.lss 3 (Operand.tmp 38) (Operand.tmp 37) 3, type := 4, pos := "list.go:58", after := #[], guard := none }] false).seq ((Code.cond (Operand.tmp 39) Code.skip (Code.exit 3)).seq ((Code.block 4 ((Code.region 15 #[{ dst := some 40, op := Op.move (Operand.tmp 38), type := 3, pos := "list.go:58", after := #[], guard := none }, { dst := some 6, op := Op.assign (Operand.tmp 40), type := 3, pos := "list.go:58", after := #[{ on := 0, ground := Ground.data }, { on := 0, ground := Ground.phase }], guard := none }] false).seq ((Code.region 16 #[{ dst := some 41, op := Op.move (Operand.tmp 0), type := 9, pos := "list.go:59", after := #[], guard := none }, { dst := some 42, op := Op.move (Operand.tmp 6), type := 3, pos := "list.go:59", after := #[], guard := none }, { dst := some 43, op := Op.index 9 (Operand.tmp 41) (Operand.tmp 42), type := 5, pos := "list.go:59", after := #[{ on := 0, ground := Ground.data }, { on := 1, ground := Ground.data }], guard := none }, { dst := some 7, op := Op.assign (Operand.tmp 43), type := 5, pos := "list.go:59", after := #[{ on := 2, ground := Ground.data }, { on := 0, ground := Ground.phase }, { on := 1, ground := Ground.phase }, { on := 2, ground := Ground.phase }], guard := none }] false).seq (((Code.region 17 #[{ dst := some 44, op := Op.move (Operand.tmp 7), type := 5, pos := "list.go:60", after := #[], guard := none }, { dst := some 45, op := Op.call { callee := Callee.value (Operand.func 106), args := #[Operand.tmp 44], argTypes := #[5] }, type := 4, pos := "list.go:60", after := #[{ on := 0, ground := Ground.data }], guard := none }, { dst := some 46, op := Op.move (Operand.tmp 45), type := 4, pos := "list.go:60", after := #[{ on := 1, ground := Ground.data }, { on := 1, ground := Ground.chain }], guard := none }, { dst := some 47, op := Op.move (Operand.tmp 6), type := 3, pos := "list.go:60", after := #[{ on := 2, ground := Ground.guard }], guard := some (2, false) }, { dst := some 48, op := Op.binOp BinOp.eql 3 (Operand.tmp 47) (Operand.const (Value.int IntKind.i64 0)) 3, type := 4, pos := "list.go:60", after := #[{ on := 3, ground := Ground.data }, { on := 2, ground := Ground.guard }], guard := some (2, false) }, { dst := some 49, op := Op.move (Operand.tmp 48), type := 4, pos := "list.go:60", after := #[{ on := 4, ground := Ground.data }, { on := 2, ground := Ground.chain }, { on := 2, ground := Ground.guard }], guard := some (2, false) }, { dst := some 50, op := Op.move (Operand.tmp 7), type := 5, pos := "list.go:60", after := #[{ on := 5, ground := Ground.guard }], guard := some (5, true) }, { dst := some 51, op := Op.binOp BinOp.eql 5 (Operand.tmp 50) (Operand.const (Value.int IntKind.u8 35)) 5, type := 4, pos := "list.go:60", after := #[{ on := 6, ground := Ground.data }, { on := 5, ground := Ground.guard }], guard := some (5, true) }, { dst := some 52, op := Op.pick (Operand.tmp 49) (Operand.tmp 51) (Operand.const (Value.bool false)), type := 4, pos := "list.go:60", after := #[{ on := 5, ground := Ground.data }, { on := 7, ground := Ground.data }, { on := 2, ground := Ground.guard }], guard := some (2, false) }, { dst := some 53, op := Op.pick (Operand.tmp 46) (Operand.const (Value.bool true)) (Operand.tmp 52), type := 4, pos := "list.go:60", after := #[{ on := 2, ground := Ground.data }, { on := 8, ground := Ground.data }], guard := none }] false).seq (Code.cond (Operand.tmp 53) ((Code.region 18 #[{ dst := some 54, op := Op.call { callee := Callee.value (Operand.func 39), args := #[Operand.tmp 5, Operand.const (Value.int IntKind.u8 92)], argTypes := #[80, 5] }, type := 53, pos := "list.go:61", after := #[], guard := none }] false).seq ((Code.region 19 #[{ dst := some 55, op := Op.move (Operand.tmp 7), type := 5, pos := "list.go:62", after := #[], guard := none }, { dst := some 56, op := Op.binOp BinOp.geq 5 (Operand.tmp 55) (Operand.const (Value.int IntKind.u8 9)) 5, type := 4, pos := "list.go:62", after := #[{ on := 0, ground := Ground.data }], guard := none }, { dst := some 57, op := Op.move (Operand.tmp 56), type := 4, pos := "list.go:62", after := #[{ on := 1, ground := Ground.data }], guard := none }, { dst := some 58, op := Op.move (Operand.tmp 7), type := 5, pos := "list.go:62", after := #[{ on := 2, ground := Ground.guard }], guard := some (2, true) }, { dst := some 59, op := Op.binOp BinOp.leq 5 (Operand.tmp 58) (Operand.const (Value.int IntKind.u8 13)) 5, type := 4, pos := "list.go:62", after := #[{ on := 3, ground := Ground.data }, { on := 2, ground := Ground.guard }], guard := some (2, true) }, { dst := some 60, op := Op.pick (Operand.tmp 57) (Operand.tmp 59) (Operand.const (Value.bool false)), type := 4, pos := "list.go:62", after := #[{ on := 2, ground := Ground.data }, { on := 4, ground := Ground.data }], guard := none }] false).seq (Code.cond (Operand.tmp 60) (Code.region 20 #[{ dst := some 61, op := Op.move (Operand.tmp 7), type := 5, pos := "list.go:63", after := #[], guard := none }, { dst := some 62, op := Op.binOp BinOp.sub 5 (Operand.tmp 61) (Operand.const (Value.int IntKind.u8 9)) 5, type := 5, pos := "list.go:63", after := #[{ on := 0, ground := Ground.data }], guard := none }, { dst := some 63, op := Op.index 9 (Operand.const (Value.string { data := #[116, 110, 118, 102, 114] })) (Operand.tmp 62), type := 5, pos := "list.go:63", after := #[{ on := 1, ground := Ground.data }], guard := none }, { dst := some 7, op := Op.assign (Operand.tmp 63), type := 5, pos := "list.go:63", after := #[{ on := 2, ground := Ground.data }, { on := 0, ground := Ground.phase }, { on := 1, ground := Ground.phase }, { on := 2, ground := Ground.phase }], guard := none }] false) Code.skip))) Code.skip)).seq (Code.region 21 #[{ dst := some 64, op := Op.move (Operand.tmp 7), type := 5, pos := "list.go:66", after := #[], guard := none }, { dst := some 65, op := Op.call { callee := Callee.value (Operand.func 39), args := #[Operand.tmp 5, Operand.tmp 64], argTypes := #[80, 5] }, type := 53, pos := "list.go:66", after := #[{ on := 0, ground := Ground.data }], guard := none }] false))))).seq (Code.region 22 #[{ dst := some 66, op := Op.binOp BinOp.add 3 (Operand.tmp 38) (Operand.const (Value.int IntKind.i64 1)) 3, type := 3, pos := "list.go:58", after := #[], guard := none }, { dst := some 38, op := Op.move (Operand.tmp 66), type := 3, pos := "list.go:58", after := #[{ on := 0, ground := Ground.data }], guard := none }] false)))).loop
def zr8 : Code := ((Code.region 23 #[{ dst := some 67, op := Op.call { callee := Callee.value (Operand.func 43), args := #[Operand.tmp 5], argTypes := #[80] }, type := 9, pos := "list.go:68", after := #[], guard := none }, { dst := some 2, op := Op.assign (Operand.tmp 67), type := 9, pos := "list.go:68", after := #[{ on := 0, ground := Ground.data }, { on := 0, ground := Ground.chain }, { on := 0, ground := Ground.phase }], guard := none }] false).seq Code.ret)
set_option maxHeartbeats 8000000 in
theorem ztt (s : ByteArray) (hs : s.size ≤ 1000000) (w A : World) (hq : quoT (L s) = sla true (L s)) (hbld : Lib.IsBuilder 80 5 w.heap.size w.heap.size (Lib.byteCells []) A) (hbel0 : Below w.heap.size w A) (K : Act → World → Prop)
  (hK : ∀ (a : Act) (w' : World), Code.wp Tryz.prog zr8 (bodyPost Tryz.prog Tryz.f41 fun e w' => QuoR w s e w') a w' → K a w') (c1 c2 c3 c4 c6 c7 c8 c9 c10 c11 c12 c13 c14 c15 c16 c17 c18 c19 c20 c21 c22 c23 c24 c25 c26 c27 c28 c29 c30 c31 c32 c33 c34 c35 c36 c39 c40 c41 c42 c43 c44 c45 c46 c47 c48 c49 c50 c51 c52 c53 c54 c55 c56 c57 c58 c59 c60 c61 c62 c63 c64 c65 c66 c67 : Value) :
  Code.wp Tryz.prog zr7 (Exit.inBlock 3 (Exit.then K (bodyPost Tryz.prog Tryz.f41 fun e w' => QuoR w s e w'))) { tmps := List.toArray ((.string s) :: c1 :: c2 :: c3 :: c4 :: (.pointer (some ⟨w.heap.size, 0, none⟩)) :: c6 :: c7 :: c8 :: c9 :: c10 :: c11 :: c12 :: c13 :: c14 :: c15 :: c16 :: c17 :: c18 :: c19 :: c20 :: c21 :: c22 :: c23 :: c24 :: c25 :: c26 :: c27 :: c28 :: c29 :: c30 :: c31 :: c32 :: c33 :: c34 :: c35 :: c36 :: (.int .i64 (s.size : Int)) :: (.int .i64 0) :: c39 :: c40 :: c41 :: c42 :: c43 :: c44 :: c45 :: c46 :: c47 :: c48 :: c49 :: c50 :: c51 :: c52 :: c53 :: c54 :: c55 :: c56 :: c57 :: c58 :: c59 :: c60 :: c61 :: c62 :: c63 :: c64 :: c65 :: c66 :: c67 :: []), defers := [] } A := by
 have hby := zam s
 have HQ := Lib.hid hq
 have HL := Lib.hid hbld
 have HB := Lib.hid hbel0
 clear hq hbld hbel0
 unfold zr8 at hK
 unfold zr7
 go_loopg [38] s.size (fun k iv wr => ∃ (i : Nat) (acc : List UInt8), iv = .int .i64 (i : Int) ∧ k = s.size - i ∧ i ≤ s.size ∧ acc.length ≤ 2 * i ∧ sla true (L s) = acc ++ sla (i == 0) ((L s).drop i) ∧
  Lib.IsBuilder 80 5 w.heap.size w.heap.size (Lib.byteCells acc) wr ∧ Below w.heap.size w wr)
 case atStart => exact ⟨0, [], rfl, rfl, Nat.zero_le _, Nat.le_refl _, by simp, HL.out, HB.out⟩
 case round =>
  obtain ⟨i, acc, rfl, hk, hi, hal, heq, hbd, hbel⟩ := hrel
  have HK2 := Lib.hid hk
  have HBD := Lib.hid hbd
  have HBEL := Lib.hid hbel
  have hsz := hbel.size
  have HEQ := Lib.hid heq
  clear hk hbd hbel heq
  have hcl : (Lib.byteCells acc).length ≤ 2000000 := by rw [Lib.byteCells_length]; omega
  have hb := zaA s i
  by_cases hlt : i < s.size
  rotate_left
  ·have t2 : ¬ (i : Int) < (s.size : Int) := by omega
   have HS := Lib.hid (show sla (i == 0) ((L s).drop i) = [] by rw [zas s (by omega)]; rfl)
   go_wp2_with (fail)
   refine (Tryz.Builder_String_any w.heap.size w.heap.size _ wr HBD.out hsz).mono ?_
   rintro e w' ⟨rfl, hb2⟩
   dsimp only
   have HB2 := Lib.hid hb2
   clear hb2
   go_wp2
   go_ret
   refine QuoR.mk ?_ (HBEL.out.trans HB2.out)
   rw [HQ.out, HEQ.out, HS.out, L_mk, List.append_nil]
  have t2 : (i : Int) < (s.size : Int) := by omega
  by_cases h9a : 9 ≤ byte s i ∧ byte s i ≤ 13
  ·have h9c : byte s i = 9 ∨ byte s i = 10 ∨ byte s i = 11 ∨ byte s i = 12 ∨ byte s i = 13 := by omega
   clear h9a
   rcases h9c with h9 | h9 | h9 | h9 | h9
   ·have hbi : ∀ h : i < s.size, ((s[i]'h).toNat : Int) = 9 := fun h => by rw [zam s i h]; omega
    have HS := Lib.hid (show sla1 (i == 0) (ub s i) = [92, 116] from zco _ (.inl ⟨za3 s i (by decide) h9, rfl⟩))
    have hsp : spcN 9 = true := rfl
    clear hby h9 hb
    go_wp2_with (go_at_call 106; refine (za0 9 (by decide) _).mono ?_; rintro e w' ⟨rfl, rfl⟩; rw [hsp])
    refine (zao w.heap.size w.heap.size _ 92 wr HBD.out (by omega) (by omega)).mono ?_
    rintro e w3 ⟨rfl, hb3, hl3⟩
    dsimp only
    rw [zbh _ 92 92 rfl (by decide)] at hb3
    have HB3 := Lib.hid (show Lib.IsBuilder 80 5 w.heap.size w.heap.size _ w3 from .inr hb3)
    have HL3 := Lib.hid hl3
    have hsz3 := hl3.size
    clear hb3 hl3
    go_wp2_with (fail)
    refine (zao w.heap.size w.heap.size _ 116 w3 HB3.out (by rw [Lib.byteCells_length]; simp; omega) (by omega)).mono ?_
    rintro e w4 ⟨rfl, hb4, hl4⟩
    dsimp only
    rw [zbh _ 116 116 rfl (by decide)] at hb4
    have HB4 := Lib.hid (show Lib.IsBuilder 80 5 w.heap.size w.heap.size _ w4 from .inr hb4)
    have HL4 := Lib.hid hl4
    clear hb4 hl4
    go_wp2
    go_roundg (s.size - (i + 1))
    case measure => rw [HK2.out]; omega
    case rel =>
     refine ⟨i + 1, acc ++ [92] ++ [116], by go_num, rfl, by omega, by simp; omega, ?_, HB4.out, (HBEL.out.trans HL3.out).trans HL4.out⟩
     rw [HEQ.out, zbK s hlt, HS.out]; simp
   ·have hbi : ∀ h : i < s.size, ((s[i]'h).toNat : Int) = 10 := fun h => by rw [zam s i h]; omega
    have HS := Lib.hid (show sla1 (i == 0) (ub s i) = [92, 110] from zco _ (.inr <| .inl ⟨za3 s i (by decide) h9, rfl⟩))
    have hsp : spcN 10 = true := rfl
    clear hby h9 hb
    go_wp2_with (go_at_call 106; refine (za0 10 (by decide) _).mono ?_; rintro e w' ⟨rfl, rfl⟩; rw [hsp])
    refine (zao w.heap.size w.heap.size _ 92 wr HBD.out (by omega) (by omega)).mono ?_
    rintro e w3 ⟨rfl, hb3, hl3⟩
    dsimp only
    rw [zbh _ 92 92 rfl (by decide)] at hb3
    have HB3 := Lib.hid (show Lib.IsBuilder 80 5 w.heap.size w.heap.size _ w3 from .inr hb3)
    have HL3 := Lib.hid hl3
    have hsz3 := hl3.size
    clear hb3 hl3
    go_wp2_with (fail)
    refine (zao w.heap.size w.heap.size _ 110 w3 HB3.out (by rw [Lib.byteCells_length]; simp; omega) (by omega)).mono ?_
    rintro e w4 ⟨rfl, hb4, hl4⟩
    dsimp only
    rw [zbh _ 110 110 rfl (by decide)] at hb4
    have HB4 := Lib.hid (show Lib.IsBuilder 80 5 w.heap.size w.heap.size _ w4 from .inr hb4)
    have HL4 := Lib.hid hl4
    clear hb4 hl4
    go_wp2
    go_roundg (s.size - (i + 1))
    case measure => rw [HK2.out]; omega
    case rel =>
     refine ⟨i + 1, acc ++ [92] ++ [110], by go_num, rfl, by omega, by simp; omega, ?_, HB4.out, (HBEL.out.trans HL3.out).trans HL4.out⟩
     rw [HEQ.out, zbK s hlt, HS.out]; simp
   ·have hbi : ∀ h : i < s.size, ((s[i]'h).toNat : Int) = 11 := fun h => by rw [zam s i h]; omega
    have HS := Lib.hid (show sla1 (i == 0) (ub s i) = [92, 118] from zco _ (.inr <| .inr <| .inl ⟨za3 s i (by decide) h9, rfl⟩))
    have hsp : spcN 11 = true := rfl
    clear hby h9 hb
    go_wp2_with (go_at_call 106; refine (za0 11 (by decide) _).mono ?_; rintro e w' ⟨rfl, rfl⟩; rw [hsp])
    refine (zao w.heap.size w.heap.size _ 92 wr HBD.out (by omega) (by omega)).mono ?_
    rintro e w3 ⟨rfl, hb3, hl3⟩
    dsimp only
    rw [zbh _ 92 92 rfl (by decide)] at hb3
    have HB3 := Lib.hid (show Lib.IsBuilder 80 5 w.heap.size w.heap.size _ w3 from .inr hb3)
    have HL3 := Lib.hid hl3
    have hsz3 := hl3.size
    clear hb3 hl3
    go_wp2_with (fail)
    refine (zao w.heap.size w.heap.size _ 118 w3 HB3.out (by rw [Lib.byteCells_length]; simp; omega) (by omega)).mono ?_
    rintro e w4 ⟨rfl, hb4, hl4⟩
    dsimp only
    rw [zbh _ 118 118 rfl (by decide)] at hb4
    have HB4 := Lib.hid (show Lib.IsBuilder 80 5 w.heap.size w.heap.size _ w4 from .inr hb4)
    have HL4 := Lib.hid hl4
    clear hb4 hl4
    go_wp2
    go_roundg (s.size - (i + 1))
    case measure => rw [HK2.out]; omega
    case rel =>
     refine ⟨i + 1, acc ++ [92] ++ [118], by go_num, rfl, by omega, by simp; omega, ?_, HB4.out, (HBEL.out.trans HL3.out).trans HL4.out⟩
     rw [HEQ.out, zbK s hlt, HS.out]; simp
   ·have hbi : ∀ h : i < s.size, ((s[i]'h).toNat : Int) = 12 := fun h => by rw [zam s i h]; omega
    have HS := Lib.hid (show sla1 (i == 0) (ub s i) = [92, 102] from zco _ (.inr <| .inr <| .inr <| .inl ⟨za3 s i (by decide) h9, rfl⟩))
    have hsp : spcN 12 = true := rfl
    clear hby h9 hb
    go_wp2_with (go_at_call 106; refine (za0 12 (by decide) _).mono ?_; rintro e w' ⟨rfl, rfl⟩; rw [hsp])
    refine (zao w.heap.size w.heap.size _ 92 wr HBD.out (by omega) (by omega)).mono ?_
    rintro e w3 ⟨rfl, hb3, hl3⟩
    dsimp only
    rw [zbh _ 92 92 rfl (by decide)] at hb3
    have HB3 := Lib.hid (show Lib.IsBuilder 80 5 w.heap.size w.heap.size _ w3 from .inr hb3)
    have HL3 := Lib.hid hl3
    have hsz3 := hl3.size
    clear hb3 hl3
    go_wp2_with (fail)
    refine (zao w.heap.size w.heap.size _ 102 w3 HB3.out (by rw [Lib.byteCells_length]; simp; omega) (by omega)).mono ?_
    rintro e w4 ⟨rfl, hb4, hl4⟩
    dsimp only
    rw [zbh _ 102 102 rfl (by decide)] at hb4
    have HB4 := Lib.hid (show Lib.IsBuilder 80 5 w.heap.size w.heap.size _ w4 from .inr hb4)
    have HL4 := Lib.hid hl4
    clear hb4 hl4
    go_wp2
    go_roundg (s.size - (i + 1))
    case measure => rw [HK2.out]; omega
    case rel =>
     refine ⟨i + 1, acc ++ [92] ++ [102], by go_num, rfl, by omega, by simp; omega, ?_, HB4.out, (HBEL.out.trans HL3.out).trans HL4.out⟩
     rw [HEQ.out, zbK s hlt, HS.out]; simp
   ·have hbi : ∀ h : i < s.size, ((s[i]'h).toNat : Int) = 13 := fun h => by rw [zam s i h]; omega
    have HS := Lib.hid (show sla1 (i == 0) (ub s i) = [92, 114] from zco _ (.inr <| .inr <| .inr <| .inr ⟨za3 s i (by decide) h9, rfl⟩))
    have hsp : spcN 13 = true := rfl
    clear hby h9 hb
    go_wp2_with (go_at_call 106; refine (za0 13 (by decide) _).mono ?_; rintro e w' ⟨rfl, rfl⟩; rw [hsp])
    refine (zao w.heap.size w.heap.size _ 92 wr HBD.out (by omega) (by omega)).mono ?_
    rintro e w3 ⟨rfl, hb3, hl3⟩
    dsimp only
    rw [zbh _ 92 92 rfl (by decide)] at hb3
    have HB3 := Lib.hid (show Lib.IsBuilder 80 5 w.heap.size w.heap.size _ w3 from .inr hb3)
    have HL3 := Lib.hid hl3
    have hsz3 := hl3.size
    clear hb3 hl3
    go_wp2_with (fail)
    refine (zao w.heap.size w.heap.size _ 114 w3 HB3.out (by rw [Lib.byteCells_length]; simp; omega) (by omega)).mono ?_
    rintro e w4 ⟨rfl, hb4, hl4⟩
    dsimp only
    rw [zbh _ 114 114 rfl (by decide)] at hb4
    have HB4 := Lib.hid (show Lib.IsBuilder 80 5 w.heap.size w.heap.size _ w4 from .inr hb4)
    have HL4 := Lib.hid hl4
    clear hb4 hl4
    go_wp2
    go_roundg (s.size - (i + 1))
    case measure => rw [HK2.out]; omega
    case rel =>
     refine ⟨i + 1, acc ++ [92] ++ [114], by go_num, rfl, by omega, by simp; omega, ?_, HB4.out, (HBEL.out.trans HL3.out).trans HL4.out⟩
     rw [HEQ.out, zbK s hlt, HS.out]; simp
  have t3 : (((byte s i : Nat) : Int) ≥ 9 → ¬ ((byte s i : Nat) : Int) ≤ 13) := by omega
  cases hsp : spcN (byte s i) with
  | true =>
    have HS := Lib.hid (show sla1 (i == 0) (ub s i) = [92, ub s i] from zhE _ (by rw [zaE]; exact h9a) (by rw [zaE, hsp]; rfl))
    by_cases h9 : 9 ≤ byte s i
    ·have t4 : (9 : Int) ≤ (byte s i : Int) := by omega
     have t5 : ¬ (byte s i : Int) ≤ 13 := by omega
     clear h9a t3 h9
     go_wp2_with (go_at_call 106; refine (za0 _ hb _).mono ?_; rintro e w' ⟨rfl, rfl⟩; rw [hsp])
     refine (zao w.heap.size w.heap.size _ 92 wr HBD.out (by omega) (by omega)).mono ?_
     rintro e w3 ⟨rfl, hb3, hl3⟩
     dsimp only
     rw [zbh _ 92 92 rfl (by decide)] at hb3
     have HB3 := Lib.hid (show Lib.IsBuilder 80 5 w.heap.size w.heap.size _ w3 from .inr hb3)
     have HL3 := Lib.hid hl3
     have hsz3 := hl3.size
     clear hb3 hl3
     go_wp2_with (fail)
     refine (zao w.heap.size w.heap.size _ (byte s i : Int) w3 HB3.out (by rw [Lib.byteCells_length]; simp; omega) (by omega)).mono ?_
     rintro e w4 ⟨rfl, hb4, hl4⟩
     dsimp only
     rw [zci] at hb4
     have HB4 := Lib.hid (show Lib.IsBuilder 80 5 w.heap.size w.heap.size _ w4 from .inr hb4)
     have HL4 := Lib.hid hl4
     clear hb4 hl4
     go_wp2
     go_roundg (s.size - (i + 1))
     case measure => rw [HK2.out]; omega
     case rel =>
      refine ⟨i + 1, acc ++ [92] ++ [ub s i], by go_num, rfl, by omega, by simp; omega, ?_, HB4.out, (HBEL.out.trans HL3.out).trans HL4.out⟩
      rw [HEQ.out, zbK s hlt, HS.out]; simp
    ·have t4 : ¬ (9 : Int) ≤ (byte s i : Int) := by omega
     clear h9a t3 h9
     go_wp2_with (go_at_call 106; refine (za0 _ hb _).mono ?_; rintro e w' ⟨rfl, rfl⟩; rw [hsp])
     refine (zao w.heap.size w.heap.size _ 92 wr HBD.out (by omega) (by omega)).mono ?_
     rintro e w3 ⟨rfl, hb3, hl3⟩
     dsimp only
     rw [zbh _ 92 92 rfl (by decide)] at hb3
     have HB3 := Lib.hid (show Lib.IsBuilder 80 5 w.heap.size w.heap.size _ w3 from .inr hb3)
     have HL3 := Lib.hid hl3
     have hsz3 := hl3.size
     clear hb3 hl3
     go_wp2_with (fail)
     refine (zao w.heap.size w.heap.size _ (byte s i : Int) w3 HB3.out (by rw [Lib.byteCells_length]; simp; omega) (by omega)).mono ?_
     rintro e w4 ⟨rfl, hb4, hl4⟩
     dsimp only
     rw [zci] at hb4
     have HB4 := Lib.hid (show Lib.IsBuilder 80 5 w.heap.size w.heap.size _ w4 from .inr hb4)
     have HL4 := Lib.hid hl4
     clear hb4 hl4
     go_wp2
     go_roundg (s.size - (i + 1))
     case measure => rw [HK2.out]; omega
     case rel =>
      refine ⟨i + 1, acc ++ [92] ++ [ub s i], by go_num, rfl, by omega, by simp; omega, ?_, HB4.out, (HBEL.out.trans HL3.out).trans HL4.out⟩
      rw [HEQ.out, zbK s hlt, HS.out]; simp
  | false =>
    by_cases hz : i = 0
    ·have t6 : ((i : Int) == 0) = true := by simp; omega
     by_cases h35 : byte s i = 35
     ·have t7 : ((byte s i : Int) == 35) = true := by simp; omega
      have HS := Lib.hid (show sla1 (i == 0) (ub s i) = [92, ub s i] from zhE _ (by rw [zaE]; exact h9a) (by rw [zaE, hsp, hz, ← hz, h35]; simp [hz]))
      have t4 : (9 : Int) ≤ (byte s i : Int) := by omega
      have t5 : ¬ (byte s i : Int) ≤ 13 := by omega
      clear h9a t3 h35 hz
      go_wp2_with (go_at_call 106; refine (za0 _ hb _).mono ?_; rintro e w' ⟨rfl, rfl⟩; rw [hsp])
      refine (zao w.heap.size w.heap.size _ 92 wr HBD.out (by omega) (by omega)).mono ?_
      rintro e w3 ⟨rfl, hb3, hl3⟩
      dsimp only
      rw [zbh _ 92 92 rfl (by decide)] at hb3
      have HB3 := Lib.hid (show Lib.IsBuilder 80 5 w.heap.size w.heap.size _ w3 from .inr hb3)
      have HL3 := Lib.hid hl3
      have hsz3 := hl3.size
      clear hb3 hl3
      go_wp2_with (fail)
      refine (zao w.heap.size w.heap.size _ (byte s i : Int) w3 HB3.out (by rw [Lib.byteCells_length]; simp; omega) (by omega)).mono ?_
      rintro e w4 ⟨rfl, hb4, hl4⟩
      dsimp only
      rw [zci] at hb4
      have HB4 := Lib.hid (show Lib.IsBuilder 80 5 w.heap.size w.heap.size _ w4 from .inr hb4)
      have HL4 := Lib.hid hl4
      clear hb4 hl4
      go_wp2
      go_roundg (s.size - (i + 1))
      case measure => rw [HK2.out]; omega
      case rel =>
       refine ⟨i + 1, acc ++ [92] ++ [ub s i], by go_num, rfl, by omega, by simp; omega, ?_, HB4.out, (HBEL.out.trans HL3.out).trans HL4.out⟩
       rw [HEQ.out, zbK s hlt, HS.out]; simp
     ·have t7 : ((byte s i : Int) == 35) = false := by simp; omega
      have HS := Lib.hid (show sla1 (i == 0) (ub s i) = [ub s i] from zeW _ (by rw [zaE]; exact h9a) (by rw [zaE, hsp]; simp [h35]))
      clear h9a t3 h35 hz
      go_wp2_with (go_at_call 106; refine (za0 _ hb _).mono ?_; rintro e w' ⟨rfl, rfl⟩; rw [hsp])
      refine (zao w.heap.size w.heap.size _ (byte s i : Int) wr HBD.out (by omega) (by omega)).mono ?_
      rintro e w3 ⟨rfl, hb3, hl3⟩
      dsimp only
      rw [zci] at hb3
      have HB3 := Lib.hid (show Lib.IsBuilder 80 5 w.heap.size w.heap.size _ w3 from .inr hb3)
      have HL3 := Lib.hid hl3
      clear hb3 hl3
      go_wp2
      go_roundg (s.size - (i + 1))
      case measure => rw [HK2.out]; omega
      case rel =>
       refine ⟨i + 1, acc ++ [ub s i], by go_num, rfl, by omega, by simp; omega, ?_, HB3.out, HBEL.out.trans HL3.out⟩
       rw [HEQ.out, zbK s hlt, HS.out]; simp
    ·have t6 : ((i : Int) == 0) = false := by simp; omega
     have HS := Lib.hid (show sla1 (i == 0) (ub s i) = [ub s i] from zeW _ (by rw [zaE]; exact h9a) (by rw [zaE, hsp]; simp [hz]))
     clear h9a t3
     go_wp2_with (go_at_call 106; refine (za0 _ hb _).mono ?_; rintro e w' ⟨rfl, rfl⟩; rw [hsp])
     refine (zao w.heap.size w.heap.size _ (byte s i : Int) wr HBD.out (by omega) (by omega)).mono ?_
     rintro e w3 ⟨rfl, hb3, hl3⟩
     dsimp only
     rw [zci] at hb3
     have HB3 := Lib.hid (show Lib.IsBuilder 80 5 w.heap.size w.heap.size _ w3 from .inr hb3)
     have HL3 := Lib.hid hl3
     clear hb3 hl3
     go_wp2
     go_roundg (s.size - (i + 1))
     case measure => rw [HK2.out]; omega
     case rel =>
      refine ⟨i + 1, acc ++ [ub s i], by go_num, rfl, by omega, by simp; omega, ?_, HB3.out, HBEL.out.trans HL3.out⟩
      rw [HEQ.out, zbK s hlt, HS.out]; simp
end Go.Proofs.YtppjodfehhlniaaGreatDoor
end
section
namespace Go.Proofs.YtppjodfehhlniaaGreatDoor
open Go.ChangeShapes Go.WideShapes Go.ChangeAt Go.RowKit
set_option maxRecDepth 100000
set_option maxHeartbeats 4000000 in
theorem zgg (s : ByteArray) (hs : s.size ≤ 1000000) (m : Int) (w : World) (hm : w.cell? ⟨2, 0, none⟩ = some (.int .i64 m)) :
  Calls Tryz.prog 41 #[.string s] w fun e w' => QuoR w s e w' := by
 have hby := zam s
 by_cases h0 : s.size = 0
 ·have t0 := zd0 s h0
  have HQ := Lib.hid (show quoT (L s) = [123, 125] by rw [zc4 s h0]; rfl)
  go_enter Tryz.func41, Tryz.ntmps41
  go_wp2
  go_ret
  exact QuoR.mk (by rw [HQ.out]; rfl) (Below.refl _ _)
 ·have t0 := zaI s h0
  have t1 : (0 : Int) < (s.size : Int) := by omega
  have HQ := Lib.hid (zj9 s (show 0 < s.size by omega))
  have HM := Lib.hid hm
  clear hm
  obtain ⟨A, hA, sA, aN, aO, bA⟩ := zaH w #[.pointer none, .slice none 0 0] 80
  have hbld : Lib.IsBuilder 80 5 w.heap.size w.heap.size (Lib.byteCells []) A := by rw [← hA]; exact Lib.fresh_isBuilder 80 5 w
  have HA := Lib.hid hA
  have HB := Lib.hid bA
  have HL := Lib.hid hbld
  clear hA sA aN aO bA hbld
  go_enter Tryz.func41, Tryz.ntmps41
  go_wp2
  go_loopg [3, 4] (s.size + 1) (fun k pv iv wr => ∃ i : Nat, pv = .bool (zbn s i) ∧ iv = .int .i64 (i : Int) ∧ k = s.size + 1 - i ∧ i ≤ s.size ∧ w = wr)
  case atStart => exact ⟨0, by rw [zmI], rfl, by omega, by omega, rfl⟩
  case round =>
   obtain ⟨i, rfl, rfl, hk, hi, rfl⟩ := hrel
   have HK := Lib.hid hk
   clear hk
   have hb := zaA s i
   cases hp : zbn s i with
   | true =>
     by_cases hlt : i < s.size
     ·have t2 : (i : Int) < (s.size : Int) := by omega
      have HP := Lib.hid (zhg s hlt)
      rw [hp, Bool.true_and] at HP
      have HPP := Lib.hid hp
      clear hp
      go_wp2_with (go_at_call 106; refine (za0 _ hb _).mono ?_; rintro e w' ⟨rfl, rfl⟩)
      go_roundg (s.size + 1 - (i + 1))
      case measure => rw [HK.out]; omega
      case rel => exact ⟨i + 1, by rw [HP.out], by go_num, rfl, by omega, rfl⟩
     ·have t2 : ¬ (i : Int) < (s.size : Int) := by omega
      have hie : i = s.size := by omega
      have HP := Lib.hid hp
      have HI := Lib.hid hie
      clear hp hie
      go_wp2
      go_ret
      exact QuoR.mk (by rw [HQ.out, if_pos (by rw [← HI.out]; exact HP.out)]) (Below.refl _ _)
   | false =>
     have HP := Lib.hid (zp3 s hi hp)
     clear hp
     cases hbal : (bal (L s) 0 && !slf (L s)) with
     | true =>
       have HBL := Lib.hid hbal
       clear hbal
       go_wp2_with (go_at_call 107; refine (zhf s hs _ m HM.out).mono ?_; rintro e w' ⟨rfl, rfl⟩; rw [HBL.out])
       all_goals go_ret
       all_goals refine QuoR.mk ?_ (Below.refl _ _)
       all_goals rw [HQ.out, if_neg (by rw [HP.out]; simp), if_pos HBL.out, zax, zax]
       all_goals rfl
     | false =>
       have HBL := Lib.hid hbal
       clear hbal
       go_wp2_with (go_at_call 107; refine (zhf s hs _ m HM.out).mono ?_; rintro e w' ⟨rfl, rfl⟩; rw [HBL.out])
       all_goals rw [HA.out]
       all_goals exact ztt s hs w A (by rw [HQ.out, if_neg (by rw [HP.out]; simp), if_neg (by rw [HBL.out]; simp)]) HL.out HB.out _ (by assumption) _ _ _ _ _ _ _ _ _ _ _ _ _ _ _ _ _ _ _ _ _ _ _ _ _ _ _ _ _ _ _ _ _ _ _ _ _ _ _ _ _ _ _ _ _ _ _ _ _ _ _ _ _ _ _ _ _ _ _ _ _ _ _ _
end Go.Proofs.YtppjodfehhlniaaGreatDoor
end
section
namespace Go.Proofs.YtppjodfehhlniaaGreatDoor
open Go.ChangeShapes Go.WideShapes Go.ChangeAt Go.RowKit
set_option maxRecDepth 100000
theorem zaR (a b : ByteArray) : (a ++ b).size = a.size + b.size := by
 have := za7 (a ++ b)
 rw [zax, List.length_append, za7, za7] at this
 exact this.symm
theorem zc6 (s : ByteArray) {i : Nat} (hi : i < s.size) : (s.extract i (i + 1)).size = 1 := by rw [ByteArray.size_extract]; omega
theorem zi2 (s : ByteArray) {i : Nat} (hi : i < s.size) : L (s.extract i (i + 1)) = [ub s i] := by
 rw [ze0, zak s hi, show i + 1 - i = 1 by omega]; rfl
set_option maxHeartbeats 20000000 in
theorem zoo (s : ByteArray) (hs : s.size ≤ 1000000) (w : World) :
  Calls Tryz.prog 342 #[.string s] w fun e w' => (∃ q, e = .returned (.string q) ∧ L q = sla true (L s)) ∧ Below w.heap.size w w' := by
 have hby := zam s
 go_enter Tryz.func342, Tryz.ntmps342
 go_wp2
 go_loopg [3, 7] s.size (fun k ov iv wr => ∃ (i : Nat) (q : ByteArray), ov = .string q ∧ iv = .int .i64 (i : Int) ∧ k = s.size - i ∧ i ≤ s.size ∧ q.size ≤ 2 * i ∧ sla true (L s) = L q ++ sla (i == 0) ((L s).drop i) ∧ Below w.heap.size w wr)
 case atStart => exact ⟨0, _, rfl, rfl, rfl, Nat.zero_le _, by decide, rfl, Below.refl _ _⟩
 case round =>
  obtain ⟨i, q, rfl, rfl, hk, hi, hq, heq, hbel⟩ := hrel
  have HK := Lib.hid hk
  have HEQ := Lib.hid heq
  have HBEL := Lib.hid hbel
  have hsz := hbel.size
  clear hk heq hbel
  have hb := zaA s i
  by_cases hlt : i < s.size
  rotate_left
  ·have t2 : ¬ (i : Int) < (s.size : Int) := by omega
   have HS := Lib.hid (show sla (i == 0) ((L s).drop i) = [] by rw [zas s (by omega)]; rfl)
   go_wp2
   go_ret
   exact ⟨⟨_, rfl, by rw [HEQ.out, HS.out, List.append_nil]⟩, HBEL.out⟩
  have t2 : (i : Int) < (s.size : Int) := by omega
  have t20 : (0 : Int) ≤ (i : Int) := by omega
  have t21 : (i : Int) ≤ (i : Int) + 1 := by omega
  have t22 : (i : Int) + 1 ≤ (s.size : Int) := by omega
  by_cases h9a : 9 ≤ byte s i ∧ byte s i ≤ 13
  ·have h9c : byte s i = 9 ∨ byte s i = 10 ∨ byte s i = 11 ∨ byte s i = 12 ∨ byte s i = 13 := by omega
   clear h9a
   rcases h9c with h9 | h9 | h9 | h9 | h9
   ·have hbi : ∀ h : i < s.size, ((s[i]'h).toNat : Int) = 9 := fun h => by rw [zam s i h]; omega
    have HS := Lib.hid (show sla1 (i == 0) (ub s i) = [92, 116] from zco _ (.inl ⟨za3 s i (by decide) h9, rfl⟩))
    clear hby h9 hb
    go_wp2
    go_region
    go_wp2
    go_roundg (s.size - (i + 1))
    case measure => rw [HK.out]; omega
    case rel =>
     refine ⟨i + 1, _, rfl, by go_num, rfl, by omega, ?_, ?_, HBEL.out.drew⟩
     ·rw [zaR, zaR]
      show q.size + 2 ≤ _
      omega
     ·rw [HEQ.out, zbK s hlt, HS.out, zax, zax]
      show _ = L q ++ ([92] ++ [116]) ++ _
      simp
   ·have hbi : ∀ h : i < s.size, ((s[i]'h).toNat : Int) = 10 := fun h => by rw [zam s i h]; omega
    have HS := Lib.hid (show sla1 (i == 0) (ub s i) = [92, 110] from zco _ (.inr <| .inl ⟨za3 s i (by decide) h9, rfl⟩))
    clear hby h9 hb
    go_wp2
    go_region
    go_wp2
    go_roundg (s.size - (i + 1))
    case measure => rw [HK.out]; omega
    case rel =>
     refine ⟨i + 1, _, rfl, by go_num, rfl, by omega, ?_, ?_, HBEL.out.drew⟩
     ·rw [zaR, zaR]
      show q.size + 2 ≤ _
      omega
     ·rw [HEQ.out, zbK s hlt, HS.out, zax, zax]
      show _ = L q ++ ([92] ++ [110]) ++ _
      simp
   ·have hbi : ∀ h : i < s.size, ((s[i]'h).toNat : Int) = 11 := fun h => by rw [zam s i h]; omega
    have HS := Lib.hid (show sla1 (i == 0) (ub s i) = [92, 118] from zco _ (.inr <| .inr <| .inl ⟨za3 s i (by decide) h9, rfl⟩))
    clear hby h9 hb
    go_wp2
    go_region
    go_wp2
    go_roundg (s.size - (i + 1))
    case measure => rw [HK.out]; omega
    case rel =>
     refine ⟨i + 1, _, rfl, by go_num, rfl, by omega, ?_, ?_, HBEL.out.drew⟩
     ·rw [zaR, zaR]
      show q.size + 2 ≤ _
      omega
     ·rw [HEQ.out, zbK s hlt, HS.out, zax, zax]
      show _ = L q ++ ([92] ++ [118]) ++ _
      simp
   ·have hbi : ∀ h : i < s.size, ((s[i]'h).toNat : Int) = 12 := fun h => by rw [zam s i h]; omega
    have HS := Lib.hid (show sla1 (i == 0) (ub s i) = [92, 102] from zco _ (.inr <| .inr <| .inr <| .inl ⟨za3 s i (by decide) h9, rfl⟩))
    clear hby h9 hb
    go_wp2
    go_region
    go_wp2
    go_roundg (s.size - (i + 1))
    case measure => rw [HK.out]; omega
    case rel =>
     refine ⟨i + 1, _, rfl, by go_num, rfl, by omega, ?_, ?_, HBEL.out.drew⟩
     ·rw [zaR, zaR]
      show q.size + 2 ≤ _
      omega
     ·rw [HEQ.out, zbK s hlt, HS.out, zax, zax]
      show _ = L q ++ ([92] ++ [102]) ++ _
      simp
   ·have hbi : ∀ h : i < s.size, ((s[i]'h).toNat : Int) = 13 := fun h => by rw [zam s i h]; omega
    have HS := Lib.hid (show sla1 (i == 0) (ub s i) = [92, 114] from zco _ (.inr <| .inr <| .inr <| .inr ⟨za3 s i (by decide) h9, rfl⟩))
    clear hby h9 hb
    go_wp2
    go_region
    go_wp2
    go_roundg (s.size - (i + 1))
    case measure => rw [HK.out]; omega
    case rel =>
     refine ⟨i + 1, _, rfl, by go_num, rfl, by omega, ?_, ?_, HBEL.out.drew⟩
     ·rw [zaR, zaR]
      show q.size + 2 ≤ _
      omega
     ·rw [HEQ.out, zbK s hlt, HS.out, zax, zax]
      show _ = L q ++ ([92] ++ [114]) ++ _
      simp
  cases hsp : spcN (byte s i) with
  | true =>
    have HS := Lib.hid (show sla1 (i == 0) (ub s i) = [92, ub s i] from zhE _ (by rw [zaE]; exact h9a) (by rw [zaE, hsp]; rfl))
    by_cases h9 : 9 ≤ byte s i
    ·have t4 : (9 : Int) ≤ (byte s i : Int) := by omega
     have t5 : ¬ (byte s i : Int) ≤ 13 := by omega
     clear h9a h9
     go_wp2_with (go_at_call 340; refine (zbi _ hb _).mono ?_; rintro e w1 ⟨rfl, hb1⟩; have HB1 := Lib.hid hb1; clear hb1; rw [hsp])
     go_roundg (s.size - (i + 1))
     case measure => rw [HK.out]; omega
     case rel =>
      refine ⟨i + 1, _, rfl, by go_num, rfl, by omega, ?_, ?_, HBEL.out.trans (HB1.out.mono hsz)⟩
      ·rw [zaR, zaR, zc6 s hlt]
       show q.size + (1 + 1) ≤ _
       omega
      ·rw [HEQ.out, zbK s hlt, HS.out, zax, zax, zi2 s hlt]
       show _ = L q ++ ([92] ++ [ub s i]) ++ _
       simp
    ·have t4 : ¬ (9 : Int) ≤ (byte s i : Int) := by omega
     clear h9a h9
     go_wp2_with (go_at_call 340; refine (zbi _ hb _).mono ?_; rintro e w1 ⟨rfl, hb1⟩; have HB1 := Lib.hid hb1; clear hb1; rw [hsp])
     go_roundg (s.size - (i + 1))
     case measure => rw [HK.out]; omega
     case rel =>
      refine ⟨i + 1, _, rfl, by go_num, rfl, by omega, ?_, ?_, HBEL.out.trans (HB1.out.mono hsz)⟩
      ·rw [zaR, zaR, zc6 s hlt]
       show q.size + (1 + 1) ≤ _
       omega
      ·rw [HEQ.out, zbK s hlt, HS.out, zax, zax, zi2 s hlt]
       show _ = L q ++ ([92] ++ [ub s i]) ++ _
       simp
  | false =>
    by_cases hz : i = 0
    ·have t6 : ((i : Int) == 0) = true := by simp; omega
     by_cases h35 : byte s i = 35
     ·have t7 : ((byte s i : Int) == 35) = true := by simp; omega
      have HS := Lib.hid (show sla1 (i == 0) (ub s i) = [92, ub s i] from zhE _ (by rw [zaE]; exact h9a) (by rw [zaE, hsp, hz, ← hz, h35]; simp [hz]))
      have t4 : (9 : Int) ≤ (byte s i : Int) := by omega
      have t5 : ¬ (byte s i : Int) ≤ 13 := by omega
      clear h9a h35 hz
      go_wp2_with (go_at_call 340; refine (zbi _ hb _).mono ?_; rintro e w1 ⟨rfl, hb1⟩; have HB1 := Lib.hid hb1; clear hb1; rw [hsp])
      go_roundg (s.size - (i + 1))
      case measure => rw [HK.out]; omega
      case rel =>
       refine ⟨i + 1, _, rfl, by go_num, rfl, by omega, ?_, ?_, HBEL.out.trans (HB1.out.mono hsz)⟩
       ·rw [zaR, zaR, zc6 s hlt]
        show q.size + (1 + 1) ≤ _
        omega
       ·rw [HEQ.out, zbK s hlt, HS.out, zax, zax, zi2 s hlt]
        show _ = L q ++ ([92] ++ [ub s i]) ++ _
        simp
     ·have t7 : ((byte s i : Int) == 35) = false := by simp; omega
      have HS := Lib.hid (show sla1 (i == 0) (ub s i) = [ub s i] from zeW _ (by rw [zaE]; exact h9a) (by rw [zaE, hsp]; simp [h35]))
      clear h35 hz
      by_cases h9 : 9 ≤ byte s i
      ·have t4 : (9 : Int) ≤ (byte s i : Int) := by omega
       have t5 : ¬ (byte s i : Int) ≤ 13 := by omega
       clear h9a h9
       go_wp2_with (go_at_call 340; refine (zbi _ hb _).mono ?_; rintro e w1 ⟨rfl, hb1⟩; have HB1 := Lib.hid hb1; clear hb1; rw [hsp])
       go_roundg (s.size - (i + 1))
       case measure => rw [HK.out]; omega
       case rel =>
        refine ⟨i + 1, _, rfl, by go_num, rfl, by omega, ?_, ?_, HBEL.out.trans (HB1.out.mono hsz)⟩
        ·rw [zaR, zc6 s hlt]; omega
        ·rw [HEQ.out, zbK s hlt, HS.out, zax, zi2 s hlt]; simp
      ·have t4 : ¬ (9 : Int) ≤ (byte s i : Int) := by omega
       clear h9a h9
       go_wp2_with (go_at_call 340; refine (zbi _ hb _).mono ?_; rintro e w1 ⟨rfl, hb1⟩; have HB1 := Lib.hid hb1; clear hb1; rw [hsp])
       go_roundg (s.size - (i + 1))
       case measure => rw [HK.out]; omega
       case rel =>
        refine ⟨i + 1, _, rfl, by go_num, rfl, by omega, ?_, ?_, HBEL.out.trans (HB1.out.mono hsz)⟩
        ·rw [zaR, zc6 s hlt]; omega
        ·rw [HEQ.out, zbK s hlt, HS.out, zax, zi2 s hlt]; simp
    ·have t6 : ((i : Int) == 0) = false := by simp; omega
     have HS := Lib.hid (show sla1 (i == 0) (ub s i) = [ub s i] from zeW _ (by rw [zaE]; exact h9a) (by rw [zaE, hsp]; simp [hz]))
     by_cases h9 : 9 ≤ byte s i
     ·have t4 : (9 : Int) ≤ (byte s i : Int) := by omega
      have t5 : ¬ (byte s i : Int) ≤ 13 := by omega
      clear h9a h9
      go_wp2_with (go_at_call 340; refine (zbi _ hb _).mono ?_; rintro e w1 ⟨rfl, hb1⟩; have HB1 := Lib.hid hb1; clear hb1; rw [hsp])
      go_roundg (s.size - (i + 1))
      case measure => rw [HK.out]; omega
      case rel =>
       refine ⟨i + 1, _, rfl, by go_num, rfl, by omega, ?_, ?_, HBEL.out.trans (HB1.out.mono hsz)⟩
       ·rw [zaR, zc6 s hlt]; omega
       ·rw [HEQ.out, zbK s hlt, HS.out, zax, zi2 s hlt]; simp
     ·have t4 : ¬ (9 : Int) ≤ (byte s i : Int) := by omega
      clear h9a h9
      go_wp2_with (go_at_call 340; refine (zbi _ hb _).mono ?_; rintro e w1 ⟨rfl, hb1⟩; have HB1 := Lib.hid hb1; clear hb1; rw [hsp])
      go_roundg (s.size - (i + 1))
      case measure => rw [HK.out]; omega
      case rel =>
       refine ⟨i + 1, _, rfl, by go_num, rfl, by omega, ?_, ?_, HBEL.out.trans (HB1.out.mono hsz)⟩
       ·rw [zaR, zc6 s hlt]; omega
       ·rw [HEQ.out, zbK s hlt, HS.out, zax, zi2 s hlt]; simp
set_option maxHeartbeats 20000000 in
theorem zp5 (s : ByteArray) (hs : s.size ≤ 1000000) (w : World) :
  Calls Tryz.prog 222 #[.string s] w fun e w' => QuoR w s e w' := by
 have hby := zam s
 by_cases h0 : s.size = 0
 ·have t0 := zd0 s h0
  have HQ := Lib.hid (show quoT (L s) = [123, 125] by rw [zc4 s h0]; rfl)
  go_enter Tryz.func222, Tryz.ntmps222
  go_wp2
  go_ret
  exact QuoR.mk (by rw [HQ.out]; rfl) (Below.refl _ _)
 ·have t0 := zaI s h0
  have t1 : (0 : Int) < (s.size : Int) := by omega
  have HQ := Lib.hid (zj9 s (show 0 < s.size by omega))
  go_enter Tryz.func222, Tryz.ntmps222
  go_wp2
  go_loopg [3, 12] s.size (fun k pv iv wr => ∃ i : Nat, pv = .bool (zbn s i) ∧ iv = .int .i64 (i : Int) ∧ k = s.size - i ∧ i ≤ s.size ∧ Below w.heap.size w wr)
  case atStart => exact ⟨0, by rw [zmI], rfl, by omega, by omega, Below.refl _ _⟩
  case round =>
   obtain ⟨i, rfl, rfl, hk, hi, hbel⟩ := hrel
   have HK := Lib.hid hk
   have HBEL := Lib.hid hbel
   have hsz := hbel.size
   clear hk hbel
   have hb := zaA s i
   by_cases hlt : i < s.size
   ·have t2 : (i : Int) < (s.size : Int) := by omega
    have HP := Lib.hid (zhg s hlt)
    cases hp : zbn s i with
    | true =>
      rw [hp, Bool.true_and] at HP
      clear hp
      go_wp2_with (go_at_call 340; refine (zbi _ hb _).mono ?_; rintro e w1 ⟨rfl, hb1⟩; have HB1 := Lib.hid hb1; clear hb1)
      go_roundg (s.size - (i + 1))
      case measure => rw [HK.out]; omega
      case rel => exact ⟨i + 1, by rw [HP.out], by go_num, rfl, by omega, HBEL.out.trans (HB1.out.mono hsz)⟩
    | false =>
      rw [hp, Bool.false_and] at HP
      clear hp
      go_wp2
      go_roundg (s.size - (i + 1))
      case measure => rw [HK.out]; omega
      case rel => exact ⟨i + 1, by rw [HP.out], by go_num, rfl, by omega, HBEL.out⟩
   ·have t2 : ¬ (i : Int) < (s.size : Int) := by omega
    have hie : i = s.size := by omega
    cases hp : zbn s i with
    | true =>
      have HP := Lib.hid (show zbn s s.size = true by rw [← hie]; exact hp)
      clear hp hie
      go_wp2
      go_ret
      exact QuoR.mk (by rw [HQ.out, if_pos HP.out]) HBEL.out
    | false =>
      have HP := Lib.hid (show ¬ zbn s s.size = true by rw [← hie, hp]; simp)
      clear hp hie
      cases hbal : (bal (L s) 0 && !slf (L s)) with
      | true =>
        have HBL := Lib.hid hbal
        clear hbal
        go_wp2_with (go_at_call 341; refine (zga s hs _).mono ?_; rintro e w' ⟨rfl, rfl⟩; rw [HBL.out])
        go_ret
        refine QuoR.mk ?_ HBEL.out
        rw [HQ.out, if_neg HP.out, if_pos HBL.out, zax, zax]
        rfl
      | false =>
        have HBL := Lib.hid hbal
        clear hbal
        go_wp2_with (first | (go_at_call 341; refine (zga s hs _).mono ?_; rintro e w' ⟨rfl, rfl⟩; rw [HBL.out]) | (go_at_call 342; refine (zoo s hs _).mono ?_; rintro e w1 ⟨⟨q, rfl, hq⟩, hb1⟩; have HB1 := Lib.hid hb1; have HX := Lib.hid hq; clear hb1 hq))
        go_ret
        refine QuoR.mk ?_ (HBEL.out.trans (HB1.out.mono hsz))
        rw [HQ.out, if_neg HP.out, if_neg (by rw [HBL.out]; simp), HX.out]
end Go.Proofs.YtppjodfehhlniaaGreatDoor
end
section
namespace Go.Proofs.YtppjodfehhlniaaGreatDoor
open Go.ChangeShapes Go.WideShapes Go.ChangeAt Go.RowKit
set_option maxRecDepth 100000
theorem P3.later {w1 W W' : World} {g : Nat} {x : Prm × Bool} {u v b : Value} {us vs : List (List UInt8)} {bs : List Bool} (h : P3 w1 g x u v b us vs bs W) (hb : Below W.heap.size W W') : P3 w1 g x u v b us vs bs W' :=
 ⟨h.tri.later hb, (hb.block g h.lt).trans h.blk, h.nu, h.nv, h.nb, h.bel.trans (hb.mono h.sz)⟩
def BndR (w : World) (l : List (Prm × Bool)) (ws : List (List UInt8)) (e : Ending) (w' : World) : Prop :=
 (∃ q u v, bnd l ws = .ok q ∧ e = .returned (.tuple #[u, v, .int .i64 0]) ∧ Tri w' w.heap.size u v (.slice none 0 0) (l.map fun p => p.1.name) q []) ∨
 (∃ k : Nat, k ≠ 0 ∧ bnd l ws = .error k ∧ e = .returned (.tuple #[.slice none 0 0, .slice none 0 0, .int .i64 (k : Int)]))
set_option maxHeartbeats 4000000 in
theorem ztu (OK : List (Prm × Bool) → Prop) (Bad : Int → Prop) (s : ByteArray) (wv : Value) (ws : List (List UInt8)) (w : World) (hws : StrRow w wv ws) (hcw : CapOk wv) (hsum : sumL ws ≤ 2000)
  (hpar : Calls Tryz.prog 38 #[.string s] w fun e w' => ∃ a n c q k, e = .returned (.tuple #[.slice a (n : Nat) c, .string q, .int .i64 k]) ∧ Below w.heap.size w w' ∧
   ((k = 0 ∧ ∃ l, PRow w' (.slice a n c) l ∧ l.length ≤ 1000 ∧ OK l) ∨ (k ≠ 0 ∧ Bad k))) :
  Calls Tryz.prog 44 #[.string s, wv] w fun e w' => Below w.heap.size w w' ∧
   ((∃ l, OK l ∧ l.length ≤ 1000 ∧ BndR w l ws e w') ∨
    (∃ k, k ≠ 0 ∧ Bad k ∧ e = .returned (.tuple #[.slice none 0 0, .slice none 0 0, .int .i64 k]))) := by
 obtain ⟨i0, hi0, hz0, hz1, hz2⟩ := info_parts zoe
 have HW := Lib.hid hws
 clear hws
 go_enter Tryz.func44, Tryz.ntmps44
 go_wp2_with (go_at_call 38; refine hpar.mono ?_; rintro e w1 ⟨a, n, c, q, k0, rfl, hb, hr⟩; have HB := Lib.hid hb; have HR := Lib.hid hr; clear hb hr hpar; dsimp only)
 ·rename_i hne
  have hk : k0 ≠ 0 := by simpa using hne
  rcases HR.out with ⟨h0, _⟩ | ⟨_, hbad⟩
  ·exact absurd h0 hk
  ·go_ret3
   exact ⟨HB.out, .inr ⟨k0, hk, hbad, rfl⟩⟩
 have hk0 : k0 = 0 := by first | (rename_i hne _; simpa using hne; done) | (rename_i hne _ _; simpa using hne; done) | (rename_i hne _ _ _; simpa using hne; done) | (rename_i hne _ _ _ _; simpa using hne; done)
 subst hk0
 obtain ⟨l, hr, hl, ho⟩ : ∃ l, PRow w1 (.slice a n c) l ∧ l.length ≤ 1000 ∧ OK l := by
  rcases HR.out with ⟨_, h⟩ | ⟨h0, _⟩
  ·exact h
  ·exact absurd rfl h0
 clear HR
 obtain ⟨a', c', he, ha⟩ := hr.form
 cases he
 have HA := Lib.hid ha
 have HO := Lib.hid ho
 clear hr ha ho
 go_loopg [1, 10, 11, 27] l.length (fun k ww uu vv iv wr => ∃ (i : Nat) (wi os : List (List UInt8)), iv = .int .i64 (i : Int) ∧ k = l.length - i ∧ i ≤ l.length ∧ os.length = i ∧ Below w1.heap.size w1 wr ∧
  Tri wr w1.heap.size uu vv (.slice none 0 0) ((l.take i).map fun p => p.1.name) os [] ∧ StrRow w ww wi ∧ CapOk ww ∧ sumL wi ≤ 2000 ∧ bnd l ws = zi1 os (bnd (l.drop i) wi))
 case atStart => exact ⟨0, ws, [], rfl, rfl, Nat.zero_le _, rfl, Below.refl _ _, by simpa using Tri.nil _ _, HW.out, hcw, hsum, by rw [List.drop_zero, zrZ]⟩
 case round =>
  obtain ⟨i, wi, os, rfl, hk, hi, hol, hbel, hT, hwi, hcp, hsi, heq⟩ := hrel
  by_cases hlt : i < l.length
  ·have t2 : (i : Int) < (l.length : Int) := by omega
   obtain ⟨x, hx⟩ : ∃ x, l[i]? = some x := ⟨_, List.getElem?_eq_getElem hlt⟩
   have hd : l.drop i = x :: l.drop (i + 1) := by
    obtain ⟨hlt, he⟩ := List.getElem?_eq_some_iff.1 hx
    rw [List.drop_eq_getElem_cons hlt, he]
   have htk : l.take (i + 1) = l.take i ++ [x] := by rw [List.take_add_one, hx]; rfl
   obtain ⟨p, rfl, hp1, hp2, hp3, hp4⟩ := HA.out i x hx
   have c1 := zaf hp1 hbel
   have c2 := zaf hp2 hbel
   have c3 := zaf hp3 hbel
   have c4 := zaf hp4 hbel
   unfold strV at c1 c2
   have HT := Lib.hid hT
   have HBL := Lib.hid hbel
   have HK := Lib.hid hk
   have HTK := Lib.hid htk
   have HEQ := Lib.hid heq
   have HD := Lib.hid hd
   have HWI := Lib.hid hwi
   clear hp1 hp2 hp3 hp4 hx hk hT hbel heq hd htk hwi
   obtain ⟨⟨pn, po, ph⟩, pr⟩ := x
   dsimp only at *
   cases pr with
   | true =>
     go_wp2_with (first | (at_builtin; refine zah rfl _ _ 22 rfl w1.heap.size 9 i0 (.string ⟨#[]⟩) 1 16 Tryz.underlying22 hi0 hz0 hz1 hz2 rfl (by decide) _ _ _ rfl ((P3.make (x := (⟨pn, po, ph⟩, true)) HT.out HBL.out).tri.ru.alloc _) ⟨wr.heap.size + 1, 0, none⟩ 1 1 [.string ⟨pn.toArray⟩] rfl rfl (by simpa using cell_one_new (wr.alloc _) _ _) (by intro u hu; rw [List.mem_singleton.1 hu]; rfl) (by simp [maxLen]; omega) (by simp; omega) (by have := HBL.out.size; simp; omega) ?_; intro u2 w2 o g n; have hS2 := (P3.make (x := (⟨pn, po, ph⟩, true)) HT.out HBL.out).appU o g n; clear o g n; obtain ⟨d0, d1, d2, d3⟩ := hS2.cells; dsimp only at d0 d1 d2 d3; have S2 := Lib.hid hS2; clear hS2) | (go_at_call 108; refine (zr6 (fun s hs w => zp5 s hs w) _ _ _ (HWI.out.later (HB.out.trans (S2.out.bel.mono HB.out.size))) hsi).mono ?_; rintro e w3 ⟨⟨jq, rfl, hjq⟩, hb3⟩; cases (zmQ hjq); have hS3 := S2.out.later hb3; clear hb3; have S3 := Lib.hid hS3; clear hS3; dsimp only) | (at_builtin; refine zah rfl _ _ 22 rfl w1.heap.size 9 i0 (.string ⟨#[]⟩) 1 16 Tryz.underlying22 hi0 hz0 hz1 hz2 rfl (by decide) _ _ _ rfl (S3.out.tri.rv.alloc _) ⟨w3.heap.size, 0, none⟩ 1 1 [.string ⟨(zbY wi).toArray⟩] rfl rfl (cell_one_new _ _ _) (by intro u hu; rw [List.mem_singleton.1 hu]; rfl) (by simp [maxLen]; omega) (by first | omega | (simp; omega)) (by have := S3.out.sz; simp; omega) ?_; intro u3 w4 o g n; have hS4 := S3.out.appV o g n; clear o g n; have S4 := Lib.hid hS4; clear hS4))
     go_roundg (l.length - (i + 1))
     case measure => have := HK.out; omega
     case rel =>
      have hT := S4.out.tri
      have hB := S4.out.bel
      refine ⟨i + 1, [], os ++ [zbY wi], by go_num, rfl, by omega, by simp [hol], hB, ?_, .inl ⟨rfl, rfl⟩, CapOk.nil, by simp [sumL], ?_⟩
      ·rw [HTK.out]; simpa using hT
      ·rw [HEQ.out, HD.out, ztq, zfB]
   | false =>
     cases wi with
     | nil =>
       obtain ⟨ya, yc, rfl⟩ := StrRow.none HWI.out
       cases ph with
       | true =>
         go_wp2_with (first | (at_builtin; refine zah rfl _ _ 22 rfl w1.heap.size 9 i0 (.string ⟨#[]⟩) 1 16 Tryz.underlying22 hi0 hz0 hz1 hz2 rfl (by decide) _ _ _ rfl ((P3.make (x := (⟨pn, po, true⟩, false)) HT.out HBL.out).tri.ru.alloc _) ⟨wr.heap.size + 1, 0, none⟩ 1 1 [.string ⟨pn.toArray⟩] rfl rfl (by simpa using cell_one_new (wr.alloc _) _ _) (by intro u hu; rw [List.mem_singleton.1 hu]; rfl) (by simp [maxLen]; omega) (by simp; omega) (by have := HBL.out.size; simp; omega) ?_; intro u2 w2 o g n; have hS2 := (P3.make (x := (⟨pn, po, true⟩, false)) HT.out HBL.out).appU o g n; clear o g n; obtain ⟨d0, d1, d2, d3⟩ := hS2.cells; dsimp only at d0 d1 d2 d3; have S2 := Lib.hid hS2; clear hS2) | (at_builtin; refine zah rfl _ _ 22 rfl w1.heap.size 9 i0 (.string ⟨#[]⟩) 1 16 Tryz.underlying22 hi0 hz0 hz1 hz2 rfl (by decide) _ _ _ rfl (S2.out.tri.rv.alloc _) ⟨w2.heap.size, 0, none⟩ 1 1 [.string ⟨po.toArray⟩] rfl rfl (cell_one_new _ _ _) (by intro u hu; rw [List.mem_singleton.1 hu]; rfl) (by simp [maxLen]; omega) (by first | omega | (simp; omega)) (by have := S2.out.sz; simp; omega) ?_; intro u3 w4 o g n; have hS4 := S2.out.appV o g n; clear o g n; have S4 := Lib.hid hS4; clear hS4))
         go_roundg (l.length - (i + 1))
         case measure => have := HK.out; omega
         case rel =>
          have hT := S4.out.tri
          have hB := S4.out.bel
          refine ⟨i + 1, [], os ++ [po], by go_num, rfl, by omega, by simp [hol], hB, ?_, HWI.out, hcp, by simp [sumL], ?_⟩
          ·rw [HTK.out]; simpa using hT
          ·rw [HEQ.out, HD.out, zr0 rfl, zfB]
       | false =>
         go_wp2_with (first | (at_builtin; refine zah rfl _ _ 22 rfl w1.heap.size 9 i0 (.string ⟨#[]⟩) 1 16 Tryz.underlying22 hi0 hz0 hz1 hz2 rfl (by decide) _ _ _ rfl ((P3.make (x := (⟨pn, po, false⟩, false)) HT.out HBL.out).tri.ru.alloc _) ⟨wr.heap.size + 1, 0, none⟩ 1 1 [.string ⟨pn.toArray⟩] rfl rfl (by simpa using cell_one_new (wr.alloc _) _ _) (by intro u hu; rw [List.mem_singleton.1 hu]; rfl) (by simp [maxLen]; omega) (by simp; omega) (by have := HBL.out.size; simp; omega) ?_; intro u2 w2 o g n; have hS2 := (P3.make (x := (⟨pn, po, false⟩, false)) HT.out HBL.out).appU o g n; clear o g n; obtain ⟨d0, d1, d2, d3⟩ := hS2.cells; dsimp only at d0 d1 d2 d3; have S2 := Lib.hid hS2; clear hS2))
         go_ret3
         have hB := S2.out.bel
         exact ⟨HB.out.trans (hB.mono HB.out.size), .inl ⟨l, HO.out, hl, .inr ⟨8, by decide, by rw [HEQ.out, HD.out, zts rfl]; rfl, rfl⟩⟩⟩
     | cons y r =>
       obtain ⟨yp, yc, rfl, hy, hyl, hyr⟩ := StrRow.cut HWI.out hcp
       have hy' : w.cell? yp = some (.string ⟨y.toArray⟩) := by simpa [Addr.add, strV] using hy
       have CY := Lib.hid (zaf hy' HB.out)
       have HYR := Lib.hid hyr
       clear hy hy' hyr
       go_wp2_with (first | (at_builtin; refine zah rfl _ _ 22 rfl w1.heap.size 9 i0 (.string ⟨#[]⟩) 1 16 Tryz.underlying22 hi0 hz0 hz1 hz2 rfl (by decide) _ _ _ rfl ((P3.make (x := (⟨pn, po, ph⟩, false)) HT.out HBL.out).tri.ru.alloc _) ⟨wr.heap.size + 1, 0, none⟩ 1 1 [.string ⟨pn.toArray⟩] rfl rfl (by simpa using cell_one_new (wr.alloc _) _ _) (by intro u hu; rw [List.mem_singleton.1 hu]; rfl) (by simp [maxLen]; omega) (by simp; omega) (by have := HBL.out.size; simp; omega) ?_; intro u2 w2 o g n; have hS2 := (P3.make (x := (⟨pn, po, ph⟩, false)) HT.out HBL.out).appU o g n; clear o g n; obtain ⟨d0, d1, d2, d3⟩ := hS2.cells; dsimp only at d0 d1 d2 d3; have S2 := Lib.hid hS2; clear hS2; have cy := zaf CY.out S2.out.bel) | (at_builtin; refine zah rfl _ _ 22 rfl w1.heap.size 9 i0 (.string ⟨#[]⟩) 1 16 Tryz.underlying22 hi0 hz0 hz1 hz2 rfl (by decide) _ _ _ rfl (S2.out.tri.rv.alloc _) ⟨w2.heap.size, 0, none⟩ 1 1 [.string ⟨y.toArray⟩] rfl rfl (cell_one_new _ _ _) (by intro u hu; rw [List.mem_singleton.1 hu]; rfl) (by simp [maxLen]; omega) (by first | omega | (simp; omega)) (by have := S2.out.sz; simp; omega) ?_; intro u3 w4 o g n; have hS4 := S2.out.appV o g n; clear o g n; have S4 := Lib.hid hS4; clear hS4))
       all_goals
        go_roundg (l.length - (i + 1))
        case measure => have := HK.out; omega
        case rel =>
         have hT := S4.out.tri
         have hB := S4.out.bel
         have hsi2 : sumL r ≤ 2000 := by
          have h0 : sumL (y :: r) = (y.length + 1) + sumL r := by simp [sumL]
          omega
         refine ⟨i + 1, r, os ++ [y], by go_num, rfl, by omega, by simp [hol], hB, ?_, ?_, (by intro a n c h2; cases h2; first | exact hyl | (rw [h] at hyl; exact hyl)), hsi2, ?_⟩
         ·rw [HTK.out]; simpa using hT
         ·first
          | exact HYR.out _ (fun _ => rfl)
          | exact HYR.out _ (fun _ => by simp [Addr.add])
          | (have h1 := HYR.out yp (fun hh => absurd h hh); rw [h] at h1; exact h1)
         ·rw [HEQ.out, HD.out, ztr, zfB]
  ·have hil : i = l.length := by omega
   subst hil
   have t2 : ¬ (l.length : Int) < (l.length : Int) := by omega
   rw [List.take_length] at hT
   rw [List.drop_length] at heq
   cases wi with
   | nil =>
     obtain ⟨ya, yc, rfl⟩ := StrRow.none hwi
     go_wp2
     go_ret3
     exact ⟨HB.out.trans (hbel.mono HB.out.size), .inl ⟨l, HO.out, hl, .inl ⟨os, _, _, by rw [heq]; simp [bnd, zi1], rfl, hT.mono HB.out.size⟩⟩⟩
   | cons y r =>
     obtain ⟨yp, yc, rfl, hy, hyl, hyr⟩ := StrRow.cut hwi hcp
     have t3 : ((r.length : Int) + 1) > 0 := by omega
     go_wp2
     go_ret3
     exact ⟨HB.out.trans (hbel.mono HB.out.size), .inl ⟨l, HO.out, hl, .inr ⟨4, by decide, by rw [heq]; simp [bnd, zi1], rfl⟩⟩⟩
end Go.Proofs.YtppjodfehhlniaaGreatDoor
end
section
namespace Go.Proofs.YtppjodfehhlniaaGreatDoor
open Go.ChangeShapes Go.WideShapes Go.ChangeAt Go.RowKit
set_option maxRecDepth 100000
def ParR (s : ByteArray) (w : World) (e : Ending) (w' : World) : Prop := Below w.heap.size w w' ∧
 (∀ k : Nat, zbu (L s) = .error k → k ≠ 0 ∧ e = .returned (.tuple #[.slice none 0 0, .slice none 0 0, .slice none 0 0, .bool false, .int .i64 (k : Int)])) ∧
 (∀ ps, zbu (L s) = .ok ps → ps.length ≤ 1000 ∧ ∃ u v b, e = .returned (.tuple #[u, v, b, .bool (restOf ps), .int .i64 0]) ∧ Tri w' w.heap.size u v b (ps.map (·.name)) (ps.map (·.other)) (ps.map (·.has)))
def BindR (s : ByteArray) (ws : List (List UInt8)) (w : World) (e : Ending) (w' : World) : Prop := Below w.heap.size w w' ∧
 (∀ k : Nat, zbu (L s) = .error k → k ≠ 0 ∧ e = .returned (.tuple #[.slice none 0 0, .int .i64 (k : Int)])) ∧
 (∀ ps, zbu (L s) = .ok ps → ps.length ≤ 1000 ∧ (∀ k : Nat, zbS ps ws = .error k → k ≠ 0 ∧ e = .returned (.tuple #[.slice none 0 0, .int .i64 (k : Int)])) ∧
  (∀ q, zbS ps ws = .ok q → ∃ v, e = .returned (.tuple #[v, .int .i64 0]) ∧ OwnTx w' w.heap.size v q))
def RPar (s : ByteArray) (w : World) (e : Ending) (w' : World) : Prop := ∃ a n c q k, e = .returned (.tuple #[.slice a (n : Nat) c, .string q, .int .i64 k]) ∧ Below w.heap.size w w' ∧
 ((k = 0 ∧ ∃ l, PRow w' (.slice a n c) l ∧ l.length ≤ 1000 ∧ ∃ ps, zbu (L s) = .ok ps ∧ l = zdF ps) ∨ (k ≠ 0 ∧ ∃ n : Nat, zbu (L s) = .error n ∧ k = n))
theorem zkd : ∀ l : List Prm, ((zdF l).getLast?.map (·.2)).getD false = restOf l
 | [] => rfl
 | [p] => rfl
 | p :: q :: r => by
   have ih := zkd (q :: r)
   rw [ziZ, zdF, ← ih]
   have : zdF (q :: r) ≠ [] := by
    have := zdj (q :: r)
    intro e; rw [e] at this; simp at this
   obtain ⟨a, l, h⟩ : ∃ a l, zdF (q :: r) = a :: l := by
    cases h : zdF (q :: r) with
    | nil => exact absurd h this
    | cons a l => exact ⟨a, l, rfl⟩
   rw [h, List.getLast?_cons_cons]
theorem zi3 {α : Type} (f : Prm → α) (l : List Prm) : (zdF l).map (fun p => f p.1) = l.map f := by
 have := congrArg (List.map f) (ziY l)
 rw [List.map_map] at this
 exact this
theorem zop (s : ByteArray) (w : World) (hpar : Calls Tryz.prog 38 #[.string s] w fun e w' => RPar s w e w') : Calls Tryz.prog 19 #[.string s] w fun e w' => ParR s w e w' := by
 refine (zon (fun l => ∃ ps, zbu (L s) = .ok ps ∧ l = zdF ps) (fun k => ∃ n : Nat, zbu (L s) = .error n ∧ k = n) s w hpar).mono ?_
 rintro e w' ⟨hb, h⟩
 refine ⟨hb, fun k hk => ?_, fun ps hp => ?_⟩
 ·rcases h with ⟨l, u, v, b, ⟨ps, hp, _⟩, _⟩ | ⟨k', hk', ⟨n, hn, rfl⟩, rfl⟩
  ·rw [hk] at hp; cases hp
  ·rw [hk] at hn; cases hn
   exact ⟨by omega, rfl⟩
 ·rcases h with ⟨l, u, v, b, ⟨ps', hp', rfl⟩, hl, rfl, ht⟩ | ⟨k', hk', ⟨n, hn, rfl⟩, rfl⟩
  ·rw [hp] at hp'; cases hp'
   refine ⟨by rw [← zdj]; exact hl, u, v, b, by rw [zkd], ?_⟩
   rw [zi3, zi3, zi3] at ht
   exact ht
  ·rw [hp] at hn; cases hn
set_option maxHeartbeats 2000000 in
theorem zoq (s : ByteArray) (wv : Value) (ws : List (List UInt8)) (w : World) (hws : StrRow w wv ws) (hcw : CapOk wv) (hsum : sumL ws ≤ 2000) (hpar : Calls Tryz.prog 38 #[.string s] w fun e w' => RPar s w e w') :
  Calls Tryz.prog 21 #[.string s, wv] w fun e w' => BindR s ws w e w' := by
 have hb0 := ztu (fun l => ∃ ps, zbu (L s) = .ok ps ∧ l = zdF ps) (fun k => ∃ n : Nat, zbu (L s) = .error n ∧ k = n) s wv ws w hws hcw hsum hpar
 have HW := Lib.hid hws
 clear hws
 have hb1 : Calls Tryz.prog 44 #[.string s, wv] w fun e w' => ∃ u v k, e = .returned (.tuple #[u, v, .int .i64 k]) ∧ BindR s ws w (.returned (.tuple #[v, .int .i64 k])) w' := by
  refine hb0.mono ?_
  rintro e w' ⟨hb, h⟩
  rcases h with ⟨l, ⟨ps, hp, rfl⟩, hl, h⟩ | ⟨k, hk, ⟨n, hn, rfl⟩, rfl⟩
  ·rcases h with ⟨q, u, v, hq, rfl, ht⟩ | ⟨k, hk, hq, rfl⟩
   ·rw [zlj] at hq
    refine ⟨_, _, _, rfl, hb, fun k hk => (by rw [hp] at hk; cases hk), fun ps' hp' => ?_⟩
    rw [hp] at hp'; cases hp'
    refine ⟨by rw [← zdj]; exact hl, fun k hk => (by rw [hq] at hk; cases hk), fun q' hq' => ?_⟩
    rw [hq] at hq'; cases hq'
    exact ⟨_, rfl, ht.rv⟩
   ·rw [zlj] at hq
    refine ⟨_, _, _, rfl, hb, fun k hk => (by rw [hp] at hk; cases hk), fun ps' hp' => ?_⟩
    rw [hp] at hp'; cases hp'
    refine ⟨by rw [← zdj]; exact hl, fun k' hk' => ?_, fun q' hq' => (by rw [hq] at hq'; cases hq')⟩
    rw [hq] at hk'; cases hk'
    exact ⟨hk, rfl⟩
  ·refine ⟨_, _, _, rfl, hb, fun k hk' => ?_, fun ps' hp' => (by rw [hn] at hp'; cases hp')⟩
   rw [hn] at hk'; cases hk'
   exact ⟨by omega, rfl⟩
 clear hb0 hpar
 go_enter Tryz.func21, Tryz.ntmps21
 go_wp2_with (go_at_call 44; refine hb1.mono ?_; rintro e w1 ⟨u, v, k, rfl, hb⟩; have HB := Lib.hid hb; clear hb hb1; dsimp only)
 go_ret2
 exact HB.out
end Go.Proofs.YtppjodfehhlniaaGreatDoor
end
