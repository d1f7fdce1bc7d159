/-
  The statement that calls the reader, at the reader 215. Conditions: none.
-/
import Derived.Test.YtppjodfehhlniaaGreatDoorWe2ToWi0
set_option linter.unusedVariables false
set_option linter.unusedSimpArgs false
set_option linter.unusedSectionVars false
set_option linter.deprecated false
section
namespace Go.Proofs.YtppjodfehhlniaaGreatDoor
open Go.RowKit Go.Shelf
attribute [local go_sem] Oper.semAt_some
set_option maxRecDepth 100000
set_option maxHeartbeats 8000000 in
theorem zoc (n : Nat) (hn1 : 1 ≤ n) (wr : World) (l B1 B2 i : Nat) (s x : ByteArray) (m : Nat) (q : Bool) (u5 u6 u7 u8 u13 u14 u19 u20 u21 u22 u23 u24 u25 u26 u27 u28 u29 u30 u31 u32 u33 u34 u35 u36 u37 u38 u39 u40 u41 u42 u43 u44 u45 u46 u47 u48 u49 u50 u51 u52 u53 u54 u55 u56 u57 u58 u59 u60 : Value) (hlt : i < s.size) (HCP : Caps s B1 B2 wr) (hkc : kindN (byte s i) = 2)
  (hrd : ∀ W, Calls Tryz.prog 215 #[.string (s.extract i s.size)] W fun e w' => e = .returned (.tuple #[.string x, .int .i64 (m : Int), .bool q]) ∧ Below W.heap.size W w') :
  Code.wpIn Fence.wide n Tryz.prog zfA (zeU fun a' W2 => (∃ v23 v24 v25, a' = { tmps := #[.func (.yield l) #[] #[], .pointer (some ⟨B1, 0, none⟩), .pointer (some ⟨B2, 0, none⟩), undef, .int .i64 (i : Int), .string x, .int .i64 (m : Int), .bool q, u8, .int .i64 (i : Int), .string s, .int .i64 (s.size : Int), .bool true, u13, u14, .string s, .int .i64 (i : Int), .int .u8 (byte s i : Int), .bool false, .tuple #[.string x, .int .i64 (m : Int), .bool q], .string s, .int .i64 (i : Int), .int .u8 (byte s i : Int), v23, v24, v25, .string s, .int .i64 (i : Int), .string (s.extract i s.size), .tuple #[.string x, .int .i64 (m : Int), .bool q], .string x, .int .i64 (m : Int), .bool q, u33, u34, u35, u36, u37, u38, u39, u40, u41, u42, u43, u44, u45, u46, u47, u48, u49, u50, u51, u52, u53, u54, u55, u56, u57, u58, u59, u60], defers := [] }) ∧ Below wr.heap.size wr W2) { tmps := #[.func (.yield l) #[] #[], .pointer (some ⟨B1, 0, none⟩), .pointer (some ⟨B2, 0, none⟩), undef, .int .i64 (i : Int), u5, u6, u7, u8, .int .i64 (i : Int), .string s, .int .i64 (s.size : Int), .bool true, u13, u14, .string s, .int .i64 (i : Int), .int .u8 (byte s i : Int), .bool false, u19, u20, u21, u22, u23, u24, u25, u26, u27, u28, u29, u30, u31, u32, u33, u34, u35, u36, u37, u38, u39, u40, u41, u42, u43, u44, u45, u46, u47, u48, u49, u50, u51, u52, u53, u54, u55, u56, u57, u58, u59, u60], defers := [] } wr := by
 have hby := zam s
 have hb := zaA s i
 have t1 : (i : Int) < (s.size : Int) := by omega
 have c1 := HCP.c1
 have d0 := HCP.d2
 have HR := Lib.hid hrd
 clear hrd HCP
 unfold zfA
 gi_region_with (first | (refine ⟨trivial, ?_⟩; gi_at_call 101; refine (callsIn_wide.2 (zk8 _ hb _)).mono ?_; rintro e w' ⟨rfl, rfl⟩; rw [hkc]) | (refine ⟨trivial, ?_⟩; gi_at_call 215; refine (callsIn_wide.2 (HR.out _)).mono ?_; rintro e w2 ⟨rfl, hb2⟩))
 all_goals exact ⟨⟨_, _, _, rfl⟩, (Below.refl wr.heap.size wr).drew.trans hb2⟩
end Go.Proofs.YtppjodfehhlniaaGreatDoor
end
