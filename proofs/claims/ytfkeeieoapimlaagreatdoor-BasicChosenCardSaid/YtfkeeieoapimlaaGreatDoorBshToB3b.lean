/-
  strings.Builder's writing methods over this dump (a builder of the call's own); Parameters and what they get: plain functions, no program in sight; Th. Conditions: none.
-/
import Derived.Shelf.Strings.Builder1
import Derived.Shelf.Small.Strs
import Derived.Shelf.LaysM
import Derived.Shelf.Strings.Search3
import Derived.Shelf.Small.Wraps
import Derived.Test.YtfkeeieoapimlaaGreatDoorProg
import Derived.Test.YtfkeeieoapimlaaGreatDoorB1ToB5a
import Derived.Shelf.Strings.Prefix
set_option linter.unusedVariables false
set_option linter.unusedSimpArgs false
set_option linter.unusedSectionVars false
set_option linter.deprecated false
section
namespace Go.Proofs
open Go.Shelf
def Tryz.lays169_ren : Go.Shelf.Ren := ⟨fun | 169 => 42 | n => n, fun | 70 => 95 | 9 => 9 | 0 => 0 | 72 => 97 | 37 => 25 | 127 => 147 | 3 => 3 | 5 => 5 | n => n, fun | n => n⟩
theorem Tryz.lays169 : Go.Proofs.Lays.n169 Tryz.prog Tryz.lays169_ren := {
 mixed := by kernel_rfl
 f169 := Tryz.func42.trans (congrArg some (by kernel_rfl))
 t0 := Tryz.underlying0
 a0 := Tryz.isAgg0
 z0 := Tryz.sizeOf0
 v0 := Tryz.zeroValue0
 t3 := Tryz.underlying3
 a3 := Tryz.isAgg3
 z3 := Tryz.sizeOf3
 v3 := Tryz.zeroValue3
 t9 := Tryz.underlying9
 a9 := Tryz.isAgg9
 z9 := Tryz.sizeOf9
 v9 := Tryz.zeroValue9
 t37 := Tryz.underlying25
 a37 := Tryz.isAgg25
 z37 := Tryz.sizeOf25
 v37 := Tryz.zeroValue25
 t70 := Tryz.underlying95
 a70 := Tryz.isAgg95
 z70 := Tryz.sizeOf95
 v70 := Tryz.zeroValue95
 t72 := Tryz.underlying97
 a72 := Tryz.isAgg97
 z72 := Tryz.sizeOf97
 v72 := Tryz.zeroValue97
 t127 := Tryz.underlying147
 a127 := Tryz.isAgg147
 z127 := Tryz.sizeOf147
 v127 := Tryz.zeroValue147 }
theorem Tryz.Builder_Extra_169 : Builder.Extra Tryz.prog Tryz.lays169_ren := {
 sizeBuilder := by kernel_rfl
 liesBuilder := by kernel_rfl
 t5 := Tryz.underlying5
 a5 := Tryz.isAgg5
 z5 := Tryz.sizeOf5
 v5 := Tryz.zeroValue5
 infoByte := by kernel_rfl
 cellsByte := by kernel_rfl
 sizeByte := by kernel_rfl
 neB5 := by decide }
open Go.RowKit in
theorem Tryz.Builder_String_any (B b : Nat) (l : List UInt8) (w : World) (h : Lib.IsBuilder 97 5 B b (Lib.byteCells l) w) (hBw : B ≤ w.heap.size) :
  Calls Tryz.prog 42 #[.pointer (some ⟨b, 0, none⟩)] w fun e w' => e = .returned (.string ⟨l.toArray⟩) ∧ Below B w w' := Any.Builder_String_any Tryz.lays169 Tryz.Builder_Extra_169 B b l w h hBw
def Tryz.lays137_ren : Go.Shelf.Ren := ⟨fun | 137 => 76 | 217 => 129 | 266 => 189 | n => n, fun | 9 => 9 | 5 => 5 | 3 => 3 | n => n, fun | n => n⟩
theorem Tryz.lays137 : Go.Proofs.Lays.n137 Tryz.prog Tryz.lays137_ren := {
 mixed := by kernel_rfl
 f137 := Tryz.func76.trans (congrArg some (by kernel_rfl))
 f217 := Tryz.func129.trans (congrArg some (by kernel_rfl))
 f266 := Tryz.func189.trans (congrArg some (by kernel_rfl))
 t3 := Tryz.underlying3
 a3 := Tryz.isAgg3
 z3 := Tryz.sizeOf3
 v3 := Tryz.zeroValue3
 t5 := Tryz.underlying5
 a5 := Tryz.isAgg5
 z5 := Tryz.sizeOf5
 v5 := Tryz.zeroValue5
 t9 := Tryz.underlying9
 a9 := Tryz.isAgg9
 z9 := Tryz.sizeOf9
 v9 := Tryz.zeroValue9 }
open Go.RowKit in
theorem Tryz.strings_IndexByte (s : ByteArray) (c : Int) (w : World) :
  Calls Tryz.prog 76 #[.string s, .int .u8 c] w fun e w' => e = .returned (.int .i64 (Lib.indexByte s.data.toList c.toNat.toUInt8)) ∧ w' = w := Any.strings_IndexByte Tryz.lays137 s c w
def Tryz.lays144_ren : Go.Shelf.Ren := ⟨fun | 144 => 24 | 143 => 77 | 219 => 130 | 217 => 129 | 225 => 190 | 224 => 191 | 267 => 192 | 266 => 189 | 314 => 247 | n => n, fun | 9 => 9 | 4 => 4 | 3 => 3 | 5 => 5 | 46 => 256 | 146 => 317 | 51 => 316 | n => n, fun | 1 => 0 | n => n⟩
theorem Tryz.lays144 : Go.Proofs.Lays.n144 Tryz.prog Tryz.lays144_ren := {
 mixed := by kernel_rfl
 f143 := Tryz.func77.trans (congrArg some (by kernel_rfl))
 f144 := Tryz.func24.trans (congrArg some (by kernel_rfl))
 f217 := Tryz.func129.trans (congrArg some (by kernel_rfl))
 f219 := Tryz.func130.trans (congrArg some (by kernel_rfl))
 f224 := Tryz.func191.trans (congrArg some (by kernel_rfl))
 f225 := Tryz.func190.trans (congrArg some (by kernel_rfl))
 f266 := Tryz.func189.trans (congrArg some (by kernel_rfl))
 f267 := Tryz.func192.trans (congrArg some (by kernel_rfl))
 f314 := Tryz.func247.trans (congrArg some (by kernel_rfl))
 t3 := Tryz.underlying3
 a3 := Tryz.isAgg3
 z3 := Tryz.sizeOf3
 v3 := Tryz.zeroValue3
 t4 := Tryz.underlying4
 a4 := Tryz.isAgg4
 z4 := Tryz.sizeOf4
 v4 := Tryz.zeroValue4
 t5 := Tryz.underlying5
 a5 := Tryz.isAgg5
 z5 := Tryz.sizeOf5
 v5 := Tryz.zeroValue5
 t9 := Tryz.underlying9
 a9 := Tryz.isAgg9
 z9 := Tryz.sizeOf9
 v9 := Tryz.zeroValue9
 t46 := Tryz.underlying256
 a46 := Tryz.isAgg256
 z46 := Tryz.sizeOf256
 v46 := Tryz.zeroValue256
 t51 := Tryz.underlying316
 a51 := Tryz.isAgg316
 z51 := Tryz.sizeOf316
 v51 := Tryz.zeroValue316
 t146 := Tryz.underlying317
 a146 := Tryz.isAgg317
 z146 := Tryz.sizeOf317
 v146 := Tryz.zeroValue317
 g1 := by kernel_rfl }
open Go.RowKit Go.Lib in
theorem Tryz.strings_Contains (s sub : ByteArray) (m : Int) (w : World) (hs : s.size < 4294967281) (hm : w.cell? ⟨0, 0, none⟩ = some (.int .i64 m)) :
  Calls Tryz.prog 24 #[.string s, .string sub] w fun e w' => e = .returned (.bool (Lib.contains s.data.toList sub.data.toList)) ∧ w' = w := Any.strings_Contains Tryz.lays144 s sub m w hs hm
def Tryz.lays170_ren : Go.Shelf.Ren := ⟨fun | 170 => 41 | n => n, fun | 70 => 95 | 3 => 3 | 0 => 0 | 72 => 97 | 37 => 25 | 5 => 5 | n => n, fun | n => n⟩
theorem Tryz.lays170 : Go.Proofs.Lays.n170 Tryz.prog Tryz.lays170_ren := {
 mixed := by kernel_rfl
 f170 := Tryz.func41.trans (congrArg some (by kernel_rfl))
 t0 := Tryz.underlying0
 a0 := Tryz.isAgg0
 z0 := Tryz.sizeOf0
 v0 := Tryz.zeroValue0
 t3 := Tryz.underlying3
 a3 := Tryz.isAgg3
 z3 := Tryz.sizeOf3
 v3 := Tryz.zeroValue3
 t37 := Tryz.underlying25
 a37 := Tryz.isAgg25
 z37 := Tryz.sizeOf25
 v37 := Tryz.zeroValue25
 t70 := Tryz.underlying95
 a70 := Tryz.isAgg95
 z70 := Tryz.sizeOf95
 v70 := Tryz.zeroValue95
 t72 := Tryz.underlying97
 a72 := Tryz.isAgg97
 z72 := Tryz.sizeOf97
 v72 := Tryz.zeroValue97 }
open Go.RowKit in
theorem Tryz.Builder_Len (B b : Nat) (bs : List Value) (w : World) (h : Lib.IsBuilder 97 5 B b bs w) :
  Calls Tryz.prog 41 #[.pointer (some ⟨b, 0, none⟩)] w fun e w' => e = .returned (.int .i64 bs.length) ∧ w' = w := Any.Builder_Len Tryz.lays170 B b bs w h
def Tryz.lays99_ren : Go.Shelf.Ren := ⟨fun | 99 => 119 | 206 => 178 | n => n, fun | 9 => 9 | 4 => 4 | 3 => 3 | n => n, fun | n => n⟩
theorem Tryz.lays99 : Go.Proofs.Lays.n99 Tryz.prog Tryz.lays99_ren := {
 mixed := by kernel_rfl
 f99 := Tryz.func119.trans (congrArg some (by kernel_rfl))
 f206 := Tryz.func178.trans (congrArg some (by kernel_rfl))
 t3 := Tryz.underlying3
 a3 := Tryz.isAgg3
 z3 := Tryz.sizeOf3
 v3 := Tryz.zeroValue3
 t4 := Tryz.underlying4
 a4 := Tryz.isAgg4
 z4 := Tryz.sizeOf4
 v4 := Tryz.zeroValue4
 t9 := Tryz.underlying9
 a9 := Tryz.isAgg9
 z9 := Tryz.sizeOf9
 v9 := Tryz.zeroValue9 }
open Go.RowKit Go.Lib in
theorem Tryz.strings_HasPrefix (s p : ByteArray) (w : World) :
  Calls Tryz.prog 119 #[.string s, .string p] w fun e w' => e = .returned (.bool (Lib.hasPrefix s.data.toList p.data.toList)) ∧ w' = w := Any.strings_HasPrefix Tryz.lays99 s p w
end Go.Proofs
end
section
namespace Go.Proofs.YtfkeeieoapimlaaGreatDoor
open Go.ChangeShapes Go.WideShapes Go.ChangeAt Go.RowKit
set_option maxRecDepth 100000
theorem size217 : (Tryz.prog.info? 97).map (·.size) = some 2 := by kernel_rfl
set_option maxHeartbeats 400000 in
theorem copyCheck_used (b : Nat) (w : World) (h0 : w.cell? ⟨b, 0, none⟩ = some (.pointer (some ⟨b, 0, none⟩))) :
  Calls Tryz.prog 89 #[.pointer (some ⟨b, 0, none⟩)] w fun e w' => e = .returned (.tuple #[]) ∧ w' = w := by
 obtain ⟨j, hj, hjs⟩ := Option.map_eq_some_iff.1 size217
 go_enter Tryz.func89, Tryz.ntmps89
 go_wp2
 rw [Lib.run_neq_ptr_same w _ Tryz.underlying95 hj]
 go_wp2
 go_end0
 exact ⟨rfl, rfl⟩
set_option maxHeartbeats 400000 in
theorem copyCheck_fresh (b : Nat) (w : World) (h0 : w.cell? ⟨b, 0, none⟩ = some (.pointer none)) (hsh : w.shape? b = some (97, 2)) (hfz : w.frozen? ⟨b, 0, none⟩ = false) :
  Calls Tryz.prog 89 #[.pointer (some ⟨b, 0, none⟩)] w fun e w' => e = .returned (.tuple #[]) ∧ w' = w.setCell ⟨b, 0, none⟩ (.pointer (some ⟨b, 0, none⟩)) := by
 obtain ⟨j, hj, hjs⟩ := Option.map_eq_some_iff.1 size217
 go_enter Tryz.func89, Tryz.ntmps89
 go_wp2
 rw [Lib.run_to_unsafe w ⟨b, 0, none⟩ Tryz.underlying95 Tryz.underlying219 hj (by rw [hjs]; decide) hsh (Nat.zero_lt_succ 1)]
 simp only [Result.andThen]
 rw [Oper.upon_value]
 go_wp2
 rw [run_callFunc_extern Tryz.func152 (by kernel_rfl) (by kernel_rfl) (by kernel_rfl) (e := Extern.AbiNoEscape.same) (by kernel_rfl)]
 rw [Lib.run_noEscape]
 simp only [Result.andThen]
 rw [Oper.upon_value]
 go_wp2
 rw [Lib.run_from_unsafe w ⟨b, 0, none⟩ Tryz.underlying219 Tryz.underlying95 hj hsh (by kernel_rfl)]
 simp only [Result.andThen]
 rw [Oper.upon_value]
 go_wp2
 go_end0
 exact ⟨rfl, rfl⟩
theorem zfj (B b : Nat) (bs : List Value) (w : World) (h : Lib.IsBuilder 97 5 B b bs w) :
  Calls Tryz.prog 89 #[.pointer (some ⟨b, 0, none⟩)] w fun e w' => e = .returned (.tuple #[]) ∧ (Lib.BuilderAt 97 5 B b (.pointer (some ⟨b, 0, none⟩)) bs w' ∧ Below B w w') := by
 rcases h with h | h
 ·refine (copyCheck_fresh b w h.cell0 h.shape h.frozen0).mono ?_
  rintro e w' ⟨rfl, rfl⟩
  exact ⟨rfl, h.used _, (Below.refl B w).setCell (p := ⟨b, 0, none⟩) h.1 _⟩
 ·refine (copyCheck_used b w h.cell0).mono ?_
  rintro e w' ⟨rfl, rfl⟩
  exact ⟨rfl, h, Below.refl B _⟩
theorem infoByte : (Tryz.prog.info? 5).map (fun i => (i.zero, i.size, i.bytes)) = some (some (.int .u8 0), 1, 1) := by kernel_rfl
set_option maxHeartbeats 400000 in
theorem zap (B b : Nat) (bs : List Value) (c : Int) (w : World) (h : Lib.IsBuilder 97 5 B b bs w) (hlen : bs.length + 1 ≤ 140737488355328) (hBw : B ≤ w.heap.size) :
  Calls Tryz.prog 38 #[.pointer (some ⟨b, 0, none⟩), .int .u8 c] w fun e w' => e = .returned .nilIface ∧ (Lib.BuilderAt 97 5 B b (.pointer (some ⟨b, 0, none⟩)) (bs ++ [.int .u8 c]) w' ∧ Below B w w') := by
 obtain ⟨i0, hi, hz0, hz1, hz2⟩ := info_parts infoByte
 go_enter Tryz.func38, Tryz.ntmps38
 go_wp2_with (go_at_call 89; refine (zfj B b bs _ h).mono ?_)
 rintro e w1 ⟨rfl, h1, hb1⟩
 obtain ⟨hB, v, hbk, hown, hne⟩ := h1
 have c0 : w1.cell? ⟨b, 0, none⟩ = some (.pointer (some ⟨b, 0, none⟩)) := by rw [Lib.cell_of_heap hbk]; rfl
 have c1 : w1.cell? ⟨b, 1, none⟩ = some v := by rw [Lib.cell_of_heap hbk]; rfl
 go_wp2_with (at_builtin; refine wpList_append_own _ rfl _ _ 25 rfl B 5 i0 (.int .u8 0) 1 1 Tryz.underlying25 hi hz0 hz1 hz2 rfl (by decide) _ _ _ rfl (hown.alloc _) ⟨w1.heap.size, 0, none⟩ 1 1 [.int .u8 c] rfl rfl ?c1 ?c2 ?c3 ?c4 ?c5 ?_)
 case c1 =>
  intro j u hj
  match j, hj with
  | 0, hj => simp at hj; subst hj; simp [Addr.add]
 case c2 => intro u hu; simp at hu; subst hu; rfl
 case c3 => unfold maxLen; omega
 case c4 => omega
 case c5 => have := hb1.size; simp; omega
 intro v' w2 hown' hgrow _
 have hlt : b < w1.heap.size := by
  rcases Nat.lt_or_ge b w1.heap.size with h' | h'
  ·exact h'
  ·simp [Array.getElem?_eq_none h'] at hbk
 have hb2 : w2.heap[b]? = some (.cells #[.pointer (some ⟨b, 0, none⟩), v] 97 (0, 0)) := by
  rw [hgrow.block b (by simp; omega) (fun e => hne e.symm), Lib.alloc_old w1 _ b hlt]
  exact hbk
 have d0 : w2.cell? ⟨b, 0, none⟩ = some (.pointer (some ⟨b, 0, none⟩)) := by rw [Lib.cell_of_heap hb2]; rfl
 have d1 : w2.cell? ⟨b, 1, none⟩ = some v := by rw [Lib.cell_of_heap hb2]; rfl
 have f1 : w2.frozen? ⟨b, 1, none⟩ = false := Lib.frozen_of_heap hb2 1
 obtain ⟨g, cap, rfl⟩ : ∃ g cap, v' = .slice (some ⟨g, 0, none⟩) (bs.length + 1) cap := by
  rcases hown'.2 with ⟨_, h0⟩ | ⟨g, cap, cur, hv, _⟩
  ·omega
  ·exact ⟨g, cap, hv⟩
 go_wp2
 go_ret
 refine ⟨rfl, ?_, ?_⟩
 ·exact Lib.BuilderAt.put (T := 97) (e := 5) hB hb2 (bs' := bs ++ [.int .u8 c]) (by simpa using hown') (by decide)
 ·exact ((hb1.alloc (by have := hb1.size; omega) _).grown hgrow (by have := hb1.size; simp; omega) (fun k hk => (hown.lt k hk).1)).setCell (p := ⟨b, 1, none⟩) hB _
set_option maxHeartbeats 400000 in
theorem zdV (B b : Nat) (bs : List Value) (s : ByteArray) (w : World) (h : Lib.IsBuilder 97 5 B b bs w) (hlen : bs.length + s.size ≤ 140737488355328) (hBw : B ≤ w.heap.size) :
  Calls Tryz.prog 39 #[.pointer (some ⟨b, 0, none⟩), .string s] w fun e w' => e = .returned (.tuple #[.int .i64 s.size, .nilIface]) ∧ (Lib.BuilderAt 97 5 B b (.pointer (some ⟨b, 0, none⟩)) (bs ++ Lib.strCells s) w' ∧ Below B w w') := by
 obtain ⟨i0, hi, hz0, hz1, hz2⟩ := info_parts infoByte
 go_enter Tryz.func39, Tryz.ntmps39
 go_wp2_with (go_at_call 89; refine (zfj B b bs _ h).mono ?_)
 rintro e w1 ⟨rfl, h1, hb1⟩
 obtain ⟨hB, v, hbk, hown, hne⟩ := h1
 have c0 : w1.cell? ⟨b, 0, none⟩ = some (.pointer (some ⟨b, 0, none⟩)) := by rw [Lib.cell_of_heap hbk]; rfl
 have c1 : w1.cell? ⟨b, 1, none⟩ = some v := by rw [Lib.cell_of_heap hbk]; rfl
 go_wp2_with (at_builtin; refine Lib.wpList_append_own_string _ rfl _ _ 25 9 rfl B 5 i0 Tryz.underlying25 Tryz.underlying9 hi hz0 hz1 hz2 _ _ _ rfl hown s rfl ?c3 ?c4 ?c5 ?_)
 case c3 => unfold maxLen; omega
 case c4 => omega
 case c5 => have := hb1.size; omega
 intro v' w2 hown' hgrow _
 have hlt : b < w1.heap.size := by
  rcases Nat.lt_or_ge b w1.heap.size with h' | h'
  ·exact h'
  ·simp [Array.getElem?_eq_none h'] at hbk
 have hb2 : w2.heap[b]? = some (.cells #[.pointer (some ⟨b, 0, none⟩), v] 97 (0, 0)) := by
  rw [hgrow.block b hlt (fun e => hne e.symm)]
  exact hbk
 have d0 : w2.cell? ⟨b, 0, none⟩ = some (.pointer (some ⟨b, 0, none⟩)) := by rw [Lib.cell_of_heap hb2]; rfl
 have d1 : w2.cell? ⟨b, 1, none⟩ = some v := by rw [Lib.cell_of_heap hb2]; rfl
 have f1 : w2.frozen? ⟨b, 1, none⟩ = false := Lib.frozen_of_heap hb2 1
 obtain ⟨ao, n', cap, rfl⟩ : ∃ ao n' cap, v' = .slice ao n' cap := by
  rcases hown'.2 with ⟨hv, _⟩ | ⟨g, cap, cur, hv, _⟩
  ·exact ⟨_, _, _, hv⟩
  ·exact ⟨_, _, _, hv⟩
 go_wp2
 go_ret2
 refine ⟨rfl, ?_, ?_⟩
 ·exact Lib.BuilderAt.put (T := 97) (e := 5) hB hb2 (bs' := bs ++ Lib.strCells s) (by simpa [Lib.strCells_length] using hown') (by decide)
 ·exact (hb1.grown hgrow (by have := hb1.size; omega) (fun k hk => (hown.lt k hk).1)).setCell (p := ⟨b, 1, none⟩) hB _
theorem zb3 (l : List UInt8) (s : ByteArray) (k : Nat) : Lib.byteCells l ++ [.int .u8 (byte s k : Int)] = Lib.byteCells (l ++ [ub s k]) := by
 simp [Lib.byteCells, zci]
theorem cells_str (l m : List UInt8) : Lib.byteCells l ++ Lib.strCells ⟨m.toArray⟩ = Lib.byteCells (l ++ m) := by
 simp [Lib.byteCells, Lib.strCells]
theorem zdW {b : Nat} {bs : List Value} {W W' : World} {B : Nat} (h : Lib.IsBuilder 97 5 B b bs W) (hb : Below W.heap.size W W') : Lib.IsBuilder 97 5 B b bs W' := by
 have key : ∀ p, Lib.BuilderAt 97 5 B b p bs W → Lib.BuilderAt 97 5 B b p bs W' := by
  rintro p ⟨h1, v, h2, h3, h4⟩
  exact ⟨h1, v, (hb.block _ (Array.getElem?_eq_some_iff.1 h2).1).trans h2, zaz h3 hb, h4⟩
 rcases h with h | h
 ·exact .inl (key _ h)
 ·exact .inr (key _ h)
end Go.Proofs.YtfkeeieoapimlaaGreatDoor
end
section
namespace Go.Proofs.YtfkeeieoapimlaaGreatDoor
structure Prm where
 name : List UInt8
 other : List UInt8
 has : Bool
def two : List UInt8 → Bool
 | [] => false
 | [_] => false
 | a :: b :: r => (a == 58 && b == 58) || two (b :: r)
def badName (met : List (List UInt8)) (m : List UInt8) : Bool := m.isEmpty || m.contains 40 || two m || met.contains m
def prm1 (met : List (List UInt8)) (s : List UInt8) : Except Nat Prm :=
 match spl s with
 | none => .error 2
 | some [] => .error 5
 | some [m] => if badName met m = true then .error 5 else .ok ⟨m, [], false⟩
 | some [m, d] => if badName met m = true then .error 5 else .ok ⟨m, d, true⟩
 | some _ => .error 5
def prms : List (List UInt8) → List (List UInt8) → Except Nat (List Prm)
 | _, [] => .ok []
 | met, s :: r => match prm1 met s with
   | .error e => .error e
   | .ok p => match prms (p.name :: met) r with
     | .error e => .error e
     | .ok l => .ok (p :: l)
def restOf (l : List Prm) : Bool := match l.getLast? with
 | none => false
 | some p => p.name == [97, 114, 103, 115] && !p.has
def gets : List Prm → List (List UInt8) → Except Nat (List (List UInt8) × List (List UInt8))
 | [], ws => .ok ([], ws)
 | p :: r, w :: ws => match gets r ws with
   | .error e => .error e
   | .ok q => .ok (w :: q.1, q.2)
 | p :: r, [] => if p.has = true then (match gets r [] with
   | .error e => .error e
   | .ok q => .ok (p.other :: q.1, q.2)) else .error 8
def spc (c : UInt8) : Bool := wh c || c == 34 || c == 92 || c == 123 || c == 125 || c == 36 || c == 91 || c == 93 || c == 59
def bal : List UInt8 → Nat → Bool
 | [], d => d == 0
 | [c], d => if c = 92 then false else if c = 123 then false else if c = 125 then d == 1 else d == 0
 | c :: b :: r, d => if c = 92 then bal r d else if c = 123 then bal (b :: r) (d + 1) else if c = 125 then (if d = 0 then false else bal (b :: r) (d - 1)) else bal (b :: r) d
def slf : List UInt8 → Bool
 | [] => false
 | [_] => false
 | a :: b :: r => (a == 92 && b == 10) || slf (b :: r)
def sla1 (first : Bool) (c : UInt8) : List UInt8 :=
 if c = 9 then [92, 116] else if c = 10 then [92, 110] else if c = 11 then [92, 118] else if c = 12 then [92, 102] else if c = 13 then [92, 114]
 else if spc c || (first && c == 35) then [92, c] else [c]
def sla : Bool → List UInt8 → List UInt8
 | _, [] => []
 | b, c :: r => sla1 b c ++ sla false r
def quoT (s : List UInt8) : List UInt8 := match s with
 | [] => [123, 125]
 | c :: r => if c != 35 && (c :: r).all (fun x => !spc x) then c :: r
   else if bal (c :: r) 0 && !slf (c :: r) then 123 :: (c :: r) ++ [125]
   else sla true (c :: r)
def zaO : List (List UInt8) → List UInt8
 | [] => []
 | [s] => quoT s
 | s :: t :: r => quoT s ++ 32 :: zaO (t :: r)
end Go.Proofs.YtfkeeieoapimlaaGreatDoor
end
section
namespace Go.Proofs.YtfkeeieoapimlaaGreatDoor
def wIf : List UInt8 := [105, 102]
def wElif : List UInt8 := [101, 108, 115, 101, 105, 102]
def wLast : List UInt8 := [101, 108, 115, 101]
def tvw (t : Bool) : List UInt8 := if t = true then [49] else [48]
def apl : List UInt8 := [97, 112, 112, 101, 110, 100, 32, 108, 111, 103, 95, 32]
def lt (i : Nat) : UInt8 := UInt8.ofNat (97 + i % 26)
def bod (i : Nat) : List UInt8 := apl ++ [lt i]
def bodE : List UInt8 := apl ++ [33]
def grp (p : Bool × Nat) : List (List UInt8) := (if 0 < p.2 then [wElif] else []) ++ [tvw p.1, bod p.2]
def wdsC (ts : List Bool) : List (List UInt8) := wIf :: ts.zipIdx.flatMap grp
def wdsL (ts : List Bool) (last : Bool) : List (List UInt8) := wdsC ts ++ if last = true then [wLast, bodE] else []
def zaE : List (Bool × Nat) → Bool → List UInt8
 | [], last => if last = true then [33] else []
 | p :: r, last => if p.1 = true then [lt p.2] else zaE r last
theorem wdsC_snoc (ts : List Bool) (t : Bool) : wdsC (ts ++ [t]) = wdsC ts ++ grp (t, ts.length) := by
 unfold wdsC
 rw [List.zipIdx_append, List.flatMap_append]
 simp
theorem take_snocB {ts : List Bool} {i : Nat} {t : Bool} (h : ts[i]? = some t) : ts.take (i + 1) = ts.take i ++ [t] := by
 rw [List.take_succ, h]; rfl
structure Pl (w : List UInt8) : Prop where
 ne : w ≠ []
 sharp : w.head? ≠ some 35
 all : ∀ c ∈ w, spc c = false
structure Br (w : List UInt8) : Prop where
 some : ∃ c ∈ w, spc c = true
 all : ∀ c ∈ w, c ≠ 92 ∧ c ≠ 123 ∧ c ≠ 125
def Sw (w : List UInt8) : Prop := Pl w ∨ Br w
theorem Pl.quo {w : List UInt8} (h : Pl w) : quoT w = w := by
 obtain ⟨h1, h2, h3⟩ := h
 cases w with
 | nil => exact absurd rfl h1
 | cons c r =>
   unfold quoT
   dsimp only
   rw [if_pos]
   rw [Bool.and_eq_true]
   refine ⟨?_, List.all_eq_true.2 fun x hx => by rw [h3 x hx]; rfl⟩
   simp at h2 ⊢
   exact h2
theorem bal_plain : ∀ (l : List UInt8), (∀ c ∈ l, c ≠ 92 ∧ c ≠ 123 ∧ c ≠ 125) → bal l 0 = true
 | [], _ => rfl
 | [c], h => by
   obtain ⟨a, b, d⟩ := h c (List.mem_cons_self ..)
   unfold bal
   rw [if_neg a, if_neg b, if_neg d]; rfl
 | c :: x :: r, h => by
   obtain ⟨a, b, d⟩ := h c (List.mem_cons_self ..)
   unfold bal
   rw [if_neg a, if_neg b, if_neg d]
   exact bal_plain (x :: r) fun y hy => h y (List.mem_cons_of_mem _ hy)
theorem slf_plain : ∀ (l : List UInt8), (∀ c ∈ l, c ≠ 92 ∧ c ≠ 123 ∧ c ≠ 125) → slf l = false
 | [], _ => rfl
 | [_], _ => rfl
 | a :: b :: r, h => by
   have h1 := (h a (List.mem_cons_self ..)).1
   unfold slf
   rw [slf_plain (b :: r) fun y hy => h y (List.mem_cons_of_mem _ hy)]
   have : (a == 92) = false := by simpa using h1
   rw [this]; rfl
theorem Br.quo {w : List UInt8} (h : Br w) : quoT w = 123 :: w ++ [125] := by
 obtain ⟨⟨c, hc, hs⟩, h2⟩ := h
 cases w with
 | nil => cases hc
 | cons a r =>
   unfold quoT
   dsimp only
   rw [if_neg, if_pos]
   ·rw [bal_plain _ h2, slf_plain _ h2]; rfl
   ·rw [Bool.and_eq_true]
    rintro ⟨_, h3⟩
    have := List.all_eq_true.1 h3 c hc
    rw [hs] at this
    cases this
theorem pl_if : Pl wIf := ⟨by decide, by decide, by decide⟩
theorem pl_elif : Pl wElif := ⟨by decide, by decide, by decide⟩
theorem pl_else : Pl wLast := ⟨by decide, by decide, by decide⟩
theorem pl_tvw (t : Bool) : Pl (tvw t) := by cases t <;> exact ⟨by decide, by decide, by decide⟩
theorem br_apl (c : UInt8) (h : c ≠ 92 ∧ c ≠ 123 ∧ c ≠ 125) : Br (apl ++ [c]) := by
 refine ⟨⟨32, by simp [apl], rfl⟩, fun x hx => ?_⟩
 rcases List.mem_append.1 hx with hx | hx
 ·exact (show ∀ x ∈ apl, x ≠ 92 ∧ x ≠ 123 ∧ x ≠ 125 by decide) x hx
 ·rw [List.mem_singleton.1 hx]; exact h
theorem lt_ok (i : Nat) : lt i ≠ 92 ∧ lt i ≠ 123 ∧ lt i ≠ 125 := by
 have h : ∀ k : Fin 26, UInt8.ofNat (97 + k.val) ≠ 92 ∧ UInt8.ofNat (97 + k.val) ≠ 123 ∧ UInt8.ofNat (97 + k.val) ≠ 125 := by decide
 exact h ⟨i % 26, Nat.mod_lt _ (by decide)⟩
theorem br_bod (i : Nat) : Br (bod i) := br_apl _ (lt_ok i)
theorem br_bodE : Br bodE := br_apl _ (by decide)
theorem sw_grp (p : Bool × Nat) : ∀ w ∈ grp p, Sw w := by
 intro w hw
 unfold grp at hw
 rcases List.mem_append.1 hw with h | h
 ·split at h
  ·rw [List.mem_singleton.1 h]; exact .inl pl_elif
  ·cases h
 ·simp only [List.mem_cons, List.not_mem_nil, or_false] at h
  rcases h with rfl | rfl
  ·exact .inl (pl_tvw _)
  ·exact .inr (br_bod _)
theorem sw_wdsC (ts : List Bool) : ∀ w ∈ wdsC ts, Sw w := by
 intro w hw
 rcases List.mem_cons.1 hw with rfl | hw
 ·exact .inl pl_if
 ·obtain ⟨p, _, hp⟩ := List.mem_flatMap.1 hw
  exact sw_grp p w hp
theorem sw_wdsL (ts : List Bool) (last : Bool) : ∀ w ∈ wdsL ts last, Sw w := by
 intro w hw
 rcases List.mem_append.1 hw with h | h
 ·exact sw_wdsC ts w h
 ·split at h
  ·simp only [List.mem_cons, List.not_mem_nil, or_false] at h
   rcases h with rfl | rfl
   ·exact .inl pl_else
   ·exact .inr br_bodE
  ·cases h
theorem grp_len (p : Bool × Nat) : (grp p).length ≤ 3 := by
 unfold grp; split <;> simp
theorem flat_len (l : List (Bool × Nat)) : (l.flatMap grp).length ≤ 3 * l.length := by
 induction l with
 | nil => exact Nat.zero_le _
 | cons p l ih =>
   rw [List.flatMap_cons, List.length_append, List.length_cons]
   have := grp_len p
   omega
theorem wdsC_len (ts : List Bool) : (wdsC ts).length ≤ 3 * ts.length + 1 := by
 unfold wdsC
 have := flat_len ts.zipIdx
 rw [List.length_zipIdx] at this
 rw [List.length_cons]; omega
theorem zef (ts : List Bool) (last : Bool) : (wdsL ts last).length ≤ 3 * ts.length + 3 := by
 unfold wdsL
 have := wdsC_len ts
 rw [List.length_append]
 split <;> simp <;> omega
theorem word_len {ts : List Bool} {last : Bool} {w : List UInt8} (h : w ∈ wdsL ts last) : w.length ≤ 13 := by
 have hg : ∀ p : Bool × Nat, ∀ w ∈ grp p, w.length ≤ 13 := by
  intro p w hw
  unfold grp at hw
  rcases List.mem_append.1 hw with h | h
  ·split at h
   ·rw [List.mem_singleton.1 h]; decide
   ·cases h
  ·simp only [List.mem_cons, List.not_mem_nil, or_false] at h
   rcases h with rfl | rfl
   ·unfold tvw; split <;> simp
   ·simp [bod, apl]
 rcases List.mem_append.1 h with h | h
 ·rcases List.mem_cons.1 h with rfl | h
  ·decide
  ·obtain ⟨p, _, hp⟩ := List.mem_flatMap.1 h
   exact hg p w hp
 ·split at h
  ·simp only [List.mem_cons, List.not_mem_nil, or_false] at h
   rcases h with rfl | rfl <;> decide
  ·cases h
theorem zcy (w : List UInt8) (r : List (List UInt8)) : zaO (w :: r) = quoT w ++ (if r = [] then [] else 32 :: zaO r) := by
 cases r with
 | nil => simp [zaO]
 | cons x r => rw [if_neg (by simp)]; rfl
end Go.Proofs.YtfkeeieoapimlaaGreatDoor
end
section
namespace Go.Proofs.YtfkeeieoapimlaaGreatDoor
open Go.ChangeShapes Go.WideShapes Go.ChangeAt Go.RowKit
set_option maxRecDepth 100000
def spc2 (c : Nat) : Bool := c == 34 || c == 92 || c == 123 || c == 125 || c == 36 || c == 91 || c == 93 || c == 59
def spcN (c : Nat) : Bool := whN c || spc2 c
theorem spc_ix0 : ∀ c : Fin 256, decide (0 ≤ Lib.indexByte [34, 92, 123, 125, 36, 91, 93, 59] (UInt8.ofNat c.val)) = spc2 c.val := by decide
theorem spc_ix (c : Nat) (hc : c < 256) : decide (0 ≤ Lib.indexByte [34, 92, 123, 125, 36, 91, 93, 59] (c : Int).toNat.toUInt8) = spc2 c := spc_ix0 ⟨c, hc⟩
theorem spc_nat (c : UInt8) : spc c = spcN c.toNat := by
 have h : ∀ n : Nat, n < 256 → (c == UInt8.ofNat n) = (c.toNat == n) := fun n hn => by
  rw [Bool.eq_iff_iff]
  simp only [beq_iff_eq]
  constructor
  ·rintro rfl; simp; omega
  ·intro h; rw [← h]; simp
 have h1 := h 32 (by decide)
 have h2 := h 34 (by decide); have h3 := h 92 (by decide); have h4 := h 123 (by decide); have h5 := h 125 (by decide)
 have h6 := h 36 (by decide); have h7 := h 91 (by decide); have h8 := h 93 (by decide); have h9 := h 59 (by decide)
 unfold spc spcN spc2 wh whN
 simp only [show (UInt8.ofNat 32) = 32 from rfl, show (UInt8.ofNat 34) = 34 from rfl, show (UInt8.ofNat 92) = 92 from rfl, show (UInt8.ofNat 123) = 123 from rfl, show (UInt8.ofNat 125) = 125 from rfl, show (UInt8.ofNat 36) = 36 from rfl,
  show (UInt8.ofNat 91) = 91 from rfl, show (UInt8.ofNat 93) = 93 from rfl, show (UInt8.ofNat 59) = 59 from rfl] at h1 h2 h3 h4 h5 h6 h7 h8 h9
 rw [h1, h2, h3, h4, h5, h6, h7, h8, h9]
 have h0 : (c.toNat == 32) = decide (c.toNat = 32) := by rw [Bool.eq_iff_iff]; simp
 rw [h0]
 simp [Bool.or_assoc]
set_option maxHeartbeats 1000000 in
theorem zaU (c : Nat) (hc : c < 256) (w : World) : Calls Tryz.prog 90 #[.int .u8 (c : Int)] w fun e w' => e = .returned (.bool (spcN c)) ∧ w = w' := by
 have hx := spc_ix c hc
 cases hw : whN c with
 | true =>
   go_enter Tryz.func90, Tryz.ntmps90
   go_wp2_with (go_at_call 153; refine (zeQ c hc _).mono ?_; rintro e w' ⟨rfl, rfl⟩; rw [hw])
   go_ret
   exact ⟨zco (by simp [spcN, hw]), rfl⟩
 | false =>
   go_enter Tryz.func90, Tryz.ntmps90
   go_wp2_with (first | (go_at_call 153; refine (zeQ c hc _).mono ?_; rintro e w' ⟨rfl, rfl⟩; rw [hw]) | (go_at_call 76; refine (Tryz.strings_IndexByte _ _ _).mono ?_; rintro e w' ⟨rfl, rfl⟩))
   go_ret
   exact ⟨zco (by simpa [spcN, hw] using hx), rfl⟩
def duo (a b : UInt8) : List UInt8 → Bool
 | [] => false
 | [_] => false
 | x :: y :: r => (x == a && y == b) || duo a b (y :: r)
theorem slf_duo : ∀ l, slf l = duo 92 10 l
 | [] => rfl
 | [_] => rfl
 | x :: y :: r => by unfold slf duo; rw [slf_duo (y :: r)]
theorem zfk (b : UInt8) (l sub : List UInt8) : Lib.contains (b :: l) sub = (sub.isPrefixOf (b :: l) || Lib.contains l sub) := by
 unfold Lib.contains
 have hge := Lib.index_ge l sub
 by_cases h0 : sub.isPrefixOf (b :: l) = true
 ·rw [show Lib.index (b :: l) sub = 0 by unfold Lib.index; rw [if_pos h0], h0]; rfl
 ·have h0' : sub.isPrefixOf (b :: l) = false := Bool.eq_false_iff.2 h0
  rw [h0', Bool.false_or]
  have h1 : Lib.index (b :: l) sub = if Lib.index l sub == -1 then -1 else Lib.index l sub + 1 := by
   conv => lhs; unfold Lib.index
   rw [h0']; rfl
  rw [h1]
  by_cases h2 : Lib.index l sub = -1
  ·rw [h2]; rfl
  ·have h3 : (Lib.index l sub == -1) = false := by simpa using h2
   rw [h3]
   simp only [Bool.false_eq_true, if_false]
   rw [decide_eq_decide]; omega
theorem zf8 (a b : UInt8) : ∀ l : List UInt8, Lib.contains l [a, b] = duo a b l
 | [] => rfl
 | [x] => by
   rw [zfk]
   simp [duo, List.isPrefixOf, Lib.contains, Lib.index]
 | x :: y :: r => by
   rw [zfk, zf8 a b (y :: r)]
   simp only [duo, List.isPrefixOf, Bool.and_true]
   rw [show (a == x) = (x == a) from BEq.comm, show (b == y) = (y == b) from BEq.comm]
theorem bal_esc (b : UInt8) (r : List UInt8) (d : Nat) : bal (92 :: b :: r) d = bal r d := by rw [bal]; rfl
theorem bal_open (r : List UInt8) (d : Nat) : bal (123 :: r) d = bal r (d + 1) := by
 cases r with
 | nil => simp [bal]
 | cons b r => rw [bal]; rfl
theorem bal_close0 (r : List UInt8) : bal (125 :: r) 0 = false := by
 cases r with
 | nil => rfl
 | cons b r => rw [bal]; rfl
theorem bal_close (r : List UInt8) (d : Nat) : bal (125 :: r) (d + 1) = bal r d := by
 cases r with
 | nil => simp [bal]
 | cons b r => rw [bal]; simp
theorem bal_other {c : UInt8} (h1 : c ≠ 92) (h2 : c ≠ 123) (h3 : c ≠ 125) (r : List UInt8) (d : Nat) : bal (c :: r) d = bal r d := by
 cases r with
 | nil => simp [bal, h1, h2, h3]
 | cons b r => rw [bal]; simp [h1, h2, h3]
set_option maxHeartbeats 2000000 in
theorem zf9 (s : ByteArray) (hs : s.size ≤ 1000000) (w : World) (m : Int) (hm : w.cell? ⟨0, 0, none⟩ = some (.int .i64 m)) :
  Calls Tryz.prog 91 #[.string s] w fun e w' => e = .returned (.bool (bal (L s) 0 && !slf (L s))) ∧ w = w' := by
 have hby := zaN s
 go_enter Tryz.func91, Tryz.ntmps91
 go_wp2
 go_loopg [3, 4] (s.size + 1) (fun k dv n wr => ∃ (d i : Nat), dv = .int .i64 (d : Int) ∧ n = .int .i64 (i : Int) ∧ k = s.size + 1 - i ∧ i ≤ s.size ∧ d ≤ i ∧ bal (L s) 0 = bal ((L s).drop i) d ∧ w = wr)
 case atStart => exact ⟨0, 0, rfl, rfl, by omega, by omega, by omega, by simp, rfl⟩
 case round =>
  obtain ⟨d, i, rfl, rfl, hk, his, hd1, heq, rfl⟩ := hrel
  have HK := Lib.hid hk
  have HEQ := Lib.hid heq
  have hb := zdx s i
  clear hk heq
  by_cases hlt : i < s.size
  ·have t7 : (i : Int) < (s.size : Int) := by omega
   have hdr := L_drop s hlt
   by_cases h92 : byte s i = 92
   ·have t8 : ((byte s i : Int) == 92) = true := by simp; omega
    have hc : ub s i = 92 := ub_mk s i (by decide) h92
    by_cases hl2 : i + 1 = s.size
    ·have t9 : ((i : Int) + 1 == (s.size : Int)) = true := by simp; omega
     have HS := Lib.hid (show bal ((L s).drop i) d = false by rw [hdr, hc, zd0 s (by omega)]; rfl)
     clear h92 hdr hc hl2
     go_wp2
     go_ret
     exact ⟨zco (by rw [HEQ.out, HS.out]; rfl), rfl⟩
    ·have t9 : ((i : Int) + 1 == (s.size : Int)) = false := by simp; omega
     have hl3 : i + 1 < s.size := by omega
     have HS := Lib.hid (show bal ((L s).drop i) d = bal ((L s).drop (i + 2)) d by rw [hdr, hc, L_drop s hl3, bal_esc])
     clear h92 hdr hc hl2
     go_wp2
     go_roundg (s.size + 1 - (i + 2))
     case measure => rw [HK.out]; omega
     case rel => exact ⟨d, i + 2, rfl, by go_num, rfl, by omega, by omega, by rw [HEQ.out, HS.out], rfl⟩
   ·have hc : ¬ ub s i = 92 := fun h => h92 ((ub_eq s i 92 (by decide)).1 h)
    have t8 : ((byte s i : Int) == 92) = false := by simp; omega
    by_cases h123 : byte s i = 123
    ·have t9 : ((byte s i : Int) == 123) = true := by simp; omega
     have hc2 : ub s i = 123 := ub_mk s i (by decide) h123
     have HS := Lib.hid (show bal ((L s).drop i) d = bal ((L s).drop (i + 1)) (d + 1) by rw [hdr, hc2, bal_open])
     clear h92 h123 hdr hc hc2
     go_wp2
     go_roundg (s.size + 1 - (i + 1))
     case measure => rw [HK.out]; omega
     case rel => exact ⟨d + 1, i + 1, by go_num, by go_num, rfl, by omega, by omega, by rw [HEQ.out, HS.out], rfl⟩
    ·have hc2 : ¬ ub s i = 123 := fun h => h123 ((ub_eq s i 123 (by decide)).1 h)
     have t9 : ((byte s i : Int) == 123) = false := by simp; omega
     by_cases h125 : byte s i = 125
     ·have t10 : ((byte s i : Int) == 125) = true := by simp; omega
      have hc3 : ub s i = 125 := ub_mk s i (by decide) h125
      cases d with
      | zero =>
        have HS := Lib.hid (show bal ((L s).drop i) 0 = false by rw [hdr, hc3, bal_close0])
        clear h92 h123 h125 hdr hc hc2 hc3
        go_wp2
        go_ret
        exact ⟨zco (by rw [HEQ.out, HS.out]; rfl), rfl⟩
      | succ d =>
        have t11 : ¬ ((d + 1 : Nat) : Int) - 1 < 0 := by omega
        have HS := Lib.hid (show bal ((L s).drop i) (d + 1) = bal ((L s).drop (i + 1)) d by rw [hdr, hc3, bal_close])
        clear h92 h123 h125 hdr hc hc2 hc3
        go_wp2
        go_roundg (s.size + 1 - (i + 1))
        case measure => rw [HK.out]; omega
        case rel => exact ⟨d, i + 1, by go_num, by go_num, rfl, by omega, by omega, by rw [HEQ.out, HS.out], rfl⟩
     ·have hc3 : ¬ ub s i = 125 := fun h => h125 ((ub_eq s i 125 (by decide)).1 h)
      have t10 : ((byte s i : Int) == 125) = false := by simp; omega
      have HS := Lib.hid (show bal ((L s).drop i) d = bal ((L s).drop (i + 1)) d by rw [hdr, bal_other hc hc2 hc3])
      clear h92 h123 h125 hdr hc hc2 hc3
      go_wp2
      go_roundg (s.size + 1 - (i + 1))
      case measure => rw [HK.out]; omega
      case rel => exact ⟨d, i + 1, rfl, by go_num, rfl, by omega, by omega, by rw [HEQ.out, HS.out], rfl⟩
  ·have t7 : ¬ (i : Int) < (s.size : Int) := by omega
   have HD := Lib.hid (show bal (L s) 0 = (d == 0) by rw [HEQ.out, zd0 s (by omega)]; rfl)
   cases d with
   | succ d =>
     have t8 : (((d + 1 : Nat) : Int) == 0) = false := by simp; omega
     go_wp2
     go_ret
     exact ⟨zco (by rw [HD.out]; rfl), rfl⟩
   | zero =>
     have HC := Lib.hid (show Lib.contains s.data.toList [92, 10] = slf (L s) by rw [zf8, slf_duo]; rfl)
     have HM := Lib.hid hm
     clear hm
     go_wp2_with (go_at_call 24; refine (Tryz.strings_Contains _ _ m _ (by omega) HM.out).mono ?_; rintro e w' ⟨rfl, rfl⟩)
     go_ret
     exact ⟨zco (by rw [HD.out]; simpa using HC.out), rfl⟩
def zbP (s : ByteArray) (i : Nat) : Bool := !(byte s 0 == 35) && ((L s).take i).all fun c => !spc c
theorem plainTo_zero (s : ByteArray) : zbP s 0 = !(byte s 0 == 35) := by simp [zbP]
theorem plainTo_succ (s : ByteArray) {i : Nat} (hi : i < s.size) : zbP s (i + 1) = (zbP s i && !spcN (byte s i)) := by
 unfold zbP
 rw [List.take_succ, show (L s)[i]? = some (ub s i) by rw [List.getElem?_eq_getElem (by rw [zcX]; exact hi), L_get s hi]]
 rw [List.all_append, ← Bool.and_assoc]
 simp [spc_nat, zci]
theorem plainTo_no (s : ByteArray) {i j : Nat} (hij : i ≤ j) (h : zbP s i = false) : zbP s j = false := by
 unfold zbP at h ⊢
 cases hc : !(byte s 0 == 35) with
 | false => rfl
 | true =>
   rw [hc] at h
   rw [Bool.true_and] at h ⊢
   rw [List.all_eq_false] at h ⊢
   obtain ⟨x, hx, hn⟩ := h
   exact ⟨x, (List.take_prefix_take_left hij).subset hx, hn⟩
theorem quoT_cases (s : ByteArray) (h0 : 0 < s.size) : quoT (L s) = if zbP s s.size = true then L s else if (bal (L s) 0 && !slf (L s)) = true then 123 :: L s ++ [125] else sla true (L s) := by
 have hd := L_drop s h0
 rw [List.drop_zero] at hd
 have h1 : zbP s s.size = (ub s 0 != 35 && (L s).all fun c => !spc c) := by
  unfold zbP
  rw [List.take_of_length_le (by rw [zcX]; exact Nat.le_refl _)]
  congr 1
  rw [← zci]
  show (!_) = (!_)
  congr 1
  rw [Bool.eq_iff_iff]
  simp only [beq_iff_eq]
  exact ⟨fun h => UInt8.toNat.inj h, fun h => by rw [h]; rfl⟩
 rw [h1, hd]
 rfl
theorem zfl (f : Bool) {c x : UInt8} (h : (c = 9 ∧ x = 116) ∨ (c = 10 ∧ x = 110) ∨ (c = 11 ∧ x = 118) ∨ (c = 12 ∧ x = 102) ∨ (c = 13 ∧ x = 114)) : sla1 f c = [92, x] := by
 rcases h with ⟨rfl, rfl⟩ | ⟨rfl, rfl⟩ | ⟨rfl, rfl⟩ | ⟨rfl, rfl⟩ | ⟨rfl, rfl⟩ <;> rfl
theorem sla1_esc (f : Bool) {c : UInt8} (h : ¬ (9 ≤ c.toNat ∧ c.toNat ≤ 13)) (hs : (spcN c.toNat || (f && c.toNat == 35)) = true) : sla1 f c = [92, c] := by
 have q : ∀ n : UInt8, 9 ≤ n.toNat ∧ n.toNat ≤ 13 → ¬ c = n := fun n hn e => h (e ▸ hn)
 unfold sla1
 rw [if_neg (q 9 (by decide)), if_neg (q 10 (by decide)), if_neg (q 11 (by decide)), if_neg (q 12 (by decide)), if_neg (q 13 (by decide)), spc_nat, if_pos]
 have : (c == 35) = (c.toNat == 35) := by
  rw [Bool.eq_iff_iff]; simp only [beq_iff_eq]
  exact ⟨fun h => by rw [h]; rfl, fun h => UInt8.toNat.inj h⟩
 rw [this]; exact hs
theorem sla1_plain (f : Bool) {c : UInt8} (h : ¬ (9 ≤ c.toNat ∧ c.toNat ≤ 13)) (hs : (spcN c.toNat || (f && c.toNat == 35)) = false) : sla1 f c = [c] := by
 have q : ∀ n : UInt8, 9 ≤ n.toNat ∧ n.toNat ≤ 13 → ¬ c = n := fun n hn e => h (e ▸ hn)
 unfold sla1
 rw [if_neg (q 9 (by decide)), if_neg (q 10 (by decide)), if_neg (q 11 (by decide)), if_neg (q 12 (by decide)), if_neg (q 13 (by decide)), spc_nat, if_neg]
 have : (c == 35) = (c.toNat == 35) := by
  rw [Bool.eq_iff_iff]; simp only [beq_iff_eq]
  exact ⟨fun h => by rw [h]; rfl, fun h => UInt8.toNat.inj h⟩
 rw [this, hs]; simp
theorem zeq (s : ByteArray) {i : Nat} (hi : i < s.size) : sla (i == 0) ((L s).drop i) = sla1 (i == 0) (ub s i) ++ sla (i + 1 == 0) ((L s).drop (i + 1)) := by
 rw [L_drop s hi]; rfl
theorem plain_int (s : ByteArray) : zbP s 0 = (((byte s 0 : Nat) : Int) != 35) := by
 rw [plainTo_zero]
 show (!_) = (!_)
 congr 1
 rw [Bool.eq_iff_iff]
 simp only [beq_iff_eq]
 omega
def QuoR (w : World) (s : ByteArray) (e : Ending) (w' : World) : Prop := (∃ q, e = .returned (.string q) ∧ L q = quoT (L s)) ∧ Below w.heap.size w w'
theorem QuoR.mk {w w' : World} {s q : ByteArray} (h : L q = quoT (L s)) (hb : Below w.heap.size w w') : QuoR w s (.returned (.string q)) w' := ⟨⟨q, rfl, h⟩, hb⟩
end Go.Proofs.YtfkeeieoapimlaaGreatDoor
end
section
namespace Go.Proofs.YtfkeeieoapimlaaGreatDoor
open Go.ChangeShapes Go.WideShapes Go.ChangeAt Go.RowKit
set_option maxRecDepth 100000
theorem L_append (a b : ByteArray) : L (a ++ b) = L a ++ L b := by
 unfold L
 simp [ByteArray.data_append]
theorem za4 (l : List UInt8) (x : Int) (n : Nat) (hx : x = n) (hn : n < 256) : Lib.byteCells l ++ [.int .u8 x] = Lib.byteCells (l ++ [UInt8.ofNat n]) := by
 subst hx
 unfold Lib.byteCells
 rw [List.map_append]
 congr 1
 simp
 omega
def escLoop : Code := ((Code.region 14 #[{ dst := some 39, op := Op.binOp BinOp.lss 3 (Operand.tmp 38) (Operand.tmp 37) 3, type := 4, pos := "list.go:58", after := #[], guard := none }] false).seq ((Code.cond (Operand.tmp 39) Code.skip (Code.exit 3)).seq ((Code.block 4 ((Code.region 15 #[{ dst := some 40, op := Op.move (Operand.tmp 38), type := 3, pos := "list.go:58", after := #[], guard := none }, { dst := some 6, op := Op.assign (Operand.tmp 40), type := 3, pos := "list.go:58", after := #[{ on := 0, ground := Ground.data }, { on := 0, ground := Ground.phase }], guard := none }] false).seq ((Code.region 16 #[{ dst := some 41, op := Op.move (Operand.tmp 0), type := 9, pos := "list.go:59", after := #[], guard := none }, { dst := some 42, op := Op.move (Operand.tmp 6), type := 3, pos := "list.go:59", after := #[], guard := none }, { dst := some 43, op := Op.index 9 (Operand.tmp 41) (Operand.tmp 42), type := 5, pos := "list.go:59", after := #[{ on := 0, ground := Ground.data }, { on := 1, ground := Ground.data }], guard := none }, { dst := some 7, op := Op.assign (Operand.tmp 43), type := 5, pos := "list.go:59", after := #[{ on := 2, ground := Ground.data }, { on := 0, ground := Ground.phase }, { on := 1, ground := Ground.phase }, { on := 2, ground := Ground.phase }], guard := none }] false).seq (((Code.region 17 #[{ dst := some 44, op := Op.move (Operand.tmp 7), type := 5, pos := "list.go:60", after := #[], guard := none }, { dst := some 45, op := Op.call { callee := Callee.value (Operand.func 90), args := #[Operand.tmp 44], argTypes := #[5] }, type := 4, pos := "list.go:60", after := #[{ on := 0, ground := Ground.data }], guard := none }, { dst := some 46, op := Op.move (Operand.tmp 45), type := 4, pos := "list.go:60", after := #[{ on := 1, ground := Ground.data }, { on := 1, ground := Ground.chain }], guard := none }, { dst := some 47, op := Op.move (Operand.tmp 6), type := 3, pos := "list.go:60", after := #[{ on := 2, ground := Ground.guard }], guard := some (2, false) }, { dst := some 48, op := Op.binOp BinOp.eql 3 (Operand.tmp 47) (Operand.const (Value.int IntKind.i64 0)) 3, type := 4, pos := "list.go:60", after := #[{ on := 3, ground := Ground.data }, { on := 2, ground := Ground.guard }], guard := some (2, false) }, { dst := some 49, op := Op.move (Operand.tmp 48), type := 4, pos := "list.go:60", after := #[{ on := 4, ground := Ground.data }, { on := 2, ground := Ground.chain }, { on := 2, ground := Ground.guard }], guard := some (2, false) }, { dst := some 50, op := Op.move (Operand.tmp 7), type := 5, pos := "list.go:60", after := #[{ on := 5, ground := Ground.guard }], guard := some (5, true) }, { dst := some 51, op := Op.binOp BinOp.eql 5 (Operand.tmp 50) (Operand.const (Value.int IntKind.u8 35)) 5, type := 4, pos := "list.go:60", after := #[{ on := 6, ground := Ground.data }, { on := 5, ground := Ground.guard }], guard := some (5, true) }, { dst := some 52, op := Op.pick (Operand.tmp 49) (Operand.tmp 51) (Operand.const (Value.bool false)), type := 4, pos := "list.go:60", after := #[{ on := 5, ground := Ground.data }, { on := 7, ground := Ground.data }, { on := 2, ground := Ground.guard }], guard := some (2, false) }, { dst := some 53, op := Op.pick (Operand.tmp 46) (Operand.const (Value.bool true)) (Operand.tmp 52), type := 4, pos := "list.go:60", after := #[{ on := 2, ground := Ground.data }, { on := 8, ground := Ground.data }], guard := none }] false).seq (Code.cond (Operand.tmp 53) ((Code.region 18 #[{ dst := some 54, op := Op.call { callee := Callee.value (Operand.func 38), args := #[Operand.tmp 5, Operand.const (Value.int IntKind.u8 92)], argTypes := #[97, 5] }, type := 99, pos := "list.go:61", after := #[], guard := none }] false).seq ((Code.region 19 #[{ dst := some 55, op := Op.move (Operand.tmp 7), type := 5, pos := "list.go:62", after := #[], guard := none }, { dst := some 56, op := Op.binOp BinOp.geq 5 (Operand.tmp 55) (Operand.const (Value.int IntKind.u8 9)) 5, type := 4, pos := "list.go:62", after := #[{ on := 0, ground := Ground.data }], guard := none }, { dst := some 57, op := Op.move (Operand.tmp 56), type := 4, pos := "list.go:62", after := #[{ on := 1, ground := Ground.data }], guard := none }, { dst := some 58, op := Op.move (Operand.tmp 7), type := 5, pos := "list.go:62", after := #[{ on := 2, ground := Ground.guard }], guard := some (2, true) }, { dst := some 59, op := Op.binOp BinOp.leq 5 (Operand.tmp 58) (Operand.const (Value.int IntKind.u8 13)) 5, type := 4, pos := "list.go:62", after := #[{ on := 3, ground := Ground.data }, { on := 2, ground := Ground.guard }], guard := some (2, true) }, { dst := some 60, op := Op.pick (Operand.tmp 57) (Operand.tmp 59) (Operand.const (Value.bool false)), type := 4, pos := "list.go:62", after := #[{ on := 2, ground := Ground.data }, { on := 4, ground := Ground.data }], guard := none }] false).seq (Code.cond (Operand.tmp 60) (Code.region 20 #[{ dst := some 61, op := Op.move (Operand.tmp 7), type := 5, pos := "list.go:63", after := #[], guard := none }, { dst := some 62, op := Op.binOp BinOp.sub 5 (Operand.tmp 61) (Operand.const (Value.int IntKind.u8 9)) 5, type := 5, pos := "list.go:63", after := #[{ on := 0, ground := Ground.data }], guard := none }, { dst := some 63, op := Op.index 9 (Operand.const (Value.string { data := #[116, 110, 118, 102, 114] })) (Operand.tmp 62), type := 5, pos := "list.go:63", after := #[{ on := 1, ground := Ground.data }], guard := none }, { dst := some 7, op := Op.assign (Operand.tmp 63), type := 5, pos := "list.go:63", after := #[{ on := 2, ground := Ground.data }, { on := 0, ground := Ground.phase }, { on := 1, ground := Ground.phase }, { on := 2, ground := Ground.phase }], guard := none }] false) Code.skip))) Code.skip)).seq (Code.region 21 #[{ dst := some 64, op := Op.move (Operand.tmp 7), type := 5, pos := "list.go:66", after := #[], guard := none }, { dst := some 65, op := Op.call { callee := Callee.value (Operand.func 38), args := #[Operand.tmp 5, Operand.tmp 64], argTypes := #[97, 5] }, type := 99, pos := "list.go:66", after := #[{ on := 0, ground := Ground.data }], guard := none }] false))))).seq (Code.region 22 #[{ dst := some 66, op := Op.binOp BinOp.add 3 (Operand.tmp 38) (Operand.const (Value.int IntKind.i64 1)) 3, type := 3, pos := "list.go:58", after := #[], guard := none }, { dst := some 38, op := Op.move (Operand.tmp 66), type := 3, pos := "list.go:58", after := #[{ on := 0, ground := Ground.data }], guard := none }] false)))).loop
def escTail : Code := ((Code.region 23 #[{ dst := some 67, op := Op.call { callee := Callee.value (Operand.func 42), args := #[Operand.tmp 5], argTypes := #[97] }, type := 9, pos := "list.go:68", after := #[], guard := none }, { dst := some 2, op := Op.assign (Operand.tmp 67), type := 9, pos := "list.go:68", after := #[{ on := 0, ground := Ground.data }, { on := 0, ground := Ground.chain }, { on := 0, ground := Ground.phase }], guard := none }] false).seq Code.ret)
set_option maxHeartbeats 8000000 in
theorem esc_loop (s : ByteArray) (hs : s.size ≤ 1000000) (w A : World) (hq : quoT (L s) = sla true (L s)) (hbld : Lib.IsBuilder 97 5 w.heap.size w.heap.size (Lib.byteCells []) A) (hbel0 : Below w.heap.size w A) (K : Act → World → Prop)
  (hK : ∀ (a : Act) (w' : World), Code.wp Tryz.prog escTail (bodyPost Tryz.prog Tryz.f40 fun e w' => QuoR w s e w') a w' → K a w') (c1 c2 c3 c4 c6 c7 c8 c9 c10 c11 c12 c13 c14 c15 c16 c17 c18 c19 c20 c21 c22 c23 c24 c25 c26 c27 c28 c29 c30 c31 c32 c33 c34 c35 c36 c39 c40 c41 c42 c43 c44 c45 c46 c47 c48 c49 c50 c51 c52 c53 c54 c55 c56 c57 c58 c59 c60 c61 c62 c63 c64 c65 c66 c67 : Value) :
  Code.wp Tryz.prog escLoop (Exit.inBlock 3 (Exit.then K (bodyPost Tryz.prog Tryz.f40 fun e w' => QuoR w s e w'))) { tmps := List.toArray ((.string s) :: c1 :: c2 :: c3 :: c4 :: (.pointer (some ⟨w.heap.size, 0, none⟩)) :: c6 :: c7 :: c8 :: c9 :: c10 :: c11 :: c12 :: c13 :: c14 :: c15 :: c16 :: c17 :: c18 :: c19 :: c20 :: c21 :: c22 :: c23 :: c24 :: c25 :: c26 :: c27 :: c28 :: c29 :: c30 :: c31 :: c32 :: c33 :: c34 :: c35 :: c36 :: (.int .i64 (s.size : Int)) :: (.int .i64 0) :: c39 :: c40 :: c41 :: c42 :: c43 :: c44 :: c45 :: c46 :: c47 :: c48 :: c49 :: c50 :: c51 :: c52 :: c53 :: c54 :: c55 :: c56 :: c57 :: c58 :: c59 :: c60 :: c61 :: c62 :: c63 :: c64 :: c65 :: c66 :: c67 :: []), defers := [] } A := by
 have hby := zaN s
 have HQ := Lib.hid hq
 have HL := Lib.hid hbld
 have HB := Lib.hid hbel0
 clear hq hbld hbel0
 unfold escTail at hK
 unfold escLoop
 go_loopg [38] s.size (fun k iv wr => ∃ (i : Nat) (acc : List UInt8), iv = .int .i64 (i : Int) ∧ k = s.size - i ∧ i ≤ s.size ∧ acc.length ≤ 2 * i ∧ sla true (L s) = acc ++ sla (i == 0) ((L s).drop i) ∧
  Lib.IsBuilder 97 5 w.heap.size w.heap.size (Lib.byteCells acc) wr ∧ Below w.heap.size w wr)
 case atStart => exact ⟨0, [], rfl, rfl, Nat.zero_le _, Nat.le_refl _, by simp, HL.out, HB.out⟩
 case round =>
  obtain ⟨i, acc, rfl, hk, hi, hal, heq, hbd, hbel⟩ := hrel
  have HK2 := Lib.hid hk
  have HBD := Lib.hid hbd
  have HBEL := Lib.hid hbel
  have hsz := hbel.size
  have HEQ := Lib.hid heq
  clear hk hbd hbel heq
  have hcl : (Lib.byteCells acc).length ≤ 2000000 := by rw [Lib.byteCells_length]; omega
  have hb := zdx s i
  by_cases hlt : i < s.size
  rotate_left
  ·have t2 : ¬ (i : Int) < (s.size : Int) := by omega
   have HS := Lib.hid (show sla (i == 0) ((L s).drop i) = [] by rw [zd0 s (by omega)]; rfl)
   go_wp2_with (fail)
   refine (Tryz.Builder_String_any w.heap.size w.heap.size _ wr HBD.out hsz).mono ?_
   rintro e w' ⟨rfl, hb2⟩
   dsimp only
   have HB2 := Lib.hid hb2
   clear hb2
   go_wp2
   go_ret
   refine QuoR.mk ?_ (HBEL.out.trans HB2.out)
   rw [HQ.out, HEQ.out, HS.out, L_mk, List.append_nil]
  have t2 : (i : Int) < (s.size : Int) := by omega
  by_cases h9a : 9 ≤ byte s i ∧ byte s i ≤ 13
  ·have h9c : byte s i = 9 ∨ byte s i = 10 ∨ byte s i = 11 ∨ byte s i = 12 ∨ byte s i = 13 := by omega
   clear h9a
   rcases h9c with h9 | h9 | h9 | h9 | h9
   ·have hbi : ∀ h : i < s.size, ((s[i]'h).toNat : Int) = 9 := fun h => by rw [zaN s i h]; omega
    have HS := Lib.hid (show sla1 (i == 0) (ub s i) = [92, 116] from zfl _ (.inl ⟨ub_mk s i (by decide) h9, rfl⟩))
    have hsp : spcN 9 = true := rfl
    clear hby h9 hb
    go_wp2_with (go_at_call 90; refine (zaU 9 (by decide) _).mono ?_; rintro e w' ⟨rfl, rfl⟩; rw [hsp])
    refine (zap w.heap.size w.heap.size _ 92 wr HBD.out (by omega) (by omega)).mono ?_
    rintro e w3 ⟨rfl, hb3, hl3⟩
    dsimp only
    rw [za4 _ 92 92 rfl (by decide)] at hb3
    have HB3 := Lib.hid (show Lib.IsBuilder 97 5 w.heap.size w.heap.size _ w3 from .inr hb3)
    have HL3 := Lib.hid hl3
    have hsz3 := hl3.size
    clear hb3 hl3
    go_wp2_with (fail)
    refine (zap w.heap.size w.heap.size _ 116 w3 HB3.out (by rw [Lib.byteCells_length]; simp; omega) (by omega)).mono ?_
    rintro e w4 ⟨rfl, hb4, hl4⟩
    dsimp only
    rw [za4 _ 116 116 rfl (by decide)] at hb4
    have HB4 := Lib.hid (show Lib.IsBuilder 97 5 w.heap.size w.heap.size _ w4 from .inr hb4)
    have HL4 := Lib.hid hl4
    clear hb4 hl4
    go_wp2
    go_roundg (s.size - (i + 1))
    case measure => rw [HK2.out]; omega
    case rel =>
     refine ⟨i + 1, acc ++ [92] ++ [116], by go_num, rfl, by omega, by simp; omega, ?_, HB4.out, (HBEL.out.trans HL3.out).trans HL4.out⟩
     rw [HEQ.out, zeq s hlt, HS.out]; simp
   ·have hbi : ∀ h : i < s.size, ((s[i]'h).toNat : Int) = 10 := fun h => by rw [zaN s i h]; omega
    have HS := Lib.hid (show sla1 (i == 0) (ub s i) = [92, 110] from zfl _ (.inr <| .inl ⟨ub_mk s i (by decide) h9, rfl⟩))
    have hsp : spcN 10 = true := rfl
    clear hby h9 hb
    go_wp2_with (go_at_call 90; refine (zaU 10 (by decide) _).mono ?_; rintro e w' ⟨rfl, rfl⟩; rw [hsp])
    refine (zap w.heap.size w.heap.size _ 92 wr HBD.out (by omega) (by omega)).mono ?_
    rintro e w3 ⟨rfl, hb3, hl3⟩
    dsimp only
    rw [za4 _ 92 92 rfl (by decide)] at hb3
    have HB3 := Lib.hid (show Lib.IsBuilder 97 5 w.heap.size w.heap.size _ w3 from .inr hb3)
    have HL3 := Lib.hid hl3
    have hsz3 := hl3.size
    clear hb3 hl3
    go_wp2_with (fail)
    refine (zap w.heap.size w.heap.size _ 110 w3 HB3.out (by rw [Lib.byteCells_length]; simp; omega) (by omega)).mono ?_
    rintro e w4 ⟨rfl, hb4, hl4⟩
    dsimp only
    rw [za4 _ 110 110 rfl (by decide)] at hb4
    have HB4 := Lib.hid (show Lib.IsBuilder 97 5 w.heap.size w.heap.size _ w4 from .inr hb4)
    have HL4 := Lib.hid hl4
    clear hb4 hl4
    go_wp2
    go_roundg (s.size - (i + 1))
    case measure => rw [HK2.out]; omega
    case rel =>
     refine ⟨i + 1, acc ++ [92] ++ [110], by go_num, rfl, by omega, by simp; omega, ?_, HB4.out, (HBEL.out.trans HL3.out).trans HL4.out⟩
     rw [HEQ.out, zeq s hlt, HS.out]; simp
   ·have hbi : ∀ h : i < s.size, ((s[i]'h).toNat : Int) = 11 := fun h => by rw [zaN s i h]; omega
    have HS := Lib.hid (show sla1 (i == 0) (ub s i) = [92, 118] from zfl _ (.inr <| .inr <| .inl ⟨ub_mk s i (by decide) h9, rfl⟩))
    have hsp : spcN 11 = true := rfl
    clear hby h9 hb
    go_wp2_with (go_at_call 90; refine (zaU 11 (by decide) _).mono ?_; rintro e w' ⟨rfl, rfl⟩; rw [hsp])
    refine (zap w.heap.size w.heap.size _ 92 wr HBD.out (by omega) (by omega)).mono ?_
    rintro e w3 ⟨rfl, hb3, hl3⟩
    dsimp only
    rw [za4 _ 92 92 rfl (by decide)] at hb3
    have HB3 := Lib.hid (show Lib.IsBuilder 97 5 w.heap.size w.heap.size _ w3 from .inr hb3)
    have HL3 := Lib.hid hl3
    have hsz3 := hl3.size
    clear hb3 hl3
    go_wp2_with (fail)
    refine (zap w.heap.size w.heap.size _ 118 w3 HB3.out (by rw [Lib.byteCells_length]; simp; omega) (by omega)).mono ?_
    rintro e w4 ⟨rfl, hb4, hl4⟩
    dsimp only
    rw [za4 _ 118 118 rfl (by decide)] at hb4
    have HB4 := Lib.hid (show Lib.IsBuilder 97 5 w.heap.size w.heap.size _ w4 from .inr hb4)
    have HL4 := Lib.hid hl4
    clear hb4 hl4
    go_wp2
    go_roundg (s.size - (i + 1))
    case measure => rw [HK2.out]; omega
    case rel =>
     refine ⟨i + 1, acc ++ [92] ++ [118], by go_num, rfl, by omega, by simp; omega, ?_, HB4.out, (HBEL.out.trans HL3.out).trans HL4.out⟩
     rw [HEQ.out, zeq s hlt, HS.out]; simp
   ·have hbi : ∀ h : i < s.size, ((s[i]'h).toNat : Int) = 12 := fun h => by rw [zaN s i h]; omega
    have HS := Lib.hid (show sla1 (i == 0) (ub s i) = [92, 102] from zfl _ (.inr <| .inr <| .inr <| .inl ⟨ub_mk s i (by decide) h9, rfl⟩))
    have hsp : spcN 12 = true := rfl
    clear hby h9 hb
    go_wp2_with (go_at_call 90; refine (zaU 12 (by decide) _).mono ?_; rintro e w' ⟨rfl, rfl⟩; rw [hsp])
    refine (zap w.heap.size w.heap.size _ 92 wr HBD.out (by omega) (by omega)).mono ?_
    rintro e w3 ⟨rfl, hb3, hl3⟩
    dsimp only
    rw [za4 _ 92 92 rfl (by decide)] at hb3
    have HB3 := Lib.hid (show Lib.IsBuilder 97 5 w.heap.size w.heap.size _ w3 from .inr hb3)
    have HL3 := Lib.hid hl3
    have hsz3 := hl3.size
    clear hb3 hl3
    go_wp2_with (fail)
    refine (zap w.heap.size w.heap.size _ 102 w3 HB3.out (by rw [Lib.byteCells_length]; simp; omega) (by omega)).mono ?_
    rintro e w4 ⟨rfl, hb4, hl4⟩
    dsimp only
    rw [za4 _ 102 102 rfl (by decide)] at hb4
    have HB4 := Lib.hid (show Lib.IsBuilder 97 5 w.heap.size w.heap.size _ w4 from .inr hb4)
    have HL4 := Lib.hid hl4
    clear hb4 hl4
    go_wp2
    go_roundg (s.size - (i + 1))
    case measure => rw [HK2.out]; omega
    case rel =>
     refine ⟨i + 1, acc ++ [92] ++ [102], by go_num, rfl, by omega, by simp; omega, ?_, HB4.out, (HBEL.out.trans HL3.out).trans HL4.out⟩
     rw [HEQ.out, zeq s hlt, HS.out]; simp
   ·have hbi : ∀ h : i < s.size, ((s[i]'h).toNat : Int) = 13 := fun h => by rw [zaN s i h]; omega
    have HS := Lib.hid (show sla1 (i == 0) (ub s i) = [92, 114] from zfl _ (.inr <| .inr <| .inr <| .inr ⟨ub_mk s i (by decide) h9, rfl⟩))
    have hsp : spcN 13 = true := rfl
    clear hby h9 hb
    go_wp2_with (go_at_call 90; refine (zaU 13 (by decide) _).mono ?_; rintro e w' ⟨rfl, rfl⟩; rw [hsp])
    refine (zap w.heap.size w.heap.size _ 92 wr HBD.out (by omega) (by omega)).mono ?_
    rintro e w3 ⟨rfl, hb3, hl3⟩
    dsimp only
    rw [za4 _ 92 92 rfl (by decide)] at hb3
    have HB3 := Lib.hid (show Lib.IsBuilder 97 5 w.heap.size w.heap.size _ w3 from .inr hb3)
    have HL3 := Lib.hid hl3
    have hsz3 := hl3.size
    clear hb3 hl3
    go_wp2_with (fail)
    refine (zap w.heap.size w.heap.size _ 114 w3 HB3.out (by rw [Lib.byteCells_length]; simp; omega) (by omega)).mono ?_
    rintro e w4 ⟨rfl, hb4, hl4⟩
    dsimp only
    rw [za4 _ 114 114 rfl (by decide)] at hb4
    have HB4 := Lib.hid (show Lib.IsBuilder 97 5 w.heap.size w.heap.size _ w4 from .inr hb4)
    have HL4 := Lib.hid hl4
    clear hb4 hl4
    go_wp2
    go_roundg (s.size - (i + 1))
    case measure => rw [HK2.out]; omega
    case rel =>
     refine ⟨i + 1, acc ++ [92] ++ [114], by go_num, rfl, by omega, by simp; omega, ?_, HB4.out, (HBEL.out.trans HL3.out).trans HL4.out⟩
     rw [HEQ.out, zeq s hlt, HS.out]; simp
  have t3 : (((byte s i : Nat) : Int) ≥ 9 → ¬ ((byte s i : Nat) : Int) ≤ 13) := by omega
  cases hsp : spcN (byte s i) with
  | true =>
    have HS := Lib.hid (show sla1 (i == 0) (ub s i) = [92, ub s i] from sla1_esc _ (by rw [zci]; exact h9a) (by rw [zci, hsp]; rfl))
    by_cases h9 : 9 ≤ byte s i
    ·have t4 : (9 : Int) ≤ (byte s i : Int) := by omega
     have t5 : ¬ (byte s i : Int) ≤ 13 := by omega
     clear h9a t3 h9
     go_wp2_with (go_at_call 90; refine (zaU _ hb _).mono ?_; rintro e w' ⟨rfl, rfl⟩; rw [hsp])
     refine (zap w.heap.size w.heap.size _ 92 wr HBD.out (by omega) (by omega)).mono ?_
     rintro e w3 ⟨rfl, hb3, hl3⟩
     dsimp only
     rw [za4 _ 92 92 rfl (by decide)] at hb3
     have HB3 := Lib.hid (show Lib.IsBuilder 97 5 w.heap.size w.heap.size _ w3 from .inr hb3)
     have HL3 := Lib.hid hl3
     have hsz3 := hl3.size
     clear hb3 hl3
     go_wp2_with (fail)
     refine (zap w.heap.size w.heap.size _ (byte s i : Int) w3 HB3.out (by rw [Lib.byteCells_length]; simp; omega) (by omega)).mono ?_
     rintro e w4 ⟨rfl, hb4, hl4⟩
     dsimp only
     rw [zb3] at hb4
     have HB4 := Lib.hid (show Lib.IsBuilder 97 5 w.heap.size w.heap.size _ w4 from .inr hb4)
     have HL4 := Lib.hid hl4
     clear hb4 hl4
     go_wp2
     go_roundg (s.size - (i + 1))
     case measure => rw [HK2.out]; omega
     case rel =>
      refine ⟨i + 1, acc ++ [92] ++ [ub s i], by go_num, rfl, by omega, by simp; omega, ?_, HB4.out, (HBEL.out.trans HL3.out).trans HL4.out⟩
      rw [HEQ.out, zeq s hlt, HS.out]; simp
    ·have t4 : ¬ (9 : Int) ≤ (byte s i : Int) := by omega
     clear h9a t3 h9
     go_wp2_with (go_at_call 90; refine (zaU _ hb _).mono ?_; rintro e w' ⟨rfl, rfl⟩; rw [hsp])
     refine (zap w.heap.size w.heap.size _ 92 wr HBD.out (by omega) (by omega)).mono ?_
     rintro e w3 ⟨rfl, hb3, hl3⟩
     dsimp only
     rw [za4 _ 92 92 rfl (by decide)] at hb3
     have HB3 := Lib.hid (show Lib.IsBuilder 97 5 w.heap.size w.heap.size _ w3 from .inr hb3)
     have HL3 := Lib.hid hl3
     have hsz3 := hl3.size
     clear hb3 hl3
     go_wp2_with (fail)
     refine (zap w.heap.size w.heap.size _ (byte s i : Int) w3 HB3.out (by rw [Lib.byteCells_length]; simp; omega) (by omega)).mono ?_
     rintro e w4 ⟨rfl, hb4, hl4⟩
     dsimp only
     rw [zb3] at hb4
     have HB4 := Lib.hid (show Lib.IsBuilder 97 5 w.heap.size w.heap.size _ w4 from .inr hb4)
     have HL4 := Lib.hid hl4
     clear hb4 hl4
     go_wp2
     go_roundg (s.size - (i + 1))
     case measure => rw [HK2.out]; omega
     case rel =>
      refine ⟨i + 1, acc ++ [92] ++ [ub s i], by go_num, rfl, by omega, by simp; omega, ?_, HB4.out, (HBEL.out.trans HL3.out).trans HL4.out⟩
      rw [HEQ.out, zeq s hlt, HS.out]; simp
  | false =>
    by_cases hz : i = 0
    ·have t6 : ((i : Int) == 0) = true := by simp; omega
     by_cases h35 : byte s i = 35
     ·have t7 : ((byte s i : Int) == 35) = true := by simp; omega
      have HS := Lib.hid (show sla1 (i == 0) (ub s i) = [92, ub s i] from sla1_esc _ (by rw [zci]; exact h9a) (by rw [zci, hsp, hz, ← hz, h35]; simp [hz]))
      have t4 : (9 : Int) ≤ (byte s i : Int) := by omega
      have t5 : ¬ (byte s i : Int) ≤ 13 := by omega
      clear h9a t3 h35 hz
      go_wp2_with (go_at_call 90; refine (zaU _ hb _).mono ?_; rintro e w' ⟨rfl, rfl⟩; rw [hsp])
      refine (zap w.heap.size w.heap.size _ 92 wr HBD.out (by omega) (by omega)).mono ?_
      rintro e w3 ⟨rfl, hb3, hl3⟩
      dsimp only
      rw [za4 _ 92 92 rfl (by decide)] at hb3
      have HB3 := Lib.hid (show Lib.IsBuilder 97 5 w.heap.size w.heap.size _ w3 from .inr hb3)
      have HL3 := Lib.hid hl3
      have hsz3 := hl3.size
      clear hb3 hl3
      go_wp2_with (fail)
      refine (zap w.heap.size w.heap.size _ (byte s i : Int) w3 HB3.out (by rw [Lib.byteCells_length]; simp; omega) (by omega)).mono ?_
      rintro e w4 ⟨rfl, hb4, hl4⟩
      dsimp only
      rw [zb3] at hb4
      have HB4 := Lib.hid (show Lib.IsBuilder 97 5 w.heap.size w.heap.size _ w4 from .inr hb4)
      have HL4 := Lib.hid hl4
      clear hb4 hl4
      go_wp2
      go_roundg (s.size - (i + 1))
      case measure => rw [HK2.out]; omega
      case rel =>
       refine ⟨i + 1, acc ++ [92] ++ [ub s i], by go_num, rfl, by omega, by simp; omega, ?_, HB4.out, (HBEL.out.trans HL3.out).trans HL4.out⟩
       rw [HEQ.out, zeq s hlt, HS.out]; simp
     ·have t7 : ((byte s i : Int) == 35) = false := by simp; omega
      have HS := Lib.hid (show sla1 (i == 0) (ub s i) = [ub s i] from sla1_plain _ (by rw [zci]; exact h9a) (by rw [zci, hsp]; simp [h35]))
      clear h9a t3 h35 hz
      go_wp2_with (go_at_call 90; refine (zaU _ hb _).mono ?_; rintro e w' ⟨rfl, rfl⟩; rw [hsp])
      refine (zap w.heap.size w.heap.size _ (byte s i : Int) wr HBD.out (by omega) (by omega)).mono ?_
      rintro e w3 ⟨rfl, hb3, hl3⟩
      dsimp only
      rw [zb3] at hb3
      have HB3 := Lib.hid (show Lib.IsBuilder 97 5 w.heap.size w.heap.size _ w3 from .inr hb3)
      have HL3 := Lib.hid hl3
      clear hb3 hl3
      go_wp2
      go_roundg (s.size - (i + 1))
      case measure => rw [HK2.out]; omega
      case rel =>
       refine ⟨i + 1, acc ++ [ub s i], by go_num, rfl, by omega, by simp; omega, ?_, HB3.out, HBEL.out.trans HL3.out⟩
       rw [HEQ.out, zeq s hlt, HS.out]; simp
    ·have t6 : ((i : Int) == 0) = false := by simp; omega
     have HS := Lib.hid (show sla1 (i == 0) (ub s i) = [ub s i] from sla1_plain _ (by rw [zci]; exact h9a) (by rw [zci, hsp]; simp [hz]))
     clear h9a t3
     go_wp2_with (go_at_call 90; refine (zaU _ hb _).mono ?_; rintro e w' ⟨rfl, rfl⟩; rw [hsp])
     refine (zap w.heap.size w.heap.size _ (byte s i : Int) wr HBD.out (by omega) (by omega)).mono ?_
     rintro e w3 ⟨rfl, hb3, hl3⟩
     dsimp only
     rw [zb3] at hb3
     have HB3 := Lib.hid (show Lib.IsBuilder 97 5 w.heap.size w.heap.size _ w3 from .inr hb3)
     have HL3 := Lib.hid hl3
     clear hb3 hl3
     go_wp2
     go_roundg (s.size - (i + 1))
     case measure => rw [HK2.out]; omega
     case rel =>
      refine ⟨i + 1, acc ++ [ub s i], by go_num, rfl, by omega, by simp; omega, ?_, HB3.out, HBEL.out.trans HL3.out⟩
      rw [HEQ.out, zeq s hlt, HS.out]; simp
set_option maxHeartbeats 4000000 in
theorem quote_any (s : ByteArray) (hs : s.size ≤ 1000000) (m : Int) (w : World) (hm : w.cell? ⟨0, 0, none⟩ = some (.int .i64 m)) :
  Calls Tryz.prog 40 #[.string s] w fun e w' => QuoR w s e w' := by
 have hby := zaN s
 by_cases h0 : s.size = 0
 ·have t0 := emp_true s h0
  have HQ := Lib.hid (show quoT (L s) = [123, 125] by rw [L_empty s h0]; rfl)
  go_enter Tryz.func40, Tryz.ntmps40
  go_wp2
  go_ret
  exact QuoR.mk (by rw [HQ.out]; rfl) (Below.refl _ _)
 ·have t0 := zeO s h0
  have t1 : (0 : Int) < (s.size : Int) := by omega
  have HQ := Lib.hid (quoT_cases s (show 0 < s.size by omega))
  have HM := Lib.hid hm
  clear hm
  obtain ⟨A, hA, sA, aN, aO, bA⟩ := zag w #[.pointer none, .slice none 0 0] 97
  have hbld : Lib.IsBuilder 97 5 w.heap.size w.heap.size (Lib.byteCells []) A := by rw [← hA]; exact Lib.fresh_isBuilder 97 5 w
  have HA := Lib.hid hA
  have HB := Lib.hid bA
  have HL := Lib.hid hbld
  clear hA sA aN aO bA hbld
  go_enter Tryz.func40, Tryz.ntmps40
  go_wp2
  go_loopg [3, 4] (s.size + 1) (fun k pv iv wr => ∃ i : Nat, pv = .bool (zbP s i) ∧ iv = .int .i64 (i : Int) ∧ k = s.size + 1 - i ∧ i ≤ s.size ∧ w = wr)
  case atStart => exact ⟨0, by rw [plain_int], rfl, by omega, by omega, rfl⟩
  case round =>
   obtain ⟨i, rfl, rfl, hk, hi, rfl⟩ := hrel
   have HK := Lib.hid hk
   clear hk
   have hb := zdx s i
   cases hp : zbP s i with
   | true =>
     by_cases hlt : i < s.size
     ·have t2 : (i : Int) < (s.size : Int) := by omega
      have HP := Lib.hid (plainTo_succ s hlt)
      rw [hp, Bool.true_and] at HP
      have HPP := Lib.hid hp
      clear hp
      go_wp2_with (go_at_call 90; refine (zaU _ hb _).mono ?_; rintro e w' ⟨rfl, rfl⟩)
      go_roundg (s.size + 1 - (i + 1))
      case measure => rw [HK.out]; omega
      case rel => exact ⟨i + 1, by rw [HP.out], by go_num, rfl, by omega, rfl⟩
     ·have t2 : ¬ (i : Int) < (s.size : Int) := by omega
      have hie : i = s.size := by omega
      have HP := Lib.hid hp
      have HI := Lib.hid hie
      clear hp hie
      go_wp2
      go_ret
      exact QuoR.mk (by rw [HQ.out, if_pos (by rw [← HI.out]; exact HP.out)]) (Below.refl _ _)
   | false =>
     have HP := Lib.hid (plainTo_no s hi hp)
     clear hp
     cases hbal : (bal (L s) 0 && !slf (L s)) with
     | true =>
       have HBL := Lib.hid hbal
       clear hbal
       go_wp2_with (go_at_call 91; refine (zf9 s hs _ m HM.out).mono ?_; rintro e w' ⟨rfl, rfl⟩; rw [HBL.out])
       all_goals go_ret
       all_goals refine QuoR.mk ?_ (Below.refl _ _)
       all_goals rw [HQ.out, if_neg (by rw [HP.out]; simp), if_pos HBL.out, L_append, L_append]
       all_goals rfl
     | false =>
       have HBL := Lib.hid hbal
       clear hbal
       go_wp2_with (go_at_call 91; refine (zf9 s hs _ m HM.out).mono ?_; rintro e w' ⟨rfl, rfl⟩; rw [HBL.out])
       all_goals rw [HA.out]
       all_goals exact esc_loop s hs w A (by rw [HQ.out, if_neg (by rw [HP.out]; simp), if_neg (by rw [HBL.out]; simp)]) HL.out HB.out _ (by assumption) _ _ _ _ _ _ _ _ _ _ _ _ _ _ _ _ _ _ _ _ _ _ _ _ _ _ _ _ _ _ _ _ _ _ _ _ _ _ _ _ _ _ _ _ _ _ _ _ _ _ _ _ _ _ _ _ _ _ _ _ _ _ _ _
end Go.Proofs.YtfkeeieoapimlaaGreatDoor
end
section
namespace Go.Proofs.YtfkeeieoapimlaaGreatDoor
open Go.ChangeShapes Go.WideShapes Go.ChangeAt Go.RowKit
set_option maxRecDepth 100000
theorem sla1_len (b : Bool) (c : UInt8) : (sla1 b c).length ≤ 2 := by
 unfold sla1
 repeat (first | (split; · simp) | split)
 all_goals simp
theorem sla_len : ∀ (l : List UInt8) (b : Bool), (sla b l).length ≤ 2 * l.length
 | [], _ => Nat.zero_le _
 | c :: r, b => by
   have h1 := sla1_len b c
   have h2 := sla_len r false
   show (sla1 b c ++ sla false r).length ≤ _
   rw [List.length_append, List.length_cons]
   omega
theorem quoT_len (l : List UInt8) : (quoT l).length ≤ 2 * l.length + 2 := by
 cases l with
 | nil => simp [quoT]
 | cons c r =>
   unfold quoT
   dsimp only
   split
   ·omega
   ·split
    ·simp only [List.length_append, List.length_cons, List.length_nil]; omega
    ·have := sla_len (c :: r) true; omega
theorem zfU : ∀ (l : List (List UInt8)) (x : List UInt8), zaO (l ++ [x]) = if l = [] then quoT x else zaO l ++ 32 :: quoT x
 | [], x => rfl
 | [a], x => rfl
 | a :: b :: r, x => by
   have h := zfU (b :: r) x
   rw [if_neg (by simp)] at h
   rw [if_neg (by simp)]
   show quoT a ++ 32 :: zaO ((b :: r) ++ [x]) = (quoT a ++ 32 :: zaO (b :: r)) ++ 32 :: quoT x
   rw [h]
   simp
def sumL (l : List (List UInt8)) : Nat := (l.map fun t => t.length + 1).sum
theorem sumL_snoc (l : List (List UInt8)) (x : List UInt8) : sumL (l ++ [x]) = sumL l + (x.length + 1) := by simp [sumL]
theorem joinT_len (l : List (List UInt8)) : (zaO l).length ≤ 3 * sumL l := by
 have h : ∀ (n : Nat) (l : List (List UInt8)), l.length = n → (zaO l).length ≤ 3 * sumL l := by
  intro n
  induction n with
  | zero => intro l h; rw [List.eq_nil_of_length_eq_zero h]; simp [zaO]
  | succ n ih =>
    intro l h
    obtain ⟨m, x, rfl⟩ : ∃ m x, l = m ++ [x] := ⟨l.dropLast, l.getLast (fun e => by rw [e] at h; simp at h), by rw [List.dropLast_concat_getLast]⟩
    have h1 := ih m (by simpa using h)
    have h2 := quoT_len x
    rw [zfU, sumL_snoc]
    split
    ·omega
    ·rw [List.length_append, List.length_cons]; omega
 exact h l.length l rfl
theorem sumL_take (l : List (List UInt8)) (i : Nat) : sumL (l.take i) ≤ sumL l := by
 conv => rhs; rw [← List.take_append_drop i l]
 unfold sumL
 rw [List.map_append, List.sum_append]
 omega
theorem sumL_mem {l : List (List UInt8)} {x : List UInt8} (h : x ∈ l) : x.length + 1 ≤ sumL l := by
 induction l with
 | nil => cases h
 | cons a l ih =>
   unfold sumL
   rw [List.map_cons, List.sum_cons]
   rcases List.mem_cons.1 h with rfl | h
   ·omega
   ·have := ih h; unfold sumL at this; omega
theorem len_sumL (l : List (List UInt8)) : l.length ≤ sumL l := by
 induction l with
 | nil => exact Nat.zero_le _
 | cons a l ih => unfold sumL at *; rw [List.map_cons, List.sum_cons, List.length_cons]; omega
theorem joinT_take {l : List (List UInt8)} {i : Nat} {x : List UInt8} (h : l[i]? = some x) : zaO (l.take (i + 1)) = (if i = 0 then [] else zaO (l.take i) ++ [32]) ++ quoT x := by
 have hl : i < l.length := (List.getElem?_eq_some_iff.1 h).1
 rw [List.take_succ, h, Option.toList_some, zfU]
 by_cases h0 : i = 0
 ·subst h0; rw [if_pos (by simp), if_pos rfl]; rfl
 ·rw [if_neg h0, if_neg (by intro e; have h3 := congrArg List.length e; rw [List.length_take, List.length_nil] at h3; omega)]
  simp
def JoinR (w : World) (l : List (List UInt8)) (e : Ending) (w' : World) : Prop := (∃ q, e = .returned (.tuple #[.string q, .int .i64 0]) ∧ L q = zaO l) ∧ Below w.heap.size w w'
theorem cells_sp (l : List UInt8) : Lib.byteCells l ++ [.int .u8 32] = Lib.byteCells (l ++ [32]) := by
 unfold Lib.byteCells
 rw [List.map_append]
 rfl
theorem cells_all (l : List UInt8) (y : ByteArray) : Lib.byteCells l ++ Lib.strCells y = Lib.byteCells (l ++ L y) := by
 have h := cells_str l (L y)
 rw [show (⟨(L y).toArray⟩ : ByteArray) = y from by cases y; simp [L]] at h
 exact h
set_option maxHeartbeats 4000000 in
theorem join_any (m : Int) (hquo : ∀ (s : ByteArray), s.size ≤ 1000000 → ∀ w : World, w.cell? ⟨0, 0, none⟩ = some (.int .i64 m) → Calls Tryz.prog 40 #[.string s] w fun e w' => QuoR w s e w')
  (w : World) (hm : w.cell? ⟨0, 0, none⟩ = some (.int .i64 m)) (u : Value) (l : List (List UInt8)) (hu : StrRow w u l) (hl : sumL l ≤ 2000) :
  Calls Tryz.prog 17 #[u] w fun e w' => JoinR w l e w' := by
 obtain ⟨a, c, rfl, ha⟩ := hu.form
 have HA := Lib.hid ha
 have HQ := Lib.hid hquo
 have HSL := Lib.hid hl
 have HM := Lib.hid hm
 have hlen := len_sumL l
 have t0 : ¬ (l.length : Int) > 10000 := by omega
 obtain ⟨A, hA, sA, aN, aO, bA⟩ := zag w #[.pointer none, .slice none 0 0] 97
 have hbld : Lib.IsBuilder 97 5 w.heap.size w.heap.size (Lib.byteCells []) A := by rw [← hA]; exact Lib.fresh_isBuilder 97 5 w
 have HAA := Lib.hid hA
 have HB := Lib.hid bA
 have HL := Lib.hid hbld
 clear hA sA aN aO bA hbld ha hu hquo hl hlen hm
 go_enter Tryz.func17, Tryz.ntmps17
 go_wp2
 rw [HAA.out]
 go_loopg [12] l.length (fun k iv wr => ∃ (i : Nat), iv = .int .i64 (i : Int) ∧ k = l.length - i ∧ i ≤ l.length ∧ Lib.IsBuilder 97 5 w.heap.size w.heap.size (Lib.byteCells (zaO (l.take i))) wr ∧ Below w.heap.size w wr)
 case atStart => exact ⟨0, rfl, rfl, Nat.zero_le _, HL.out, HB.out⟩
 case round =>
  obtain ⟨i, rfl, hk, hi, hbd, hbel⟩ := hrel
  have HK := Lib.hid hk
  have HBD := Lib.hid hbd
  have HBEL := Lib.hid hbel
  have hsz := hbel.size
  have hacc : (Lib.byteCells (zaO (l.take i))).length ≤ 6000 := by
   have h1 := joinT_len (l.take i)
   have h2 := sumL_take l i
   have h3 := HSL.out
   rw [Lib.byteCells_length]; omega
  clear hk hbd
  by_cases hlt : i < l.length
  ·have t2 : (i : Int) < (l.length : Int) := by omega
   obtain ⟨x, hx⟩ : ∃ x, l[i]? = some x := ⟨_, List.getElem?_eq_getElem hlt⟩
   obtain ⟨p, rfl, hp⟩ := HA.out i x hx
   have c1 := zcv hp hbel
   have hm1 := zcv HM.out hbel
   unfold strV at c1
   have HX := Lib.hid (joinT_take hx)
   have hxs : x.length ≤ 2000 := by
    have h1 := sumL_mem (List.mem_of_getElem? hx)
    have h3 := HSL.out
    omega
   have hxz : (⟨x.toArray⟩ : ByteArray).size ≤ 1000000 := by rw [zgs]; omega
   have t4 : ¬ ((⟨x.toArray⟩ : ByteArray).size : Int) > 65536 := by rw [zgs]; omega
   have HM1 := Lib.hid hm1
   clear hx hp hbel hm1
   by_cases h0 : i = 0
   ·have t3 : ¬ (i : Int) > 0 := by omega
    have H0 := Lib.hid h0
    clear h0
    go_wp2_with (go_at_call 40; refine (HQ.out _ hxz _ HM1.out).mono ?_; rintro e w1 ⟨⟨y, rfl, hy⟩, hb1⟩; have HY := Lib.hid hy; have HB1 := Lib.hid hb1; have hyl : y.size ≤ 6000 := (by rw [← zcX, hy]; have := quoT_len (L ⟨x.toArray⟩); rw [L_mk] at this ⊢; omega); have hs1 := hb1.size; clear hy hb1)
    refine (zdV w.heap.size w.heap.size _ y w1 (zdW HBD.out HB1.out) (by omega) (by omega)).mono ?_
    rintro e w3 ⟨rfl, hb3, hl3⟩
    dsimp only
    rw [cells_all] at hb3
    have HB3 := Lib.hid (show Lib.IsBuilder 97 5 w.heap.size w.heap.size _ w3 from .inr hb3)
    have HL3 := Lib.hid hl3
    obtain ⟨N, hN⟩ : ∃ N, (Lib.byteCells (zaO (List.take i l) ++ L y)).length = N := ⟨_, rfl⟩
    have hlen3 : N ≤ 13000 := by rw [← hN]; rw [Lib.byteCells_length, List.length_append, zcX]; rw [Lib.byteCells_length] at hacc; omega
    have t5 : ¬ (N : Int) > 65536 := by omega
    have HN := Lib.hid hN
    clear hN
    clear hb3 hl3
    go_wp2_with (go_at_call 41; refine (Tryz.Builder_Len w.heap.size w.heap.size _ w3 HB3.out).mono ?_; rintro e w4 ⟨he, rfl⟩; rw [HN.out] at he; subst he)
    go_roundg (l.length - (i + 1))
    case measure => rw [HK.out]; omega
    case rel =>
     refine ⟨i + 1, by go_num, rfl, by omega, ?_, HBEL.out.trans ((HB1.out.mono hsz).trans HL3.out)⟩
     rw [HX.out, if_pos H0.out, List.nil_append]
     have h9 := HB3.out
     rw [HY.out, show List.take i l = [] by rw [H0.out]; rfl, show zaO [] = [] from rfl, List.nil_append, L_mk] at h9
     exact h9
   ·have t3 : (i : Int) > 0 := by omega
    have H0 := Lib.hid h0
    clear h0
    go_wp2_with (fail)
    refine (zap w.heap.size w.heap.size _ 32 wr HBD.out (by omega) (by omega)).mono ?_
    rintro e w2 ⟨rfl, hb2, hl2⟩
    dsimp only
    rw [cells_sp] at hb2
    have HB2 := Lib.hid (show Lib.IsBuilder 97 5 w.heap.size w.heap.size _ w2 from .inr hb2)
    have HL2 := Lib.hid hl2
    have hs2 := hl2.size
    have hm2 := zcv HM.out (HBEL.out.trans hl2)
    have HM2 := Lib.hid hm2
    clear hb2 hl2 hm2
    go_wp2_with (go_at_call 40; refine (HQ.out _ hxz _ HM2.out).mono ?_; rintro e w1 ⟨⟨y, rfl, hy⟩, hb1⟩; have HY := Lib.hid hy; have HB1 := Lib.hid hb1; have hyl : y.size ≤ 6000 := (by rw [← zcX, hy]; have := quoT_len (L ⟨x.toArray⟩); rw [L_mk] at this ⊢; omega); have hs1 := hb1.size; clear hy hb1)
    refine (zdV w.heap.size w.heap.size _ y w1 (zdW HB2.out HB1.out) (by rw [Lib.byteCells_length, List.length_append]; rw [Lib.byteCells_length] at hacc; simp only [List.length_cons, List.length_nil]; omega) (by omega)).mono ?_
    rintro e w3 ⟨rfl, hb3, hl3⟩
    dsimp only
    rw [cells_all] at hb3
    have HB3 := Lib.hid (show Lib.IsBuilder 97 5 w.heap.size w.heap.size _ w3 from .inr hb3)
    have HL3 := Lib.hid hl3
    obtain ⟨N, hN⟩ : ∃ N, (Lib.byteCells (zaO (List.take i l) ++ [32] ++ L y)).length = N := ⟨_, rfl⟩
    have hlen3 : N ≤ 13000 := by rw [← hN]; rw [Lib.byteCells_length, List.length_append, List.length_append, zcX]; rw [Lib.byteCells_length] at hacc; simp only [List.length_cons, List.length_nil]; omega
    have t5 : ¬ (N : Int) > 65536 := by omega
    have HN := Lib.hid hN
    clear hN
    clear hb3 hl3
    go_wp2_with (go_at_call 41; refine (Tryz.Builder_Len w.heap.size w.heap.size _ w3 HB3.out).mono ?_; rintro e w4 ⟨he, rfl⟩; rw [HN.out] at he; subst he)
    go_roundg (l.length - (i + 1))
    case measure => rw [HK.out]; omega
    case rel =>
     refine ⟨i + 1, by go_num, rfl, by omega, ?_, (HBEL.out.trans HL2.out).trans ((HB1.out.mono (by omega)).trans HL3.out)⟩
     rw [HX.out, if_neg H0.out]
     have h9 := HB3.out
     rw [HY.out, L_mk] at h9
     exact h9
  ·have t2 : ¬ (i : Int) < (l.length : Int) := by omega
   have hie : l.take i = l := List.take_of_length_le (by omega)
   rw [hie] at HBD
   clear hbel
   go_wp2_with (fail)
   refine (Tryz.Builder_String_any w.heap.size w.heap.size _ wr HBD.out hsz).mono ?_
   rintro e w' ⟨rfl, hb2⟩
   dsimp only
   have HB2 := Lib.hid hb2
   clear hb2
   go_wp2
   go_ret2
   exact ⟨⟨_, rfl, rfl⟩, HBEL.out.trans HB2.out⟩
end Go.Proofs.YtfkeeieoapimlaaGreatDoor
end
