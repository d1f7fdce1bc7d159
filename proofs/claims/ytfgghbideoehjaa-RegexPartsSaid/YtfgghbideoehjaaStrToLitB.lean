/-
  strings.Builder's writing methods over this dump (a builder of the call's own).
  Escape, by the kit's builder.
  Literal, by the kit's builder.
-/
import Derived.Test.YtfgghbideoehjaaMemToParseA
import Derived.Test.YtfgghbideoehjaaShelf
import Derived.Test.YtfgghbideoehjaaSetAToSetC
import Derived.Deep.LoopGhost
import Derived.Test.YtfgghbideoehjaaStepBToReadA
namespace Go.Proofs.Ytfgghbideoehjaa
open Go.ChangeShapes Go.WideShapes Go.ChangeAt Go.RowKit
set_option linter.unusedVariables false
set_option maxRecDepth 100000

theorem size76 : (Try.prog.info? 76).map (·.size) = some 2 := by kernel_rfl

set_option maxHeartbeats 400000 in
theorem copyCheck_used (b : Nat) (w : World) (h0 : w.cell? ⟨b, 0, none⟩ = some (.pointer (some ⟨b, 0, none⟩))) :
    Calls Try.prog 66 #[.pointer (some ⟨b, 0, none⟩)] w fun e w' => e = .returned (.tuple #[]) ∧ w' = w := by
  obtain ⟨j, hj, hjs⟩ := Option.map_eq_some_iff.1 size76
  go_enter Try.func66, Try.ntmps66
  go_wp2
  rw [Lib.run_neq_ptr_same w _ Try.underlying73 hj]
  go_wp2
  go_end0
  exact ⟨rfl, rfl⟩

set_option maxHeartbeats 400000 in
theorem copyCheck_fresh (b : Nat) (w : World) (h0 : w.cell? ⟨b, 0, none⟩ = some (.pointer none)) (hsh : w.shape? b = some (76, 2)) (hfz : w.frozen? ⟨b, 0, none⟩ = false) :
    Calls Try.prog 66 #[.pointer (some ⟨b, 0, none⟩)] w fun e w' => e = .returned (.tuple #[]) ∧ w' = w.setCell ⟨b, 0, none⟩ (.pointer (some ⟨b, 0, none⟩)) := by
  obtain ⟨j, hj, hjs⟩ := Option.map_eq_some_iff.1 size76
  go_enter Try.func66, Try.ntmps66
  go_wp2
  rw [Lib.run_to_unsafe w ⟨b, 0, none⟩ Try.underlying73 Try.underlying157 hj (by rw [hjs]; decide) hsh (Nat.zero_lt_succ 1)]
  simp only [Result.andThen]
  rw [Oper.upon_value]
  go_wp2
  rw [run_callFunc_extern Try.func80 (by kernel_rfl) (by kernel_rfl) (by kernel_rfl) (e := Extern.AbiNoEscape.same) (by kernel_rfl)]
  rw [Lib.run_noEscape]
  simp only [Result.andThen]
  rw [Oper.upon_value]
  go_wp2
  rw [Lib.run_from_unsafe w ⟨b, 0, none⟩ Try.underlying157 Try.underlying73 hj hsh (by kernel_rfl)]
  simp only [Result.andThen]
  rw [Oper.upon_value]
  go_wp2
  go_end0
  exact ⟨rfl, rfl⟩

theorem copyCheck_any (B b : Nat) (bs : List Value) (w : World) (h : Lib.IsBuilder 76 5 B b bs w) :
    Calls Try.prog 66 #[.pointer (some ⟨b, 0, none⟩)] w fun e w' => e = .returned (.tuple #[]) ∧ (Lib.BuilderAt 76 5 B b (.pointer (some ⟨b, 0, none⟩)) bs w' ∧ Below B w w') := by
  rcases h with h | h
  · refine (copyCheck_fresh b w h.cell0 h.shape h.frozen0).mono ?_
    rintro e w' ⟨rfl, rfl⟩
    exact ⟨rfl, h.used _, (Below.refl B w).setCell (p := ⟨b, 0, none⟩) h.1 _⟩
  · refine (copyCheck_used b w h.cell0).mono ?_
    rintro e w' ⟨rfl, rfl⟩
    exact ⟨rfl, h, Below.refl B _⟩

theorem infoByte : (Try.prog.info? 5).map (fun i => (i.zero, i.size, i.bytes)) = some (some (.int .u8 0), 1, 1) := by kernel_rfl

set_option maxHeartbeats 400000 in
theorem writeByte_any (B b : Nat) (bs : List Value) (c : Int) (w : World) (h : Lib.IsBuilder 76 5 B b bs w) (hlen : bs.length + 1 ≤ 140737488355328) (hBw : B ≤ w.heap.size) :
    Calls Try.prog 35 #[.pointer (some ⟨b, 0, none⟩), .int .u8 c] w fun e w' => e = .returned .nilIface ∧ (Lib.BuilderAt 76 5 B b (.pointer (some ⟨b, 0, none⟩)) (bs ++ [.int .u8 c]) w' ∧ Below B w w') := by
  obtain ⟨i0, hi, hz0, hz1, hz2⟩ := info_parts infoByte
  go_enter Try.func35, Try.ntmps35
  go_wp2_with (go_at_call 66; refine (copyCheck_any B b bs _ h).mono ?_)
  rintro e w1 ⟨rfl, h1, hb1⟩
  obtain ⟨hB, v, hbk, hown, hne⟩ := h1
  have c0 : w1.cell? ⟨b, 0, none⟩ = some (.pointer (some ⟨b, 0, none⟩)) := by rw [Lib.cell_of_heap hbk]; rfl
  have c1 : w1.cell? ⟨b, 1, none⟩ = some v := by rw [Lib.cell_of_heap hbk]; rfl
  go_wp2_with (at_builtin; refine wpList_append_own _ rfl _ _ 74 rfl B 5 i0 (.int .u8 0) 1 1 Try.underlying74 hi hz0 hz1 hz2 rfl (by decide) _ _ _ rfl (hown.alloc _) ⟨w1.heap.size, 0, none⟩ 1 1 [.int .u8 c] rfl rfl ?c1 ?c2 ?c3 ?c4 ?c5 ?_)
  case c1 =>
    intro j u hj
    match j, hj with
    | 0, hj => simp at hj; subst hj; simp [Addr.add]
  case c2 => intro u hu; simp at hu; subst hu; rfl
  case c3 => unfold maxLen; omega
  case c4 => omega
  case c5 => have := hb1.size; simp; omega
  intro v' w2 hown' hgrow _
  have hlt : b < w1.heap.size := by
    rcases Nat.lt_or_ge b w1.heap.size with h' | h'
    · exact h'
    · simp [Array.getElem?_eq_none h'] at hbk
  have hb2 : w2.heap[b]? = some (.cells #[.pointer (some ⟨b, 0, none⟩), v] 76 (0, 0)) := by
    rw [hgrow.block b (by simp; omega) (fun e => hne e.symm), Lib.alloc_old w1 _ b hlt]
    exact hbk
  have d0 : w2.cell? ⟨b, 0, none⟩ = some (.pointer (some ⟨b, 0, none⟩)) := by rw [Lib.cell_of_heap hb2]; rfl
  have d1 : w2.cell? ⟨b, 1, none⟩ = some v := by rw [Lib.cell_of_heap hb2]; rfl
  have f1 : w2.frozen? ⟨b, 1, none⟩ = false := Lib.frozen_of_heap hb2 1
  obtain ⟨g, cap, rfl⟩ : ∃ g cap, v' = .slice (some ⟨g, 0, none⟩) (bs.length + 1) cap := by
    rcases hown'.2 with ⟨_, h0⟩ | ⟨g, cap, cur, hv, _⟩
    · omega
    · exact ⟨g, cap, hv⟩
  go_wp2
  go_ret
  refine ⟨rfl, ?_, ?_⟩
  · exact Lib.BuilderAt.put (T := 76) (e := 5) hB hb2 (bs' := bs ++ [.int .u8 c]) (by simpa using hown') (by decide)
  · exact ((hb1.alloc (by have := hb1.size; omega) _).grown hgrow (by have := hb1.size; simp; omega) (fun k hk => (hown.lt k hk).1)).setCell (p := ⟨b, 1, none⟩) hB _

set_option maxHeartbeats 400000 in
theorem writeString_any (B b : Nat) (bs : List Value) (s : ByteArray) (w : World) (h : Lib.IsBuilder 76 5 B b bs w) (hlen : bs.length + s.size ≤ 140737488355328) (hBw : B ≤ w.heap.size) :
    Calls Try.prog 40 #[.pointer (some ⟨b, 0, none⟩), .string s] w fun e w' => e = .returned (.tuple #[.int .i64 s.size, .nilIface]) ∧ (Lib.BuilderAt 76 5 B b (.pointer (some ⟨b, 0, none⟩)) (bs ++ Lib.strCells s) w' ∧ Below B w w') := by
  obtain ⟨i0, hi, hz0, hz1, hz2⟩ := info_parts infoByte
  go_enter Try.func40, Try.ntmps40
  go_wp2_with (go_at_call 66; refine (copyCheck_any B b bs _ h).mono ?_)
  rintro e w1 ⟨rfl, h1, hb1⟩
  obtain ⟨hB, v, hbk, hown, hne⟩ := h1
  have c0 : w1.cell? ⟨b, 0, none⟩ = some (.pointer (some ⟨b, 0, none⟩)) := by rw [Lib.cell_of_heap hbk]; rfl
  have c1 : w1.cell? ⟨b, 1, none⟩ = some v := by rw [Lib.cell_of_heap hbk]; rfl
  go_wp2_with (at_builtin; refine Lib.wpList_append_own_string _ rfl _ _ 74 9 rfl B 5 i0 Try.underlying74 Try.underlying9 hi hz0 hz1 hz2 _ _ _ rfl hown s rfl ?c3 ?c4 ?c5 ?_)
  case c3 => unfold maxLen; omega
  case c4 => omega
  case c5 => have := hb1.size; omega
  intro v' w2 hown' hgrow _
  have hlt : b < w1.heap.size := by
    rcases Nat.lt_or_ge b w1.heap.size with h' | h'
    · exact h'
    · simp [Array.getElem?_eq_none h'] at hbk
  have hb2 : w2.heap[b]? = some (.cells #[.pointer (some ⟨b, 0, none⟩), v] 76 (0, 0)) := by
    rw [hgrow.block b hlt (fun e => hne e.symm)]
    exact hbk
  have d0 : w2.cell? ⟨b, 0, none⟩ = some (.pointer (some ⟨b, 0, none⟩)) := by rw [Lib.cell_of_heap hb2]; rfl
  have d1 : w2.cell? ⟨b, 1, none⟩ = some v := by rw [Lib.cell_of_heap hb2]; rfl
  have f1 : w2.frozen? ⟨b, 1, none⟩ = false := Lib.frozen_of_heap hb2 1
  obtain ⟨ao, n', cap, rfl⟩ : ∃ ao n' cap, v' = .slice ao n' cap := by
    rcases hown'.2 with ⟨hv, _⟩ | ⟨g, cap, cur, hv, _⟩
    · exact ⟨_, _, _, hv⟩
    · exact ⟨_, _, _, hv⟩
  go_wp2
  go_ret2
  refine ⟨rfl, ?_, ?_⟩
  · exact Lib.BuilderAt.put (T := 76) (e := 5) hB hb2 (bs' := bs ++ Lib.strCells s) (by simpa [Lib.strCells_length] using hown') (by decide)
  · exact (hb1.grown hgrow (by have := hb1.size; omega) (fun k hk => (hown.lt k hk).1)).setCell (p := ⟨b, 1, none⟩) hB _

end Go.Proofs.Ytfgghbideoehjaa

namespace Go.Proofs.Ytfgghbideoehjaa
open Go.ChangeShapes Go.WideShapes Go.ChangeAt Go.RowKit
set_option linter.unusedVariables false
set_option linter.unusedSimpArgs false
set_option maxRecDepth 100000

/-- The byte at an index. -/
def ub (s : ByteArray) (k : Nat) : UInt8 := (byte s k).toUInt8
theorem ub_nat (s : ByteArray) (k : Nat) : (ub s k).toNat = byte s k := by
  unfold ub
  have := byte_lt s k
  simp [Nat.toUInt8, UInt8.toNat_ofNat']
  omega

/-- What a byte is escaped as. -/
def esc1 (s : ByteArray) (k : Nat) : List UInt8 := if isSpecial (byte s k) then [92, ub s k] else [ub s k]
/-- The first bytes, escaped. -/
def escTo (s : ByteArray) (n : Nat) : List UInt8 := (List.range n).flatMap (esc1 s)

theorem escTo_succ (s : ByteArray) (n : Nat) : escTo s (n + 1) = escTo s n ++ esc1 s n := by
  simp [escTo, List.range_succ, List.flatMap_append]

theorem cells_snoc (l : List UInt8) (s : ByteArray) (k : Nat) : Lib.byteCells l ++ [.int .u8 (byte s k : Int)] = Lib.byteCells (l ++ [ub s k]) := by
  simp [Lib.byteCells, ub_nat]
theorem cells_snoc92 (l : List UInt8) : Lib.byteCells l ++ [.int .u8 92] = Lib.byteCells (l ++ [92]) := by
  simp [Lib.byteCells]

theorem escTo_len (s : ByteArray) (n : Nat) : (escTo s n).length ≤ 2 * n := by
  induction n with
  | zero => simp [escTo]
  | succ n ih =>
    rw [escTo_succ, List.length_append]
    have : (esc1 s n).length ≤ 2 := by unfold esc1; split <;> simp
    omega

set_option maxHeartbeats 1000000 in
theorem escape_fn (w : World) (s : ByteArray) (hs : s.size ≤ 1000000) : Calls Try.prog 21 #[.string s] w fun e w' => e = .returned (.string ⟨(escTo s s.size).toArray⟩) ∧ Below w.heap.size w w' := by
  have hby := get_byte s
  obtain ⟨A, hA, sA, aN, aO, bA⟩ := alloc_pack w #[.pointer none, .slice none 0 0] 76
  have hbld : Lib.IsBuilder 76 5 w.heap.size w.heap.size (Lib.byteCells []) A := by rw [← hA]; exact Lib.fresh_isBuilder 76 5 w
  have HA := Lib.hid hA
  have HB := Lib.hid bA
  have HL := Lib.hid hbld
  clear hA sA aN aO bA hbld
  go_enter Try.func21, Try.ntmps21
  go_wp2
  rw [HA.out]
  go_loopg [7] s.size (fun k iv wr => ∃ (i : Nat), iv = .int .i64 (i : Int) ∧ k = s.size - i ∧ i ≤ s.size ∧ Lib.IsBuilder 76 5 w.heap.size w.heap.size (Lib.byteCells (escTo s i)) wr ∧ Below w.heap.size w wr)
  case atStart => exact ⟨0, rfl, rfl, Nat.zero_le _, HL.out, HB.out⟩
  case round =>
    obtain ⟨i, rfl, hk, hi, hbd, hbel⟩ := hrel
    have hlen := escTo_len s i
    have HK := Lib.hid hk
    have HBD := Lib.hid hbd
    have HBEL := Lib.hid hbel
    have hsz := hbel.size
    clear hk hbd hbel
    have hcl : (Lib.byteCells (escTo s i)).length ≤ 2000000 := by rw [Lib.byteCells_length]; omega
    by_cases hlt : i < s.size
    · have t1 : (i : Int) < (s.size : Int) := by omega
      have hb := byte_lt s i
      by_cases hsp : isSpecial (byte s i) = true
      · go_wp2_with (go_at_call 34; refine (special_any _ hb _).mono ?_; rintro e w' ⟨rfl, rfl⟩)
        refine (writeByte_any w.heap.size w.heap.size _ 92 wr HBD.out (by omega) hsz).mono ?_
        rintro e w2 ⟨rfl, hb2, hl2⟩
        dsimp only
        rw [cells_snoc92] at hb2
        have HB2 := Lib.hid (show Lib.IsBuilder 76 5 w.heap.size w.heap.size _ w2 from .inr hb2)
        have HL2 := Lib.hid hl2
        have hsz2 := hl2.size
        have hcl2 : (Lib.byteCells (escTo s i ++ [92])).length ≤ 2000001 := by rw [Lib.byteCells_length, List.length_append]; simp; omega
        clear hb2 hl2
        go_wp2_with (fail)
        refine (writeByte_any w.heap.size w.heap.size _ (byte s i : Int) w2 HB2.out (by omega) (by omega)).mono ?_
        rintro e w3 ⟨rfl, hb3, hl3⟩
        dsimp only
        rw [cells_snoc] at hb3
        have hnx : escTo s i ++ [92] ++ [ub s i] = escTo s (i + 1) := by rw [escTo_succ]; simp [esc1, hsp]
        rw [hnx] at hb3
        have HB3 := Lib.hid (show Lib.IsBuilder 76 5 w.heap.size w.heap.size _ w3 from .inr hb3)
        have HL3 := Lib.hid hl3
        clear hb3 hl3 hnx
        go_wp2
        go_roundg (s.size - (i + 1))
        case measure => rw [HK.out]; omega
        case rel => exact ⟨i + 1, by go_num, rfl, by omega, HB3.out, (HBEL.out.trans HL2.out).trans HL3.out⟩
      · have hsp2 : isSpecial (byte s i) = false := by simpa using hsp
        go_wp2_with (go_at_call 34; refine (special_any _ hb _).mono ?_; rintro e w' ⟨rfl, rfl⟩)
        refine (writeByte_any w.heap.size w.heap.size _ (byte s i : Int) wr HBD.out (by omega) (by omega)).mono ?_
        rintro e w3 ⟨rfl, hb3, hl3⟩
        dsimp only
        rw [cells_snoc] at hb3
        have hnx : escTo s i ++ [ub s i] = escTo s (i + 1) := by rw [escTo_succ]; simp [esc1, hsp2]
        rw [hnx] at hb3
        have HB3 := Lib.hid (show Lib.IsBuilder 76 5 w.heap.size w.heap.size _ w3 from .inr hb3)
        have HL3 := Lib.hid hl3
        clear hb3 hl3 hnx
        go_wp2
        go_roundg (s.size - (i + 1))
        case measure => rw [HK.out]; omega
        case rel => exact ⟨i + 1, by go_num, rfl, by omega, HB3.out, HBEL.out.trans HL3.out⟩
    · have t1 : ¬ (i : Int) < (s.size : Int) := by omega
      have hie : i = s.size := by omega
      subst hie
      go_wp2_with (fail)
      refine (Try.Builder_String_any w.heap.size w.heap.size _ wr HBD.out hsz).mono ?_
      rintro e w' ⟨rfl, hb⟩
      dsimp only
      have HB2 := Lib.hid hb
      clear hb
      go_wp2
      go_ret
      exact ⟨rfl, HBEL.out.trans HB2.out⟩

end Go.Proofs.Ytfgghbideoehjaa

namespace Go.Proofs.Ytfgghbideoehjaa
open Go.ChangeShapes Go.WideShapes Go.ChangeAt Go.RowKit
set_option linter.unusedVariables false
set_option linter.unusedSimpArgs false
set_option maxRecDepth 100000

/-- What Literal makes of the bytes from an index on, behind what it has. -/
def litFrom (s : ByteArray) (i : Nat) (acc : List UInt8) : Option (List UInt8) :=
  if h : i < s.size then
    if byte s i = 92 ∧ i + 1 < s.size ∧ isLetter (byte s (i + 1)) = false ∧ isDigit (byte s (i + 1)) = false then litFrom s (i + 2) (acc ++ [ub s (i + 1)])
    else if isSpecial (byte s i) = true then none
    else litFrom s (i + 1) (acc ++ [ub s i])
  else some acc
termination_by s.size - i

def litRes : Option (List UInt8) → Value
  | some l => .tuple #[.string ⟨l.toArray⟩, .bool true]
  | none => .tuple #[.string ⟨#[]⟩, .bool false]

set_option maxHeartbeats 1000000 in
theorem literal_fn (w : World) (s : ByteArray) (hs : s.size ≤ 1000000) : Calls Try.prog 19 #[.string s] w fun e w' => e = .returned (litRes (litFrom s 0 [])) ∧ Below w.heap.size w w' := by
  have hby := get_byte s
  obtain ⟨A, hA, sA, aN, aO, bA⟩ := alloc_pack w #[.pointer none, .slice none 0 0] 76
  have hbld : Lib.IsBuilder 76 5 w.heap.size w.heap.size (Lib.byteCells []) A := by rw [← hA]; exact Lib.fresh_isBuilder 76 5 w
  have HA := Lib.hid hA
  have HB := Lib.hid bA
  have HL := Lib.hid hbld
  clear hA sA aN aO bA hbld
  go_enter Try.func19, Try.ntmps19
  go_wp2
  rw [HA.out]
  go_loopg [5] s.size (fun k iv wr => ∃ (i : Nat) (acc : List UInt8), iv = .int .i64 (i : Int) ∧ k = s.size - i ∧ i ≤ s.size ∧ acc.length ≤ i ∧ litFrom s 0 [] = litFrom s i acc ∧ Lib.IsBuilder 76 5 w.heap.size w.heap.size (Lib.byteCells acc) wr ∧ Below w.heap.size w wr)
  case atStart => exact ⟨0, [], rfl, rfl, Nat.zero_le _, Nat.le_refl _, rfl, HL.out, HB.out⟩
  case round =>
    obtain ⟨i, acc, rfl, hk, hi, hal, heq, hbd, hbel⟩ := hrel
    have HK := Lib.hid hk
    have HBD := Lib.hid hbd
    have HBEL := Lib.hid hbel
    have hsz := hbel.size
    have HEQ := Lib.hid heq
    clear hk hbd hbel heq
    have hcl : (Lib.byteCells acc).length ≤ 1000000 := by rw [Lib.byteCells_length]; omega
    by_cases hlt : i < s.size
    · have t1 : (i : Int) < (s.size : Int) := by omega
      have hb := byte_lt s i
      have hb1 := byte_lt s (i + 1)
      by_cases hc : byte s i = 92 ∧ i + 1 < s.size ∧ isLetter (byte s (i + 1)) = false ∧ isDigit (byte s (i + 1)) = false
      · obtain ⟨h92, hlt1, hlet, hdig⟩ := hc
        have hnx : litFrom s i acc = litFrom s (i + 2) (acc ++ [ub s (i + 1)]) := by rw [litFrom, dif_pos hlt, if_pos ⟨h92, hlt1, hlet, hdig⟩]
        have t2 : ((byte s i : Int) == 92) = true := by simp; omega
        have t3 : (i : Int) + 1 < (s.size : Int) := by omega
        have HNX := Lib.hid hnx
        have H92 := Lib.hid h92
        clear hnx h92
        go_wp2_with (first | (go_at_call 32; refine (letter_any _ hb1 _).mono ?_; rintro e w' ⟨rfl, rfl⟩; rw [hlet]; dsimp only) | (go_at_call 33; refine (digit_any _ hb1 _).mono ?_; rintro e w' ⟨rfl, rfl⟩; rw [hdig]; dsimp only))
        refine (writeByte_any w.heap.size w.heap.size _ (byte s (i + 1) : Int) wr HBD.out (by omega) (by omega)).mono ?_
        rintro e w3 ⟨rfl, hb3, hl3⟩
        dsimp only
        rw [cells_snoc] at hb3
        have HB3 := Lib.hid (show Lib.IsBuilder 76 5 w.heap.size w.heap.size _ w3 from .inr hb3)
        have HL3 := Lib.hid hl3
        clear hb3 hl3
        go_wp2
        go_roundg (s.size - (i + 2))
        case measure => rw [HK.out]; omega
        case rel => exact ⟨i + 2, acc ++ [ub s (i + 1)], by go_num, rfl, by omega, by simp; omega, HEQ.out.trans HNX.out, HB3.out, HBEL.out.trans HL3.out⟩
      · by_cases h92 : byte s i = 92
        · have hsp : isSpecial (byte s i) = true := by rw [h92]; decide
          have hnx : litFrom s i acc = none := by rw [litFrom, dif_pos hlt, if_neg hc, if_pos hsp]
          have t2 : ((byte s i : Int) == 92) = true := by simp; omega
          have HNX := Lib.hid hnx
          have H92 := Lib.hid h92
          clear hnx
          by_cases hlt1 : i + 1 < s.size
          · have t3 : (i : Int) + 1 < (s.size : Int) := by omega
            cases hlet : isLetter (byte s (i + 1)) with
            | true =>
              have hdig : True := trivial
              clear hc h92
              go_wp2_with (first | (go_at_call 34; refine (special_any _ hb _).mono ?_; rintro e w' ⟨rfl, rfl⟩; rw [hsp]; dsimp only) | (go_at_call 32; refine (letter_any _ hb1 _).mono ?_; rintro e w' ⟨rfl, rfl⟩; rw [hlet]; dsimp only))
              go_ret2
              refine ⟨?_, HBEL.out⟩
              rw [HEQ.out, HNX.out]; rfl
            | false =>
              have hdig : isDigit (byte s (i + 1)) = true := by
                cases hd : isDigit (byte s (i + 1)) with
                | true => rfl
                | false => exact absurd ⟨h92, hlt1, hlet, hd⟩ hc
              clear hc h92
              go_wp2_with (first | (go_at_call 34; refine (special_any _ hb _).mono ?_; rintro e w' ⟨rfl, rfl⟩; rw [hsp]; dsimp only) | (go_at_call 32; refine (letter_any _ hb1 _).mono ?_; rintro e w' ⟨rfl, rfl⟩; rw [hlet]; dsimp only) | (go_at_call 33; refine (digit_any _ hb1 _).mono ?_; rintro e w' ⟨rfl, rfl⟩; rw [hdig]; dsimp only))
              go_ret2
              refine ⟨?_, HBEL.out⟩
              rw [HEQ.out, HNX.out]; rfl
          · have t3 : ¬ (i : Int) + 1 < (s.size : Int) := by omega
            clear hc h92
            go_wp2_with (first | (go_at_call 34; refine (special_any _ hb _).mono ?_; rintro e w' ⟨rfl, rfl⟩; rw [hsp]; dsimp only))
            go_ret2
            refine ⟨?_, HBEL.out⟩
            rw [HEQ.out, HNX.out]; rfl
        · have t2 : ((byte s i : Int) == 92) = false := by simp; omega
          cases hsp : isSpecial (byte s i) with
          | true =>
            have hnx : litFrom s i acc = none := by rw [litFrom, dif_pos hlt, if_neg hc, if_pos hsp]
            have HNX := Lib.hid hnx
            clear hnx hc h92
            go_wp2_with (first | (go_at_call 34; refine (special_any _ hb _).mono ?_; rintro e w' ⟨rfl, rfl⟩; rw [hsp]; dsimp only))
            go_ret2
            refine ⟨?_, HBEL.out⟩
            rw [HEQ.out, HNX.out]; rfl
          | false =>
            have hnx : litFrom s i acc = litFrom s (i + 1) (acc ++ [ub s i]) := by rw [litFrom, dif_pos hlt, if_neg hc, if_neg (by rw [hsp]; decide)]
            have HNX := Lib.hid hnx
            clear hnx hc h92
            go_wp2_with (go_at_call 34; refine (special_any _ hb _).mono ?_; rintro e w' ⟨rfl, rfl⟩; rw [hsp]; dsimp only)
            refine (writeByte_any w.heap.size w.heap.size _ (byte s i : Int) wr HBD.out (by omega) (by omega)).mono ?_
            rintro e w3 ⟨rfl, hb3, hl3⟩
            dsimp only
            rw [cells_snoc] at hb3
            have HB3 := Lib.hid (show Lib.IsBuilder 76 5 w.heap.size w.heap.size _ w3 from .inr hb3)
            have HL3 := Lib.hid hl3
            clear hb3 hl3
            go_wp2
            go_roundg (s.size - (i + 1))
            case measure => rw [HK.out]; omega
            case rel => exact ⟨i + 1, acc ++ [ub s (i)], by go_num, rfl, by omega, by simp; omega, HEQ.out.trans HNX.out, HB3.out, HBEL.out.trans HL3.out⟩
    · have t1 : ¬ (i : Int) < (s.size : Int) := by omega
      have hnx : litFrom s i acc = some acc := by rw [litFrom, dif_neg hlt]
      have HNX := Lib.hid hnx
      clear hnx
      go_wp2_with (fail)
      refine (Try.Builder_String_any w.heap.size w.heap.size _ wr HBD.out hsz).mono ?_
      rintro e w' ⟨rfl, hb⟩
      dsimp only
      have HB2 := Lib.hid hb
      clear hb
      go_wp2
      go_ret2
      refine ⟨?_, HBEL.out.trans HB2.out⟩
      rw [HEQ.out, HNX.out]; rfl

end Go.Proofs.Ytfgghbideoehjaa
