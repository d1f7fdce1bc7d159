/-
  The machine: places (placed), a text with small letters (lower).
-/
import Derived.Test.YtfgghbideoehjaaWmB
import Derived.Lib.ConvBytes
import Derived.Lib.SlBytesRow
namespace Go.Proofs.Ytfgghbideoehjaa
open Go.ChangeShapes Go.WideShapes Go.ChangeAt Go.RowKit
set_option linter.unusedVariables false
set_option linter.unusedSimpArgs false
set_option maxRecDepth 100000

theorem wordB_eq (c : Nat) : wordB c = isWord c := rfl
theorem ret_b {a b : Bool} (h : a = b) : Ending.returned (.bool a) = .returned (.bool b) := by rw [h]

theorem eq10 (k : Nat) : ((k : Int) == 10) = (k == 10) := by rw [Bool.eq_iff_iff]; simp; omega

set_option maxHeartbeats 1000000 in
theorem placed_any (w : World) (mp : Nat) (lines : Bool) (s : ByteArray) (kind pos : Nat) (hk : kind < 256) (hp : pos ≤ s.size) (hs : s.size ≤ 1000000) (c6 : w.cell? ⟨mp, 6, none⟩ = some (.string s)) (c8 : w.cell? ⟨mp, 8, none⟩ = some (.bool lines)) :
    Calls Try.prog 47 #[.pointer (some ⟨mp, 0, none⟩), .int .u8 (kind : Int), .int .i64 (pos : Int)] w fun e w' => e = .returned (.bool (placeP lines s kind pos)) ∧ Below w.heap.size w w' := by
  have hby := get_byte s
  have b1 := byte_lt s (pos - 1)
  have b2 := byte_lt s pos
  have k1 := eq10 (byte s (pos - 1))
  have k2 := eq10 (byte s pos)
  have HK1 := Lib.hid k1
  have HK2 := Lib.hid k2
  clear k1 k2
  by_cases h94 : kind = 94
  · subst h94
    by_cases h0 : 0 < pos
    · have i0 : (0 : Int) < (pos : Int) := by omega
      have e1 : ((pos : Int) - 1) = ((pos - 1 : Nat) : Int) := by omega
      have i1 : ((pos - 1 : Nat) : Int) < (s.size : Int) := by omega
      have i2 : pos - 1 < s.size := by omega
      cases lines
      · go_enter Try.func47, Try.ntmps47
        go_wp2_with (fail)
        go_quiet (fail)
        go_wp2_with (fail)
        go_ret
        exact ⟨ret_b (by simp [placeP, h0]), ⟨rfl, rfl, rfl, Nat.le_refl _, fun _ _ => rfl⟩⟩
      · go_enter Try.func47, Try.ntmps47
        go_wp2_with (fail)
        go_quiet (fail)
        go_wp2_with (fail)
        go_ret
        exact ⟨ret_b (by simp [placeP, h0]; exact HK1.out), ⟨rfl, rfl, rfl, Nat.le_refl _, fun _ _ => rfl⟩⟩
    · have i0 : ¬ (0 : Int) < (pos : Int) := by omega
      go_enter Try.func47, Try.ntmps47
      go_wp2_with (fail)
      go_quiet (fail)
      go_wp2_with (fail)
      go_ret
      exact ⟨ret_b (by simp [placeP, h0]), ⟨rfl, rfl, rfl, Nat.le_refl _, fun _ _ => rfl⟩⟩
  · by_cases h36 : kind = 36
    · subst h36
      by_cases h0 : pos < s.size
      · have i0 : (pos : Int) < (s.size : Int) := by omega
        cases lines
        · go_enter Try.func47, Try.ntmps47
          go_wp2_with (fail)
          go_quiet (fail)
          go_wp2_with (fail)
          go_ret
          exact ⟨ret_b (by simp [placeP, h0]), ⟨rfl, rfl, rfl, Nat.le_refl _, fun _ _ => rfl⟩⟩
        · go_enter Try.func47, Try.ntmps47
          go_wp2_with (fail)
          go_quiet (fail)
          go_wp2_with (fail)
          go_ret
          exact ⟨ret_b (by simp [placeP, h0]; exact HK2.out), ⟨rfl, rfl, rfl, Nat.le_refl _, fun _ _ => rfl⟩⟩
      · have i0 : ¬ (pos : Int) < (s.size : Int) := by omega
        go_enter Try.func47, Try.ntmps47
        go_wp2_with (fail)
        go_quiet (fail)
        go_wp2_with (fail)
        go_ret
        exact ⟨ret_b (by simp [placeP, h0]), ⟨rfl, rfl, rfl, Nat.le_refl _, fun _ _ => rfl⟩⟩
    · have i94 : ¬ (kind : Int) = 94 := by omega
      have i36 : ¬ (kind : Int) = 36 := by omega
      by_cases h0 : 0 < pos
      · have i0 : (0 : Int) < (pos : Int) := by omega
        have e1 : ((pos : Int) - 1) = ((pos - 1 : Nat) : Int) := by omega
        have i1 : ((pos - 1 : Nat) : Int) < (s.size : Int) := by omega
        have i2 : pos - 1 < s.size := by omega
        by_cases h2 : pos < s.size
        · have j0 : (pos : Int) < (s.size : Int) := by omega
          go_enter Try.func47, Try.ntmps47
          go_wp2_with (fail)
          go_quiet (fail)
          go_wp2_with (go_at_call 72; refine (word_any _ (by first | exact b1 | exact b2) _).mono ?_; rintro e w' ⟨rfl, rfl⟩)
          go_ret
          exact ⟨ret_b (by simp [placeP, h94, h36, h0, h2, wordB_eq]; cases isWord (byte s (pos - 1)) <;> cases isWord (byte s pos) <;> rfl), ⟨rfl, rfl, rfl, Nat.le_refl _, fun _ _ => rfl⟩⟩
        · have j0 : ¬ (pos : Int) < (s.size : Int) := by omega
          go_enter Try.func47, Try.ntmps47
          go_wp2_with (fail)
          go_quiet (fail)
          go_wp2_with (go_at_call 72; refine (word_any _ (by first | exact b1 | exact b2) _).mono ?_; rintro e w' ⟨rfl, rfl⟩)
          go_ret
          exact ⟨ret_b (by simp [placeP, h94, h36, h0, h2, wordB_eq]), ⟨rfl, rfl, rfl, Nat.le_refl _, fun _ _ => rfl⟩⟩
      · have i0 : ¬ (0 : Int) < (pos : Int) := by omega
        by_cases h2 : pos < s.size
        · have j0 : (pos : Int) < (s.size : Int) := by omega
          go_enter Try.func47, Try.ntmps47
          go_wp2_with (fail)
          go_quiet (fail)
          go_wp2_with (go_at_call 72; refine (word_any _ (by first | exact b1 | exact b2) _).mono ?_; rintro e w' ⟨rfl, rfl⟩)
          go_ret
          exact ⟨ret_b (by simp [placeP, h94, h36, h0, h2, wordB_eq]), ⟨rfl, rfl, rfl, Nat.le_refl _, fun _ _ => rfl⟩⟩
        · have j0 : ¬ (pos : Int) < (s.size : Int) := by omega
          go_enter Try.func47, Try.ntmps47
          go_wp2_with (fail)
          go_quiet (fail)
          go_wp2_with (go_at_call 72; refine (word_any _ (by first | exact b1 | exact b2) _).mono ?_; rintro e w' ⟨rfl, rfl⟩)
          go_ret
          exact ⟨ret_b (by simp [placeP, h94, h36, h0, h2, wordB_eq]), ⟨rfl, rfl, rfl, Nat.le_refl _, fun _ _ => rfl⟩⟩

def loN (c : Nat) : Nat := if 65 ≤ c ∧ c ≤ 90 then c + 32 else c
theorem lowerB_nat (c : UInt8) : (lowerB c).toNat = loN c.toNat := by
  have h := c.toNat_lt
  by_cases hc : 65 ≤ c ∧ c ≤ 90
  · have h1 : 65 ≤ c.toNat ∧ c.toNat ≤ 90 := ⟨by have := UInt8.le_iff_toNat_le.1 hc.1; simpa using this, by have := UInt8.le_iff_toNat_le.1 hc.2; simpa using this⟩
    unfold lowerB loN
    rw [if_pos hc, if_pos h1, UInt8.toNat_add]
    have : (32 : UInt8).toNat = 32 := rfl
    omega
  · have h1 : ¬ (65 ≤ c.toNat ∧ c.toNat ≤ 90) := fun h2 => hc ⟨UInt8.le_iff_toNat_le.2 (by simpa using h2.1), UInt8.le_iff_toNat_le.2 (by simpa using h2.2)⟩
    unfold lowerB loN
    rw [if_neg hc, if_neg h1]
theorem lowerT_size (s : ByteArray) : (lowerT s).size = s.size := by
  show (s.data.map lowerB).size = s.data.size
  exact Array.size_map
theorem lowerT_get (s : ByteArray) (i : Nat) (h : i < (lowerT s).size) : (((lowerT s)[i]'h).toNat : Int) = (loN (byte s i) : Int) := by
  have h2 : i < s.size := by rw [← lowerT_size]; exact h
  have e : (lowerT s)[i]'h = lowerB (s[i]'h2) := by
    have h3 : ∀ hx, (s.data.map lowerB)[i]'hx = lowerB (s.data[i]'h2) := fun hx => Array.getElem_map ..
    exact h3 _
  rw [e, lowerB_nat]
  have := get_byte s i h2
  have e2 : (s[i]'h2).toNat = byte s i := by omega
  rw [e2]

set_option maxHeartbeats 1000000 in
theorem lower_any (w : World) (s : ByteArray) (hs : s.size ≤ 1000000) : Calls Try.prog 50 #[.string s] w fun e w' => e = .returned (.string (lowerT s)) ∧ Below w.heap.size w w' := by
  have hby := get_byte s
  obtain ⟨A, hA⟩ : ∃ A, Lib.bytesWorld w 5 s = A := ⟨_, rfl⟩
  have sA : A.heap.size = w.heap.size + 1 := by rw [← hA]; exact Lib.bytesWorld_size w 5 s
  have cA : ∀ j, j < s.size → A.cell? ⟨w.heap.size, j, none⟩ = some (.int .u8 (byte s j : Int)) := fun j hj => by
    rw [← hA, Lib.bytesWorld_cell w 5 s j hj]
    have h1 : (s.data.toList.getD j 0) = s[j]'hj := by simp [List.getD, ByteArray.getElem_eq_getElem_data, hj]
    rw [h1, hby j hj]
  have hge : s.size ≤ (Lib.bytesCells w 5 s).size := by simp [Lib.bytesCells]
  have fA : ∀ j, j < s.size → A.frozen? ⟨w.heap.size, j, none⟩ = false := fun j hj => by
    rw [← hA]
    unfold World.frozen?
    rw [Lib.bytesWorld_at_new w 5 s]
    simp
    omega
  have bA : Below w.heap.size w A := by
    rw [← hA]
    exact ⟨rfl, rfl, rfl, by rw [Lib.bytesWorld_size]; omega, fun b hb => Lib.bytesWorld_at_old w 5 s b hb⟩
  have HA := Lib.hid hA
  have HC := Lib.hid cA
  have HF := Lib.hid fA
  have HB := Lib.hid bA
  clear hA cA fA bA hge
  go_enter Try.func50, Try.ntmps50
  go_wp2_with (fail)
  rw [Lib.run_convert_string_bytes w 9 74 5 s Try.underlying9 Try.underlying74 Try.underlying5, HA.out]
  simp only [Result.andThen]
  rw [Oper.upon_value]
  obtain ⟨cap, hcap⟩ : ∃ cap, grownCap w s.size 0 5 = cap := ⟨_, rfl⟩
  rw [hcap]
  clear hcap
  go_wp2_with (fail)
  go_loopg [10] s.size (fun k iv wr => ∃ i : Nat, i ≤ s.size ∧ k = s.size - i ∧ iv = .int .i64 (i : Int) ∧ (∀ j, j < s.size → wr.cell? ⟨w.heap.size, j, none⟩ = some (.int .u8 ((if j < i then loN (byte s j) else byte s j : Nat) : Int))) ∧ (∀ j, j < s.size → wr.frozen? ⟨w.heap.size, j, none⟩ = false) ∧ Below w.heap.size w wr)
  case atStart => exact ⟨0, Nat.zero_le _, rfl, rfl, by simpa using HC.out, HF.out, HB.out⟩
  case round =>
    obtain ⟨i, hi, hk, rfl, hc, hf, hb⟩ := hrel
    by_cases hlt : i < s.size
    · have t1 : (i : Int) < (s.size : Int) := by omega
      have bi := byte_lt s i
      have ci : wr.cell? ⟨w.heap.size, i, none⟩ = some (.int .u8 (byte s i : Int)) := by rw [hc i hlt, if_neg (by omega)]
      have fi := hf i hlt
      have hcn : ∀ (W : World), W.cell? ⟨w.heap.size, i, none⟩ = some (.int .u8 (loN (byte s i) : Int)) → (∀ j, j ≠ i → W.cell? ⟨w.heap.size, j, none⟩ = wr.cell? ⟨w.heap.size, j, none⟩) → ∀ j, j < s.size → W.cell? ⟨w.heap.size, j, none⟩ = some (.int .u8 ((if j < i + 1 then loN (byte s j) else byte s j : Nat) : Int)) := fun W h1 h2 j hj => by
        by_cases hji : j = i
        · subst hji
          rw [h1, if_pos (by omega)]
        · rw [h2 j hji, hc j hj]
          by_cases hj2 : j < i
          · rw [if_pos hj2, if_pos (by omega)]
          · rw [if_neg hj2, if_neg (by omega)]
      have HK := Lib.hid hk
      have HC2 := Lib.hid hcn
      have HF2 := Lib.hid hf
      have HB2 := Lib.hid hb
      have CI := Lib.hid ci
      clear hk hcn hf hb hc
      by_cases hup : 65 ≤ byte s i ∧ byte s i ≤ 90
      · obtain ⟨u1, u2⟩ := hup
        have v1 : (65 : Int) ≤ (byte s i : Int) := by omega
        have v2 : (byte s i : Int) ≤ 90 := by omega
        go_wp2
        go_roundg (s.size - (i + 1))
        case measure => rw [HK.out]; omega
        case rel =>
          refine ⟨i + 1, by omega, rfl, by go_num, HC2.out _ ?_ ?_, ?_, HB2.out.setCell (p := ⟨w.heap.size, i, none⟩) (Nat.le_refl _) _⟩
          · rw [World.cell?_setCell_same (h := CI.out)]
            simp [loN, u1, u2]
          · intro j hj
            exact World.cell?_setCell_other wr _ _ _ (fun e => hj (congrArg Addr.off e).symm)
          · intro j hj
            rw [World.frozen?_setCell]
            exact HF2.out j hj
      · have hlo : loN (byte s i) = byte s i := by unfold loN; rw [if_neg hup]
        have hci2 : wr.cell? ⟨w.heap.size, i, none⟩ = some (.int .u8 (loN (byte s i) : Int)) := by rw [hlo]; exact ci
        have CI2 := Lib.hid hci2
        clear hci2 hlo
        by_cases h65 : 65 ≤ byte s i
        · have v1 : (65 : Int) ≤ (byte s i : Int) := by omega
          have v2 : ¬ (byte s i : Int) ≤ 90 := by omega
          clear hup
          go_wp2
          go_roundg (s.size - (i + 1))
          case measure => rw [HK.out]; omega
          case rel => exact ⟨i + 1, by omega, rfl, by go_num, HC2.out _ CI2.out (fun _ _ => rfl), HF2.out, HB2.out⟩
        · have v1 : ¬ (65 : Int) ≤ (byte s i : Int) := by omega
          clear hup
          go_wp2
          go_roundg (s.size - (i + 1))
          case measure => rw [HK.out]; omega
          case rel => exact ⟨i + 1, by omega, rfl, by go_num, HC2.out _ CI2.out (fun _ _ => rfl), HF2.out, HB2.out⟩
    · have t1 : ¬ (i : Int) < (s.size : Int) := by omega
      have hie : i = s.size := by omega
      have hbs : Lib.Bytes wr w.heap.size 0 (lowerT s) := fun j hj => by
        rw [lowerT_get s j hj, Nat.zero_add]
        rw [lowerT_size] at hj
        rw [hc j hj, if_pos (by omega)]
      have HBS := Lib.hid hbs
      have HB2 := Lib.hid hb
      clear hbs hb hk hc hf
      go_wp2_with (fail)
      have hcv := Lib.run_convert_whole (P := Try.prog) wr 74 5 9 Try.underlying74 Try.underlying5 Try.underlying9 w.heap.size 0 (lowerT s) HBS.out cap
      rw [lowerT_size] at hcv
      rw [hcv]
      simp only [Result.andThen]
      rw [Oper.upon_value]
      go_wp2_with (fail)
      go_ret
      exact ⟨rfl, HB2.out⟩

end Go.Proofs.Ytfgghbideoehjaa
