/-
  The reference's Escape and what it asks of a byte.
  The reference's Escape.
  The reference's Literal.
  Where a text stands in another: the reference's stands and First.
-/
import Derived.Test.YtfgghbideoehjaaStrToLitB
namespace Go.Proofs.Ytfgghbideoehjaa
open Go.ChangeShapes Go.WideShapes Go.ChangeAt Go.RowKit
set_option linter.unusedVariables false
set_option linter.unusedSimpArgs false
set_option maxRecDepth 100000

theorem special_all : (List.range 256).all (fun c => isSpecial c == [92, 91, 40, 41, 124, 42, 43, 63, 123, 94, 36, 46].contains c) = true := by kernel_rfl
theorem special_iff {c : Nat} (hc : c < 256) : isSpecial c = [92, 91, 40, 41, 124, 42, 43, 63, 123, 94, 36, 46].contains c := by
  have h := List.all_eq_true.1 special_all c (List.mem_range.2 hc)
  simpa using h

set_option maxHeartbeats 1000000 in
theorem alone_any (c : Nat) (hc : c < 256) (w : World) : Calls Try.prog 38 #[.int .u8 (c : Int)] w fun e w' => e = .returned (.bool (!isSpecial c)) ∧ w = w' := by
  rw [special_iff hc]
  by_cases h1 : c = 92
  · subst h1; go_enter Try.func38, Try.ntmps38; go_wp2; go_ret; simp
  by_cases h2 : c = 91
  · subst h2; go_enter Try.func38, Try.ntmps38; go_wp2; go_ret; simp
  by_cases h3 : c = 40
  · subst h3; go_enter Try.func38, Try.ntmps38; go_wp2; go_ret; simp
  by_cases h4 : c = 41
  · subst h4; go_enter Try.func38, Try.ntmps38; go_wp2; go_ret; simp
  by_cases h5 : c = 124
  · subst h5; go_enter Try.func38, Try.ntmps38; go_wp2; go_ret; simp
  by_cases h6 : c = 42
  · subst h6; go_enter Try.func38, Try.ntmps38; go_wp2; go_ret; simp
  by_cases h7 : c = 43
  · subst h7; go_enter Try.func38, Try.ntmps38; go_wp2; go_ret; simp
  by_cases h8 : c = 63
  · subst h8; go_enter Try.func38, Try.ntmps38; go_wp2; go_ret; simp
  by_cases h9 : c = 123
  · subst h9; go_enter Try.func38, Try.ntmps38; go_wp2; go_ret; simp
  by_cases h10 : c = 94
  · subst h10; go_enter Try.func38, Try.ntmps38; go_wp2; go_ret; simp
  by_cases h11 : c = 36
  · subst h11; go_enter Try.func38, Try.ntmps38; go_wp2; go_ret; simp
  by_cases h12 : c = 46
  · subst h12; go_enter Try.func38, Try.ntmps38; go_wp2; go_ret; simp
  have k1 : ((c : Int) == 92) = false := by simp; omega
  have k2 : ((c : Int) == 91) = false := by simp; omega
  have k3 : ((c : Int) == 40) = false := by simp; omega
  have k4 : ((c : Int) == 41) = false := by simp; omega
  have k5 : ((c : Int) == 124) = false := by simp; omega
  have k6 : ((c : Int) == 42) = false := by simp; omega
  have k7 : ((c : Int) == 43) = false := by simp; omega
  have k8 : ((c : Int) == 63) = false := by simp; omega
  have k9 : ((c : Int) == 123) = false := by simp; omega
  have k10 : ((c : Int) == 94) = false := by simp; omega
  have k11 : ((c : Int) == 36) = false := by simp; omega
  have k12 : ((c : Int) == 46) = false := by simp; omega
  have hn : [92, 91, 40, 41, 124, 42, 43, 63, 123, 94, 36, 46].contains c = false := by
    simp [h1, h2, h3, h4, h5, h6, h7, h8, h9, h10, h11, h12]
  rw [hn]
  clear hn h1 h2 h3 h4 h5 h6 h7 h8 h9 h10 h11 h12
  go_enter Try.func38, Try.ntmps38
  go_wp2
  go_ret
  exact ⟨rfl, rfl⟩

set_option maxHeartbeats 1000000 in
theorem alnum_any (c : Nat) (hc : c < 256) (w : World) : Calls Try.prog 37 #[.int .u8 (c : Int)] w fun e w' => e = .returned (.bool (isDigit c || isLetter c)) ∧ w = w' := by
  have hcase : (97 ≤ c ∧ c ≤ 122) ∨ (122 < c) ∨ (65 ≤ c ∧ c ≤ 90) ∨ (90 < c ∧ c < 97) ∨ (48 ≤ c ∧ c ≤ 57) ∨ (57 < c ∧ c < 65) ∨ c < 48 := by omega
  have hv : ∀ b : Bool, (isDigit c || isLetter c) = b → (isDigit c || isLetter c) = b := fun _ h => h
  rcases hcase with ⟨a, b⟩ | a | ⟨a, b⟩ | ⟨a, b⟩ | ⟨a, b⟩ | ⟨a, b⟩ | a
  all_goals
    by_cases g1 : (48 : Int) ≤ c <;> by_cases g2 : (c : Int) ≤ 57 <;> by_cases g3 : (65 : Int) ≤ c <;> by_cases g4 : (c : Int) ≤ 90 <;> by_cases g5 : (97 : Int) ≤ c <;> by_cases g6 : (c : Int) ≤ 122 <;> first
      | (exfalso; omega)
      | (have hr : (isDigit c || isLetter c) = true := by (simp [isDigit, isLetter]; omega)
         rw [hr]; clear hr
         go_enter Try.func37, Try.ntmps37
         go_wp2
         go_ret
         exact ⟨rfl, rfl⟩)
      | (have hr : (isDigit c || isLetter c) = false := by (simp [isDigit, isLetter]; omega)
         rw [hr]; clear hr
         go_enter Try.func37, Try.ntmps37
         go_wp2
         go_ret
         exact ⟨rfl, rfl⟩)

end Go.Proofs.Ytfgghbideoehjaa

namespace Go.Proofs.Ytfgghbideoehjaa
open Go.ChangeShapes Go.WideShapes Go.ChangeAt Go.RowKit
set_option linter.unusedVariables false
set_option linter.unusedSimpArgs false
set_option maxRecDepth 100000

theorem ext_ba {a b : ByteArray} (h : a.data.toList = b.data.toList) : a = b := by
  cases a; cases b
  simp at h
  exact congrArg ByteArray.mk h

/-- One byte of a text. -/
theorem slice1 (s : ByteArray) (i : Nat) (h : i < s.size) : s.extract i (i + 1) = ⟨#[ub s i]⟩ := by
  apply ext_ba
  have h2 : i < s.data.toList.length := by simpa using h
  simp [ub, byte, h]
  rw [List.drop_eq_getElem_cons h2]
  simp
  rfl

theorem app_list (l m : List UInt8) : (⟨l.toArray⟩ : ByteArray) ++ (⟨m.toArray⟩ : ByteArray) = ⟨(l ++ m).toArray⟩ := by
  apply ext_ba
  simp

set_option maxHeartbeats 1000000 in
theorem refEscape_fn (w : World) (s : ByteArray) (hs : s.size ≤ 1000000) : Calls Try.prog 22 #[.string s] w fun e w' => e = .returned (.string ⟨(escTo s s.size).toArray⟩) ∧ w' = w := by
  have hby := get_byte s
  go_enter Try.func22, Try.ntmps22
  go_wp2
  go_loopg [3, 7] s.size (fun k ov iv wr => ∃ (i : Nat), iv = .int .i64 (i : Int) ∧ k = s.size - i ∧ i ≤ s.size ∧ ov = .string ⟨(escTo s i).toArray⟩ ∧ wr = w)
  case atStart => exact ⟨0, rfl, rfl, Nat.zero_le _, rfl, rfl⟩
  case round =>
    obtain ⟨i, rfl, hk, hi, rfl, rfl⟩ := hrel
    have hlen := escTo_len s i
    have HK := Lib.hid hk
    clear hk
    by_cases hlt : i < s.size
    · have t1 : (i : Int) < (s.size : Int) := by omega
      have hb := byte_lt s i
      have hsl : ∀ wx : World, (Instr.slice 9 (.string s) (some (.int .i64 (i : Int))) (some (.int .i64 ((i : Int) + 1))) none).run Try.prog wx = .ok (.string ⟨#[ub s i]⟩) wx := fun wx => by
        have := run_slice_string (P := Try.prog) wx 9 s .i64 .i64 (i : Int) ((i : Int) + 1) Try.underlying9 (by omega) (by omega) (by omega)
        rw [this, show ((i : Int) + 1).toNat = i + 1 by omega, Int.toNat_natCast, slice1 s i hlt]
      by_cases hsp : isSpecial (byte s i) = true
      · have hnx : (⟨(escTo s i).toArray⟩ : ByteArray) ++ ⟨#[92]⟩ ++ ⟨#[ub s i]⟩ = ⟨(escTo s (i + 1)).toArray⟩ := by
          rw [show (⟨#[92]⟩ : ByteArray) = ⟨[92].toArray⟩ from rfl, show (⟨#[ub s i]⟩ : ByteArray) = ⟨[ub s i].toArray⟩ from rfl, app_list, app_list, escTo_succ]
          simp [esc1, hsp]
        have HNX := Lib.hid hnx
        clear hnx
        go_wp2_with (go_at_call 38; refine (alone_any _ hb _).mono ?_; rintro e w' ⟨rfl, rfl⟩; rw [hsp]; dsimp only)
        go_roundg (s.size - (i + 1))
        case measure => rw [HK.out]; omega
        case rel => exact ⟨i + 1, by go_num, rfl, by omega, by rw [← HNX.out], rfl⟩
      · have hsp2 : isSpecial (byte s i) = false := by simpa using hsp
        have hnx : (⟨(escTo s i).toArray⟩ : ByteArray) ++ ⟨#[ub s i]⟩ = ⟨(escTo s (i + 1)).toArray⟩ := by
          rw [show (⟨#[ub s i]⟩ : ByteArray) = ⟨[ub s i].toArray⟩ from rfl, app_list, escTo_succ]
          simp [esc1, hsp2]
        have HNX := Lib.hid hnx
        clear hnx hsp
        go_wp2_with (go_at_call 38; refine (alone_any _ hb _).mono ?_; rintro e w' ⟨rfl, rfl⟩; rw [hsp2]; dsimp only)
        go_roundg (s.size - (i + 1))
        case measure => rw [HK.out]; omega
        case rel => exact ⟨i + 1, by go_num, rfl, by omega, by rw [← HNX.out], rfl⟩
    · have t1 : ¬ (i : Int) < (s.size : Int) := by omega
      have hie : i = s.size := by omega
      subst hie
      go_wp2
      go_ret
      exact ⟨rfl, rfl⟩

end Go.Proofs.Ytfgghbideoehjaa

namespace Go.Proofs.Ytfgghbideoehjaa
open Go.ChangeShapes Go.WideShapes Go.ChangeAt Go.RowKit
set_option linter.unusedVariables false
set_option linter.unusedSimpArgs false
set_option maxRecDepth 100000

theorem slice_fact (s : ByteArray) (i : Nat) (h : i < s.size) (wx : World) : (Instr.slice 9 (.string s) (some (.int .i64 (i : Int))) (some (.int .i64 ((i : Int) + 1))) none).run Try.prog wx = .ok (.string ⟨#[ub s i]⟩) wx := by
  have := run_slice_string (P := Try.prog) wx 9 s .i64 .i64 (i : Int) ((i : Int) + 1) Try.underlying9 (by omega) (by omega) (by omega)
  rw [this, show ((i : Int) + 1).toNat = i + 1 by omega, Int.toNat_natCast, slice1 s i h]

theorem snoc_ba (l : List UInt8) (x : UInt8) : (⟨l.toArray⟩ : ByteArray) ++ ⟨#[x]⟩ = ⟨(l ++ [x]).toArray⟩ := by
  rw [show (⟨#[x]⟩ : ByteArray) = ⟨[x].toArray⟩ from rfl, app_list]

set_option maxHeartbeats 1000000 in
theorem refLiteral_fn (w : World) (s : ByteArray) (hs : s.size ≤ 1000000) : Calls Try.prog 20 #[.string s] w fun e w' => e = .returned (litRes (litFrom s 0 [])) ∧ w' = w := by
  have hby := get_byte s
  go_enter Try.func20, Try.ntmps20
  go_wp2
  go_loopg [4, 5] s.size (fun k ov iv wr => ∃ (i : Nat) (acc : List UInt8), iv = .int .i64 (i : Int) ∧ k = s.size - i ∧ i ≤ s.size ∧ acc.length ≤ i ∧ litFrom s 0 [] = litFrom s i acc ∧ ov = .string ⟨acc.toArray⟩ ∧ wr = w)
  case atStart => exact ⟨0, [], rfl, rfl, Nat.zero_le _, Nat.le_refl _, rfl, rfl, rfl⟩
  case round =>
    obtain ⟨i, acc, rfl, hk, hi, hal, heq, rfl, rfl⟩ := hrel
    have HK := Lib.hid hk
    have HEQ := Lib.hid heq
    clear hk heq
    have hsz : (⟨acc.toArray⟩ : ByteArray).size ≤ 1000000 := by show acc.toArray.size ≤ _; simp; omega
    by_cases hlt : i < s.size
    · have t1 : (i : Int) < (s.size : Int) := by omega
      have hb := byte_lt s i
      have hb1 := byte_lt s (i + 1)
      by_cases h92 : byte s i = 92
      · have t2 : ((byte s i : Int) == 92) = true := by simp; omega
        have hsp : isSpecial (byte s i) = true := by rw [h92]; decide
        by_cases hlt1 : i + 1 < s.size
        · have t3 : (i : Int) + 1 < (s.size : Int) := by omega
          have t4 : (((i : Int) + 1) == (s.size : Int)) = false := by simp; omega
          cases han : (isDigit (byte s (i + 1)) || isLetter (byte s (i + 1))) with
          | true =>
            have hnx : litFrom s i acc = none := by
              rw [litFrom, dif_pos hlt, if_neg (by rintro ⟨_, _, h3, h4⟩; simp [h3, h4] at han), if_pos hsp]
            have HNX := Lib.hid hnx
            clear hnx h92 hsp
            go_wp2_with (go_at_call 37; refine (alnum_any _ hb1 _).mono ?_; rintro e w' ⟨rfl, rfl⟩; rw [han]; dsimp only)
            go_ret2
            refine ⟨?_, rfl⟩
            rw [HEQ.out, HNX.out]; rfl
          | false =>
            have h2 := Bool.or_eq_false_iff.1 han
            have hnx : litFrom s i acc = litFrom s (i + 2) (acc ++ [ub s (i + 1)]) := by rw [litFrom, dif_pos hlt, if_pos ⟨h92, hlt1, h2.2, h2.1⟩]
            have HNX := Lib.hid hnx
            have hsl := slice_fact s (i + 1) hlt1
            have e1 : (((i + 1 : Nat) : Int)) = (i : Int) + 1 := by omega
            rw [e1] at hsl
            have HS := Lib.hid (snoc_ba acc (ub s (i + 1)))
            clear hnx h92 hsp h2 e1
            go_wp2_with (go_at_call 37; refine (alnum_any _ hb1 _).mono ?_; rintro e w' ⟨rfl, rfl⟩; rw [han]; dsimp only)
            go_roundg (s.size - (i + 2))
            case measure => rw [HK.out]; omega
            case rel => exact ⟨i + 2, acc ++ [ub s (i + 1)], by go_num, rfl, by omega, by simp; omega, HEQ.out.trans HNX.out, by rw [← HS.out], rfl⟩
        · have t3 : ¬ (i : Int) + 1 < (s.size : Int) := by omega
          have t4 : (((i : Int) + 1) == (s.size : Int)) = true := by simp; omega
          have hnx : litFrom s i acc = none := by
            rw [litFrom, dif_pos hlt, if_neg (by rintro ⟨_, h3, _⟩; exact hlt1 h3), if_pos hsp]
          have HNX := Lib.hid hnx
          clear hnx h92 hsp
          go_wp2
          go_ret2
          refine ⟨?_, rfl⟩
          rw [HEQ.out, HNX.out]; rfl
      · have t2 : ((byte s i : Int) == 92) = false := by simp; omega
        cases hsp : isSpecial (byte s i) with
        | true =>
          have hnx : litFrom s i acc = none := by rw [litFrom, dif_pos hlt, if_neg (by rintro ⟨h, _⟩; exact h92 h), if_pos hsp]
          have HNX := Lib.hid hnx
          clear hnx h92
          go_wp2_with (go_at_call 38; refine (alone_any _ hb _).mono ?_; rintro e w' ⟨rfl, rfl⟩; rw [hsp]; dsimp only)
          go_ret2
          refine ⟨?_, rfl⟩
          rw [HEQ.out, HNX.out]; rfl
        | false =>
          have hnx : litFrom s i acc = litFrom s (i + 1) (acc ++ [ub s i]) := by rw [litFrom, dif_pos hlt, if_neg (by rintro ⟨h, _⟩; exact h92 h), if_neg (by rw [hsp]; decide)]
          have HNX := Lib.hid hnx
          have hsl := slice_fact s i hlt
          have HS := Lib.hid (snoc_ba acc (ub s i))
          clear hnx h92
          go_wp2_with (go_at_call 38; refine (alone_any _ hb _).mono ?_; rintro e w' ⟨rfl, rfl⟩; rw [hsp]; dsimp only)
          go_roundg (s.size - (i + 1))
          case measure => rw [HK.out]; omega
          case rel => exact ⟨i + 1, acc ++ [ub s i], by go_num, rfl, by omega, by simp; omega, HEQ.out.trans HNX.out, by rw [← HS.out], rfl⟩
    · have t1 : ¬ (i : Int) < (s.size : Int) := by omega
      have hnx : litFrom s i acc = some acc := by rw [litFrom, dif_neg hlt]
      have HNX := Lib.hid hnx
      clear hnx
      go_wp2
      go_ret2
      refine ⟨?_, rfl⟩
      rw [HEQ.out, HNX.out]; rfl

end Go.Proofs.Ytfgghbideoehjaa

namespace Go.Proofs.Ytfgghbideoehjaa
open Go.ChangeShapes Go.WideShapes Go.ChangeAt Go.RowKit
set_option linter.unusedVariables false
set_option linter.unusedSimpArgs false
set_option maxRecDepth 100000

def standsAt (n s : ByteArray) (a : Nat) : Bool := decide (a + n.size ≤ s.size) && ((s.extract a (a + n.size)).toList == n.toList)

set_option maxHeartbeats 1000000 in
theorem stands_fn (w : World) (n s : ByteArray) (hn : n.size ≤ 1000000) (hs : s.size ≤ 1000000) (a : Nat) (ha : a ≤ 1000000) : Calls Try.prog 39 #[.string n, .string s, .int .i64 (a : Int)] w fun e w' => e = .returned (.bool (standsAt n s a)) ∧ w' = w := by
  have t1 : (a : Int) ≥ 0 := by omega
  by_cases h : a + n.size ≤ s.size
  · have t2 : (a : Int) ≤ (s.size : Int) - (n.size : Int) := by omega
    have hsl : ∀ wx : World, (Instr.slice 9 (.string s) (some (.int .i64 (a : Int))) (some (.int .i64 ((a : Int) + (n.size : Int)))) none).run Try.prog wx = .ok (.string (s.extract a (a + n.size))) wx := fun wx => by
      have := run_slice_string (P := Try.prog) wx 9 s .i64 .i64 (a : Int) ((a : Int) + (n.size : Int)) Try.underlying9 (by omega) (by omega) (by omega)
      rw [this, show ((a : Int) + (n.size : Int)).toNat = a + n.size by omega, Int.toNat_natCast]
    have hv : standsAt n s a = ((s.extract a (a + n.size)).toList == n.toList) := by simp [standsAt, h]
    rw [hv]
    clear hv
    go_enter Try.func39, Try.ntmps39
    go_wp2
    go_ret
    exact ⟨rfl, rfl⟩
  · have t2 : ¬ (a : Int) ≤ (s.size : Int) - (n.size : Int) := by omega
    have hv : standsAt n s a = false := by simp [standsAt, h]
    rw [hv]
    clear hv
    go_enter Try.func39, Try.ntmps39
    go_wp2
    go_ret
    exact ⟨rfl, rfl⟩

/-- The first index, from one on and not before another, at which a text stands. -/
def firstGo (n s : ByteArray) (b i : Nat) : Option Nat :=
  if h : i < s.size then (if b ≤ i ∧ standsAt n s i = true then some i else firstGo n s b (i + 1)) else none
termination_by s.size - i

def firstInt : Option Nat → Int
  | some i => i
  | none => -1

set_option maxHeartbeats 1000000 in
theorem first_fn (w : World) (n s : ByteArray) (hn : n.size ≤ 1000000) (hn0 : 0 < n.size) (hs : s.size ≤ 1000000) (b : Nat) (hb : b ≤ 1000000) : Calls Try.prog 23 #[.string n, .string s, .int .i64 (b : Int)] w fun e w' => e = .returned (.int .i64 (firstInt (firstGo n s b 0))) ∧ w' = w := by
  have hne : n.toList.isEmpty = false := by
    rw [ByteArray.toList_eq]
    cases h : n.data.toList with
    | nil =>
      have h2 : n.data.toList.length = n.size := by simp
      rw [h] at h2
      simp at h2
      omega
    | cons x l => rfl
  go_enter Try.func23, Try.ntmps23
  go_wp2
  go_loopg [10] s.size (fun k iv wr => ∃ (i : Nat), iv = .int .i64 (i : Int) ∧ k = s.size - i ∧ i ≤ s.size ∧ firstGo n s b 0 = firstGo n s b i ∧ wr = w)
  case atStart => exact ⟨0, rfl, rfl, Nat.zero_le _, rfl, rfl⟩
  case round =>
    obtain ⟨i, rfl, hk, hi, heq, rfl⟩ := hrel
    have HK := Lib.hid hk
    have HEQ := Lib.hid heq
    clear hk heq
    by_cases hlt : i < s.size
    · have t1 : (i : Int) < (s.size : Int) := by omega
      by_cases hbi : b ≤ i
      · have t2 : (i : Int) ≥ (b : Int) := by omega
        cases hst : standsAt n s i with
        | true =>
          have hnx : firstGo n s b i = some i := by rw [firstGo, dif_pos hlt, if_pos ⟨hbi, hst⟩]
          have HNX := Lib.hid hnx
          clear hnx
          go_wp2_with (go_at_call 39; refine (stands_fn _ n s hn hs i (by omega)).mono ?_; rintro e w' ⟨rfl, rfl⟩; rw [hst]; dsimp only)
          go_ret
          refine ⟨?_, rfl⟩
          rw [HEQ.out, HNX.out]; rfl
        | false =>
          have hnx : firstGo n s b i = firstGo n s b (i + 1) := by rw [firstGo, dif_pos hlt, if_neg (by rw [hst]; simp)]
          have HNX := Lib.hid hnx
          clear hnx
          go_wp2_with (go_at_call 39; refine (stands_fn _ n s hn hs i (by omega)).mono ?_; rintro e w' ⟨rfl, rfl⟩; rw [hst]; dsimp only)
          go_roundg (s.size - (i + 1))
          case measure => rw [HK.out]; omega
          case rel => exact ⟨i + 1, by go_num, rfl, by omega, HEQ.out.trans HNX.out, rfl⟩
      · have t2 : ¬ (i : Int) ≥ (b : Int) := by omega
        have hnx : firstGo n s b i = firstGo n s b (i + 1) := by rw [firstGo, dif_pos hlt, if_neg (by rintro ⟨h, _⟩; exact hbi h)]
        have HNX := Lib.hid hnx
        clear hnx
        go_wp2
        go_roundg (s.size - (i + 1))
        case measure => rw [HK.out]; omega
        case rel => exact ⟨i + 1, by go_num, rfl, by omega, HEQ.out.trans HNX.out, rfl⟩
    · have t1 : ¬ (i : Int) < (s.size : Int) := by omega
      have hnx : firstGo n s b i = none := by rw [firstGo, dif_neg hlt]
      have HNX := Lib.hid hnx
      clear hnx
      go_wp2
      go_ret
      refine ⟨?_, rfl⟩
      rw [HEQ.out, HNX.out]; rfl

end Go.Proofs.Ytfgghbideoehjaa
