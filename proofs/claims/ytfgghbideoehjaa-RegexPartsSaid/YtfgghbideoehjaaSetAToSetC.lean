/-
  Sets of bytes and bytes.
  Bytes: digits, letters, word bytes, special bytes; the other operations on sets.
  class and plain: what an escape is.
-/
import Derived.Test.YtfgghbideoehjaaMemToParseA
import Derived.Test.YtfgghbideoehjaaShelf
import Derived.LoopTactic
import Derived.RegionTactic
import Derived.WalkLawsBesides
import Derived.Handy
namespace Go.Proofs.Ytfgghbideoehjaa
open Go.ChangeShapes Go.WideShapes Go.ChangeAt Go.RowKit
set_option linter.unusedVariables false
set_option maxRecDepth 100000


def BSet.word (s : BSet) : Nat → Nat
  | 0 => s.a
  | 1 => s.b
  | 2 => s.c
  | _ => s.d
def BSet.setWord (s : BSet) (q v : Nat) : BSet :=
  match q with
  | 0 => { s with a := v }
  | 1 => { s with b := v }
  | 2 => { s with c := v }
  | _ => { s with d := v }
def BSet.add (s : BSet) (x : Nat) : BSet := s.setWord (x / 64) (s.word (x / 64) ||| 2 ^ (x % 64))


structure BSet.WF (s : BSet) : Prop where
  a : s.a < 18446744073709551616
  b : s.b < 18446744073709551616
  c : s.c < 18446744073709551616
  d : s.d < 18446744073709551616

def BSet.adds (s : BSet) (lo k : Nat) : BSet := (List.range' lo (k - lo)).foldl BSet.add s

theorem BSet.adds_succ (s : BSet) (lo k : Nat) (h : lo ≤ k) : s.adds lo (k + 1) = (s.adds lo k).add k := by
  unfold BSet.adds
  rw [show k + 1 - lo = (k - lo) + 1 by omega, List.range'_concat, List.foldl_append]
  simp only [List.foldl_cons, List.foldl_nil]
  rw [show lo + 1 * (k - lo) = k by omega]


theorem BSet.WF.word {s : BSet} (h : s.WF) (q : Nat) : s.word q < 18446744073709551616 := by
  unfold BSet.word; split
  · exact h.a
  · exact h.b
  · exact h.c
  · exact h.d

theorem pow63 (r : Nat) (h : r < 64) : (2 : Nat) ^ r < 18446744073709551616 :=
  Nat.lt_of_lt_of_le (Nat.pow_lt_pow_right (by decide) h) (by decide)

theorem or_pow (a r : Nat) (ha : a < 18446744073709551616) (h : r < 64) : bits BinOp.or IntKind.u64 (a : Int) (IntKind.u64.wrap (2 ^ r)) = ((a ||| 2 ^ r : Nat) : Int) := by
  have h2 := pow63 r h
  have e : IntKind.u64.wrap (2 ^ r) = ((2 ^ r : Nat) : Int) := by
    rw [IntKind.wrap_u64]
    have : ((2 ^ r : Nat) : Int) = (2 : Int) ^ r := by push_cast; rfl
    rw [← this]; exact Int.emod_eq_of_lt (Int.natCast_nonneg _) (Int.ofNat_lt.2 h2)
  rw [e, bits_or_u64_nat a (2 ^ r) ha h2]

theorem BSet.WF.add {s : BSet} (h : s.WF) {x : Nat} (hx : x < 256) : (s.add x).WF := by
  have hw := h.word (x / 64)
  have hp := pow63 (x % 64) (Nat.mod_lt _ (by decide))
  have ho : s.word (x / 64) ||| 2 ^ (x % 64) < 18446744073709551616 := Nat.or_lt_two_pow (n := 64) hw hp
  unfold BSet.add BSet.setWord
  split
  · exact ⟨ho, h.b, h.c, h.d⟩
  · exact ⟨h.a, ho, h.c, h.d⟩
  · exact ⟨h.a, h.b, ho, h.d⟩
  · exact ⟨h.a, h.b, h.c, ho⟩

theorem BSet.WF.adds {s : BSet} (h : s.WF) {lo k : Nat} (hk : k ≤ 256) (hlk : lo ≤ k) : (s.adds lo k).WF := by
  induction k with
  | zero => simpa [BSet.adds] using h
  | succ k ih =>
    by_cases e : lo = k + 1
    · subst e; simpa [BSet.adds] using h
    · rw [BSet.adds_succ _ _ _ (by omega)]
      exact (ih (by omega) (by omega)).add (by omega)

def BSet.zero : BSet := ⟨0, 0, 0, 0⟩
theorem BSet.zero_wf : BSet.zero.WF := ⟨by decide, by decide, by decide, by decide⟩

/-- All bytes from lo to hi. -/
def BSet.range (s : BSet) (lo hi : Nat) : BSet := s.adds lo (max lo (hi + 1))

set_option maxHeartbeats 1000000 in
theorem with_any (s : BSet) (hs : s.WF) (lo hi : Nat) (hlo : lo < 256) (hhi : hi < 256) (w : World) : Calls Try.prog 60 #[.agg s.vals.toArray, .int .u8 (lo : Int), .int .u8 (hi : Int)] w fun e w' => e = .returned (.agg (s.range lo hi).vals.toArray) ∧ Below w.heap.size w w' := by
  simp only [BSet.vals]
  have hlo' : (lo : Int) < 256 := by omega
  have hhi' : (hi : Int) < 256 := by omega
  go_enter Try.func60, Try.ntmps60
  go_wp2
  go_loopw [7] (fun i wr => ∃ (k : Nat) (t : BSet), i = .int .i64 (k : Int) ∧ lo ≤ k ∧ k ≤ 256 ∧ (k ≤ hi + 1 ∨ k = lo) ∧ t = s.adds lo k ∧ wr.heap[w.heap.size]? = some (.cells t.vals.toArray 97 (0, 0)) ∧
      wr.heap[w.heap.size + 1]? = some (.cells #[.int .u64 0, .int .u64 0, .int .u64 0, .int .u64 0] 97 (0, 0)) ∧ Below w.heap.size w wr) (fun i _ => 256 - (intOf i).toNat)
  case atStart =>
    exact ⟨lo, s, rfl, Nat.le_refl _, by omega, .inr rfl, by simp [BSet.adds], heap_alloc2_old w _ _, heap_alloc2_new w _ _, ((Below.refl _ w).alloc (Nat.le_refl _) _).alloc (by simp) _⟩
  case round =>
    obtain ⟨k, t, rfl, hk1, hk2, hk3, ht, hb0, hb1, hbel⟩ := hrel
    have htw : t.WF := by rw [ht]; exact hs.adds hk2 hk1
    by_cases hlt : k ≤ hi
    · have hq : k / 64 = 0 ∨ k / 64 = 1 ∨ k / 64 = 2 ∨ k / 64 = 3 := by omega
      have H0 := Lib.hid hb0
      have H1 := Lib.hid hb1
      have HB := Lib.hid hbel
      have HT := Lib.hid ht
      have HW := Lib.hid htw
      clear hb1 hbel ht htw
      rcases hq with hq | hq | hq | hq
      · have c0 := cell_of_row _ _ 0 _ _ _ hb0
        have f0 := frozen_of_row _ _ 0 _ _ hb0
        simp only [BSet.vals] at c0
        clear hb0
        have hd : (k : Int) / 64 = 0 := by omega
        go_wp2
        go_region
        go_wp2
        go_roundw
        case rel =>
          refine ⟨k + 1, t.add k, by go_num, by omega, by omega, .inl (by omega), by rw [BSet.adds_succ _ _ _ hk1, HT.out], ?_, ?_, ?_⟩
          · have h := heap_setCell_same _ _ 0 _ _ (.int .u64 (((t.a ||| 2 ^ (k % 64) : Nat)) : Int)) H0.out
            rw [or_pow t.a (k % 64) HW.out.a (Nat.mod_lt _ (by decide))]
            refine h.trans ?_
            simp only [BSet.add, hq, BSet.setWord, BSet.vals]
            rfl
          · exact (heap_setCell_other _ _ _ _ (by simp)).trans H1.out
          · exact ((HB.out.setCell (by simp) _)).drew
        case measure => simp [intOf]; omega
      · have c0 := cell_of_row _ _ 1 _ _ _ hb0
        have f0 := frozen_of_row _ _ 1 _ _ hb0
        simp only [BSet.vals] at c0
        clear hb0
        have hd : (k : Int) / 64 = 1 := by omega
        go_wp2
        go_region
        go_wp2
        go_roundw
        case rel =>
          refine ⟨k + 1, t.add k, by go_num, by omega, by omega, .inl (by omega), by rw [BSet.adds_succ _ _ _ hk1, HT.out], ?_, ?_, ?_⟩
          · have h := heap_setCell_same _ _ 1 _ _ (.int .u64 (((t.b ||| 2 ^ (k % 64) : Nat)) : Int)) H0.out
            rw [or_pow t.b (k % 64) HW.out.b (Nat.mod_lt _ (by decide))]
            refine h.trans ?_
            simp only [BSet.add, hq, BSet.setWord, BSet.vals]
            rfl
          · exact (heap_setCell_other _ _ _ _ (by simp)).trans H1.out
          · exact ((HB.out.setCell (by simp) _)).drew
        case measure => simp [intOf]; omega
      · have c0 := cell_of_row _ _ 2 _ _ _ hb0
        have f0 := frozen_of_row _ _ 2 _ _ hb0
        simp only [BSet.vals] at c0
        clear hb0
        have hd : (k : Int) / 64 = 2 := by omega
        go_wp2
        go_region
        go_wp2
        go_roundw
        case rel =>
          refine ⟨k + 1, t.add k, by go_num, by omega, by omega, .inl (by omega), by rw [BSet.adds_succ _ _ _ hk1, HT.out], ?_, ?_, ?_⟩
          · have h := heap_setCell_same _ _ 2 _ _ (.int .u64 (((t.c ||| 2 ^ (k % 64) : Nat)) : Int)) H0.out
            rw [or_pow t.c (k % 64) HW.out.c (Nat.mod_lt _ (by decide))]
            refine h.trans ?_
            simp only [BSet.add, hq, BSet.setWord, BSet.vals]
            rfl
          · exact (heap_setCell_other _ _ _ _ (by simp)).trans H1.out
          · exact ((HB.out.setCell (by simp) _)).drew
        case measure => simp [intOf]; omega
      · have c0 := cell_of_row _ _ 3 _ _ _ hb0
        have f0 := frozen_of_row _ _ 3 _ _ hb0
        simp only [BSet.vals] at c0
        clear hb0
        have hd : (k : Int) / 64 = 3 := by omega
        go_wp2
        go_region
        go_wp2
        go_roundw
        case rel =>
          refine ⟨k + 1, t.add k, by go_num, by omega, by omega, .inl (by omega), by rw [BSet.adds_succ _ _ _ hk1, HT.out], ?_, ?_, ?_⟩
          · have h := heap_setCell_same _ _ 3 _ _ (.int .u64 (((t.d ||| 2 ^ (k % 64) : Nat)) : Int)) H0.out
            rw [or_pow t.d (k % 64) HW.out.d (Nat.mod_lt _ (by decide))]
            refine h.trans ?_
            simp only [BSet.add, hq, BSet.setWord, BSet.vals]
            rfl
          · exact (heap_setCell_other _ _ _ _ (by simp)).trans H1.out
          · exact ((HB.out.setCell (by simp) _)).drew
        case measure => simp [intOf]; omega
    · have H0 := Lib.hid hb0
      have H1 := Lib.hid hb1
      have HB := Lib.hid hbel
      have HT := Lib.hid ht
      have c0 := cell_of_row _ _ 0 _ _ _ hb0
      have c1 := cell_of_row _ _ 1 _ _ _ hb0
      have c2 := cell_of_row _ _ 2 _ _ _ hb0
      have c3 := cell_of_row _ _ 3 _ _ _ hb0
      have e0 := cell_of_row _ _ 0 _ _ _ hb1
      have e1 := cell_of_row _ _ 1 _ _ _ hb1
      have e2 := cell_of_row _ _ 2 _ _ _ hb1
      have e3 := cell_of_row _ _ 3 _ _ _ hb1
      have f0 := frozen_of_row _ _ 0 _ _ hb1
      have f1 := frozen_of_row _ _ 1 _ _ hb1
      have f2 := frozen_of_row _ _ 2 _ _ hb1
      have f3 := frozen_of_row _ _ 3 _ _ hb1
      simp only [BSet.vals] at c0 c1 c2 c3
      clear hb0 hb1 hbel ht htw
      have hlt' : ¬ (k : Int) ≤ (hi : Int) := by omega
      go_wp2
      have g0 := heap_setCell_same _ _ 0 _ _ (.int .u64 (t.a : Int)) H1.out
      have g1 := heap_setCell_same _ _ 1 _ _ (.int .u64 (t.b : Int)) g0
      have g2 := heap_setCell_same _ _ 2 _ _ (.int .u64 (t.c : Int)) g1
      have g3 := heap_setCell_same _ _ 3 _ _ (.int .u64 (t.d : Int)) g2
      refine bodyPost_ret (results_cell_row (p := 6) (ty := 97) (by kernel_rfl) _ _ (w.heap.size + 1) 97 _ (0, 0) _ rfl g3 Try.underlying97 (by kernel_rfl) (by kernel_rfl)) rfl ⟨?_, ?_⟩
      · have e : s.range lo hi = t := by
          rw [HT.out]; unfold BSet.range; congr 1; omega
        rw [e]; rfl
      · exact (((HB.out.setCell (by simp) _).setCell (by simp) _).setCell (by simp) _).setCell (by simp) _
end Go.Proofs.Ytfgghbideoehjaa

namespace Go.Proofs.Ytfgghbideoehjaa
open Go.ChangeShapes Go.WideShapes Go.ChangeAt Go.RowKit
set_option linter.unusedVariables false
set_option maxRecDepth 100000

def isDigit (c : Nat) : Bool := decide (48 ≤ c) && decide (c ≤ 57)
def isLetter (c : Nat) : Bool := (decide (97 ≤ c) && decide (c ≤ 122)) || (decide (65 ≤ c) && decide (c ≤ 90))
def isWord (c : Nat) : Bool := isLetter c || isDigit c || decide (c = 95)

theorem ret_bool {a b : Bool} (h : a = b) : Ending.returned (.bool a) = Ending.returned (.bool b) := by rw [h]

set_option maxHeartbeats 400000 in
theorem digit_any (c : Nat) (hc : c < 256) (w : World) : Calls Try.prog 33 #[.int .u8 (c : Int)] w fun e w' => e = .returned (.bool (isDigit c)) ∧ w = w' := by
  by_cases h1 : 48 ≤ c
  · have h1' : (48 : Int) ≤ c := by omega
    by_cases h2 : c ≤ 57
    · have h2' : (c : Int) ≤ 57 := by omega
      go_enter Try.func33, Try.ntmps33
      go_wp2
      go_ret
      exact ⟨ret_bool (by simp [isDigit, h1, h2]), rfl⟩
    · have h2' : ¬ (c : Int) ≤ 57 := by omega
      go_enter Try.func33, Try.ntmps33
      go_wp2
      go_ret
      exact ⟨ret_bool (by simp [isDigit, h2]), rfl⟩
  · have h1' : ¬ (48 : Int) ≤ c := by omega
    go_enter Try.func33, Try.ntmps33
    go_wp2
    go_ret
    exact ⟨ret_bool (by simp [isDigit, h1]), rfl⟩

set_option maxHeartbeats 400000 in
theorem letter_any (c : Nat) (hc : c < 256) (w : World) : Calls Try.prog 32 #[.int .u8 (c : Int)] w fun e w' => e = .returned (.bool (isLetter c)) ∧ w = w' := by
  have hcase : (97 ≤ c ∧ c ≤ 122) ∨ (122 < c) ∨ (65 ≤ c ∧ c ≤ 90) ∨ (90 < c ∧ c < 97) ∨ c < 65 := by omega
  rcases hcase with ⟨a, b⟩ | a | ⟨a, b⟩ | ⟨a, b⟩ | a
  · have h1 : (97 : Int) ≤ c := by omega
    have h2 : (c : Int) ≤ 122 := by omega
    go_enter Try.func32, Try.ntmps32
    go_wp2
    go_ret
    exact ⟨ret_bool (by simp [isLetter]; omega), rfl⟩
  · have h1 : (97 : Int) ≤ c := by omega
    have h2 : ¬ (c : Int) ≤ 122 := by omega
    have h3 : (65 : Int) ≤ c := by omega
    have h4 : ¬ (c : Int) ≤ 90 := by omega
    go_enter Try.func32, Try.ntmps32
    go_wp2
    go_ret
    exact ⟨ret_bool (by simp [isLetter]; omega), rfl⟩
  · have h1 : ¬ (97 : Int) ≤ c := by omega
    have h3 : (65 : Int) ≤ c := by omega
    have h4 : (c : Int) ≤ 90 := by omega
    go_enter Try.func32, Try.ntmps32
    go_wp2
    go_ret
    exact ⟨ret_bool (by simp [isLetter]; omega), rfl⟩
  · have h1 : ¬ (97 : Int) ≤ c := by omega
    have h3 : (65 : Int) ≤ c := by omega
    have h4 : ¬ (c : Int) ≤ 90 := by omega
    go_enter Try.func32, Try.ntmps32
    go_wp2
    go_ret
    exact ⟨ret_bool (by simp [isLetter]; omega), rfl⟩
  · have h1 : ¬ (97 : Int) ≤ c := by omega
    have h3 : ¬ (65 : Int) ≤ c := by omega
    go_enter Try.func32, Try.ntmps32
    go_wp2
    go_ret
    exact ⟨ret_bool (by simp [isLetter]; omega), rfl⟩

def spec12 : List UInt8 := [92, 91, 40, 41, 124, 42, 43, 63, 123, 94, 36, 46]
def isSpecial (c : Nat) : Bool := decide (0 ≤ Lib.indexByte spec12 (c : Int).toNat.toUInt8)

set_option maxHeartbeats 400000 in
theorem special_any (c : Nat) (hc : c < 256) (w : World) : Calls Try.prog 34 #[.int .u8 (c : Int)] w fun e w' => e = .returned (.bool (isSpecial c)) ∧ w = w' := by
  go_enter Try.func34, Try.ntmps34
  go_wp2_with (go_at_call 65; refine (Try.strings_IndexByte _ _ _).mono ?_; rintro e w' ⟨rfl, rfl⟩)
  go_ret
  exact ⟨rfl, rfl⟩


set_option maxHeartbeats 400000 in
theorem word_any (c : Nat) (hc : c < 256) (w : World) : Calls Try.prog 72 #[.int .u8 (c : Int)] w fun e w' => e = .returned (.bool (isWord c)) ∧ w = w' := by
  by_cases h1 : isLetter c = true
  · go_enter Try.func72, Try.ntmps72
    go_wp2_with (first | (go_at_call 32; refine (letter_any c hc _).mono ?_; rintro e w' ⟨rfl, rfl⟩) | (go_at_call 33; refine (digit_any c hc _).mono ?_; rintro e w' ⟨rfl, rfl⟩))
    go_ret
    exact ⟨ret_bool (by simp [isWord, h1]), rfl⟩
  · by_cases h2 : isDigit c = true
    · have h1' : isLetter c = false := by simpa using h1
      clear h1
      go_enter Try.func72, Try.ntmps72
      go_wp2_with (first | (go_at_call 32; refine (letter_any c hc _).mono ?_; rintro e w' ⟨rfl, rfl⟩) | (go_at_call 33; refine (digit_any c hc _).mono ?_; rintro e w' ⟨rfl, rfl⟩))
      go_ret
      exact ⟨ret_bool (by simp [isWord, h2]), rfl⟩
    · have h1' : isLetter c = false := by simpa using h1
      have h2' : isDigit c = false := by simpa using h2
      clear h1 h2
      by_cases h3 : c = 95
      · have h3' : ((c : Int) == 95) = true := by subst h3; rfl
        clear h3
        go_enter Try.func72, Try.ntmps72
        go_wp2_with (first | (go_at_call 32; refine (letter_any c hc _).mono ?_; rintro e w' ⟨rfl, rfl⟩) | (go_at_call 33; refine (digit_any c hc _).mono ?_; rintro e w' ⟨rfl, rfl⟩))
        go_ret
        exact ⟨ret_bool (by have h : c = 95 := by have := h3'; simp at this; omega
                            simp [isWord, h]), rfl⟩
      · have h3' : ((c : Int) == 95) = false := by simp; omega
        go_enter Try.func72, Try.ntmps72
        go_wp2_with (first | (go_at_call 32; refine (letter_any c hc _).mono ?_; rintro e w' ⟨rfl, rfl⟩) | (go_at_call 33; refine (digit_any c hc _).mono ?_; rintro e w' ⟨rfl, rfl⟩))
        go_ret
        exact ⟨ret_bool (by simp [isWord, h1', h2', h3]), rfl⟩

def BSet.not (s : BSet) : BSet := ⟨18446744073709551615 - s.a, 18446744073709551615 - s.b, 18446744073709551615 - s.c, 18446744073709551615 - s.d⟩

theorem xor_max (a : Nat) (ha : a < 18446744073709551616) : bits BinOp.xor IntKind.u64 IntKind.u64.max (a : Int) = ((18446744073709551615 - a : Nat) : Int) := by
  have e : IntKind.u64.max = ((18446744073709551615 : Nat) : Int) := by rfl
  rw [e, bits_xor_u64_nat _ a (by decide) ha]
  congr 1
  apply Nat.eq_of_testBit_eq
  intro i
  have h1 : (18446744073709551615 : Nat) = 2 ^ 64 - 1 := by decide
  have h2 : 18446744073709551615 - a = 2 ^ 64 - (a + 1) := by omega
  rw [Nat.testBit_xor, h2, Nat.testBit_two_pow_sub_succ (by omega), h1, Nat.testBit_two_pow_sub_one]
  by_cases hi : i < 64
  · simp [hi]
  · simp [hi]
    exact Nat.testBit_lt_two_pow (Nat.lt_of_lt_of_le ha (by
      have : (18446744073709551616 : Nat) = 2 ^ 64 := by decide
      rw [this]; exact Nat.pow_le_pow_right (by decide) (by omega)))

theorem BSet.WF.not {s : BSet} (h : s.WF) : s.not.WF := by
  constructor <;> simp only [BSet.not] <;> omega

set_option maxHeartbeats 400000 in
theorem not_any (s : BSet) (hs : s.WF) (w : World) : Calls Try.prog 59 #[.agg s.vals.toArray] w fun e w' => e = .returned (.agg s.not.vals.toArray) ∧ Below w.heap.size w w' := by
  have ha := xor_max s.a hs.a
  have hb := xor_max s.b hs.b
  have hcc := xor_max s.c hs.c
  have hd := xor_max s.d hs.d
  have hsg : IntKind.u64.signed = false := rfl
  have HE : (Value.agg s.not.vals.toArray) = Value.agg #[.int .u64 ((18446744073709551615 - s.a : Nat) : Int), .int .u64 ((18446744073709551615 - s.b : Nat) : Int), .int .u64 ((18446744073709551615 - s.c : Nat) : Int), .int .u64 ((18446744073709551615 - s.d : Nat) : Int)] := rfl
  rw [HE]
  simp only [BSet.vals]
  clear HE
  generalize 18446744073709551615 - s.a = xa at *
  generalize 18446744073709551615 - s.b = xb at *
  generalize 18446744073709551615 - s.c = xc at *
  generalize 18446744073709551615 - s.d = xd at *
  go_enter Try.func59, Try.ntmps59
  go_wp2
  go_returns
  exact ⟨rfl, ((Below.refl _ w).alloc (Nat.le_refl _) _).alloc (by simp) _⟩
def BSet.union (s t : BSet) : BSet := ⟨s.a ||| t.a, s.b ||| t.b, s.c ||| t.c, s.d ||| t.d⟩
theorem BSet.WF.union {s t : BSet} (h : s.WF) (k : t.WF) : (s.union t).WF :=
  ⟨Nat.or_lt_two_pow (n := 64) h.a k.a, Nat.or_lt_two_pow (n := 64) h.b k.b, Nat.or_lt_two_pow (n := 64) h.c k.c, Nat.or_lt_two_pow (n := 64) h.d k.d⟩

set_option maxHeartbeats 400000 in
theorem join_any (s t : BSet) (hs : s.WF) (ht : t.WF) (w : World) : Calls Try.prog 76 #[.agg s.vals.toArray, .agg t.vals.toArray] w fun e w' => e = .returned (.agg (s.union t).vals.toArray) ∧ Below w.heap.size w w' := by
  have ha := bits_or_u64_nat s.a t.a hs.a ht.a
  have hb := bits_or_u64_nat s.b t.b hs.b ht.b
  have hcc := bits_or_u64_nat s.c t.c hs.c ht.c
  have hd := bits_or_u64_nat s.d t.d hs.d ht.d
  simp only [BSet.vals, BSet.union]
  go_enter Try.func76, Try.ntmps76
  go_wp2
  go_returns
  exact ⟨rfl, (((Below.refl _ w).alloc (Nat.le_refl _) _).alloc (by simp) _).alloc (by simp; omega) _⟩


theorem with_int {v : Value} {s : BSet} (hv : v = .agg s.vals.toArray) (hs : s.WF) {lo hi : Int} (h1 : 0 ≤ lo) (h2 : lo < 256) (h3 : 0 ≤ hi) (h4 : hi < 256) (w : World) :
    Calls Try.prog 60 #[v, .int .u8 lo, .int .u8 hi] w fun e w' => e = .returned (.agg (s.range lo.toNat hi.toNat).vals.toArray) ∧ Below w.heap.size w w' := by
  subst hv
  obtain ⟨l, rfl⟩ := Int.eq_ofNat_of_zero_le h1
  obtain ⟨k, rfl⟩ := Int.eq_ofNat_of_zero_le h3
  exact with_any s hs l k (by omega) (by omega) w

theorem BSet.WF.range {s : BSet} (h : s.WF) {lo hi : Nat} (h1 : lo < 256) (h2 : hi < 256) : (s.range lo hi).WF := by
  unfold BSet.range; exact h.adds (by omega) (by omega)

def BSet.has (s : BSet) (x : Nat) : Bool := decide (s.word (x / 64) / 2 ^ (x % 64) % 2 = 1)

theorem has_bits (a r : Nat) (ha : a < 18446744073709551616) : (bits BinOp.and IntKind.u64 ((a : Int) / 2 ^ r) 1 == 1) = decide (a / 2 ^ r % 2 = 1) := by
  have e : ((a : Int) / 2 ^ r) = ((a / 2 ^ r : Nat) : Int) := by push_cast; rfl
  have hlt : a / 2 ^ r < 18446744073709551616 := Nat.lt_of_le_of_lt (Nat.div_le_self _ _) ha
  have h := bits_and_u64_nat (a / 2 ^ r) 1 hlt (by decide)
  rw [e]
  have h1 : ((1 : Nat) : Int) = 1 := rfl
  rw [← h1, h, Nat.and_one_is_mod]
  rw [Bool.eq_iff_iff]
  simp
  omega

set_option maxHeartbeats 1000000 in
theorem has_any (s : BSet) (hs : s.WF) (x : Nat) (hx : x < 256) (w : World) : Calls Try.prog 46 #[.agg s.vals.toArray, .int .u8 (x : Int)] w fun e w' => e = .returned (.bool (s.has x)) ∧ Below w.heap.size w w' := by
  have hq : x / 64 = 0 ∨ x / 64 = 1 ∨ x / 64 = 2 ∨ x / 64 = 3 := by omega
  obtain ⟨r, hr, hm⟩ : ∃ r : Nat, r < 64 ∧ (x : Int) % 64 = (r : Int) := ⟨x % 64, Nat.mod_lt _ (by decide), by omega⟩
  have hr2 : x % 64 = r := by omega
  have ha := hs.a
  have hb := hs.b
  have hc := hs.c
  have hd := hs.d
  have HS := Lib.hid hs
  have HR := Lib.hid hr2
  clear hs hr2
  simp only [BSet.vals]
  rcases hq with hq | hq | hq | hq
  · have hq' : (x : Int) / 64 = 0 := by omega
    have HQ := Lib.hid hq
    clear hq
    go_enter Try.func46, Try.ntmps46
    go_wp2
    go_ret
    exact ⟨ret_bool (by rw [has_bits _ _ ha]; simp only [BSet.has, HQ.out, HR.out, BSet.word]), (Below.refl _ w).alloc (Nat.le_refl _) _⟩
  · have hq' : (x : Int) / 64 = 1 := by omega
    have HQ := Lib.hid hq
    clear hq
    go_enter Try.func46, Try.ntmps46
    go_wp2
    go_ret
    exact ⟨ret_bool (by rw [has_bits _ _ hb]; simp only [BSet.has, HQ.out, HR.out, BSet.word]), (Below.refl _ w).alloc (Nat.le_refl _) _⟩
  · have hq' : (x : Int) / 64 = 2 := by omega
    have HQ := Lib.hid hq
    clear hq
    go_enter Try.func46, Try.ntmps46
    go_wp2
    go_ret
    exact ⟨ret_bool (by rw [has_bits _ _ hc]; simp only [BSet.has, HQ.out, HR.out, BSet.word]), (Below.refl _ w).alloc (Nat.le_refl _) _⟩
  · have hq' : (x : Int) / 64 = 3 := by omega
    have HQ := Lib.hid hq
    clear hq
    go_enter Try.func46, Try.ntmps46
    go_wp2
    go_ret
    exact ⟨ret_bool (by rw [has_bits _ _ hd]; simp only [BSet.has, HQ.out, HR.out, BSet.word]), (Below.refl _ w).alloc (Nat.le_refl _) _⟩

end Go.Proofs.Ytfgghbideoehjaa

namespace Go.Proofs.Ytfgghbideoehjaa
open Go.ChangeShapes Go.WideShapes Go.ChangeAt Go.RowKit
set_option linter.unusedVariables false
set_option maxRecDepth 100000

def clsD : BSet := BSet.zero.range 48 57
def clsS : BSet := (BSet.zero.range 9 13).range 32 32
def clsW : BSet := (((BSet.zero.range 48 57).range 97 122).range 65 90).range 95 95
def classOf (c : Nat) : Option BSet := if c = 100 then some clsD else if c = 115 then some clsS else if c = 119 then some clsW else none

theorem zero_val : (Value.agg #[.int .u64 0, .int .u64 0, .int .u64 0, .int .u64 0]) = .agg BSet.zero.vals.toArray := rfl

set_option maxHeartbeats 400000 in
theorem class_none (c : Nat) (hc : c < 256) (h : classOf c = none) (w : World) : Calls Try.prog 73 #[.int .u8 (c : Int)] w fun e w' => e = .returned (.tuple #[.agg BSet.zero.vals.toArray, .bool false]) ∧ Below w.heap.size w w' := by
  have h1 : ((c : Int) == 100) = false := by simp; intro e; have : c = 100 := by omega
                                             subst this; simp [classOf] at h
  have h2 : ((c : Int) == 115) = false := by simp; intro e; have : c = 115 := by omega
                                             subst this; simp [classOf] at h
  have h3 : ((c : Int) == 119) = false := by simp; intro e; have : c = 119 := by omega
                                             subst this; simp [classOf] at h
  clear h
  go_enter Try.func73, Try.ntmps73
  go_wp2
  go_returns
  exact ⟨rfl, ((Below.refl _ w).alloc (Nat.le_refl _) _).alloc (by simp) _⟩

/-- All old cells and marks read as before. -/
theorem bcell {W w1 : World} (hb : Below W.heap.size W w1) : (∀ b o, b < W.heap.size → w1.cell? ⟨b, o, none⟩ = W.cell? ⟨b, o, none⟩) ∧ (∀ b o, b < W.heap.size → w1.frozen? ⟨b, o, none⟩ = W.frozen? ⟨b, o, none⟩) :=
  ⟨fun b o h => hb.cell (p := ⟨b, o, none⟩) h, fun b o h => hb.frozen (p := ⟨b, o, none⟩) h⟩

theorem with_open {v : Value} {s : BSet} (hv : v = .agg s.vals.toArray) (hs : s.WF) {lo hi : Int} (h1 : 0 ≤ lo) (h2 : lo < 256) (h3 : 0 ≤ hi) (h4 : hi < 256) (w : World) :
    Calls Try.prog 60 #[v, .int .u8 lo, .int .u8 hi] w fun e w' => ∃ t : BSet, t = s.range lo.toNat hi.toNat ∧ t.WF ∧ e = .returned (.agg #[.int .u64 (t.a : Int), .int .u64 (t.b : Int), .int .u64 (t.c : Int), .int .u64 (t.d : Int)]) ∧ Below w.heap.size w w' :=
  (with_int hv hs h1 h2 h3 h4 w).mono fun e w' ⟨he, hb⟩ => ⟨_, rfl, hs.range (by omega) (by omega), he, hb⟩

theorem results_cell_tmp {P : Program} {fn : Func} {p q : Tmp} {ty : TypeId} (h : fn.results = #[.cell p ty, .tmp q]) (tmps : Array Value) (w : World) (g : Nat) (t : TypeId) (cs : Array Value) (fr : Nat × Nat) (d : TypeDesc)
    (hp : tmps.getD p undef = .pointer (some ⟨g, 0, none⟩)) (hg : w.heap[g]? = some (.cells cs t fr))
    (hu : P.underlying ty = some d) (hd : (match d with | .struct _ | .array _ _ => true | _ => false) = true) (hi : (P.info? ty).map (·.size) = some cs.size) :
    (results fn tmps).run P w = .ok (.tuple #[.agg cs, tmps.getD q undef]) w := by
  have hp' : tmps[p]?.getD undef = .pointer (some ⟨g, 0, none⟩) := by simpa using hp
  simp [results, h, hp', asAddr, run_loadVar_row w g t ty cs fr d hg hu hd hi]

abbrev zcells : Obj := .cells #[Value.int IntKind.u64 0, Value.int IntKind.u64 0, Value.int IntKind.u64 0, Value.int IntKind.u64 0] 97

theorem set4 {w : World} {b : Nat} {t : BSet} (h : w.heap[b]? = some zcells) :
    ((((w.setCell ⟨b, 0, none⟩ (.int .u64 (t.a : Int))).setCell ⟨b, 1, none⟩ (.int .u64 (t.b : Int))).setCell ⟨b, 2, none⟩ (.int .u64 (t.c : Int))).setCell ⟨b, 3, none⟩ (.int .u64 (t.d : Int))).heap[b]? = some (.cells t.vals.toArray 97 (0, 0)) :=
  heap_setCell_same _ _ 3 _ _ (.int .u64 (t.d : Int)) (heap_setCell_same _ _ 2 _ _ (.int .u64 (t.c : Int)) (heap_setCell_same _ _ 1 _ _ (.int .u64 (t.b : Int)) (heap_setCell_same _ _ 0 _ _ (.int .u64 (t.a : Int)) h)))

theorem set4_below {B : Nat} {w w' : World} {b : Nat} {v0 v1 v2 v3 : Value} (h : Below B w w') (hb : B ≤ b) :
    Below B w ((((w'.setCell ⟨b, 0, none⟩ v0).setCell ⟨b, 1, none⟩ v1).setCell ⟨b, 2, none⟩ v2).setCell ⟨b, 3, none⟩ v3) :=
  (((h.setCell (p := ⟨b, 0, none⟩) hb _).setCell (p := ⟨b, 1, none⟩) hb _).setCell (p := ⟨b, 2, none⟩) hb _).setCell (p := ⟨b, 3, none⟩) hb _

theorem two_below (w : World) (A B : Obj) : Below w.heap.size w ((w.alloc A).alloc B) := ((Below.refl _ w).alloc (Nat.le_refl _) _).alloc (by simp) _

set_option maxHeartbeats 400000 in
theorem class_d (w : World) : Calls Try.prog 73 #[.int .u8 100] w fun e w' => e = .returned (.tuple #[.agg clsD.vals.toArray, .bool true]) ∧ Below w.heap.size w w' := by
  go_enter Try.func73, Try.ntmps73
  go_wp2_with (go_at_call 60; refine (with_open zero_val BSet.zero_wf (by decide) (by decide) (by decide) (by decide) _).mono ?_; rintro e w1 ⟨t, ht, htw, rfl, hb1⟩; have HT := Lib.hid ht; clear ht htw; obtain ⟨hc1, hf1⟩ := bcell hb1; have HB := Lib.hid hb1; have hsz := hb1.size; clear hb1; simp only [World.size_alloc] at hc1 hf1 hsz)
  have h0 : w1.heap[w.heap.size]? = some zcells := (HB.out.block w.heap.size (by simp; omega)).trans (heap_alloc2_old w _ _)
  refine bodyPost_ret (results_cell_tmp (p := 2) (q := 3) (ty := 97) (by kernel_rfl) _ _ w.heap.size 97 _ (0, 0) _ rfl (set4 h0) Try.underlying97 (by kernel_rfl) (by kernel_rfl)) rfl ⟨by rw [HT.out]; rfl, ?_⟩
  exact set4_below ((two_below w _ _).trans (HB.out.mono (by simp; omega))) (Nat.le_refl _)

set_option maxHeartbeats 400000 in
theorem class_s (w : World) : Calls Try.prog 73 #[.int .u8 115] w fun e w' => e = .returned (.tuple #[.agg clsS.vals.toArray, .bool true]) ∧ Below w.heap.size w w' := by
  go_enter Try.func73, Try.ntmps73
  go_wp2_with (fail)
  refine (with_open zero_val BSet.zero_wf (by decide) (by decide) (by decide) (by decide) _).mono ?_
  rintro e w1 ⟨t, ht, htw, rfl, hb1⟩
  have HT := Lib.hid ht
  have HB1 := Lib.hid hb1
  clear ht hb1
  go_wp2_with (fail)
  refine (with_open (s := t) rfl htw (by decide) (by decide) (by decide) (by decide) _).mono ?_
  rintro e w2 ⟨t2, ht2, htw2, rfl, hb2⟩
  have HT2 := Lib.hid ht2
  have HB := Lib.hid (((HB1.out).trans (hb2.mono HB1.out.size)))
  obtain ⟨hc1, hf1⟩ := bcell HB.out
  have hsz := HB.out.size
  clear ht2 hb2 htw htw2
  simp only [World.size_alloc] at hc1 hf1 hsz
  go_wp2
  have h0 : w2.heap[w.heap.size]? = some zcells := (HB.out.block w.heap.size (by simp; omega)).trans (heap_alloc2_old w _ _)
  refine bodyPost_ret (results_cell_tmp (p := 2) (q := 3) (ty := 97) (by kernel_rfl) _ _ w.heap.size 97 _ (0, 0) _ rfl (set4 h0) Try.underlying97 (by kernel_rfl) (by kernel_rfl)) rfl ⟨by rw [HT2.out, HT.out]; rfl, ?_⟩
  exact set4_below ((two_below w _ _).trans (HB.out.mono (by simp; omega))) (Nat.le_refl _)

set_option maxHeartbeats 400000 in
theorem class_w (w : World) : Calls Try.prog 73 #[.int .u8 119] w fun e w' => e = .returned (.tuple #[.agg clsW.vals.toArray, .bool true]) ∧ Below w.heap.size w w' := by
  go_enter Try.func73, Try.ntmps73
  go_wp2_with (fail)
  refine (with_open zero_val BSet.zero_wf (by decide) (by decide) (by decide) (by decide) _).mono ?_
  rintro e w1 ⟨t1, ht1, htw1, rfl, hb1⟩
  have HT1 := Lib.hid ht1
  have HB1 := Lib.hid hb1
  clear ht1 hb1
  go_wp2_with (fail)
  refine (with_open (s := t1) rfl htw1 (by decide) (by decide) (by decide) (by decide) _).mono ?_
  rintro e w2 ⟨t2, ht2, htw2, rfl, hb2⟩
  have HT2 := Lib.hid ht2
  have HB2 := Lib.hid ((HB1.out).trans (hb2.mono HB1.out.size))
  clear ht2 hb2
  go_wp2_with (fail)
  refine (with_open (s := t2) rfl htw2 (by decide) (by decide) (by decide) (by decide) _).mono ?_
  rintro e w3 ⟨t3, ht3, htw3, rfl, hb3⟩
  have HT3 := Lib.hid ht3
  have HB3 := Lib.hid ((HB2.out).trans (hb3.mono HB2.out.size))
  clear ht3 hb3
  go_wp2_with (fail)
  refine (with_open (s := t3) rfl htw3 (by decide) (by decide) (by decide) (by decide) _).mono ?_
  rintro e w4 ⟨t4, ht4, htw4, rfl, hb4⟩
  have HT4 := Lib.hid ht4
  have HB4 := Lib.hid ((HB3.out).trans (hb4.mono HB3.out.size))
  clear ht4 hb4
  obtain ⟨hc1, hf1⟩ := bcell HB4.out
  have hsz := HB4.out.size
  clear htw1 htw2 htw3 htw4
  simp only [World.size_alloc] at hc1 hf1 hsz
  go_wp2
  have h0 : w4.heap[w.heap.size]? = some zcells := (HB4.out.block w.heap.size (by simp; omega)).trans (heap_alloc2_old w _ _)
  refine bodyPost_ret (results_cell_tmp (p := 2) (q := 3) (ty := 97) (by kernel_rfl) _ _ w.heap.size 97 _ (0, 0) _ rfl (set4 h0) Try.underlying97 (by kernel_rfl) (by kernel_rfl)) rfl ⟨by rw [HT4.out, HT3.out, HT2.out, HT1.out]; rfl, ?_⟩
  exact set4_below ((two_below w _ _).trans (HB4.out.mono (by simp; omega))) (Nat.le_refl _)

theorem clsD_wf : clsD.WF := BSet.zero_wf.range (by decide) (by decide)
theorem clsS_wf : clsS.WF := (BSet.zero_wf.range (by decide) (by decide)).range (by decide) (by decide)
theorem clsW_wf : clsW.WF := (((BSet.zero_wf.range (by decide) (by decide)).range (by decide) (by decide)).range (by decide) (by decide)).range (by decide) (by decide)

theorem class_some (c : Nat) (s : BSet) (h : classOf c = some s) (w : World) : s.WF ∧ Calls Try.prog 73 #[.int .u8 (c : Int)] w fun e w' => e = .returned (.tuple #[.agg s.vals.toArray, .bool true]) ∧ Below w.heap.size w w' := by
  unfold classOf at h
  split at h
  · subst c; cases h; exact ⟨clsD_wf, class_d w⟩
  · split at h
    · subst c; cases h; exact ⟨clsS_wf, class_s w⟩
    · split at h
      · subst c; cases h; exact ⟨clsW_wf, class_w w⟩
      · cases h

def plainOf (c : Nat) : Nat × Bool := if c = 116 then (9, true) else if c = 114 then (13, true) else if c = 110 then (10, true) else (c, !isLetter c && !isDigit c)

theorem indexByte_at (s : ByteArray) (c : Int) (r : Int) (h : Lib.indexByte s.data.toList c.toNat.toUInt8 = r) (w : World) :
    Calls Try.prog 65 #[.string s, .int .u8 c] w fun e w' => e = .returned (.int .i64 r) ∧ w' = w := by
  rw [← h]; exact Try.strings_IndexByte s c w

theorem indexByte_none : ∀ (l : List UInt8) (c : UInt8), c ∉ l → Lib.indexByte l c = -1
  | [], _, _ => rfl
  | b :: l, c, h => by
    have h1 : (b == c) = false := by simp; intro e; exact h (by simp [e])
    have h2 := indexByte_none l c (fun hc => h (by simp [hc]))
    simp [Lib.indexByte, h1, h2]

theorem toUInt8_ne {c k : Nat} (hc : c < 256) (hk : k < 256) (h : c ≠ k) : (c : Int).toNat.toUInt8 ≠ k.toUInt8 := by
  intro e
  have := congrArg UInt8.toNat e
  simp [Nat.toUInt8, Nat.mod_eq_of_lt hc, Nat.mod_eq_of_lt hk] at this
  exact h this

set_option maxHeartbeats 400000 in
theorem plain_any (c : Nat) (hc : c < 256) (w : World) : Calls Try.prog 74 #[.int .u8 (c : Int)] w fun e w' => e = .returned (.tuple #[.int .u8 ((plainOf c).1 : Int), .bool (plainOf c).2]) ∧ w = w' := by
  rcases Decidable.em (c = 116) with h1 | h1
  · subst h1
    have ix : ∀ w, (Instr.index 164 (.agg #[.int .u8 9, .int .u8 13, .int .u8 10]) (.int .i64 0)).run Try.prog w = .ok (.int .u8 9) w := fun _ => by kernel_rfl
    go_enter Try.func74, Try.ntmps74
    go_wp2_with (go_at_call 65; refine (indexByte_at _ _ 0 (by decide) _).mono ?_; rintro e w' ⟨rfl, rfl⟩)
    go_ret2
    exact ⟨rfl, rfl⟩
  rcases Decidable.em (c = 114) with h2 | h2
  · subst h2
    have ix : ∀ w, (Instr.index 164 (.agg #[.int .u8 9, .int .u8 13, .int .u8 10]) (.int .i64 1)).run Try.prog w = .ok (.int .u8 13) w := fun _ => by kernel_rfl
    go_enter Try.func74, Try.ntmps74
    go_wp2_with (go_at_call 65; refine (indexByte_at _ _ 1 (by decide) _).mono ?_; rintro e w' ⟨rfl, rfl⟩)
    go_ret2
    exact ⟨rfl, rfl⟩
  rcases Decidable.em (c = 110) with h3 | h3
  · subst h3
    have ix : ∀ w, (Instr.index 164 (.agg #[.int .u8 9, .int .u8 13, .int .u8 10]) (.int .i64 2)).run Try.prog w = .ok (.int .u8 10) w := fun _ => by kernel_rfl
    go_enter Try.func74, Try.ntmps74
    go_wp2_with (go_at_call 65; refine (indexByte_at _ _ 2 (by decide) _).mono ?_; rintro e w' ⟨rfl, rfl⟩)
    go_ret2
    exact ⟨rfl, rfl⟩
  have hp : plainOf c = (c, !isLetter c && !isDigit c) := by simp [plainOf, h1, h2, h3]
  rw [hp]
  have hib : Lib.indexByte [116, 114, 110] (c : Int).toNat.toUInt8 = -1 := indexByte_none _ _ (by
    have a := toUInt8_ne hc (k := 116) (by decide) h1
    have b := toUInt8_ne hc (k := 114) (by decide) h2
    have d := toUInt8_ne hc (k := 110) (by decide) h3
    simp only [List.mem_cons, List.not_mem_nil, or_false, not_or]
    exact ⟨a, b, d⟩)
  have HI := Lib.hid hib
  clear hib h1 h2 h3 hp
  by_cases hl : isLetter c = true
  · go_enter Try.func74, Try.ntmps74
    go_wp2_with (first | (go_at_call 65; refine (indexByte_at _ _ (-1) HI.out _).mono ?_; rintro e w' ⟨rfl, rfl⟩) | (go_at_call 32; refine (letter_any c hc _).mono ?_; rintro e w' ⟨rfl, rfl⟩) | (go_at_call 33; refine (digit_any c hc _).mono ?_; rintro e w' ⟨rfl, rfl⟩))
    go_ret2
    exact ⟨by simp [hl], rfl⟩
  · have hl' : isLetter c = false := by simpa using hl
    clear hl
    go_enter Try.func74, Try.ntmps74
    go_wp2_with (first | (go_at_call 65; refine (indexByte_at _ _ (-1) HI.out _).mono ?_; rintro e w' ⟨rfl, rfl⟩) | (go_at_call 32; refine (letter_any c hc _).mono ?_; rintro e w' ⟨rfl, rfl⟩) | (go_at_call 33; refine (digit_any c hc _).mono ?_; rintro e w' ⟨rfl, rfl⟩))
    go_ret2
    exact ⟨by simp [hl'], rfl⟩

end Go.Proofs.Ytfgghbideoehjaa
