/-
  RegexFirst: the walk of plain.
  RegexFirst: the walk of Light.
  RegexFirst: the joined text.
  RegexFirst: the text of the joined pattern; Valid at a pattern that does not read; Find at a plain pattern, whatever the index.
-/
import Derived.Test.YtfgghbideoehjaaMachXToJoinH
import Derived.Test.YtfgghbideoehjaaLitCToLitF
namespace Go.Proofs.Ytfgghbideoehjaa
open Go.ChangeShapes Go.WideShapes Go.ChangeAt Go.RowKit
set_option linter.unusedVariables false
set_option linter.unusedSimpArgs false
set_option maxRecDepth 100000

/-- The bytes before i are plain. -/
structure PlainTo (s : ByteArray) (i : Nat) : Prop where
  nob : ∀ k, k < i → byte s k ≠ 92
  nop : ∀ k, k < i → byte s k ≠ 94 ∧ byte s k ≠ 36
  nol : ∀ k, k + 1 < i → byte s k = 40 → byte s (k + 1) ≠ 63
theorem PlainTo.plain {s : ByteArray} (h : PlainTo s s.size) : Plain s := ⟨h.nob, h.nop, h.nol⟩
theorem PlainTo.zero (s : ByteArray) : PlainTo s 0 := ⟨fun k h => by omega, fun k h => by omega, fun k h => by omega⟩
theorem PlainTo.next {s : ByteArray} {i : Nat} (h : PlainTo s i) (h1 : byte s i ≠ 92) (h2 : byte s i ≠ 94) (h3 : byte s i ≠ 36) (h4 : 0 < i → byte s (i - 1) = 40 → byte s i ≠ 63) : PlainTo s (i + 1) where
  nob := fun k hk => by
    rcases Nat.lt_or_ge k i with h9 | h9
    · exact h.nob k h9
    · obtain rfl : k = i := (by omega)
      exact h1
  nop := fun k hk => by
    rcases Nat.lt_or_ge k i with h9 | h9
    · exact h.nop k h9
    · obtain rfl : k = i := (by omega)
      exact ⟨h2, h3⟩
  nol := fun k hk h40 => by
    rcases Nat.lt_or_ge (k + 1) i with h9 | h9
    · exact h.nol k h9 h40
    · obtain rfl : i = k + 1 := (by omega)
      exact h4 (by omega) h40

set_option maxHeartbeats 2000000 in
theorem plainly_any (w : World) (s : ByteArray) (hs : s.size ≤ 1000) : Calls Try.prog 9 #[.string s] w fun e w' => ∃ b, e = .returned (.bool b) ∧ (b = true → Plain s) ∧ w' = w := by
  have hby := get_byte s
  go_enter Try.func9, Try.ntmps9
  go_wp2
  go_loopg [6] s.size (fun k iv wr => ∃ (i : Nat), iv = .int .i64 (i : Int) ∧ k = s.size - i ∧ i ≤ s.size ∧ PlainTo s i ∧ wr = w)
  case atStart => exact ⟨0, rfl, rfl, Nat.zero_le _, PlainTo.zero s, rfl⟩
  case round =>
    obtain ⟨i, rfl, hk, hi, hpl, rfl⟩ := hrel
    have HK := Lib.hid hk
    have HPL := Lib.hid hpl
    clear hk hpl
    by_cases hlt : i < s.size
    · have t1 : (i : Int) < (s.size : Int) := by omega
      by_cases h94 : byte s i = 94
      · have t2 : (byte s i : Int) = 94 := by omega
        go_wp2
        go_ret
        exact ⟨false, rfl, fun h => (by cases h), rfl⟩
      by_cases h36 : byte s i = 36
      · have t2 : (byte s i : Int) = 36 := by omega
        go_wp2
        go_ret
        exact ⟨false, rfl, fun h => (by cases h), rfl⟩
      by_cases h92 : byte s i = 92
      · have t2 : (byte s i : Int) = 92 := by omega
        go_wp2
        go_ret
        exact ⟨false, rfl, fun h => (by cases h), rfl⟩
      have t2 : ¬ (byte s i : Int) = 94 := by omega
      have t3 : ¬ (byte s i : Int) = 36 := by omega
      have t4 : ¬ (byte s i : Int) = 92 := by omega
      by_cases h0 : i = 0
      · subst h0
        have HN := Lib.hid (HPL.out.next h92 h94 h36 (fun h => absurd h (by omega)))
        go_wp2
        go_roundg (s.size - (0 + 1))
        case measure => rw [HK.out]; omega
        case rel => exact ⟨0 + 1, by go_num, rfl, by omega, HN.out, rfl⟩
      obtain ⟨j, rfl⟩ : ∃ j, i = j + 1 := ⟨i - 1, by omega⟩
      have t5 : ((j + 1 : Nat) : Int) > 0 := by omega
      have t6 : ((j + 1 : Nat) : Int) - 1 = (j : Int) := by omega
      have t7 : j < s.size := by omega
      by_cases h40 : byte s j = 40
      · have t8 : (byte s j : Int) = 40 := by omega
        by_cases h63 : byte s (j + 1) = 63
        · have t9 : (byte s (j + 1) : Int) = 63 := by omega
          go_wp2
          go_ret
          exact ⟨false, rfl, fun h => (by cases h), rfl⟩
        · have t9 : ¬ (byte s (j + 1) : Int) = 63 := by omega
          have HN := Lib.hid (HPL.out.next h92 h94 h36 (fun _ _ => h63))
          go_wp2
          go_roundg (s.size - (j + 1 + 1))
          case measure => rw [HK.out]; omega
          case rel => exact ⟨j + 1 + 1, by go_num, rfl, by omega, HN.out, rfl⟩
      · have t8 : ¬ (byte s j : Int) = 40 := by omega
        have HN := Lib.hid (HPL.out.next h92 h94 h36 (fun _ h => absurd h h40))
        go_wp2
        go_roundg (s.size - (j + 1 + 1))
        case measure => rw [HK.out]; omega
        case rel => exact ⟨j + 1 + 1, by go_num, rfl, by omega, HN.out, rfl⟩
    · obtain rfl : i = s.size := (by omega)
      go_wp2
      go_ret
      exact ⟨true, rfl, fun _ => HPL.out.plain, rfl⟩

end Go.Proofs.Ytfgghbideoehjaa

namespace Go.Proofs.Ytfgghbideoehjaa
open Go.ChangeShapes Go.WideShapes Go.ChangeAt Go.RowKit
set_option linter.unusedVariables false
set_option linter.unusedSimpArgs false
set_option maxRecDepth 100000

/-- What Light answers. -/
def LightP (p s : ByteArray) (e : Ending) : Prop := ∃ b, e = .returned (.bool b) ∧ (b = true → p.size ≤ 40 ∧ s.size ≤ 60)
theorem light_mk {p s : ByteArray} (b : Bool) (h : b = true → p.size ≤ 40 ∧ s.size ≤ 60) : LightP p s (.returned (.bool b)) := ⟨b, rfl, h⟩

set_option maxHeartbeats 4000000 in
theorem light_any (w : World) (p s : ByteArray) : Calls Try.prog 8 #[.string p, .string s] w fun e w' => LightP p s e ∧ w' = w := by
  have hby := get_byte p
  by_cases hp : ¬ p.size ≤ 40
  · have t1 : (p.size : Int) > 40 := by omega
    go_enter Try.func8, Try.ntmps8
    go_wp2
    go_ret
    first | exact ⟨light_mk false (fun h => (by cases h)), rfl⟩ | exact light_mk false (fun h => (by cases h))
  replace hp : p.size ≤ 40 := (by omega)
  by_cases hs : ¬ s.size ≤ 60
  · have t1 : ¬ (p.size : Int) > 40 := by omega
    have t2 : (s.size : Int) > 60 := by omega
    go_enter Try.func8, Try.ntmps8
    go_wp2
    go_ret
    first | exact ⟨light_mk false (fun h => (by cases h)), rfl⟩ | exact light_mk false (fun h => (by cases h))
  replace hs : s.size ≤ 60 := (by omega)
  have t1 : ¬ (p.size : Int) > 40 := by omega
  have t2 : ¬ (s.size : Int) > 60 := by omega
  go_enter Try.func8, Try.ntmps8
  go_wp2
  go_loopg [5, 6] (p.size + 1) (fun k bv iv wr => ∃ (i : Nat) (b : Bool), bv = .bool b ∧ iv = .int .i64 ((i + 1 : Nat) : Int) ∧ k = p.size + 1 - i ∧ i ≤ p.size ∧ wr = w)
  case atStart => exact ⟨0, false, rfl, rfl, rfl, Nat.zero_le _, rfl⟩
  case round =>
    obtain ⟨i, b, rfl, rfl, hk, hi, rfl⟩ := hrel
    have HK := Lib.hid hk
    clear hk
    by_cases hlt : i + 1 < p.size
    · have t3 : ((i + 1 : Nat) : Int) < (p.size : Int) := by omega
      have t4 : ((i + 1 : Nat) : Int) - 1 = (i : Int) := by omega
      have t5 : i < p.size := by omega
      cases b with
      | true =>
        go_wp2
        go_roundg (p.size + 1 - (i + 1))
        case measure => rw [HK.out]; omega
        case rel => exact ⟨i + 1, true, rfl, by go_num, rfl, by omega, rfl⟩
      | false =>
        by_cases h1 : byte p i = 92
        · have u1 : (byte p i : Int) = 92 := by omega
          by_cases h2 : 49 ≤ byte p (i + 1)
          · have u2 : (byte p (i + 1) : Int) ≥ 49 := by omega
            by_cases h3 : byte p (i + 1) ≤ 57
            · have u3 : (byte p (i + 1) : Int) ≤ 57 := by omega
              go_wp2
              go_roundg (p.size + 1 - (i + 1))
              case measure => rw [HK.out]; omega
              case rel => exact ⟨i + 1, true, rfl, by go_num, rfl, by omega, rfl⟩
            · have u3 : ¬ (byte p (i + 1) : Int) ≤ 57 := by omega
              go_wp2
              go_roundg (p.size + 1 - (i + 1))
              case measure => rw [HK.out]; omega
              case rel => exact ⟨i + 1, false, rfl, by go_num, rfl, by omega, rfl⟩
          · have u2 : ¬ (byte p (i + 1) : Int) ≥ 49 := by omega
            go_wp2
            go_roundg (p.size + 1 - (i + 1))
            case measure => rw [HK.out]; omega
            case rel => exact ⟨i + 1, false, rfl, by go_num, rfl, by omega, rfl⟩
        · have u1 : ¬ (byte p i : Int) = 92 := by omega
          go_wp2
          go_roundg (p.size + 1 - (i + 1))
          case measure => rw [HK.out]; omega
          case rel => exact ⟨i + 1, false, rfl, by go_num, rfl, by omega, rfl⟩
    · have t3 : ¬ ((i + 1 : Nat) : Int) < (p.size : Int) := by omega
      cases b with
      | false =>
        go_wp2
        go_ret
        first | exact ⟨light_mk true (fun _ => ⟨hp, hs⟩), rfl⟩ | exact light_mk true (fun _ => ⟨hp, hs⟩)
      | true =>
        by_cases h1 : p.size ≤ 24
        · have u1 : (p.size : Int) ≤ 24 := by omega
          by_cases h2 : s.size ≤ 10
          · have u2 : (s.size : Int) ≤ 10 := by omega
            go_wp2
            go_ret
            first | exact ⟨light_mk true (fun _ => ⟨hp, hs⟩), rfl⟩ | exact light_mk true (fun _ => ⟨hp, hs⟩)
          · have u2 : ¬ (s.size : Int) ≤ 10 := by omega
            go_wp2
            go_ret
            first | exact ⟨light_mk false (fun h => (by cases h)), rfl⟩ | exact light_mk false (fun h => (by cases h))
        · have u1 : ¬ (p.size : Int) ≤ 24 := by omega
          go_wp2
          go_ret
          first | exact ⟨light_mk false (fun h => (by cases h)), rfl⟩ | exact light_mk false (fun h => (by cases h))

end Go.Proofs.Ytfgghbideoehjaa

namespace Go.Proofs.Ytfgghbideoehjaa
open Go.ChangeShapes Go.WideShapes Go.ChangeAt Go.RowKit
set_option linter.unusedVariables false
set_option linter.unusedSimpArgs false
set_option maxRecDepth 100000

/-- Whether a pattern reads. -/
def okOf (p : ByteArray) : Bool := match readOf p with | .ok _ _ => true | .err _ _ => false

set_option maxHeartbeats 1000000 in
theorem check_ok (w : World) (p : ByteArray) (hp : p.size ≤ 50000) {fin : PSt} {deep : Nat} (hr : readOf p = .ok fin deep) :
    Calls Try.prog 27 #[.string p] w fun e w' => e = .returned (.tuple #[.int .i64 0, .int .i64 0]) ∧ Below w.heap.size w w' := by
  have hread := read_any w p hp
  rw [hr] at hread
  have HREAD := Lib.hid hread
  clear hread hr
  go_enter Try.func27, Try.ntmps27
  go_wp2_with (fail)
  refine HREAD.out.mono ?_
  rintro e w1 ⟨G, root, refsv, rfl, hN, hG, hrefs, hrb, hbel⟩
  dsimp only
  have HBEL := Lib.hid hbel
  clear hN hG hrefs hrb hbel
  go_wp2
  go_ret2
  exact ⟨rfl, HBEL.out⟩

set_option maxHeartbeats 1000000 in
theorem valid_ok (w : World) (p : ByteArray) (hp : p.size ≤ 50000) {fin : PSt} {deep : Nat} (hr : readOf p = .ok fin deep) :
    Calls Try.prog 12 #[.string p] w fun e w' => e = .returned (.bool true) ∧ Below w.heap.size w w' := by
  go_enter Try.func12, Try.ntmps12
  go_wp2_with (fail)
  refine (check_ok w p hp hr).mono ?_
  rintro e w1 ⟨rfl, hbel⟩
  dsimp only
  have HBEL := Lib.hid hbel
  clear hbel
  go_wp2
  go_ret
  exact ⟨rfl, HBEL.out⟩

end Go.Proofs.Ytfgghbideoehjaa

namespace Go.Proofs.Ytfgghbideoehjaa
open Go.ChangeShapes Go.WideShapes Go.ChangeAt Go.RowKit
set_option linter.unusedVariables false
set_option linter.unusedSimpArgs false
set_option maxRecDepth 100000

theorem size_app (x y : ByteArray) : (x ++ y).size = x.size + y.size := ByteArray.size_append
theorem byte_left {x y : ByteArray} {k : Nat} (h : k < x.size) : byte (x ++ y) k = byte x k := by
  have h' : k < (x ++ y).size := by rw [size_app]; omega
  unfold byte
  rw [dif_pos h, dif_pos h', ByteArray.getElem_append_left h]
theorem byte_right {x y : ByteArray} {k i : Nat} (h : k = x.size + i) : byte (x ++ y) k = byte y i := by
  subst h
  unfold byte
  by_cases hi : i < y.size
  · have h' : x.size + i < (x ++ y).size := by rw [size_app]; omega
    rw [dif_pos hi, dif_pos h', ByteArray.getElem_append_right (by omega)]
    congr 2
    omega
  · have h' : ¬ x.size + i < (x ++ y).size := by rw [size_app]; omega
    rw [dif_neg hi, dif_neg h']

abbrev open3 : ByteArray := ⟨#[40, 63, 58]⟩
abbrev bar5 : ByteArray := ⟨#[41, 124, 40, 63, 58]⟩
abbrev shut1 : ByteArray := ⟨#[41]⟩
/-- The text (?:p)|(?:q). -/
def joinB (p q : ByteArray) : ByteArray := open3 ++ p ++ bar5 ++ q ++ shut1

theorem joins_joinB (p q : ByteArray) : Joins (joinB p q) p q := by
  have z3 : open3.size = 3 := rfl
  have z5 : bar5.size = 5 := rfl
  have z1 : shut1.size = 1 := rfl
  have s1 : (open3 ++ p).size = p.size + 3 := by rw [size_app, z3]; omega
  have s2 : (open3 ++ p ++ bar5).size = p.size + 8 := by rw [size_app, s1, z5]
  have s3 : (open3 ++ p ++ bar5 ++ q).size = p.size + q.size + 8 := by rw [size_app, s2]; omega
  have s4 : (joinB p q).size = p.size + q.size + 9 := by unfold joinB; rw [size_app, s3, z1]
  have a0 : ∀ k, k < 3 → byte (joinB p q) k = byte open3 k := fun k hk => by
    unfold joinB
    rw [byte_left (by omega), byte_left (by omega), byte_left (by omega), byte_left (by omega)]
  have a1 : ∀ k, k < p.size → byte (joinB p q) (k + 3) = byte p k := fun k hk => by
    unfold joinB
    rw [byte_left (by omega), byte_left (by omega), byte_left (by omega), byte_right (i := k) (by omega)]
  have a2 : ∀ k i, i < 5 → k = p.size + 3 + i → byte (joinB p q) k = byte bar5 i := fun k i hi hk => by
    unfold joinB
    rw [byte_left (by omega), byte_left (by omega), byte_right (i := i) (by omega)]
  have a3 : ∀ k, k < q.size → byte (joinB p q) (k + (p.size + 8)) = byte q k := fun k hk => by
    unfold joinB
    rw [byte_left (by omega), byte_right (i := k) (by omega)]
  have a4 : byte (joinB p q) (q.size + (p.size + 8)) = 41 := by
    unfold joinB
    rw [byte_right (i := 0) (by omega)]
    rfl
  exact {
    size := s4
    b0 := a0 0 (by omega)
    b1 := a0 1 (by omega)
    b2 := a0 2 (by omega)
    inp := ⟨a1, by omega, a2 _ 0 (by omega) (by omega)⟩
    b4 := a2 _ 1 (by omega) (by omega)
    b5 := a2 _ 2 (by omega) (by omega)
    b6 := a2 _ 3 (by omega) (by omega)
    b7 := a2 _ 4 (by omega) (by omega)
    inq := ⟨a3, by omega, a4⟩ }

set_option maxHeartbeats 1000000 in
theorem check_err (w : World) (p : ByteArray) (hp : p.size ≤ 50000) {k c : Nat} (hr : readOf p = .err k c) :
    Calls Try.prog 27 #[.string p] w fun e w' => e = .returned (.tuple #[.int .i64 (k : Int), .int .i64 (c : Int)]) ∧ Below w.heap.size w w' := by
  have hread := read_any w p hp
  rw [hr] at hread
  have HREAD := Lib.hid hread
  clear hread hr
  go_enter Try.func27, Try.ntmps27
  go_wp2_with (fail)
  refine HREAD.out.mono ?_
  rintro e w1 ⟨rfl, hbel⟩
  dsimp only
  have HBEL := Lib.hid hbel
  clear hbel
  go_wp2
  go_ret2
  exact ⟨rfl, HBEL.out⟩

set_option maxHeartbeats 1000000 in
theorem valid_err (w : World) (p : ByteArray) (hp : p.size ≤ 50000) {k c : Nat} (hr : readOf p = .err k c) :
    Calls Try.prog 12 #[.string p] w fun e w' => e = .returned (.bool false) ∧ Below w.heap.size w w' := by
  have hc := read_err hr
  have t1 : ((c : Int) == 0) = false := by simp; omega
  have HC := Lib.hid (check_err w p hp hr)
  clear hr hc
  go_enter Try.func12, Try.ntmps12
  go_wp2_with (fail)
  refine HC.out.mono ?_
  rintro e w1 ⟨rfl, hbel⟩
  dsimp only
  have HBEL := Lib.hid hbel
  clear hbel
  go_wp2
  go_ret
  exact ⟨rfl, HBEL.out⟩

/-- Why Find answers with an error. -/
inductive FindWhy (p s : ByteArray) (a : Int) (fl ln : Bool) : Nat → Prop where
  | read {k c : Nat} (h : readOf p = .err k c) : FindWhy p s a fl ln c
  | range (h : a < 0 ∨ (s.size : Int) < a) : FindWhy p s a fl ln 7
  | none {fin : PSt} {deep k : Nat} (h : readOf p = .ok fin deep) (hk : a = (k : Int)) (v : VFound (fin.progX fl ln) s fin.groups (fin.marksX fl ln) k [] none) : FindWhy p s a fl ln 8

/-- What Find answers at a plain pattern. -/
inductive FindA (p s : ByteArray) (a : Int) (fl ln : Bool) : Prop where
  | no {c : Nat} (h : FindWhy p s a fl ln c) (hc : c ≠ 0 ∧ c < 100) (call : ∀ w : World, Calls Try.prog 11 #[.string p, .string s, .int .i64 a, .bool fl, .bool ln] w fun e w' => e = .returned (.tuple #[.slice none 0 0, .int .i64 (c : Int)]) ∧ Below w.heap.size w w')
  | yes {fin : PSt} {deep k : Nat} {gs : List Int} (h : readOf p = .ok fin deep) (hk : a = (k : Int)) (hs : k ≤ s.size) (v : VFound (fin.progX fl ln) s fin.groups (fin.marksX fl ln) k [] (some gs)) (hl : gs.length = 2 * fin.groups + 2)
      (call : ∀ w : World, Calls Try.prog 11 #[.string p, .string s, .int .i64 a, .bool fl, .bool ln] w fun e w' => Below w.heap.size w w' ∧ ∃ sv, e = .returned (.tuple #[sv, .int .i64 0]) ∧ w'.ownsRow w.heap.size 30 2 sv (gs.length / 2) (gs.map intV)) : FindA p s a fl ln

theorem find_plain {p s : ByteArray} (hz : p.size ≤ 50000) (hb : Bare p) (hn : NoPlace p) (hs : s.size ≤ 100) (a : Int) (fl ln : Bool) : FindA p s a fl ln := by
  cases hr : readOf p with
  | err k c =>
    have hc := read_err hr
    exact .no (.read hr) (by omega) fun w => find_err w p s a fl ln hz hr
  | ok fin deep =>
    by_cases ha : a < 0 ∨ (s.size : Int) < a
    · refine .no (.range ha) (by omega) fun w => ?_
      refine (find_out w p s a fl ln fin deep (pat_of hz hb hr) (by omega) ha none).mono fun e w' h => ?_
      unfold FindO at h
      rw [if_pos ha] at h
      exact ⟨h.2, h.1⟩
    · obtain ⟨k, rfl⟩ : ∃ k : Nat, a = (k : Int) := ⟨a.toNat, by omega⟩
      obtain ⟨res, v, hl⟩ := plain_ends hz hb hn hs hr fl ln k
      have hc := fun w : World => find_in w p s fl ln fin deep (pat_of hz hb hr) (by omega) k (by omega) res v
      cases res with
      | none =>
        refine .no (.none hr rfl v) (by omega) fun w => (hc w).mono fun e w' h => ?_
        unfold FindO at h
        rw [if_neg ha] at h
        exact ⟨h.2, h.1⟩
      | some gs =>
        refine .yes hr rfl (by omega) v (hl gs rfl) fun w => (hc w).mono fun e w' h => ?_
        unfold FindO at h
        rw [if_neg ha] at h
        exact h

theorem Plain.noplace {p : ByteArray} (h : Plain p) : NoPlace p := h.nop

end Go.Proofs.Ytfgghbideoehjaa
