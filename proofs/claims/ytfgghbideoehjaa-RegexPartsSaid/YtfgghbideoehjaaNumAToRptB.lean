/-
  The parser: number.
  The parser: repetition.
  The parser: repeat, at whatever repetition.
  The parser: repeat, on states.
-/
import Derived.Test.YtfgghbideoehjaaStepBToReadA
import Derived.IntWalk
import Derived.Deep.RegionHeld3
namespace Go.Proofs.Ytfgghbideoehjaa
open Go.ChangeShapes Go.WideShapes Go.ChangeAt Go.RowKit
set_option linter.unusedVariables false
set_option linter.unusedSimpArgs false
set_option maxRecDepth 100000

/-- The number that j digits from k on are. -/
def numVal (s : ByteArray) (k : Nat) : Nat → Nat
  | 0 => 0
  | j + 1 => 10 * numVal s k j + (byte s (k + j) - 48)

/-- A digit stands at k. -/
def digAt (s : ByteArray) (k : Nat) : Bool := decide (k < s.size) && isDigit (byte s k)

/-- How many digits, at most two, stand at k. -/
def numLen (s : ByteArray) (k : Nat) : Nat := if digAt s k then (if digAt s (k + 1) then 2 else 1) else 0

def numAt (s : ByteArray) (k : Nat) : Int × Nat := (if numLen s k = 0 ∨ numVal s k (numLen s k) > 50 then -1 else (numVal s k (numLen s k) : Int), k + numLen s k)

theorem numVal_le (s : ByteArray) (k : Nat) : ∀ j, j ≤ 2 → numVal s k j ≤ 10000 := by
  intro j hj
  have h0 := byte_lt s k
  have h1 := byte_lt s (k + 1)
  rcases j with _ | _ | _ | j
  · simp [numVal]
  · simp [numVal]; omega
  · simp [numVal]; omega
  · omega

theorem digAt_lt {s : ByteArray} {k : Nat} (h : digAt s k = true) : k < s.size ∧ isDigit (byte s k) = true ∧ 48 ≤ byte s k ∧ byte s k ≤ 57 := by
  simp [digAt, isDigit] at h ⊢
  omega

theorem numLen_of {s : ByteArray} {k j : Nat} (hj : j ≤ 2) (hd : ∀ i, i < j → digAt s (k + i) = true) (he : j = 2 ∨ digAt s (k + j) = false) : numLen s k = j := by
  unfold numLen
  rcases j with _ | _ | _ | j
  · rcases he with he | he
    · omega
    · simp at he; simp [he]
  · have h0 := hd 0 (by omega)
    simp at h0
    rcases he with he | he
    · omega
    · simp [h0, he]
  · have h0 := hd 0 (by omega)
    have h1 := hd 1 (by omega)
    simp at h0
    simp [h0, h1]
  · omega

set_option maxHeartbeats 1000000 in
theorem number_any (w : World) (s : ByteArray) (bp k : Nat) (hk : k ≤ 1000000) (hs : s.size ≤ 1000000) (c0 : w.cell? ⟨bp, 0, none⟩ = some (.string s)) :
    Calls Try.prog 87 #[.pointer (some ⟨bp, 0, none⟩), .int .i64 (k : Int)] w fun e w' => e = .returned (.tuple #[.int .i64 (numAt s k).1, .int .i64 ((numAt s k).2 : Int)]) ∧ w = w' := by
  have hby := get_byte s
  go_enter Try.func87, Try.ntmps87
  go_wp2
  go_loopg [4, 5] 3 (fun m nv ev wr => ∃ j : Nat, nv = .int .i64 (numVal s k j : Int) ∧ ev = .int .i64 ((k + j : Nat) : Int) ∧ j ≤ 2 ∧ m = 3 - j ∧ (∀ i, i < j → digAt s (k + i) = true) ∧ wr = w)
  case atStart => exact ⟨0, rfl, rfl, by omega, rfl, by intro i hi; omega, rfl⟩
  case round =>
    obtain ⟨j, rfl, rfl, hj, hm, hd, rfl⟩ := hrel
    have hv := numVal_le s k j hj
    have hbl := byte_lt s (k + j)
    have HM := Lib.hid hm
    have HD := Lib.hid hd
    clear hm hd
    have hcase : (j ≠ 2 ∧ digAt s (k + j) = true) ∨ (j = 2 ∨ digAt s (k + j) = false) := by
      by_cases h1 : j = 2
      · exact .inr (.inl h1)
      · cases h2 : digAt s (k + j)
        · exact .inr (.inr rfl)
        · exact .inl ⟨h1, rfl⟩
    rcases hcase with ⟨hj2, hdg⟩ | hst
    · obtain ⟨hlt, hdi, h48, h57⟩ := digAt_lt hdg
      have t1 : ((k + j : Nat) : Int) < (s.size : Int) := by omega
      have t2 : ((k + j : Nat) : Int) < (k : Int) + 2 := by omega
      have HDG := Lib.hid hdg
      clear hdg
      go_wp2_with (go_at_call 33; refine (digit_any _ hbl _).mono ?_; rintro e w' ⟨rfl, rfl⟩; rw [hdi]; dsimp only)
      go_roundg (3 - (j + 1))
      case measure => rw [HM.out]; omega
      case rel => refine ⟨j + 1, ?_, by go_num, by omega, rfl, ?_, rfl⟩
                  · simp only [numVal]
                    congr 1
                    omega
                  · intro i hi
                    by_cases e : i = j
                    · subst e; exact HDG.out
                    · exact HD.out i (by omega)
    · have hnl := numLen_of hj HD.out hst
      have hres : numAt s k = (if j = 0 ∨ numVal s k j > 50 then -1 else (numVal s k j : Int), k + j) := by unfold numAt; rw [hnl]
      have HRES := Lib.hid hres
      clear hnl hres
      have hway : ¬ (((k + j : Nat) : Int) < (s.size : Int)) ∨ (((k + j : Nat) : Int) < (s.size : Int) ∧ ¬ (((k + j : Nat) : Int) < (k : Int) + 2)) ∨ (((k + j : Nat) : Int) < (s.size : Int) ∧ ((k + j : Nat) : Int) < (k : Int) + 2 ∧ isDigit (byte s (k + j)) = false) := by
        by_cases h1 : ((k + j : Nat) : Int) < (s.size : Int)
        · by_cases h2 : ((k + j : Nat) : Int) < (k : Int) + 2
          · refine .inr (.inr ⟨h1, h2, ?_⟩)
            rcases hst with h | h
            · omega
            · simp [digAt] at h; exact h (by omega)
          · exact .inr (.inl ⟨h1, h2⟩)
        · exact .inl h1
      have HST := Lib.hid hst
      clear hst
      by_cases hbad : j = 0 ∨ numVal s k j > 50
      · have hr1 : numAt s k = (-1, k + j) := by rw [HRES.out, if_pos hbad]
        have HR := Lib.hid hr1
        clear hr1
        by_cases hj0 : j = 0
        · subst hj0
          have e1 : (((k + 0 : Nat) : Int) == (k : Int)) = true := by simp
          rcases hway with h | ⟨h, h'⟩ | ⟨h, h', h''⟩
          · go_wp2_with (fail)
            go_ret2
            exact ⟨by rw [HR.out]; rfl, rfl⟩
          · exact (h' (by simp; omega)).elim
          · go_wp2_with (go_at_call 33; refine (digit_any _ hbl _).mono ?_; rintro e w' ⟨rfl, rfl⟩; rw [h'']; dsimp only)
            go_ret2
            exact ⟨by rw [HR.out]; rfl, rfl⟩
        · have e1 : (((k + j : Nat) : Int) == (k : Int)) = false := by simp; omega
          have e2 : (50 : Int) < (numVal s k j : Int) := by omega
          rcases hway with h | ⟨h, h'⟩ | ⟨h, h', h''⟩
          · go_wp2_with (fail)
            go_ret2
            exact ⟨by rw [HR.out]; push_cast; rfl, rfl⟩
          · go_wp2_with (fail)
            go_ret2
            exact ⟨by rw [HR.out]; push_cast; rfl, rfl⟩
          · go_wp2_with (go_at_call 33; refine (digit_any _ hbl _).mono ?_; rintro e w' ⟨rfl, rfl⟩; rw [h'']; dsimp only)
            go_ret2
            exact ⟨by rw [HR.out]; push_cast; rfl, rfl⟩
      · have hr1 : numAt s k = ((numVal s k j : Int), k + j) := by rw [HRES.out, if_neg hbad]
        have HR := Lib.hid hr1
        clear hr1
        have e1 : (((k + j : Nat) : Int) == (k : Int)) = false := by simp; omega
        have e2 : ¬ ((50 : Int) < (numVal s k j : Int)) := by omega
        rcases hway with h | ⟨h, h'⟩ | ⟨h, h', h''⟩
        · go_wp2_with (fail)
          go_ret2
          exact ⟨by rw [HR.out]; push_cast; rfl, rfl⟩
        · go_wp2_with (fail)
          go_ret2
          exact ⟨by rw [HR.out]; push_cast; rfl, rfl⟩
        · go_wp2_with (go_at_call 33; refine (digit_any _ hbl _).mono ?_; rintro e w' ⟨rfl, rfl⟩; rw [h'']; dsimp only)
          go_ret2
          exact ⟨by rw [HR.out]; push_cast; rfl, rfl⟩

end Go.Proofs.Ytfgghbideoehjaa

namespace Go.Proofs.Ytfgghbideoehjaa
open Go.ChangeShapes Go.WideShapes Go.ChangeAt Go.RowKit
set_option linter.unusedVariables false
set_option linter.unusedSimpArgs false
set_option maxRecDepth 100000

/-- What a repetition is: how many times, its end, whether there is one. -/
structure Rep where
  lo : Int
  hi : Int
  fin : Nat
  ok : Bool

/-- A brace at its end. -/
def closeAt (s : ByteArray) (f t : Int) (e : Nat) : Rep := ⟨f, t, e + 1, decide (0 ≤ f) && decide (e < s.size) && decide (byte s e = 125)⟩

def braceAt (s : ByteArray) (p : Nat) : Rep :=
  if 0 ≤ (numAt s (p + 1)).1 ∧ (numAt s (p + 1)).2 < s.size ∧ byte s (numAt s (p + 1)).2 = 44 then
    if (numAt s (p + 1)).2 + 1 < s.size ∧ byte s ((numAt s (p + 1)).2 + 1) = 125 then closeAt s (numAt s (p + 1)).1 (-1) ((numAt s (p + 1)).2 + 1)
    else if (numAt s ((numAt s (p + 1)).2 + 1)).1 < (numAt s (p + 1)).1 then ⟨0, 0, 0, false⟩
    else closeAt s (numAt s (p + 1)).1 (numAt s ((numAt s (p + 1)).2 + 1)).1 (numAt s ((numAt s (p + 1)).2 + 1)).2
  else closeAt s (numAt s (p + 1)).1 (numAt s (p + 1)).1 (numAt s (p + 1)).2

def repAt (s : ByteArray) (p : Nat) : Rep :=
  if byte s p = 42 then ⟨0, -1, p + 1, true⟩ else if byte s p = 43 then ⟨1, -1, p + 1, true⟩ else if byte s p = 63 then ⟨0, 1, p + 1, true⟩ else braceAt s p

theorem numAt_end (s : ByteArray) (k : Nat) : k ≤ (numAt s k).2 ∧ (numAt s k).2 ≤ k + 2 ∧ -1 ≤ (numAt s k).1 ∧ (numAt s k).1 ≤ 50 := by
  unfold numAt
  have h2 : numLen s k ≤ 2 := by
    unfold numLen
    split
    · split <;> omega
    · omega
  dsimp only
  refine ⟨by omega, by omega, ?_, ?_⟩
  · split <;> omega
  · split <;> omega

theorem close_cases (s : ByteArray) (e : Nat) : (¬ ((e : Int) < (s.size : Int)) ∧ ∀ f t : Int, closeAt s f t e = ⟨f, t, e + 1, false⟩) ∨ ((e : Int) < (s.size : Int) ∧ byte s e = 125 ∧ ∀ f t : Int, 0 ≤ f → closeAt s f t e = ⟨f, t, e + 1, true⟩) ∨
    ((e : Int) < (s.size : Int) ∧ ((byte s e : Int) == 125) = false ∧ ∀ f t : Int, closeAt s f t e = ⟨f, t, e + 1, false⟩) := by
  by_cases h1 : e < s.size
  · by_cases h2 : byte s e = 125
    · exact .inr (.inl ⟨by omega, h2, fun f t hf => by simp [closeAt, h1, h2, hf]⟩)
    · exact .inr (.inr ⟨by omega, by simp; omega, fun f t => by simp [closeAt, h2]⟩)
  · exact .inl ⟨by omega, fun f t => by simp [closeAt, h1]⟩

abbrev repVal (r : Rep) : Value := .tuple #[.int .i64 r.lo, .int .i64 r.hi, .int .i64 (r.fin : Int), .bool r.ok]

set_option maxHeartbeats 1000000 in
theorem repetition_any (w : World) (s : ByteArray) (bp p : Nat) (hp : p < s.size) (hs : s.size ≤ 100000) (c0 : w.cell? ⟨bp, 0, none⟩ = some (.string s)) (c1 : w.cell? ⟨bp, 1, none⟩ = some (.int .i64 (p : Int))) :
    Calls Try.prog 78 #[.pointer (some ⟨bp, 0, none⟩)] w fun e w' => e = .returned (repVal (repAt s p)) ∧ ∃ k, w' = w.drewN k := by
  have hby := get_byte s
  have hps' : (p : Int) < (s.size : Int) := by omega
  by_cases h42 : byte s p = 42
  · have hr : repAt s p = ⟨0, -1, p + 1, true⟩ := by simp [repAt, h42]
    have HR := Lib.hid hr
    clear hr
    go_enter Try.func78, Try.ntmps78
    go_wp2
    go_quiet (fail)
    go_wp2
    go_quiet (fail)
    go_wp2
    (try simp only [Exit.inBlock, Exit.then]); refine bodyPost_ret (results_tmp4 rfl _ _ _) rfl ?_
    exact ⟨by rw [HR.out]; rfl, _, by first | exact rfl | rw [World.drewN_drewN]⟩
  by_cases h43 : byte s p = 43
  · have hr : repAt s p = ⟨1, -1, p + 1, true⟩ := by simp [repAt, h43]
    have HR := Lib.hid hr
    clear hr
    go_enter Try.func78, Try.ntmps78
    go_wp2
    go_quiet (fail)
    go_wp2
    go_quiet (fail)
    go_wp2
    (try simp only [Exit.inBlock, Exit.then]); refine bodyPost_ret (results_tmp4 rfl _ _ _) rfl ?_
    exact ⟨by rw [HR.out]; rfl, _, by first | exact rfl | rw [World.drewN_drewN]⟩
  by_cases h63 : byte s p = 63
  · have hr : repAt s p = ⟨0, 1, p + 1, true⟩ := by simp [repAt, h63]
    have HR := Lib.hid hr
    clear hr
    go_enter Try.func78, Try.ntmps78
    go_wp2
    go_quiet (fail)
    go_wp2
    go_quiet (fail)
    go_wp2
    (try simp only [Exit.inBlock, Exit.then]); refine bodyPost_ret (results_tmp4 rfl _ _ _) rfl ?_
    exact ⟨by rw [HR.out]; rfl, _, by first | exact rfl | rw [World.drewN_drewN]⟩
  have hr : repAt s p = braceAt s p := by simp [repAt, h42, h43, h63]
  rw [hr]
  have b42 : ((byte s p : Int) == 42) = false := by simp; omega
  have b43 : ((byte s p : Int) == 43) = false := by simp; omega
  have b63 : ((byte s p : Int) == 63) = false := by simp; omega
  clear hr h42 h43 h63
  go_enter Try.func78, Try.ntmps78
  go_wp2
  go_quiet (fail)
  go_wp2_with (fail)
  refine (number_any _ s bp (p + 1) (by omega) (by omega) (by exact c0)).mono ?_
  rintro e w1 ⟨rfl, rfl⟩
  dsimp only
  obtain ⟨n1, n2, n3, n4⟩ := numAt_end s (p + 1)
  have hbr : braceAt s p = braceAt s p := rfl
  conv at hbr => rhs; unfold braceAt
  generalize hf : (numAt s (p + 1)).1 = f at *
  generalize he : (numAt s (p + 1)).2 = e at *
  clear hf he
  by_cases hc : 0 ≤ f ∧ e < s.size ∧ byte s e = 44
  · rw [if_pos hc] at hbr
    obtain ⟨g1, g2, g3⟩ := hc
    have t2 : (e : Int) < (s.size : Int) := by omega
    by_cases hd : e + 1 < s.size ∧ byte s (e + 1) = 125
    · rw [if_pos hd] at hbr
      obtain ⟨g4, g5⟩ := hd
      have t4 : (e : Int) + 1 < (s.size : Int) := by omega
      have hbr' : braceAt s p = ⟨f, -1, e + 1 + 1, true⟩ := by rw [hbr]; simp [closeAt, g1, g4, g5]
      have HR := Lib.hid hbr'
      clear hbr hbr'
      go_wp2
      go_quiet (fail)
      go_wp2
      (try simp only [Exit.inBlock, Exit.then]); refine bodyPost_ret (results_tmp4 rfl _ _ _) rfl ?_
      exact ⟨by rw [HR.out]; rfl, _, by first | exact rfl | rw [World.drewN_drewN]⟩
    · rw [if_neg hd] at hbr
      have hd' : ¬ ((e : Int) + 1 < (s.size : Int)) ∨ ((e : Int) + 1 < (s.size : Int) ∧ ((byte s (e + 1) : Int) == 125) = false) := by
        by_cases h1 : e + 1 < s.size
        · exact .inr ⟨by omega, by simp; intro h2; exact hd ⟨h1, by omega⟩⟩
        · exact .inl (by omega)
      clear hd
      obtain ⟨m1, m2, m3, m4⟩ := numAt_end s (e + 1)
      have HN := Lib.hid (number_any (w.drewN nq) s bp (e + 1) (by omega) (by omega) c0)
      generalize hf2 : (numAt s (e + 1)).1 = f2 at *
      generalize he2 : (numAt s (e + 1)).2 = e2 at *
      clear hf2 he2
      rcases hd' with hd1 | ⟨hd1, hd2⟩
      · by_cases hlt : f2 < f
        · rw [if_pos hlt] at hbr
          have HR := Lib.hid hbr
          clear hbr
          go_wp2_with (go_at_call 87; refine HN.out.mono ?_; rintro e w' ⟨rfl, rfl⟩; dsimp only)
          (try simp only [Exit.inBlock, Exit.then]); refine bodyPost_ret (results_tmp4 rfl _ _ _) rfl ?_
          exact ⟨by rw [HR.out]; rfl, _, by first | rfl | rw [World.drewN_drewN]⟩
        · rw [if_neg hlt] at hbr
          rcases close_cases s e2 with ⟨x1, x2⟩ | ⟨x1, x2, x3⟩ | ⟨x1, x2, x3⟩
          · rw [x2 _ _] at hbr
            have HR := Lib.hid hbr
            clear hbr x2
            go_wp2_with (go_at_call 87; refine HN.out.mono ?_; rintro e w' ⟨rfl, rfl⟩; dsimp only)
            have z1 : ¬ ((e2 : Int) < (s.size : Int)) := by omega
            go_quiet (fail)
            go_wp2
            (try simp only [Exit.inBlock, Exit.then]); refine bodyPost_ret (results_tmp4 rfl _ _ _) rfl ?_
            exact ⟨by rw [HR.out]; rfl, _, by first | exact rfl | rw [World.drewN_drewN]⟩
          · exact absurd x1 (by omega)
          · exact absurd x1 (by omega)
      · by_cases hlt : f2 < f
        · rw [if_pos hlt] at hbr
          have HR := Lib.hid hbr
          clear hbr
          go_wp2_with (go_at_call 87; refine HN.out.mono ?_; rintro e w' ⟨rfl, rfl⟩; dsimp only)
          (try simp only [Exit.inBlock, Exit.then]); refine bodyPost_ret (results_tmp4 rfl _ _ _) rfl ?_
          exact ⟨by rw [HR.out]; rfl, _, by first | rfl | rw [World.drewN_drewN]⟩
        · rw [if_neg hlt] at hbr
          rcases close_cases s e2 with ⟨x1, x2⟩ | ⟨x1, x2, x3⟩ | ⟨x1, x2, x3⟩
          · rw [x2 _ _] at hbr
            have HR := Lib.hid hbr
            clear hbr x2
            go_wp2_with (go_at_call 87; refine HN.out.mono ?_; rintro e w' ⟨rfl, rfl⟩; dsimp only)
            have z1 : ¬ ((e2 : Int) < (s.size : Int)) := by omega
            go_quiet (fail)
            go_wp2
            (try simp only [Exit.inBlock, Exit.then]); refine bodyPost_ret (results_tmp4 rfl _ _ _) rfl ?_
            exact ⟨by rw [HR.out]; rfl, _, by first | exact rfl | rw [World.drewN_drewN]⟩
          · rw [x3 _ _ (by omega)] at hbr
            have HR := Lib.hid hbr
            clear hbr x3
            go_wp2_with (go_at_call 87; refine HN.out.mono ?_; rintro e w' ⟨rfl, rfl⟩; dsimp only)
            go_wp2
            go_quiet (fail)
            go_wp2
            (try simp only [Exit.inBlock, Exit.then]); refine bodyPost_ret (results_tmp4 rfl _ _ _) rfl ?_
            exact ⟨by rw [HR.out]; rfl, _, by first | exact rfl | rw [World.drewN_drewN]⟩
          · rw [x3 _ _] at hbr
            have HR := Lib.hid hbr
            clear hbr x3
            go_wp2_with (go_at_call 87; refine HN.out.mono ?_; rintro e w' ⟨rfl, rfl⟩; dsimp only)
            go_wp2
            go_quiet (fail)
            go_wp2
            (try simp only [Exit.inBlock, Exit.then]); refine bodyPost_ret (results_tmp4 rfl _ _ _) rfl ?_
            exact ⟨by rw [HR.out]; rfl, _, by first | exact rfl | rw [World.drewN_drewN]⟩
  · rw [if_neg hc] at hbr
    by_cases hf0 : 0 ≤ f
    · have hc' : ¬ ((e : Int) < (s.size : Int)) ∨ ((e : Int) < (s.size : Int) ∧ ((byte s e : Int) == 44) = false) := by
        by_cases h1 : e < s.size
        · exact .inr ⟨by omega, by simp; intro h2; exact hc ⟨hf0, h1, by omega⟩⟩
        · exact .inl (by omega)
      clear hc
      rcases hc' with q1 | ⟨q1, q2⟩
      · have hbr2 : braceAt s p = ⟨f, f, e + 1, false⟩ := by rw [hbr]; simp [closeAt]; omega
        have HR := Lib.hid hbr2
        clear hbr hbr2
        go_wp2
        have z1 : ¬ ((e : Int) < (s.size : Int)) := by omega
        go_quiet (fail)
        go_wp2
        (try simp only [Exit.inBlock, Exit.then]); refine bodyPost_ret (results_tmp4 rfl _ _ _) rfl ?_
        exact ⟨by rw [HR.out]; rfl, _, by first | exact rfl | rw [World.drewN_drewN]⟩
      · by_cases h125 : byte s e = 125
        · have hbr2 : braceAt s p = ⟨f, f, e + 1, true⟩ := by rw [hbr]; simp [closeAt, h125, hf0]; omega
          have HR := Lib.hid hbr2
          clear hbr hbr2
          go_wp2
          go_quiet (fail)
          go_wp2
          (try simp only [Exit.inBlock, Exit.then]); refine bodyPost_ret (results_tmp4 rfl _ _ _) rfl ?_
          exact ⟨by rw [HR.out]; rfl, _, by first | exact rfl | rw [World.drewN_drewN]⟩
        · have hbr2 : braceAt s p = ⟨f, f, e + 1, false⟩ := by rw [hbr]; simp [closeAt, h125]
          have x125 : ((byte s e : Int) == 125) = false := by simp; omega
          have HR := Lib.hid hbr2
          clear hbr hbr2
          go_wp2
          go_quiet (fail)
          go_wp2
          (try simp only [Exit.inBlock, Exit.then]); refine bodyPost_ret (results_tmp4 rfl _ _ _) rfl ?_
          exact ⟨by rw [HR.out]; rfl, _, by first | exact rfl | rw [World.drewN_drewN]⟩
    · have hbr2 : braceAt s p = ⟨f, f, e + 1, false⟩ := by rw [hbr]; simp [closeAt, hf0]
      have HR := Lib.hid hbr2
      clear hbr hbr2 hc
      go_wp2
      have z1 : ¬ ((0 : Int) ≤ f) := by omega
      go_quiet (fail)
      go_wp2
      (try simp only [Exit.inBlock, Exit.then]); refine bodyPost_ret (results_tmp4 rfl _ _ _) rfl ?_
      exact ⟨by rw [HR.out]; rfl, _, by first | exact rfl | rw [World.drewN_drewN]⟩

end Go.Proofs.Ytfgghbideoehjaa

namespace Go.Proofs.Ytfgghbideoehjaa
open Go.ChangeShapes Go.WideShapes Go.ChangeAt Go.RowKit
set_option linter.unusedVariables false
set_option maxRecDepth 100000

set_option maxHeartbeats 1000000 in
theorem repeat_bad (w : World) (s : ByteArray) (bp bo pos n ocap : Nat) (sg : Bool) (hsz : s.size ≤ 100000) (hps : pos < s.size) (hn : n + 1 ≤ 1000000)
    (c0 : w.cell? ⟨bp, 0, none⟩ = some (.string s)) (c1 : w.cell? ⟨bp, 1, none⟩ = some (.int .i64 (pos : Int))) (c2 : w.cell? ⟨bp, 2, none⟩ = some (.slice (some ⟨bo, 0, none⟩) (n + 1) ocap))
    (k4 : w.cell? ⟨bo, n * 5 + 4, none⟩ = some (.bool sg)) (hb : (repAt s pos).ok = false ∨ (repAt s pos).ok = true ∧ sg = false) :
    Calls Try.prog 57 #[.pointer (some ⟨bp, 0, none⟩)] w fun e w' => e = wrongAt pos ∧ Below w.heap.size w w' := by
  generalize hr : repAt s pos = r at hb
  obtain ⟨lo, hi, fin, ok⟩ := r
  have HR := Lib.hid hr
  clear hr
  rcases hb with rfl | ⟨rfl, rfl⟩
  · go_enter Try.func57, Try.ntmps57
    go_wp2_with (first | (go_at_call 56; refine (top_any _ _ _ _ _ hn c2).mono ?_; rintro e w' ⟨rfl, nq, rfl⟩) | (go_at_call 78; refine (repetition_any _ s bp pos hps hsz (by exact c0) (by exact c1)).mono ?_; rw [HR.out]; rintro e w0 ⟨rfl, nq1, rfl⟩; dsimp only) | (go_at_call 61; refine (fail_any _ _ _).mono ?_; rintro e w' ⟨rfl, rfl⟩))
    exact ⟨rfl, rfl, below_drewN (Below.refl _ _) _⟩
  · go_enter Try.func57, Try.ntmps57
    go_wp2_with (first | (go_at_call 56; refine (top_any _ _ _ _ _ hn c2).mono ?_; rintro e w' ⟨rfl, nq, rfl⟩) | (go_at_call 78; refine (repetition_any _ s bp pos hps hsz (by exact c0) (by exact c1)).mono ?_; rw [HR.out]; rintro e w0 ⟨rfl, nq1, rfl⟩; dsimp only) | (go_at_call 61; refine (fail_any _ _ _).mono ?_; rintro e w' ⟨rfl, rfl⟩))
    exact ⟨rfl, rfl, below_drewN (Below.refl _ _) _⟩

/-- How a repetition ends: eager at the text's end, eager, lazy. -/
def lazyAt (s : ByteArray) (k : Nat) : Bool := decide (k < s.size) && decide (byte s k = 63)
theorem lazy_cases (s : ByteArray) (k : Nat) : (¬ ((k : Int) < (s.size : Int)) ∧ lazyAt s k = false) ∨ ((k : Int) < (s.size : Int) ∧ ((byte s k : Int) == 63) = false ∧ lazyAt s k = false) ∨ ((k : Int) < (s.size : Int) ∧ byte s k = 63 ∧ lazyAt s k = true) := by
  by_cases h1 : k < s.size
  · by_cases h2 : byte s k = 63
    · exact .inr (.inr ⟨by omega, h2, by simp [lazyAt, h1, h2]⟩)
    · exact .inr (.inl ⟨by omega, by simp; omega, by simp [lazyAt, h2]⟩)
  · exact .inl ⟨by omega, by simp [lazyAt, h1]⟩

def lazyEnd (s : ByteArray) (k : Nat) : Nat := if lazyAt s k then k + 1 else k

theorem repAt_end (s : ByteArray) (p : Nat) : (repAt s p).fin ≤ p + 20 := by
  have h1 := numAt_end s (p + 1)
  have h2 := numAt_end s ((numAt s (p + 1)).2 + 1)
  unfold repAt braceAt closeAt
  repeat' split
  all_goals (simp only []; omega)

set_option maxHeartbeats 1000000 in
theorem repeat_good (w : World) (s : ByteArray) (bp bo pos n ocap gp m cap : Nat) (hsz : s.size ≤ 100000) (hps : pos < s.size) (hn : n + 1 ≤ 1000000) (hm : m ≤ 1000000) (hmc : m + 1 ≤ cap)
    (c0 : w.cell? ⟨bp, 0, none⟩ = some (.string s)) (c1 : w.cell? ⟨bp, 1, none⟩ = some (.int .i64 (pos : Int))) (c2 : w.cell? ⟨bp, 2, none⟩ = some (.slice (some ⟨bo, 0, none⟩) (n + 1) ocap))
    (f1 : w.frozen? ⟨bp, 1, none⟩ = false) (k3 : w.cell? ⟨bo, n * 5 + 3, none⟩ = some (.slice (some ⟨gp, 0, none⟩) (m + 1) cap)) (k4 : w.cell? ⟨bo, n * 5 + 4, none⟩ = some (.bool true)) (f4 : w.frozen? ⟨bo, n * 5 + 4, none⟩ = false)
    (t : TypeId) (u : Value) (p1 : w.cell? ⟨gp, m, none⟩ = some (.iface t u)) (fp : w.frozen? ⟨gp, m, none⟩ = false) (n1 : gp ≠ bp) (n2 : gp ≠ bo) (n3 : bp ≠ bo) (lo hi : Int) (fin : Nat) (hr : repAt s pos = ⟨lo, hi, fin, true⟩) :
    Calls Try.prog 57 #[.pointer (some ⟨bp, 0, none⟩)] w fun e w' => e = .returned (.tuple #[]) ∧
      ∃ W, Below w.heap.size w W ∧ w' = ((W.setCell ⟨gp, m, none⟩ (.iface 139 (.agg #[.iface t u, .int .i64 lo, .int .i64 hi, .bool (lazyAt s fin)]))).setCell ⟨bo, n * 5 + 4, none⟩ (.bool false)).setCell ⟨bp, 1, none⟩ (.int .i64 (lazyEnd s fin : Int)) := by
  have hby := get_byte s
  have hfe := repAt_end s pos
  rw [hr] at hfe
  simp only at hfe
  have lbp : bp < w.heap.size := World.block_lt_of_cell? w _ c0
  have lbo : bo < w.heap.size := World.block_lt_of_cell? w _ k3
  have lgp : gp < w.heap.size := World.block_lt_of_cell? w _ p1
  have t0 : ((m : Int) + 1 - 1) = m := by omega
  have HR := Lib.hid hr
  clear hr
  go_enter Try.func57, Try.ntmps57
  go_wp2_with (first | (go_at_call 56; refine (top_any _ _ _ _ _ hn c2).mono ?_; rintro e w' ⟨rfl, nq, rfl⟩))
  refine (repetition_any _ s bp pos hps hsz (by exact c0) (by exact c1)).mono ?_
  rw [HR.out]
  rintro e w0 ⟨rfl, nq1, hw0⟩
  have hB : Below w.heap.size w w0 := by rw [hw0]; exact below_drewN (below_drewN (Below.refl _ _) _) _
  have d0 : w0.cell? ⟨bp, 0, none⟩ = some (.string s) := by rw [hw0]; exact c0
  have d1 : w0.cell? ⟨bp, 1, none⟩ = some (.int .i64 (pos : Int)) := by rw [hw0]; exact c1
  have g1 : w0.frozen? ⟨bp, 1, none⟩ = false := by rw [hw0]; exact f1
  have e3 : w0.cell? ⟨bo, n * 5 + 3, none⟩ = some (.slice (some ⟨gp, 0, none⟩) (m + 1) cap) := by rw [hw0]; exact k3
  have e4 : w0.cell? ⟨bo, n * 5 + 4, none⟩ = some (.bool true) := by rw [hw0]; exact k4
  have g4 : w0.frozen? ⟨bo, n * 5 + 4, none⟩ = false := by rw [hw0]; exact f4
  have q1 : w0.cell? ⟨gp, m, none⟩ = some (.iface t u) := by rw [hw0]; exact p1
  have gq : w0.frozen? ⟨gp, m, none⟩ = false := by rw [hw0]; exact fp
  have mbp : bp < w0.heap.size := by rw [hw0]; exact lbp
  have mbo : bo < w0.heap.size := by rw [hw0]; exact lbo
  have mgp : gp < w0.heap.size := by rw [hw0]; exact lgp
  have hs0 : w0.heap.size = w.heap.size := by rw [hw0]; rfl
  have HBl := Lib.hid hB
  clear hw0 hB c0 c1 c2 f1 k3 k4 f4 p1 fp
  go_wp2
  go_region
  have hbox : (World.drew (w0.alloc (.cells #[.iface t u, .int .i64 lo, .int .i64 hi, .bool false] 139))).heap[w0.heap.size]? = some (.cells #[.iface t u, .int .i64 lo, .int .i64 hi, .bool false] 139 (0, 0)) := heap_alloc_new w0 _
  have hbel : Below w.heap.size w (World.drew (w0.alloc (.cells #[.iface t u, .int .i64 lo, .int .i64 hi, .bool false] 139))) := (HBl.out.alloc (by omega) _).drew
  have a0 : (World.drew (w0.alloc (.cells #[.iface t u, .int .i64 lo, .int .i64 hi, .bool false] 139))).cell? ⟨bp, 0, none⟩ = some (.string s) := (World.cell?_alloc_lt w0 _ _ mbp).trans d0
  have a1 : (World.drew (w0.alloc (.cells #[.iface t u, .int .i64 lo, .int .i64 hi, .bool false] 139))).cell? ⟨bp, 1, none⟩ = some (.int .i64 (pos : Int)) := (World.cell?_alloc_lt w0 _ _ mbp).trans d1
  have a3 : (World.drew (w0.alloc (.cells #[.iface t u, .int .i64 lo, .int .i64 hi, .bool false] 139))).cell? ⟨bo, n * 5 + 3, none⟩ = some (.slice (some ⟨gp, 0, none⟩) (m + 1) cap) := (World.cell?_alloc_lt w0 _ _ mbo).trans e3
  have a4 : (World.drew (w0.alloc (.cells #[.iface t u, .int .i64 lo, .int .i64 hi, .bool false] 139))).cell? ⟨bo, n * 5 + 4, none⟩ = some (.bool true) := (World.cell?_alloc_lt w0 _ _ mbo).trans e4
  have aq : (World.drew (w0.alloc (.cells #[.iface t u, .int .i64 lo, .int .i64 hi, .bool false] 139))).cell? ⟨gp, m, none⟩ = some (.iface t u) := (World.cell?_alloc_lt w0 _ _ mgp).trans q1
  have b1 : (World.drew (w0.alloc (.cells #[.iface t u, .int .i64 lo, .int .i64 hi, .bool false] 139))).frozen? ⟨bp, 1, none⟩ = false := (World.frozen?_alloc_old w0 _ _ (Nat.ne_of_lt mbp)).trans g1
  have b4 : (World.drew (w0.alloc (.cells #[.iface t u, .int .i64 lo, .int .i64 hi, .bool false] 139))).frozen? ⟨bo, n * 5 + 4, none⟩ = false := (World.frozen?_alloc_old w0 _ _ (Nat.ne_of_lt mbo)).trans g4
  have bq : (World.drew (w0.alloc (.cells #[.iface t u, .int .i64 lo, .int .i64 hi, .bool false] 139))).frozen? ⟨gp, m, none⟩ = false := (World.frozen?_alloc_old w0 _ _ (Nat.ne_of_lt mgp)).trans gq
  generalize hW : (World.drew (w0.alloc (.cells #[.iface t u, .int .i64 lo, .int .i64 hi, .bool false] 139))) = W at *
  clear hW d0 d1 g1 e3 e4 g4 q1 gq
  have hl := (Array.getElem?_eq_some_iff.1 hbox).1
  rw [hs0] at hbox hl
  have x0 : W.cell? ⟨w.heap.size, 0, none⟩ = some (.iface t u) := (cell_of_blk hbox 0).trans rfl
  have x1 : W.cell? ⟨w.heap.size, 1, none⟩ = some (.int .i64 lo) := (cell_of_blk hbox 1).trans rfl
  have x2 : W.cell? ⟨w.heap.size, 2, none⟩ = some (.int .i64 hi) := (cell_of_blk hbox 2).trans rfl
  have x3 : W.cell? ⟨w.heap.size, 3, none⟩ = some (.bool false) := (cell_of_blk hbox 3).trans rfl
  have z3 := free_of_blk hbox 3
  have HB2 := Lib.hid hbel
  clear hbel
  rcases lazy_cases s fin with ⟨h1, h2⟩ | ⟨h1, h2, h3⟩ | ⟨h1, h2, h3⟩
  · have HX : Hid (lazyAt s fin = false ∧ lazyEnd s fin = fin) := Lib.hid ⟨h2, by simp [lazyEnd, h2]⟩
    clear h2 z3 hbox
    go_wp2
    go_region
    all_goals
      go_wp2
      go_end0
      exact ⟨rfl, W.drew, HB2.out.drew, by rw [HX.out.1, HX.out.2]; rfl⟩
  · have HX : Hid (lazyAt s fin = false ∧ lazyEnd s fin = fin) := Lib.hid ⟨h3, by simp [lazyEnd, h3]⟩
    clear h3 z3 hbox
    go_wp2
    go_region
    all_goals
      go_wp2
      go_end0
      exact ⟨rfl, W.drew, HB2.out.drew, by rw [HX.out.1, HX.out.2]; rfl⟩
  · have HX : Hid (lazyAt s fin = true ∧ lazyEnd s fin = fin + 1) := Lib.hid ⟨h3, by simp [lazyEnd, h3]⟩
    clear h3
    have m1 : bp ≠ w.heap.size := by omega
    have m2 : bo ≠ w.heap.size := by omega
    have m3 : gp ≠ w.heap.size := by omega
    have hbox2 := heap_setCell_same _ _ 3 _ _ (.bool true) hbox
    have o0 : (W.setCell ⟨w.heap.size, 3, none⟩ (.bool true)).cell? ⟨bp, 0, none⟩ = some (.string s) := (cell_set_other _ _ _ _ (fun e => m1 (congrArg Addr.block e))).trans a0
    have o1 : (W.setCell ⟨w.heap.size, 3, none⟩ (.bool true)).cell? ⟨bp, 1, none⟩ = some (.int .i64 (pos : Int)) := (cell_set_other _ _ _ _ (fun e => m1 (congrArg Addr.block e))).trans a1
    have o3 : (W.setCell ⟨w.heap.size, 3, none⟩ (.bool true)).cell? ⟨bo, n * 5 + 3, none⟩ = some (.slice (some ⟨gp, 0, none⟩) (m + 1) cap) := (cell_set_other _ _ _ _ (fun e => m2 (congrArg Addr.block e))).trans a3
    have o4 : (W.setCell ⟨w.heap.size, 3, none⟩ (.bool true)).cell? ⟨bo, n * 5 + 4, none⟩ = some (.bool true) := (cell_set_other _ _ _ _ (fun e => m2 (congrArg Addr.block e))).trans a4
    have oq : (W.setCell ⟨w.heap.size, 3, none⟩ (.bool true)).cell? ⟨gp, m, none⟩ = some (.iface t u) := (cell_set_other _ _ _ _ (fun e => m3 (congrArg Addr.block e))).trans aq
    have r1 : (W.setCell ⟨w.heap.size, 3, none⟩ (.bool true)).frozen? ⟨bp, 1, none⟩ = false := (World.frozen?_setCell _ _ _ _).trans b1
    have r4 : (W.setCell ⟨w.heap.size, 3, none⟩ (.bool true)).frozen? ⟨bo, n * 5 + 4, none⟩ = false := (World.frozen?_setCell _ _ _ _).trans b4
    have rq : (W.setCell ⟨w.heap.size, 3, none⟩ (.bool true)).frozen? ⟨gp, m, none⟩ = false := (World.frozen?_setCell _ _ _ _).trans bq
    have hb3 : Below w.heap.size w (W.setCell ⟨w.heap.size, 3, none⟩ (.bool true)) := HB2.out.setCell (p := ⟨w.heap.size, 3, none⟩) (Nat.le_refl _) _
    have ll : w.heap.size < (W.setCell ⟨w.heap.size, 3, none⟩ (.bool true)).heap.size := by rw [World.size_setCell]; exact hl
    go_wp2
    generalize hW3 : W.setCell ⟨w.heap.size, 3, none⟩ (.bool true) = V at *
    clear hW3 a0 a1 a3 a4 aq b1 b4 bq x0 x1 x2 x3 z3 hbox
    have y0 : V.cell? ⟨w.heap.size, 0, none⟩ = some (.iface t u) := (cell_of_blk hbox2 0).trans rfl
    have y1 : V.cell? ⟨w.heap.size, 1, none⟩ = some (.int .i64 lo) := (cell_of_blk hbox2 1).trans rfl
    have y2 : V.cell? ⟨w.heap.size, 2, none⟩ = some (.int .i64 hi) := (cell_of_blk hbox2 2).trans rfl
    have y3 : V.cell? ⟨w.heap.size, 3, none⟩ = some (.bool true) := (cell_of_blk hbox2 3).trans rfl
    have HB3 := Lib.hid hb3
    clear hb3 hbox2
    go_region
    all_goals
      go_wp2
      go_end0
      exact ⟨rfl, V.drew, HB3.out.drew, by rw [HX.out.1, HX.out.2]; rfl⟩

end Go.Proofs.Ytfgghbideoehjaa

namespace Go.Proofs.Ytfgghbideoehjaa
open Go.ChangeShapes Go.WideShapes Go.ChangeAt Go.RowKit
set_option linter.unusedVariables false
set_option maxRecDepth 100000

def PSt.rep (st : PSt) (pre : List Nd) (y : Nd) (lo hi : Int) (fin : Nat) : PSt :=
  { st with pos := lazyEnd st.s fin, top := { st.top with pcs := pre ++ [.times y lo hi (lazyAt st.s fin)], single := false } }

set_option maxHeartbeats 1000000 in
theorem repeat_node {base : Nat} {g : Tags} {w : World} {bp : Nat} {st : PSt} (h : PInv base g w bp st) (hs : st.Small) (hbase : base ≤ w.heap.size) (hp : st.pos < st.s.size)
    (hsz : st.s.size ≤ 100000) {lo hi : Int} {fin : Nat} (hr : repAt st.s st.pos = ⟨lo, hi, fin, true⟩) (hsg : st.top.single = true) {pre : List Nd} {y : Nd} (hpcs : st.top.pcs = pre ++ [y]) :
    Calls Try.prog 57 #[.pointer (some ⟨bp, 0, none⟩)] w (PPost base g w bp (.ok (st.rep pre y lo hi fin))) := by
  obtain ⟨x, h⟩ := h
  obtain ⟨hbr, ⟨pvs, hp1, hp2⟩⟩ := h.top
  have hlow := h.low.length
  have hpl := hp2.length
  rw [hpcs] at hp2
  obtain ⟨pvs1, v, rfl, hn1, hn2⟩ := NodesAt.last _ _ hp2
  obtain ⟨T, u, rfl⟩ := hn2.iface
  have hown := hp1.1
  simp only [List.length_append, List.length_cons, List.length_nil, Nat.zero_add] at hown
  obtain ⟨gp, cap, hpv⟩ := ownsRow_succ' hown
  have hgp : g gp = some (.pc st.low.length) := hp1.2 gp (by rw [hpv]; rfl)
  rw [hpv] at hown
  have hbb : bp ≠ x.bo := tag_ne h.gp h.gob (by simp)
  have n1 : gp ≠ bp := tag_ne hgp h.gp (by simp)
  have n2 : gp ≠ x.bo := tag_ne hgp h.gob (by simp)
  obtain ⟨_, _, hmc, _, _⟩ := ownsRow_split hown
  have hm := hs.pcs
  have hpl2 : pvs1.length + 1 = st.top.pcs.length := by simpa using hpl
  refine (repeat_good w st.s bp x.bo st.pos st.low.length x.ocap gp pvs1.length cap hsz hp (by have := hs.low; omega) (by omega) hmc
    (by rw [cell_of_blk h.blk]; rfl) (by rw [cell_of_blk h.blk]; rfl) (by rw [cell_of_blk h.blk]; rfl) (free_of_blk h.blk 1)
    (by rw [cell_of_blk h.opn, top_cell 3 hlow (by simp [frCells]), ← hpv]; rfl) (by rw [cell_of_blk h.opn, top_cell 4 hlow (by simp [frCells]), ← hsg]; rfl)
    (free_of_blk h.opn _) T u (by rw [hown.cellAt _ (by simp)]; simp) (hown.frozenAt _) n1 n2 hbb lo hi fin hr).mono ?_
  rintro e w' ⟨rfl, W, hB, rfl⟩
  have ag : ∀ b t, g b = some t → W.heap[b]? = w.heap[b]? := fun b t ht => hB.block b (h.tags b t ht).2
  generalize hv : (Value.iface 139 (.agg #[.iface T u, .int .i64 lo, .int .i64 hi, .bool (lazyAt st.s fin)])) = v' at *
  have o1 : W.heap[x.bo]? = _ := (ag _ _ h.gob).trans h.opn
  have o2 : (W.setCell ⟨gp, pvs1.length, none⟩ v').heap[x.bo]? = _ := (heap_setCell_other _ _ _ _ (by exact fun e => n2 e.symm)).trans o1
  have o3 := heap_setCell_same _ _ (st.low.length * 5 + 4) _ _ (.bool false) o2
  rw [top_set 4 _ hlow (by simp [frCells])] at o3
  have o4 := (heap_setCell_other _ ⟨bp, 1, none⟩ x.bo (.int .i64 (lazyEnd st.s fin : Int)) (by exact fun e => hbb e.symm)).trans o3
  have b1 : ((W.setCell ⟨gp, pvs1.length, none⟩ v').setCell ⟨x.bo, st.low.length * 5 + 4, none⟩ (.bool false)).heap[bp]? = _ :=
    (heap_setCell_other _ _ bp _ (by exact hbb)).trans ((heap_setCell_other _ _ bp _ (by exact fun e => n1 e.symm)).trans ((ag _ _ h.gp).trans h.blk))
  have b2 := heap_setCell_same _ _ 1 _ _ (.int .i64 (lazyEnd st.s fin : Int)) b1
  have p0 : W.ownsRow 0 62 1 (.slice (some ⟨gp, 0, none⟩) (pvs1.length + 1) cap) (pvs1.length + 1) (pvs1 ++ [.iface T u]) := ownsRow_agree hown fun j hj => by cases hj; exact ag _ _ hgp
  have p1 := p0.stored pvs1.length v'
  have hset : (pvs1 ++ [Value.iface T u]).set pvs1.length v' = pvs1 ++ [v'] := by rw [List.set_append_right _ _ (Nat.le_refl _)]; simp
  rw [hset] at p1
  have rest : ∀ b t, g b = some t → t ≠ .parser → t ≠ .opn → t ≠ .pc st.low.length → (((W.setCell ⟨gp, pvs1.length, none⟩ v').setCell ⟨x.bo, st.low.length * 5 + 4, none⟩ (.bool false)).setCell ⟨bp, 1, none⟩ (.int .i64 (lazyEnd st.s fin : Int))).heap[b]? = w.heap[b]? := by
    intro b t hb m1 m2 m3
    exact (heap_setCell_other _ _ b _ (by exact tag_ne hb h.gp m1)).trans ((heap_setCell_other _ _ b _ (by exact tag_ne hb h.gob m2)).trans ((heap_setCell_other _ _ b _ (by exact tag_ne hb hgp m3)).trans (ag _ _ hb)))
  have p2 : (((W.setCell ⟨gp, pvs1.length, none⟩ v').setCell ⟨x.bo, st.low.length * 5 + 4, none⟩ (.bool false)).setCell ⟨bp, 1, none⟩ (.int .i64 (lazyEnd st.s fin : Int))).ownsRow 0 62 1 (.slice (some ⟨gp, 0, none⟩) (pvs1.length + 1) cap) (pvs1.length + 1) (pvs1 ++ [v']) :=
    ownsRow_agree p1.1 fun j hj => by
      cases hj
      exact (heap_setCell_other _ _ gp _ (by exact n1)).trans (heap_setCell_other _ _ gp _ (by exact n2))
  have B : Below base w (((W.setCell ⟨gp, pvs1.length, none⟩ v').setCell ⟨x.bo, st.low.length * 5 + 4, none⟩ (.bool false)).setCell ⟨bp, 1, none⟩ (.int .i64 (lazyEnd st.s fin : Int))) :=
    (((hB.mono hbase).setCell (h.tags _ _ hgp).1 _).setCell (h.tags _ _ h.gob).1 _).setCell (h.tags _ _ h.gp).1 _
  have hsz : w.heap.size ≤ (((W.setCell ⟨gp, pvs1.length, none⟩ v').setCell ⟨x.bo, st.low.length * 5 + 4, none⟩ (.bool false)).setCell ⟨bp, 1, none⟩ (.int .i64 (lazyEnd st.s fin : Int))).heap.size := by have := hB.size; simpa using this
  generalize hWf : (((W.setCell ⟨gp, pvs1.length, none⟩ v').setCell ⟨x.bo, st.low.length * 5 + 4, none⟩ (.bool false)).setCell ⟨bp, 1, none⟩ (.int .i64 (lazyEnd st.s fin : Int))) = Wf at *
  clear hWf
  have agT : Agree w Wf (isTree g) := fun b hb => rest b .tree hb (by simp) (by simp) (by simp)
  refine ⟨rfl, g, ⟨{ x with pv := .slice (some ⟨gp, 0, none⟩) (pvs1.length + 1) cap }, ?_⟩, ⟨fun b hb => ⟨hb, agT b hb⟩, B⟩⟩
  exact {
    tags := fun b t hb => by have := h.tags b t hb; omega
    gp := h.gp
    blk := by rw [b2]; simp [PSt.rep]
    gob := h.gob
    opn := by rw [o4]; simp [PSt.rep, frCells, hpv]
    cap1 := h.cap1
    cap2 := h.cap2
    cap3 := by have := h.cap3; simpa [frCells] using this
    refs := ownsRow_agree h.refs fun j hj => rest j _ (h.grefs j hj) (by simp) (by simp) (by simp)
    grefs := h.grefs
    low := h.low.agree 0 _ _ fun b hb => by
      rcases hb with hb | ⟨j, _, h2, hb | hb⟩
      · exact ⟨agT b hb, rfl⟩
      · exact ⟨rest b _ hb (by simp) (by simp) (by simp), rfl⟩
      · exact ⟨rest b _ hb (by simp) (by simp) (by simp at h2 ⊢; omega), rfl⟩
    top := by
      refine ⟨?_, pvs1 ++ [v'], ⟨?_, fun k hk => by cases hk; exact hgp⟩, ?_⟩
      · obtain ⟨bvs, h1, h2⟩ := hbr
        exact ⟨bvs, h1.agree (fun b hb => rest b _ hb (by simp) (by simp) (by simp)) (fun b hb => hb), NodesAt.agree agT (fun b hb => hb) _ _ h2⟩
      · simpa using p2
      · refine NodesAt.snoc ?_ _ _ (NodesAt.agree agT (fun b hb => hb) _ _ hn1)
        exact ⟨.iface T u, hv.symm, NodeAt.agree agT (fun b hb => hb) _ _ hn2⟩ }


theorem repeat_fail {base : Nat} {g : Tags} {w : World} {bp : Nat} {st : PSt} (h : PInv base g w bp st) (hs : st.Small) (hbase : base ≤ w.heap.size) (hp : st.pos < st.s.size) (hsz : st.s.size ≤ 100000)
    (hb : (repAt st.s st.pos).ok = false ∨ (repAt st.s st.pos).ok = true ∧ st.top.single = false) :
    Calls Try.prog 57 #[.pointer (some ⟨bp, 0, none⟩)] w (PPost base g w bp (.bad st.pos)) := by
  obtain ⟨x, h⟩ := h
  have hlow := h.low.length
  refine (repeat_bad w st.s bp x.bo st.pos st.low.length x.ocap st.top.single hsz hp (by have := hs.low; omega) (by rw [cell_of_blk h.blk]; rfl) (by rw [cell_of_blk h.blk]; rfl) (by rw [cell_of_blk h.blk]; rfl)
    (by rw [cell_of_blk h.opn, top_cell 4 hlow (by simp [frCells])]; rfl) hb).mono ?_
  rintro e w' ⟨rfl, hB⟩
  exact ⟨rfl, hB.mono hbase⟩

end Go.Proofs.Ytfgghbideoehjaa
