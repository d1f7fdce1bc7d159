/-
  What read answers at the text (?:p)(?:q).
  RegexChoices as a plain law; Match at a plain pattern; parts of a text.
  RegexChoices returns true, whatever the input: the walk.
  RegexChoices returns true, whatever the input; the input reads behind the call as it read before. No condition.
-/
import Derived.Test.YtfgghbideoehjaaFirAToFirD
import Derived.Test.YtfgghbideoehjaaLngAToLngF
import Derived.Test.YtfgghbideoehjaaAwakeAToAwakeB
import Derived.Test.YtfgghbideoehjaaRepB
import Derived.ChangeSame
import Derived.ChangeMaps5
import Derived.JoinedOf
import Derived.JoinedAt
import Derived.RowKit3
namespace Go.Proofs.Ytfgghbideoehjaa
open Go.ChangeShapes Go.WideShapes Go.ChangeAt Go.RowKit
set_option linter.unusedVariables false
set_option linter.unusedSimpArgs false
set_option maxRecDepth 100000

/-- J is (?:p)(?:q). -/
structure Chain (J p q : ByteArray) : Prop where
  size : J.size = p.size + q.size + 8
  b0 : byte J 0 = 40
  b1 : byte J 1 = 63
  b2 : byte J 2 = 58
  inp : Within J 3 p
  b5 : byte J (p.size + 4) = 40
  b6 : byte J (p.size + 5) = 63
  b7 : byte J (p.size + 6) = 58
  inq : Within J (p.size + 7) q

abbrev mid4 : ByteArray := ⟨#[41, 40, 63, 58]⟩
/-- The text (?:p)(?:q). -/
def chainB (p q : ByteArray) : ByteArray := open3 ++ p ++ mid4 ++ q ++ shut1

theorem chain_chainB (p q : ByteArray) : Chain (chainB p q) p q := by
  have z3 : open3.size = 3 := rfl
  have z5 : mid4.size = 4 := rfl
  have z1 : shut1.size = 1 := rfl
  have s1 : (open3 ++ p).size = p.size + 3 := by rw [size_app, z3]; omega
  have s2 : (open3 ++ p ++ mid4).size = p.size + 7 := by rw [size_app, s1, z5]
  have s3 : (open3 ++ p ++ mid4 ++ q).size = p.size + q.size + 7 := by rw [size_app, s2]; omega
  have s4 : (chainB p q).size = p.size + q.size + 8 := by unfold chainB; rw [size_app, s3, z1]
  have a0 : ∀ k, k < 3 → byte (chainB p q) k = byte open3 k := fun k hk => by
    unfold chainB
    rw [byte_left (by omega), byte_left (by omega), byte_left (by omega), byte_left (by omega)]
  have a1 : ∀ k, k < p.size → byte (chainB p q) (k + 3) = byte p k := fun k hk => by
    unfold chainB
    rw [byte_left (by omega), byte_left (by omega), byte_left (by omega), byte_right (i := k) (by omega)]
  have a2 : ∀ k i, i < 4 → k = p.size + 3 + i → byte (chainB p q) k = byte mid4 i := fun k i hi hk => by
    unfold chainB
    rw [byte_left (by omega), byte_left (by omega), byte_right (i := i) (by omega)]
  have a3 : ∀ k, k < q.size → byte (chainB p q) (k + (p.size + 7)) = byte q k := fun k hk => by
    unfold chainB
    rw [byte_left (by omega), byte_right (i := k) (by omega)]
  have a4 : byte (chainB p q) (q.size + (p.size + 7)) = 41 := by
    unfold chainB
    rw [byte_right (i := 0) (by omega)]
    rfl
  exact {
    size := s4
    b0 := a0 0 (by omega)
    b1 := a0 1 (by omega)
    b2 := a0 2 (by omega)
    inp := ⟨a1, by omega, a2 _ 0 (by omega) (by omega)⟩
    b5 := a2 _ 1 (by omega) (by omega)
    b6 := a2 _ 2 (by omega) (by omega)
    b7 := a2 _ 3 (by omega) (by omega)
    inq := ⟨a3, by omega, a4⟩ }

theorem Chain.at_ {J p q : ByteArray} (h : Chain J p q) {k : Nat} (hk : k < J.size) :
    (k = 0 ∧ byte J k = 40) ∨ (k = 1 ∧ byte J k = 63) ∨ (k = 2 ∧ byte J k = 58) ∨ (∃ i, i < p.size ∧ k = i + 3 ∧ byte J k = byte p i) ∨ (k = p.size + 3 ∧ byte J k = 41) ∨ (k = p.size + 4 ∧ byte J k = 40) ∨
    (k = p.size + 5 ∧ byte J k = 63) ∨ (k = p.size + 6 ∧ byte J k = 58) ∨ (∃ i, i < q.size ∧ k = i + (p.size + 7) ∧ byte J k = byte q i) ∨ (k = q.size + (p.size + 7) ∧ byte J k = 41) := by
  have hz := h.size
  rcases Nat.lt_or_ge k 3 with h3 | h3
  · rcases k with _ | _ | _ | k
    · exact .inl ⟨rfl, h.b0⟩
    · exact .inr (.inl ⟨rfl, h.b1⟩)
    · exact .inr (.inr (.inl ⟨rfl, h.b2⟩))
    · omega
  obtain ⟨i, rfl⟩ : ∃ i, k = i + 3 := ⟨k - 3, by omega⟩
  right; right; right
  rcases Nat.lt_or_ge i p.size with hi | hi
  · exact .inl ⟨i, hi, rfl, h.inp.same i hi⟩
  right
  obtain ⟨d, rfl⟩ : ∃ d, i = p.size + d := ⟨i - p.size, by omega⟩
  rcases Nat.lt_or_ge d 4 with hd | hd
  · rcases d with _ | _ | _ | _ | d
    · exact .inl ⟨rfl, h.inp.stop⟩
    · exact .inr (.inl ⟨by omega, by rw [show p.size + (0 + 1) + 3 = p.size + 4 by omega]; exact h.b5⟩)
    · exact .inr (.inr (.inl ⟨by omega, by rw [show p.size + (0 + 1 + 1) + 3 = p.size + 5 by omega]; exact h.b6⟩))
    · exact .inr (.inr (.inr (.inl ⟨by omega, by rw [show p.size + (0 + 1 + 1 + 1) + 3 = p.size + 6 by omega]; exact h.b7⟩)))
    · omega
  · right; right; right; right
    obtain ⟨i, rfl⟩ : ∃ i, d = i + 4 := ⟨d - 4, by omega⟩
    rw [show p.size + (i + 4) + 3 = i + (p.size + 7) by omega] at hk ⊢
    rcases Nat.lt_or_ge i q.size with hi | hi
    · exact .inl ⟨i, hi, rfl, h.inq.same i hi⟩
    · obtain rfl : i = q.size := (by omega)
      exact .inr ⟨rfl, h.inq.stop⟩

theorem Chain.noplace {J p q : ByteArray} (h : Chain J p q) (hp : Plain p) (hq : Plain q) : NoPlace J := by
  intro k hk
  rcases h.at_ hk with ⟨_, e⟩ | ⟨_, e⟩ | ⟨_, e⟩ | ⟨i, hi, _, e⟩ | ⟨_, e⟩ | ⟨_, e⟩ | ⟨_, e⟩ | ⟨_, e⟩ | ⟨i, hi, _, e⟩ | ⟨_, e⟩
  all_goals rw [e]
  all_goals first | exact hp.nop _ hi | exact hq.nop _ hi | decide

theorem Chain.bare {J p q : ByteArray} (h : Chain J p q) (hp : Plain p) (hq : Plain q) : Bare J where
  nob := by
    intro k hk
    rcases h.at_ hk with ⟨_, e⟩ | ⟨_, e⟩ | ⟨_, e⟩ | ⟨i, hi, _, e⟩ | ⟨_, e⟩ | ⟨_, e⟩ | ⟨_, e⟩ | ⟨_, e⟩ | ⟨i, hi, _, e⟩ | ⟨_, e⟩
    all_goals rw [e]
    all_goals first | exact hp.nob _ hi | exact hq.nob _ hi | decide
  nol := by
    intro k hk h40 h63
    have hz := h.size
    rcases h.at_ (k := k) (by omega) with ⟨e0, e⟩ | ⟨_, e⟩ | ⟨_, e⟩ | ⟨i, hi, e0, e⟩ | ⟨_, e⟩ | ⟨e0, e⟩ | ⟨_, e⟩ | ⟨_, e⟩ | ⟨i, hi, e0, e⟩ | ⟨_, e⟩
    · subst e0; rw [show 0 + 2 = 2 from rfl, h.b2]; decide
    · rw [e] at h40; cases h40
    · rw [e] at h40; cases h40
    · exfalso
      rw [e] at h40
      subst e0
      by_cases h1 : i + 1 < p.size
      · have := h.inp.same (i + 1) h1
        rw [show i + 1 + 3 = i + 3 + 1 by omega, h63] at this
        exact hp.nol i h1 h40 this.symm
      · have := h.inp.stop
        rw [show p.size + 3 = i + 3 + 1 by omega, h63] at this
        cases this
    · rw [e] at h40; cases h40
    · subst e0; rw [show p.size + 4 + 2 = p.size + 6 by omega, h.b7]; decide
    · rw [e] at h40; cases h40
    · rw [e] at h40; cases h40
    · exfalso
      rw [e] at h40
      subst e0
      by_cases h1 : i + 1 < q.size
      · have := h.inq.same (i + 1) h1
        rw [show i + 1 + (p.size + 7) = i + (p.size + 7) + 1 by omega, h63] at this
        exact hq.nol i h1 h40 this.symm
      · have := h.inq.stop
        rw [show q.size + (p.size + 7) = i + (p.size + 7) + 1 by omega, h63] at this
        cases this
    · rw [e] at h40; cases h40

set_option maxHeartbeats 2000000 in
theorem read_chain {J p q : ByteArray} (hJ : Chain J p q) (hs : J.size ≤ 50000) (hPp : Plain p) (hPq : Plain q) {fp fq : PSt} {dp dq : Nat} (hp : readOf p = .ok fp dp) (hq : readOf q = .ok fq dq) :
    (∃ fin d, readOf J = .ok fin d ∧ fin.top.whole = .branches [.pieces [.group 0 fp.top.whole, .group 0 (fq.top.whole.up fp.groups)]] ∧ fin.groups = fq.groups + fp.groups) ∨ ∃ k, readOf J = .err k 4 := by
  have hz := hJ.size
  obtain ⟨gp, cp, ep, lp, _⟩ := read_cov (by omega) hPp.bare hp
  obtain ⟨gq, cq, eq, lq, _⟩ := read_cov (by omega) hPq.bare hq
  have zp := looks_zero gp cp
  have bp := gp.begun
  let base : Fr := ⟨0, 0, [], [], false⟩
  let base' : Fr := ⟨0, 0, [], [.group 0 (fp.top.whole.up 0)], true⟩
  let R : List Bool := [false] ++ fp.refs.tail
  obtain ⟨jp, a1, a2, a3⟩ := run_in (J := J) (o := 3) (g := 0) (L0 := [base]) (R0 := [false]) _ _ _ _ _ (good_start p (by omega)) hJ.inp hPp (k40_start p) (read_run hp)
  obtain ⟨jq, c1, c2, c3⟩ := run_in (J := J) (o := p.size + 7) (g := fp.groups) (L0 := [base']) (R0 := R) _ _ _ _ _ (good_start q (by omega)) hJ.inq hPq (k40_start q) (read_run hq)
  have a2' : fp.pos = p.size := a2
  have c2' : fq.pos = q.size := c2
  have a1' : jp ≤ p.size := by have : 0 + jp ≤ p.size := a1; omega
  have c1' : jq ≤ q.size := by have : 0 + jq ≤ q.size := c1; omega
  -- the states
  have s0 : (PSt.start J).stepP = .ok ((PSt.start p).inJ J 3 0 [base] [false]) := (step_open (by show 0 + 2 < J.size; omega) hJ.b0 hJ.b1 hJ.b2).trans rfl
  have s2 := step_shut (st := fp.inJ J 3 0 [base] [false]) (l := []) (f := base) (by show byte J (fp.pos + 3) = 41; rw [a2']; exact hJ.inp.stop) (by show lowJ 0 [base] fp.low = _; rw [lp]; rfl) (by show (topJ 0 fp.low fp.top).kind = 58; rw [lp]; rfl)
  have e2 : (fp.inJ J 3 0 [base] [false]).top.whole = fp.top.whole.up 0 := topJ_whole _ _ _
  rw [e2] at s2
  generalize hS3 : ((fp.inJ J 3 0 [base] [false]).pop [] base).put (.group 0 (fp.top.whole.up 0)) true 1 = S3 at s2
  have S3e : S3 = ⟨J, p.size + 4, [], base', fp.groups, fp.groups, 0, R⟩ := by
    rw [← hS3]
    simp only [PSt.put, PSt.pop, PSt.inJ, zp, bp, a2', base, base', R]
    rfl
  have s4 : S3.stepP = .ok (S3.enterK 58) := by
    rw [S3e]
    exact step_open (by show p.size + 4 + 2 < J.size; omega) hJ.b5 hJ.b6 hJ.b7
  have e4 : S3.enterK 58 = (PSt.start q).inJ J (p.size + 7) fp.groups [base'] R := by
    rw [S3e]
    simp only [PSt.enterK, PSt.inJ, PSt.start, Nat.zero_add, base']
    congr 1
    simp
  rw [e4] at s4
  have s6 := step_shut (st := fq.inJ J (p.size + 7) fp.groups [base'] R) (l := []) (f := base') (by show byte J (fq.pos + (p.size + 7)) = 41; rw [c2']; exact hJ.inq.stop) (by show lowJ _ [base'] fq.low = _; rw [lq]; rfl) (by show (topJ _ fq.low fq.top).kind = 58; rw [lq]; rfl)
  have e6 : (fq.inJ J (p.size + 7) fp.groups [base'] R).top.whole = fq.top.whole.up fp.groups := topJ_whole _ _ _
  rw [e6] at s6
  generalize hS7 : ((fq.inJ J (p.size + 7) fp.groups [base'] R).pop [] base').put (.group 0 (fq.top.whole.up fp.groups)) true 1 = S7 at s6
  have p7 : S7.pos = J.size := by rw [← hS7]; show fq.pos + (p.size + 7) + 1 = _; omega
  have t7 : S7.s = J := by rw [← hS7]; rfl
  have l7 : S7.low = [] := by rw [← hS7]; rfl
  have g7 : S7.groups = fq.groups + fp.groups := by rw [← hS7]; rfl
  have w7 : S7.top.whole = .branches [.pieces [.group 0 fp.top.whole, .group 0 (fq.top.whole.up fp.groups)]] := by
    rw [← hS7]
    show Fr.whole ⟨0, 0, [], [.group 0 (fp.top.whole.up 0)] ++ [.group 0 (fq.top.whole.up fp.groups)], true⟩ = _
    rw [up_zero]
    rfl
  -- the run
  obtain ⟨m, hm⟩ : ∃ m, J.size + 1 = (jp + (((jq + (m + 1 + 1)) + 1) + 1)) + 1 := ⟨J.size - jp - jq - 4, by omega⟩
  have hrun : ∃ d, runP (J.size + 1) (PSt.start J) 0 = .fin S7 d := by
    rw [hm]
    obtain ⟨d1, r1⟩ := run_step (n := jp + (((jq + (m + 1 + 1)) + 1) + 1)) (d := 0) (by show 0 < J.size; omega) s0
    obtain ⟨d2, r2⟩ := a3 (((jq + (m + 1 + 1)) + 1) + 1) d1
    obtain ⟨d3, r3⟩ := run_step (n := (jq + (m + 1 + 1)) + 1) (d := d2) (by show fp.pos + 3 < J.size; omega) s2
    obtain ⟨d5, r5⟩ := run_step (n := jq + (m + 1 + 1)) (d := d3) (by rw [S3e]; show p.size + 4 < J.size; omega) s4
    obtain ⟨d6, r6⟩ := c3 (m + 1 + 1) d5
    obtain ⟨d7, r7⟩ := run_step (n := m + 1) (d := d6) (by show fq.pos + (p.size + 7) < J.size; omega) s6
    refine ⟨d7, ?_⟩
    rw [r1, r2, r3, r5, r6, r7, runP, if_neg (by rw [p7, t7]; omega)]
  obtain ⟨d, hd⟩ := hrun
  unfold readOf
  rw [hd]
  simp only [readFin]
  rw [if_neg (by rw [l7]; simp)]
  by_cases hlim : S7.groups > 20 ∨ d > 100 ∨ S7.top.whole.size > 5000
  · rw [if_pos hlim]; exact .inr ⟨0, rfl⟩
  · rw [if_neg hlim]; exact .inl ⟨S7, d, rfl, w7, g7⟩

end Go.Proofs.Ytfgghbideoehjaa

namespace Go.Proofs.Ytfgghbideoehjaa
open Go.ChangeShapes Go.WideShapes Go.ChangeAt Go.RowKit
set_option linter.unusedVariables false
set_option linter.unusedSimpArgs false
set_option maxRecDepth 100000

theorem byte_extract {s : ByteArray} {a b i : Nat} (hb : b ≤ s.size) (h : i + a < b) : byte (s.extract a b) i = byte s (i + a) := by
  have h1 : i < (s.extract a b).size := by rw [ByteArray.size_extract]; omega
  have h2 : i + a < s.size := by omega
  unfold byte
  rw [dif_pos h1, dif_pos h2, ByteArray.getElem_extract]
  congr 2
  omega
theorem size_left {s : ByteArray} {a : Nat} (h : a ≤ s.size) : (s.extract 0 a).size = a := by rw [ByteArray.size_extract]; omega
theorem size_right {s : ByteArray} {a : Nat} (h : a ≤ s.size) : (s.extract a s.size).size = s.size - a := by rw [ByteArray.size_extract]; omega
theorem part_left {s : ByteArray} {a : Nat} (h : a ≤ s.size) : Part s (s.extract 0 a) 0 := ⟨by rw [size_left h]; omega, fun i hi => by rw [size_left h] at hi; exact byte_extract h (by omega)⟩
theorem part_right {s : ByteArray} {a : Nat} (h : a ≤ s.size) : Part s (s.extract a s.size) a := ⟨by rw [size_right h]; omega, fun i hi => by rw [size_right h] at hi; exact byte_extract (Nat.le_refl _) (by omega)⟩

/-- A part from the beginning. -/
theorem mt_left {fl ln : Bool} {s : ByteArray} {a : Nat} (h : a ≤ s.size) (t : Nd) : t.mt fl ln (s.extract 0 a) 0 (s.extract 0 a).size ↔ t.mt fl ln s 0 a := by
  rw [mt_part fl ln (part_left h) t 0 _ (Nat.zero_le _), size_left h]
  simp
theorem mt_right {fl ln : Bool} {s : ByteArray} {a : Nat} (h : a ≤ s.size) (t : Nd) : t.mt fl ln (s.extract a s.size) 0 (s.extract a s.size).size ↔ t.mt fl ln s a s.size := by
  rw [mt_part fl ln (part_right h) t 0 _ (Nat.zero_le _), size_right h]
  simp [Nat.sub_add_cancel h]

/-- P|Q. -/
theorem or_law {fl ln : Bool} {s : ByteArray} (t u : Nd) (g i j : Nat) : (Nd.branches [.pieces [.group 0 t], .pieces [.group 0 (u.up g)]]).mt fl ln s i j ↔ t.mt fl ln s i j ∨ u.mt fl ln s i j := by
  simp only [Nd.mt, Nd.mtB, Nd.mtL, mt_up, or_false]
  constructor
  · rintro (⟨k, h, rfl⟩ | ⟨k, h, rfl⟩)
    · exact .inl h
    · exact .inr h
  · rintro (h | h)
    · exact .inl ⟨j, h, rfl⟩
    · exact .inr ⟨j, h, rfl⟩
/-- PQ. -/
theorem both_law {fl ln : Bool} {s : ByteArray} (t u : Nd) (g i j : Nat) : (Nd.branches [.pieces [.group 0 t, .group 0 (u.up g)]]).mt fl ln s i j ↔ ∃ k, t.mt fl ln s i k ∧ u.mt fl ln s k j := by
  simp only [Nd.mt, Nd.mtB, Nd.mtL, mt_up, or_false]
  constructor
  · rintro ⟨k, h, k2, h2, rfl⟩
    exact ⟨k, h, h2⟩
  · rintro ⟨k, h, h2⟩
    exact ⟨k, h, j, h2, rfl⟩

/-- What Match answers at a plain pattern. -/
inductive MatchA (p : ByteArray) (fl ln : Bool) : Prop where
  | no {k c : Nat} (h : readOf p = .err k c) (hc : c ≠ 0) (call : ∀ (s : ByteArray) (w : World), s.size ≤ 100 → Calls Try.prog 13 #[.string p, .string s, .bool fl, .bool ln] w fun e w' => e = .returned (.tuple #[.bool false, .int .i64 (c : Int)]) ∧ Below w.heap.size w w')
  | yes {fin : PSt} {deep : Nat} (h : readOf p = .ok fin deep)
      (call : ∀ s : ByteArray, s.size ≤ 100 → ∃ b : Bool, (b = true ↔ fin.top.whole.mt fl ln s 0 s.size) ∧ ∀ w : World, Calls Try.prog 13 #[.string p, .string s, .bool fl, .bool ln] w fun e w' => e = .returned (.tuple #[.bool b, .int .i64 0]) ∧ Below w.heap.size w w') : MatchA p fl ln

set_option maxHeartbeats 1000000 in
theorem match_err (w : World) (p s : ByteArray) (fl ln : Bool) (hp : p.size ≤ 50000) {k c : Nat} (h : readOf p = .err k c) :
    Calls Try.prog 13 #[.string p, .string s, .bool fl, .bool ln] w fun e w' => e = .returned (.tuple #[.bool false, .int .i64 (c : Int)]) ∧ Below w.heap.size w w' := by
  have HMA := Lib.hid (machined_err w p s fl ln hp h)
  have hc := read_err h
  have t1 : ((c : Int) == 0) = false := by simp; omega
  clear h hc
  go_enter Try.func13, Try.ntmps13
  go_wp2_with (fail)
  refine HMA.out.mono ?_
  rintro e w1 ⟨rfl, hbel⟩
  dsimp only
  have HBEL := Lib.hid hbel
  clear hbel
  go_wp2
  go_ret2
  exact ⟨rfl, HBEL.out⟩

set_option maxHeartbeats 1000000 in
theorem match_ok (w : World) (p s : ByteArray) (fl ln : Bool) (fin : PSt) (deep : Nat) (hP : PatX p fin deep) (hs : s.size ≤ 200) {k : Nat} {r : Option (List Int)} {tr : List (Nat × Nat)}
    (hr : vrun (fin.progX fl ln) s true k none [Th.first fin.groups (fin.marksX fl ln) 0] [] = some (r, tr)) :
    Calls Try.prog 13 #[.string p, .string s, .bool fl, .bool ln] w fun e w' => e = .returned (.tuple #[.bool r.isSome, .int .i64 0]) ∧ Below w.heap.size w w' := by
  have HMA := Lib.hid (machined_ok w p s fl ln fin deep hP hs)
  have HR := Lib.hid hr
  clear hr hP
  go_enter Try.func13, Try.ntmps13
  go_wp2_with (fail)
  refine HMA.out.mono ?_
  rintro e w1 ⟨mp, tp, pg, pcap, ra, rc, rfl, hM, hmap, hbel, htp⟩
  dsimp only
  have hfrom := from_any w1 mp tp (fin.progX fl ln) (fin.marksX fl ln) fin.groups fin.refs s pg pcap ra rc hM [] hmap 0 (Nat.zero_le _) true k _ HR.out
  have HFROM := Lib.hid hfrom
  have HBEL := Lib.hid hbel
  clear hM hmap hfrom hbel
  go_wp2_with (fail)
  refine HFROM.out.mono ?_
  rintro e w2 ⟨hbut, _, hres⟩
  have hB : Below w.heap.size w w2 := HBEL.out.trans (hbut.below htp HBEL.out.size)
  have HB := Lib.hid hB
  clear hbut hB
  cases r with
  | none =>
    simp only at hres
    subst hres
    dsimp only
    go_wp2
    go_ret2
    exact ⟨rfl, HB.out⟩
  | some gs =>
    obtain ⟨g, c, rfl, _⟩ := hres
    dsimp only
    go_wp2
    go_ret2
    exact ⟨rfl, HB.out⟩

theorem match_plain {p : ByteArray} (hz : p.size ≤ 50000) (hb : Bare p) (hn : NoPlace p) (fl ln : Bool) : MatchA p fl ln := by
  cases hr : readOf p with
  | err k c =>
    have hc := read_err hr
    exact .no hr (by omega) fun s w _ => match_err w p s fl ln hz hr
  | ok fin deep =>
    refine .yes hr fun s hs => ?_
    obtain ⟨k, r, tr, hrun, hiff⟩ := match_law hz hb hn hs hr fl ln
    exact ⟨r.isSome, hiff, fun w => match_ok w p s fl ln fin deep (pat_of hz hb hr) (by omega) hrun⟩

end Go.Proofs.Ytfgghbideoehjaa

namespace Go.Proofs.Ytfgghbideoehjaa
open Go.ChangeShapes Go.WideShapes Go.ChangeAt Go.RowKit
set_option linter.unusedVariables false
set_option linter.unusedSimpArgs false
set_option maxRecDepth 100000

/-- awake is true. -/
def AwakeSure : Prop := ∀ w : World, Calls Try.prog 10 #[] w fun e w' => e = .returned (.bool true) ∧ Below w.heap.size w w'

/-- Match answers, whatever. -/
theorem MatchA.some {p : ByteArray} {fl ln : Bool} (h : MatchA p fl ln) (s : ByteArray) (hs : s.size ≤ 100) (w : World) : Calls Try.prog 13 #[.string p, .string s, .bool fl, .bool ln] w fun e w' => (∃ b c, e = .returned (.tuple #[.bool b, .int .i64 c])) ∧ Below w.heap.size w w' := by
  cases h with
  | no _ _ call => exact (call s w hs).mono fun e w' h => ⟨⟨_, _, h.1⟩, h.2⟩
  | yes _ call =>
    obtain ⟨b, _, call⟩ := call s hs
    exact (call w).mono fun e w' h => ⟨⟨_, _, h.1⟩, h.2⟩

/-- The text is cut before i into one that t and one that u matches. -/
def CutTo (fl : Bool) (s : ByteArray) (t u : Nd) (i : Nat) : Prop := ∃ k, k < i ∧ k ≤ s.size ∧ t.mt fl false s 0 k ∧ u.mt fl false s k s.size

theorem cutTo_succ {fl : Bool} {s : ByteArray} {t u : Nd} {i : Nat} (h : i ≤ s.size) : CutTo fl s t u (i + 1) ↔ CutTo fl s t u i ∨ (t.mt fl false s 0 i ∧ u.mt fl false s i s.size) := by
  constructor
  · rintro ⟨k, h1, h2, h3, h4⟩
    rcases Nat.lt_or_ge k i with h5 | h5
    · exact .inl ⟨k, h5, h2, h3, h4⟩
    · obtain rfl : k = i := (by omega)
      exact .inr ⟨h3, h4⟩
  · rintro (⟨k, h1, h2, h3, h4⟩ | ⟨h3, h4⟩)
    · exact ⟨k, by omega, h2, h3, h4⟩
    · exact ⟨i, by omega, h, h3, h4⟩
theorem cutTo_all {fl : Bool} {s : ByteArray} {t u : Nd} : CutTo fl s t u (s.size + 1) ↔ ∃ k, t.mt fl false s 0 k ∧ u.mt fl false s k s.size := by
  constructor
  · rintro ⟨k, _, _, h3, h4⟩; exact ⟨k, h3, h4⟩
  · rintro ⟨k, h3, h4⟩
    have := mt_le _ _ _ _ _ _ h4
    exact ⟨k, by omega, this, h3, h4⟩

set_option maxHeartbeats 8000000 in
theorem choices_any (hA : AwakeSure) (w : World) (p q s : ByteArray) (fl : Bool) :
    Calls Try.prog 4 #[.string p, .string q, .string s, .bool fl] w fun e w' => e = .returned (.bool true) ∧ Below w.heap.size w w' := by
  have HA := Lib.hid hA
  clear hA
  go_enter Try.func4, Try.ntmps4
  go_wp2_with (fail)
  refine (light_any w p s).mono ?_
  rintro e w' ⟨⟨b1, rfl, hb1⟩, hw⟩
  subst w'
  dsimp only
  cases b1 with
  | false =>
    go_wp2_with (fail)
    refine (HA.out _).mono ?_
    rintro e w9 ⟨rfl, hb9⟩
    dsimp only
    have HB9 := Lib.hid hb9
    clear hb9
    go_wp2
    go_ret
    exact ⟨rfl, HB9.out⟩
  | true =>
  have z1 := Lib.hid (hb1 rfl)
  clear hb1
  go_wp2_with (fail)
  refine (light_any w q s).mono ?_
  rintro e w' ⟨⟨b1, rfl, hb1⟩, hw⟩
  subst w'
  dsimp only
  cases b1 with
  | false =>
    go_wp2_with (fail)
    refine (HA.out _).mono ?_
    rintro e w9 ⟨rfl, hb9⟩
    dsimp only
    have HB9 := Lib.hid hb9
    clear hb9
    go_wp2
    go_ret
    exact ⟨rfl, HB9.out⟩
  | true =>
  have z2 := Lib.hid (hb1 rfl)
  clear hb1
  have hs60 : s.size ≤ 60 := z1.out.2
  have hp40 : p.size ≤ 40 := z1.out.1
  have hq40 : q.size ≤ 40 := z2.out.1
  by_cases hlen : (p.size : Int) + (q.size : Int) > 34
  ·
    go_wp2_with (fail)
    refine (HA.out _).mono ?_
    rintro e w9 ⟨rfl, hb9⟩
    dsimp only
    have HB9 := Lib.hid hb9
    clear hb9
    go_wp2
    go_ret
    exact ⟨rfl, HB9.out⟩
  by_cases hlen2 : (s.size : Int) > 14
  ·
    go_wp2_with (fail)
    refine (HA.out _).mono ?_
    rintro e w9 ⟨rfl, hb9⟩
    dsimp only
    have HB9 := Lib.hid hb9
    clear hb9
    go_wp2
    go_ret
    exact ⟨rfl, HB9.out⟩
  cases hrp : readOf p with
  | err kp cp =>
    have HVP := Lib.hid (valid_err w p (by omega) hrp)
    clear hrp
    go_wp2_with (fail)
    refine (HVP.out).mono ?_
    rintro e w1 ⟨rfl, hb0⟩
    dsimp only
    have HB1 := Lib.hid hb0
    clear hb0
    go_wp2_with (fail)
    refine (HA.out _).mono ?_
    rintro e w9 ⟨rfl, hb9⟩
    dsimp only
    have HB9 := Lib.hid hb9
    clear hb9
    go_wp2
    go_ret
    exact ⟨rfl, HB1.out.trans (HB9.out.mono HB1.out.size)⟩
  | ok fp dp =>
  have HVP := Lib.hid (valid_ok w p (by omega) hrp)
  have HRP := Lib.hid hrp
  clear hrp
  go_wp2_with (fail)
  refine (HVP.out).mono ?_
  rintro e w1 ⟨rfl, hb0⟩
  dsimp only
  have HB1 := Lib.hid hb0
  clear hb0
  cases hrq : readOf q with
  | err kq cq =>
    have HVQ := Lib.hid (valid_err w1 q (by omega) hrq)
    clear hrq
    go_wp2_with (fail)
    refine (HVQ.out).mono ?_
    rintro e w2 ⟨rfl, hb0⟩
    dsimp only
    have HB2 := Lib.hid (HB1.out.trans (hb0.mono HB1.out.size))
    clear hb0
    go_wp2_with (fail)
    refine (HA.out _).mono ?_
    rintro e w9 ⟨rfl, hb9⟩
    dsimp only
    have HB9 := Lib.hid hb9
    clear hb9
    go_wp2
    go_ret
    exact ⟨rfl, HB2.out.trans (HB9.out.mono HB2.out.size)⟩
  | ok fq dq =>
  have HVQ := Lib.hid (valid_ok w1 q (by omega) hrq)
  have HRQ := Lib.hid hrq
  clear hrq
  go_wp2_with (fail)
  refine (HVQ.out).mono ?_
  rintro e w2 ⟨rfl, hb0⟩
  dsimp only
  have HB2 := Lib.hid (HB1.out.trans (hb0.mono HB1.out.size))
  clear hb0
  go_wp2_with (fail)
  refine (plainly_any w2 p (by omega)).mono ?_
  rintro e w' ⟨b1, rfl, hb1, hw⟩
  subst w'
  dsimp only
  cases b1 with
  | false =>
    go_wp2_with (fail)
    refine (HA.out _).mono ?_
    rintro e w9 ⟨rfl, hb9⟩
    dsimp only
    have HB9 := Lib.hid hb9
    clear hb9
    go_wp2
    go_ret
    exact ⟨rfl, HB2.out.trans (HB9.out.mono HB2.out.size)⟩
  | true =>
  have HP := Lib.hid (hb1 rfl)
  clear hb1
  go_wp2_with (fail)
  refine (plainly_any w2 q (by omega)).mono ?_
  rintro e w' ⟨b1, rfl, hb1, hw⟩
  subst w'
  dsimp only
  cases b1 with
  | false =>
    go_wp2_with (fail)
    refine (HA.out _).mono ?_
    rintro e w9 ⟨rfl, hb9⟩
    dsimp only
    have HB9 := Lib.hid hb9
    clear hb9
    go_wp2
    go_ret
    exact ⟨rfl, HB2.out.trans (HB9.out.mono HB2.out.size)⟩
  | true =>
  have HQ := Lib.hid (hb1 rfl)
  clear hb1
  have hJ := Lib.hid (joins_joinB p q)
  have hC := Lib.hid (chain_chainB p q)
  have hJz := hJ.out.size
  have hCz := hC.out.size
  have MJ := Lib.hid (match_plain (p := joinB p q) (by omega) (hJ.out.bare HP.out HQ.out) (hJ.out.noplace HP.out HQ.out) fl false)
  have MC := Lib.hid (match_plain (p := chainB p q) (by omega) (hC.out.bare HP.out HQ.out) (hC.out.noplace HP.out HQ.out) fl false)
  have HMP : Hid (∀ v : ByteArray, v.size ≤ 100 → ∃ b : Bool, (b = true ↔ fp.top.whole.mt fl false v 0 v.size) ∧ ∀ w : World, Calls Try.prog 13 #[.string p, .string v, .bool fl, .bool false] w fun e w' => e = .returned (.tuple #[.bool b, .int .i64 0]) ∧ Below w.heap.size w w') := Lib.hid (by
    rcases match_plain (p := p) (by omega) HP.out.bare HP.out.noplace fl false with ⟨h, _, _⟩ | ⟨h, call⟩
    · rw [HRP.out] at h; cases h
    · rw [HRP.out] at h; cases h; exact call)
  have HMQ : Hid (∀ v : ByteArray, v.size ≤ 100 → ∃ b : Bool, (b = true ↔ fq.top.whole.mt fl false v 0 v.size) ∧ ∀ w : World, Calls Try.prog 13 #[.string q, .string v, .bool fl, .bool false] w fun e w' => e = .returned (.tuple #[.bool b, .int .i64 0]) ∧ Below w.heap.size w w') := Lib.hid (by
    rcases match_plain (p := q) (by omega) HQ.out.bare HQ.out.noplace fl false with ⟨h, _, _⟩ | ⟨h, call⟩
    · rw [HRQ.out] at h; cases h
    · rw [HRQ.out] at h; cases h; exact call)
  obtain ⟨ba, hba, ca⟩ := HMP.out s (by omega)
  obtain ⟨bb, hbb, cb⟩ := HMQ.out s (by omega)
  have HCA := Lib.hid ca
  have HCB := Lib.hid cb
  have HBA := Lib.hid hba
  have HBB := Lib.hid hbb
  clear ca cb hba hbb
  go_wp2_with (fail)
  refine (HCA.out w2).mono ?_
  rintro e w3 ⟨rfl, hb0⟩
  dsimp only
  have HB3 := Lib.hid (HB2.out.trans (hb0.mono HB2.out.size))
  clear hb0
  go_wp2_with (fail)
  refine (HCB.out w3).mono ?_
  rintro e w4 ⟨rfl, hb0⟩
  dsimp only
  have HB4 := Lib.hid (HB3.out.trans (hb0.mono HB3.out.size))
  clear hb0
  rcases MJ.out with ⟨hj, hjz0, callj⟩ | ⟨hj, callj⟩
  · rename_i kj cj
    have e4 : cj = 4 := by
      rcases read_join hJ.out (by omega) HP.out HQ.out HRP.out HRQ.out with ⟨fin2, d2, h4, _⟩ | ⟨k2, h4⟩
      · rw [hj] at h4; cases h4
      · rw [hj] at h4; cases h4; rfl
    subst e4
    have HCJ := Lib.hid (fun w => callj s w (by omega))
    clear callj hj hjz0
    go_wp2_with (fail)
    refine (HCJ.out w4).mono ?_
    rintro e w5 ⟨rfl, hb0⟩
    dsimp only
    have HB5 := Lib.hid (HB4.out.trans (hb0.mono HB4.out.size))
    clear hb0
    go_wp2_with (fail)
    refine (MC.out.some s (by omega) w5).mono ?_
    rintro e w6 ⟨⟨b6, c6, rfl⟩, hb0⟩
    dsimp only
    have HB6 := Lib.hid (HB5.out.trans (hb0.mono HB5.out.size))
    clear hb0
    go_wp2_with (fail)
    refine (HA.out _).mono ?_
    rintro e w9 ⟨rfl, hb9⟩
    dsimp only
    have HB9 := Lib.hid hb9
    clear hb9
    go_wp2
    go_ret
    exact ⟨rfl, HB6.out.trans (HB9.out.mono HB6.out.size)⟩
  rename_i fj dj
  obtain ⟨bj, hbj, cj⟩ := callj s (by omega)
  have HCJ := Lib.hid cj
  have hor : bj = (ba || bb) := by
    rcases read_join hJ.out (by omega) HP.out HQ.out HRP.out HRQ.out with ⟨fin2, d2, h4, h5, _⟩ | ⟨k2, h4⟩
    · rw [hj] at h4; cases h4
      rw [h5, or_law, ← HBA.out, ← HBB.out] at hbj
      rw [Bool.eq_iff_iff, hbj]; simp
    · rw [hj] at h4; cases h4
  clear callj hj cj hbj
  go_wp2_with (fail)
  refine (HCJ.out w4).mono ?_
  rintro e w5 ⟨rfl, hb0⟩
  dsimp only
  have HB5 := Lib.hid (HB4.out.trans (hb0.mono HB4.out.size))
  clear hb0
  rcases MC.out with ⟨hc, hcz0, callc⟩ | ⟨hc, callc⟩
  · rename_i kc cc
    have e4 : cc = 4 := by
      rcases read_chain hC.out (by omega) HP.out HQ.out HRP.out HRQ.out with ⟨fin2, d2, h4, _⟩ | ⟨k2, h4⟩
      · rw [hc] at h4; cases h4
      · rw [hc] at h4; cases h4; rfl
    subst e4
    have HCC := Lib.hid (fun w => callc s w (by omega))
    clear callc hc hcz0
    go_wp2_with (fail)
    refine (HCC.out w5).mono ?_
    rintro e w6 ⟨rfl, hb0⟩
    dsimp only
    have HB6 := Lib.hid (HB5.out.trans (hb0.mono HB5.out.size))
    clear hb0
    go_wp2_with (fail)
    refine (HA.out _).mono ?_
    rintro e w9 ⟨rfl, hb9⟩
    dsimp only
    have HB9 := Lib.hid hb9
    clear hb9
    go_wp2
    go_ret
    exact ⟨rfl, HB6.out.trans (HB9.out.mono HB6.out.size)⟩
  rename_i fc dc
  obtain ⟨bc, hbc, cc⟩ := callc s (by omega)
  have HCC := Lib.hid cc
  have hboth : bc = true ↔ CutTo fl s fp.top.whole fq.top.whole (s.size + 1) := by
    rcases read_chain hC.out (by omega) HP.out HQ.out HRP.out HRQ.out with ⟨fin2, d2, h4, h5, _⟩ | ⟨k2, h4⟩
    · rw [hc] at h4; cases h4
      rw [h5, both_law] at hbc
      rw [hbc, cutTo_all]
    · rw [hc] at h4; cases h4
  have HBOTH := Lib.hid hboth
  have HOR := Lib.hid hor
  clear callc hc cc hbc hboth hor
  go_wp2_with (fail)
  refine (HCC.out w5).mono ?_
  rintro e w6 ⟨rfl, hb0⟩
  dsimp only
  have HB6 := Lib.hid (HB5.out.trans (hb0.mono HB5.out.size))
  clear hb0
  clear hJz hCz HCA HCB HCJ HCC
  go_wp2
  go_loopg [17, 18] (s.size + 1) (fun k cv iv wr => ∃ (i : Nat) (c : Bool), cv = .bool c ∧ iv = .int .i64 (i : Int) ∧ k = s.size + 1 - i ∧ i ≤ s.size + 1 ∧ (c = true ↔ CutTo fl s fp.top.whole fq.top.whole i) ∧ Below w.heap.size w wr)
  case atStart => exact ⟨0, false, rfl, rfl, rfl, by omega, by simp [CutTo], HB6.out⟩
  case round =>
    obtain ⟨i, c, rfl, rfl, hk, hi, hcut, hbr⟩ := hrel
    have HK := Lib.hid hk
    have HCUT := Lib.hid hcut
    have HBR := Lib.hid hbr
    clear hk hcut hbr
    by_cases hle : i ≤ s.size
    · have t1 : (i : Int) ≤ (s.size : Int) := by omega
      obtain ⟨bx, hbx, cx⟩ := HMP.out (s.extract 0 i) (by rw [size_left hle]; omega)
      obtain ⟨bys, hby, cy⟩ := HMQ.out (s.extract i s.size) (by rw [size_right hle]; omega)
      rw [mt_left hle] at hbx
      rw [mt_right hle] at hby
      have HCX := Lib.hid cx
      have HCY := Lib.hid cy
      have HN : Hid ((c || bx && bys) = true ↔ CutTo fl s fp.top.whole fq.top.whole (i + 1)) := Lib.hid (by
        rw [cutTo_succ hle, ← HCUT.out, ← hbx, ← hby]; simp)
      clear cx cy hbx hby
      go_wp2_with (fail)
      refine (HCX.out wr).mono ?_
      rintro e wx ⟨rfl, hb0⟩
      dsimp only
      have HBX := Lib.hid (HBR.out.trans (hb0.mono HBR.out.size))
      clear hb0
      go_wp2_with (fail)
      refine (HCY.out wx).mono ?_
      rintro e wy ⟨rfl, hb0⟩
      dsimp only
      have HBY := Lib.hid (HBX.out.trans (hb0.mono HBX.out.size))
      clear hb0
      cases c <;> cases bx <;> cases bys
      all_goals
        go_wp2
        go_roundg (s.size + 1 - (i + 1))
        case measure => rw [HK.out]; omega
        case rel => exact ⟨i + 1, _, rfl, by go_num, rfl, by omega, HN.out, HBY.out⟩
    · have t1 : ¬ (i : Int) ≤ (s.size : Int) := by omega
      have hii : i = s.size + 1 := by omega
      have hbc : bc = c := by rw [Bool.eq_iff_iff, HBOTH.out, HCUT.out, hii]
      have hor := HOR.out
      subst hbc
      subst hor
      clear HBOTH HCUT HOR HBA HBB hii
      cases ba <;> cases bb <;> cases bc
      all_goals
        go_wp2_with (fail)
        refine (HA.out _).mono ?_
        rintro e w9 ⟨rfl, hb9⟩
        dsimp only
        have HB9 := Lib.hid hb9
        clear hb9
        go_wp2
        go_ret
        exact ⟨rfl, HBR.out.trans (HB9.out.mono HBR.out.size)⟩

end Go.Proofs.Ytfgghbideoehjaa

namespace Go.Proofs.Ytfgghbideoehjaa
open Go.ChangeShapes Go.WideShapes Go.ChangeAt Go.RowKit
open Go.ChangeMaps (open_string shut_string)
set_option linter.unusedVariables false

theorem Choices.own : ownKnob Try.prog.godebug = none := by kernel_rfl
theorem Choices.awake_ok : AwakeSure := fun w => awake_any replace_ex w

set_option maxRecDepth 100000 in
theorem choices_lifted (os : Os) (started : os.Started) (H : Type) (enc : TypeId × Value → H) :
    ReturnsInHanded {} Try.checked os 4 .any (Rows.regexChoicesSpec.pre6 enc Try.prog Try.f4 Rows.regexChoicesRow.domain false) (Rows.regexChoicesSpec.post enc Try.prog Try.f4 false true false false) := by
  refine returnsInHanded_of_change (C := Try.checked) Choices.own started (by kernel_rfl) Try.func4
    (ChangeSpec.witness6 (enc := enc) (C := Try.checked) false ⟨#[], #[.string ⟨#[]⟩, .string ⟨#[]⟩, .string ⟨#[]⟩, .bool false], []⟩ 8 (by kernel_rfl) (by kernel_rfl) (by kernel_rfl) (by kernel_rfl)) ?_
  intro W base args ds gs before hval0 hW hcnd _
  have hval : ∀ (j : Nat) t v, Try.f4.params[j]? = some t → args[j]? = some v → Value.okWide Try.prog W .any base t v := hval0
  have hW' := hW
  obtain ⟨p, q, hA0, hV, rfl, hfz, hnd⟩ := hW
  have hA : DataW.TrodAll enc Try.prog W 0 (fun _ => true) true Try.f4.params.toList args.toList ds p := hA0
  rw [Try.params4] at hA hval
  obtain ⟨v0, v1, v2, v3, d0, d1, d2, d3, p0, p1, p2, p3, rfl, rfl, rfl, h0, h1, h2, h3⟩ := trodAll_four hA
  obtain ⟨rfl, rfl⟩ := trodVars_none hV
  obtain ⟨s0, rfl, rfl, rfl, z0⟩ := open_string Try.underlying9 (hval 0 9 v0 rfl rfl) h0
  obtain ⟨s1, rfl, rfl, rfl, z1⟩ := open_string Try.underlying9 (hval 1 9 v1 rfl rfl) h1
  obtain ⟨s2, rfl, rfl, rfl, z2⟩ := open_string Try.underlying9 (hval 2 9 v2 rfl rfl) h2
  obtain ⟨fl, rfl, rfl, rfl⟩ := open_bool Try.underlying4 (hval 3 4 v3 rfl rfl) h3
  clear hA0 hval0
  simp only [List.append_nil] at hW'
  refine (choices_any Choices.awake_ok W s0 s1 s2 fl).mono fun e W' ⟨he, hb⟩ => ?_
  subst he
  exact ⟨_, rfl, _, _, _, [], [], [], hW', trodAll_mk1 (shut_bool Try.underlying4 true), trodAll_mk4 (shut_string Try.underlying9 z0) (shut_string Try.underlying9 z1) (shut_string Try.underlying9 z2) (shut_bool Try.underlying4 fl), rfl, hb.frame _, fun h => by cases h⟩

theorem choices_holds : Rows.RegexChoicesSaid :=
  OpenClaim.holds_of_wide 4 Try.f4 rfl rfl rfl rfl rfl rfl rfl ⟨rfl, rfl, rfl, rfl, rfl⟩ rfl rfl rfl rfl rfl (by kernel_rfl) Try.func4 (by kernel_rfl)
    (of_decide_eq_true (by kernel_rfl)) (by unfold Func.isWrapper; first | (rw [if_pos (by decide +kernel)]; kernel_rfl) | (rw [if_neg (by decide +kernel)]; exact ⟨rfl, rfl⟩))
    (fun os started H enc _ => choices_lifted os started H enc)

#print axioms choices_holds

end Go.Proofs.Ytfgghbideoehjaa
