/-
  What a program can reach, and the language of its segments.
  How the marks of a loop and of branches lie.
  The language of a segment: what leads through it, and what a closed set of states holds.
  The language of a compiled node.
  What the machine finds from index 0, against what its program can reach.
  Match at a plain pattern, as a plain law: the machine matches a whole text exactly if the pattern's tree does; trees and parts of a text.
-/
import Derived.Test.YtfgghbideoehjaaCovAToSegB
import Derived.Test.YtfgghbideoehjaaVmAToVmE
import Derived.Test.YtfgghbideoehjaaMachXToJoinH
namespace Go.Proofs.Ytfgghbideoehjaa
open Go.ChangeShapes Go.WideShapes Go.ChangeAt Go.RowKit
set_option linter.unusedVariables false
set_option linter.unusedSimpArgs false
set_option maxRecDepth 100000

/-- Where an instruction may lead. -/
def succs (k : Nat) (x : Ins) : List Nat := if x.op = 3 then [x.a, x.b] else if x.op = 4 then [x.a] else if x.op = 9 then [] else [k + 1]

/-- How the marks of a program lie, its instructions being counted from o on. -/
structure NestG (o : Nat) (seg : List Ins) : Prop where
  pair : ∀ (p : Nat) (z : Ins), seg[p]? = some z → z.op = 7 → ∃ (q : Nat) (y : Ins), q < p ∧ seg[q]? = some y ∧ y.op = 6 ∧ y.a = z.a
  pre : ∀ (q : Nat) (y : Ins), seg[q]? = some y → y.op = 6 → ∃ (k : Nat) (x : Ins), q = k + 1 ∧ seg[k]? = some x ∧ x.op = 3
  uniq : ∀ (q r : Nat) (y z : Ins), seg[q]? = some y → seg[r]? = some z → y.op = 6 → z.op = 6 → y.a = z.a → q = r
  into : ∀ (k : Nat) (x : Ins), seg[k]? = some x → ∀ k' ∈ succs (o + k) x, ∀ (q p : Nat) (y z : Ins), seg[q]? = some y → seg[p]? = some z → y.op = 6 → z.op = 7 → y.a = z.a → o + q < k' → k' ≤ o + p → (q < k ∧ k ≤ p) ∨ k = q
  onto : ∀ (k : Nat) (x : Ins), seg[k]? = some x → ∀ k' ∈ succs (o + k) x, ∀ (q : Nat) (y : Ins), seg[q]? = some y → y.op = 6 → k' = o + q → k + 1 = q

theorem shiftL_get (k : Nat) (seg : List Ins) (i : Nat) : (shiftL k seg)[i]? = (seg[i]?).map (shiftI k) := by simp [shiftL]
theorem shiftL_get' {k i : Nat} {seg : List Ins} {x : Ins} (h : (shiftL k seg)[i]? = some x) : ∃ y, seg[i]? = some y ∧ x = shiftI k y := by
  rw [shiftL_get] at h
  cases hs : seg[i]? with
  | none => rw [hs] at h; cases h
  | some y => rw [hs] at h; cases h; exact ⟨y, rfl, rfl⟩
theorem shiftI_a {k : Nat} {x : Ins} (h3 : x.op ≠ 3) (h4 : x.op ≠ 4) : (shiftI k x).a = x.a := by unfold shiftI; rw [if_neg h3, if_neg h4]
theorem succs_shift (o k : Nat) (x : Ins) (j : Nat) : j ∈ succs (k + o) (shiftI o x) ↔ ∃ i, i ∈ succs k x ∧ j = i + o := by
  obtain ⟨op, a, b, s, kd⟩ := x
  unfold succs shiftI
  by_cases h3 : op = 3
  · subst h3; simp
  · by_cases h4 : op = 4
    · subst h4; simp
    · by_cases h9 : op = 9
      · subst h9; simp
      · simp [h3, h4, h9]; omega

theorem NestG.shift {o : Nat} {seg : List Ins} (h : NestG 0 seg) : NestG o (shiftL o seg) where
  pair := by
    intro p z hz h7
    obtain ⟨z', hz', rfl⟩ := shiftL_get' hz
    rw [shiftI_op] at h7
    obtain ⟨q, y, h1, h2, h3, h4⟩ := h.pair p z' hz' h7
    exact ⟨q, shiftI o y, h1, by rw [shiftL_get, h2]; rfl, by rw [shiftI_op]; exact h3, by rw [shiftI_a (by omega) (by omega), shiftI_a (by omega) (by omega)]; exact h4⟩
  pre := by
    intro q y hy h6
    obtain ⟨y', hy', rfl⟩ := shiftL_get' hy
    rw [shiftI_op] at h6
    obtain ⟨k, x, h1, h2, h3⟩ := h.pre q y' hy' h6
    exact ⟨k, shiftI o x, h1, by rw [shiftL_get, h2]; rfl, by rw [shiftI_op]; exact h3⟩
  uniq := by
    intro q r y z hy hz h6 h6' e
    obtain ⟨y', hy', rfl⟩ := shiftL_get' hy
    obtain ⟨z', hz', rfl⟩ := shiftL_get' hz
    rw [shiftI_op] at h6 h6'
    rw [shiftI_a (by omega) (by omega), shiftI_a (by omega) (by omega)] at e
    exact h.uniq q r y' z' hy' hz' h6 h6' e
  into := by
    intro k x hx k' hk' q p y z hy hz h6 h7 e h1 h2
    obtain ⟨x', hx', rfl⟩ := shiftL_get' hx
    obtain ⟨y', hy', rfl⟩ := shiftL_get' hy
    obtain ⟨z', hz', rfl⟩ := shiftL_get' hz
    rw [shiftI_op] at h6 h7
    rw [shiftI_a (by omega) (by omega), shiftI_a (by omega) (by omega)] at e
    rw [Nat.add_comm o k] at hk'
    obtain ⟨i, hi, rfl⟩ := (succs_shift o k x' k').1 hk'
    exact h.into k x' hx' i (by simpa using hi) q p y' z' hy' hz' h6 h7 e (by omega) (by omega)
  onto := by
    intro k x hx k' hk' q y hy h6 e
    obtain ⟨x', hx', rfl⟩ := shiftL_get' hx
    obtain ⟨y', hy', rfl⟩ := shiftL_get' hy
    rw [shiftI_op] at h6
    rw [Nat.add_comm o k] at hk'
    obtain ⟨i, hi, rfl⟩ := (succs_shift o k x' k').1 hk'
    exact h.onto k x' hx' i (by simpa using hi) q y' hy' h6 (by omega)

theorem app_get {α : Type} {s t : List α} {k : Nat} {x : α} (h : (s ++ t)[k]? = some x) : (k < s.length ∧ s[k]? = some x) ∨ ∃ j, k = s.length + j ∧ t[j]? = some x := by
  by_cases hk : k < s.length
  · rw [List.getElem?_append_left hk] at h; exact .inl ⟨hk, h⟩
  · rw [List.getElem?_append_right (by omega)] at h; exact .inr ⟨k - s.length, by omega, h⟩

theorem get_lt {α : Type} {l : List α} {k : Nat} {x : α} (h : l[k]? = some x) : k < l.length := by
  rcases Nat.lt_or_ge k l.length with h1 | h1
  · exact h1
  · rw [List.getElem?_eq_none h1] at h; cases h

theorem app_r {α : Type} {s t : List α} (j : Nat) : (s ++ t)[s.length + j]? = t[j]? := by rw [List.getElem?_append_right (by omega)]; congr 1; omega

/-- Where an instruction of a segment leads. -/
theorem InsOk.succs {G m m' n k : Nat} {x : Ins} (h : InsOk G m m' n x) (hk : k < n) : ∀ j ∈ succs k x, j ≤ n := by
  intro j hj
  unfold InsOk at h
  unfold Proofs.Ytfgghbideoehjaa.succs at hj
  by_cases h3 : x.op = 3
  · rw [if_pos h3] at hj; simp at hj; omega
  · rw [if_neg h3] at hj
    by_cases h4 : x.op = 4
    · rw [if_pos h4] at hj; simp at hj; omega
    · rw [if_neg h4] at hj
      split at hj
      · cases hj
      · simp at hj; omega
theorem InsOk.mark {G m m' n : Nat} {x : Ins} (h : InsOk G m m' n x) (hx : x.op = 6 ∨ x.op = 7) : m ≤ x.a ∧ x.a < m' := by
  unfold InsOk at h; omega
theorem SegOk.at_ {G m m' S : Nat} {seg : List Ins} (h : SegOk G m m' S seg) {k : Nat} {x : Ins} (hx : seg[k]? = some x) : InsOk G m m' seg.length x := h.ok x (List.mem_of_getElem? hx)

theorem NestG.nil (o : Nat) : NestG o [] where
  pair := fun p z h => by simp at h
  pre := fun p z h => by simp at h
  uniq := fun q r y z h => by simp at h
  into := fun k x h => by simp at h
  onto := fun k x h => by simp at h

theorem NestG.one (o : Nat) {x : Ins} (h6 : x.op ≠ 6) (h7 : x.op ≠ 7) : NestG o [x] := by
  have key : ∀ (k : Nat) (y : Ins), [x][k]? = some y → y = x := fun k y h => by
    rcases k with _ | k
    · simp at h; exact h.symm
    · simp at h
  exact {
    pair := fun p z h h7' => by rw [key p z h] at h7'; exact absurd h7' h7
    pre := fun q y h h6' => by rw [key q y h] at h6'; exact absurd h6' h6
    uniq := fun q r y z h _ h6' => by rw [key q y h] at h6'; exact absurd h6' h6
    into := fun k x h k' _ q p y z hy _ h6' => by rw [key q y hy] at h6'; exact absurd h6' h6
    onto := fun k x h k' _ q y hy h6' => by rw [key q y hy] at h6'; exact absurd h6' h6 }

theorem NestG.app {G m m1 m2 S1 S2 : Nat} {s1 s2 : List Ins} (h1 : SegOk G m m1 S1 s1) (h2 : SegOk G m1 m2 S2 s2) (n1 : NestG 0 s1) (n2 : NestG 0 s2) : NestG 0 (s1 ++ shiftL s1.length s2) where
  pair := by
    intro p z hz h7
    replace hz := app_get hz; rcases hz with ⟨hp, hz⟩ | ⟨j, rfl, hz⟩
    · obtain ⟨q, y, a1, a2, a3⟩ := n1.pair p z hz h7
      exact ⟨q, y, a1, by rw [List.getElem?_append_left (get_lt a2)]; exact a2, a3⟩
    · obtain ⟨q, y, a1, a2, a3⟩ := (n2.shift (o := s1.length)).pair j z hz h7
      exact ⟨s1.length + q, y, by omega, by rw [app_r]; exact a2, a3⟩
  pre := by
    intro p z hz h7
    replace hz := app_get hz; rcases hz with ⟨hp, hz⟩ | ⟨j, rfl, hz⟩
    · obtain ⟨q, y, a1, a2, a3⟩ := n1.pre p z hz h7
      exact ⟨q, y, a1, by rw [List.getElem?_append_left (get_lt a2)]; exact a2, a3⟩
    · obtain ⟨q, y, a1, a2, a3⟩ := (n2.shift (o := s1.length)).pre j z hz h7
      exact ⟨s1.length + q, y, by omega, by rw [app_r]; exact a2, a3⟩
  uniq := by
    intro q r y z hy hz h6 h6' e
    replace hy := app_get hy; rcases hy with ⟨hq, hy⟩ | ⟨j, rfl, hy⟩
    · have b1 := (h1.at_ hy).mark (.inl h6)
      replace hz := app_get hz; rcases hz with ⟨hr, hz⟩ | ⟨i, rfl, hz⟩
      · exact n1.uniq q r y z hy hz h6 h6' e
      · obtain ⟨z', hz', rfl⟩ := shiftL_get' hz
        rw [shiftI_op] at h6'
        have b2 := (h2.at_ hz').mark (.inl h6')
        rw [shiftI_a (by omega) (by omega)] at e
        omega
    · replace hz := app_get hz; rcases hz with ⟨hr, hz⟩ | ⟨i, rfl, hz⟩
      · have b1 := (h1.at_ hz).mark (.inl h6')
        obtain ⟨y', hy', rfl⟩ := shiftL_get' hy
        rw [shiftI_op] at h6
        have b2 := (h2.at_ hy').mark (.inl h6)
        rw [shiftI_a (by omega) (by omega)] at e
        omega
      · have := (n2.shift (o := s1.length)).uniq j i y z hy hz h6 h6' e
        omega
  into := by
    intro k x hx k' hk' q p y z hy hz h6 h7 e l1 l2
    rw [Nat.zero_add] at hk' l1 l2
    replace hx := app_get hx; rcases hx with ⟨hk, hx⟩ | ⟨k2, rfl, hx⟩
    · have bk := (h1.at_ hx).succs hk k' hk'
      replace hy := app_get hy; rcases hy with ⟨hq, hy⟩ | ⟨j, rfl, hy⟩
      · replace hz := app_get hz; rcases hz with ⟨hp, hz⟩ | ⟨i, rfl, hz⟩
        · exact n1.into k x hx k' (by simpa using hk') q p y z hy hz h6 h7 e (by omega) (by omega)
        · have b1 := (h1.at_ hy).mark (.inl h6)
          obtain ⟨z', hz', rfl⟩ := shiftL_get' hz
          rw [shiftI_op] at h7
          have b2 := (h2.at_ hz').mark (.inr h7)
          rw [shiftI_a (k := s1.length) (x := z') (by omega) (by omega)] at e
          omega
      · omega
    · obtain ⟨x', hx', rfl⟩ := shiftL_get' hx
      rw [Nat.add_comm] at hk'
      obtain ⟨i', hi', rfl⟩ := (succs_shift _ _ _ _).1 hk'
      replace hz := app_get hz; rcases hz with ⟨hp, hz⟩ | ⟨i, rfl, hz⟩
      · omega
      · replace hy := app_get hy; rcases hy with ⟨hq, hy⟩ | ⟨j, rfl, hy⟩
        · have b1 := (h1.at_ hy).mark (.inl h6)
          obtain ⟨z', hz', rfl⟩ := shiftL_get' hz
          rw [shiftI_op] at h7
          have b2 := (h2.at_ hz').mark (.inr h7)
          rw [shiftI_a (k := s1.length) (x := z') (by omega) (by omega)] at e
          omega
        · have := (n2.shift (o := s1.length)).into k2 _ hx (i' + s1.length) (by rw [Nat.add_comm s1.length k2]; exact (succs_shift _ _ _ _).2 ⟨i', hi', rfl⟩) j i y z hy hz h6 h7 e (by omega) (by omega)
          omega
  onto := by
    intro k x hx k' hk' q y hy h6 e
    rw [Nat.zero_add] at hk' e
    replace hx := app_get hx; rcases hx with ⟨hk, hx⟩ | ⟨k2, rfl, hx⟩
    · have bk := (h1.at_ hx).succs hk k' hk'
      replace hy := app_get hy; rcases hy with ⟨hq, hy⟩ | ⟨j, rfl, hy⟩
      · exact n1.onto k x hx k' (by simpa using hk') q y hy h6 (by omega)
      · obtain ⟨c, d, e1, e2, e3⟩ := (n2.shift (o := s1.length)).pre j y hy h6
        omega
    · obtain ⟨x', hx', rfl⟩ := shiftL_get' hx
      rw [Nat.add_comm] at hk'
      obtain ⟨i', hi', rfl⟩ := (succs_shift _ _ _ _).1 hk'
      replace hy := app_get hy; rcases hy with ⟨hq, hy⟩ | ⟨j, rfl, hy⟩
      · omega
      · have := (n2.shift (o := s1.length)).onto k2 _ hx (i' + s1.length) (by rw [Nat.add_comm s1.length k2]; exact (succs_shift _ _ _ _).2 ⟨i', hi', rfl⟩) j y hy h6 (by omega)
        omega

theorem loop_get {lz : Bool} {m out : Nat} {seg rest : List Ins} {k : Nat} {x : Ins} (h : (loopSeg lz m out seg rest)[k]? = some x) :
    (k = 0 ∧ x = splitI lz 1 out) ∨ (k = 1 ∧ x = .mk1 6 m) ∨ (∃ j y, k = 2 + j ∧ j < seg.length ∧ seg[j]? = some y ∧ x = shiftI 2 y) ∨ (k = seg.length + 2 ∧ x = .mk1 7 m) ∨ ∃ j, k = seg.length + 3 + j ∧ rest[j]? = some x := by
  unfold loopSeg at h
  rcases k with _ | _ | k
  · simp at h; exact .inl ⟨rfl, h.symm⟩
  · simp at h; exact .inr (.inl ⟨rfl, h.symm⟩)
  · simp only [List.getElem?_cons_succ] at h
    rcases app_get h with ⟨h1, h2⟩ | ⟨j, h1, h2⟩
    · obtain ⟨y, h3, rfl⟩ := shiftL_get' h2
      rw [shiftL_len] at h1
      exact .inr (.inr (.inl ⟨k, y, by omega, h1, h3, rfl⟩))
    · rw [shiftL_len] at h1
      rcases j with _ | j
      · simp at h2; exact .inr (.inr (.inr (.inl ⟨by omega, h2.symm⟩)))
      · simp at h2; exact .inr (.inr (.inr (.inr ⟨j, by omega, h2⟩)))
theorem loop_0 {lz : Bool} {m out : Nat} {seg rest : List Ins} : (loopSeg lz m out seg rest)[0]? = some (splitI lz 1 out) := rfl
theorem loop_1 {lz : Bool} {m out : Nat} {seg rest : List Ins} : (loopSeg lz m out seg rest)[1]? = some (.mk1 6 m) := rfl
theorem loop_body {lz : Bool} {m out : Nat} {seg rest : List Ins} {j : Nat} {y : Ins} (h : seg[j]? = some y) : (loopSeg lz m out seg rest)[2 + j]? = some (shiftI 2 y) := by
  unfold loopSeg
  rw [Nat.add_comm]
  simp only [List.getElem?_cons_succ]
  rw [List.getElem?_append_left (by rw [shiftL_len]; exact get_lt h), shiftL_get, h]
  rfl
theorem loop_past {lz : Bool} {m out : Nat} {seg rest : List Ins} : (loopSeg lz m out seg rest)[seg.length + 2]? = some (.mk1 7 m) := by
  unfold loopSeg
  simp only [List.getElem?_cons_succ]
  rw [List.getElem?_append_right (by simp)]
  simp
theorem loop_rest {lz : Bool} {m out : Nat} {seg rest : List Ins} (j : Nat) : (loopSeg lz m out seg rest)[seg.length + 3 + j]? = rest[j]? := by
  unfold loopSeg
  rw [show seg.length + 3 + j = (seg.length + 1 + j) + 1 + 1 by omega]
  simp only [List.getElem?_cons_succ]
  rw [List.getElem?_append_right (by simp; omega)]
  rw [shiftL_len, show seg.length + 1 + j - seg.length = j + 1 by omega]
  rfl

theorem splitI_op (lz : Bool) (x y : Nat) : (splitI lz x y).op = 3 := by unfold splitI; split <;> rfl
theorem splitI_succs {lz : Bool} {x y k j : Nat} : j ∈ succs k (splitI lz x y) ↔ j = x ∨ j = y := by
  unfold succs splitI; split <;> simp [or_comm]

end Go.Proofs.Ytfgghbideoehjaa

namespace Go.Proofs.Ytfgghbideoehjaa
open Go.ChangeShapes Go.WideShapes Go.ChangeAt Go.RowKit
set_option linter.unusedVariables false
set_option linter.unusedSimpArgs false
set_option maxRecDepth 100000

theorem mem_succs_at {k j : Nat} {x : Ins} (h6 : x.op = 6 ∨ x.op = 7) (h : j ∈ succs k x) : j = k + 1 := by
  unfold succs at h
  rw [if_neg (by omega), if_neg (by omega), if_neg (by omega)] at h
  simpa using h

/-- A place of a mark, or of its test, within a loop. -/
theorem loop_mark {lz : Bool} {m m1 m2 out c : Nat} {seg rest : List Ins} {G S : Nat} (hs : SegOk G (m + 1) m1 S seg) (hr : ∀ i ∈ rest, i.op = 6 ∨ i.op = 7 → m1 ≤ i.a ∧ i.a < m2) (hc : c = 6 ∨ c = 7) {k : Nat} {x : Ins}
    (h : (loopSeg lz m out seg rest)[k]? = some x) (hx : x.op = c) :
    (k = (if c = 6 then 1 else seg.length + 2) ∧ x.a = m) ∨ (∃ j y, k = 2 + j ∧ j < seg.length ∧ seg[j]? = some y ∧ y.op = c ∧ y.a = x.a ∧ m < x.a ∧ x.a < m1) ∨ ∃ j, k = seg.length + 3 + j ∧ rest[j]? = some x ∧ m1 ≤ x.a := by
  rcases loop_get h with ⟨h1, rfl⟩ | ⟨h1, rfl⟩ | ⟨j, y, h1, h2, h3, rfl⟩ | ⟨h1, rfl⟩ | ⟨j, h1, h2⟩
  · rw [splitI_op] at hx; omega
  · left
    have : c = 6 := hx.symm
    subst this
    exact ⟨h1, rfl⟩
  · right; left
    rw [shiftI_op] at hx
    have := (hs.at_ h3).mark (by omega)
    rw [shiftI_a (by omega) (by omega)]
    exact ⟨j, y, h1, h2, h3, hx, rfl, by omega, by omega⟩
  · left
    have : c = 7 := hx.symm
    subst this
    exact ⟨h1, rfl⟩
  · right; right
    exact ⟨j, h1, h2, (hr x (List.mem_of_getElem? h2) (by omega)).1⟩

/-- Where the instructions of a loop lead. -/
theorem loop_succs {lz : Bool} {m m1 out : Nat} {seg rest : List Ins} {G S : Nat} (hs : SegOk G (m + 1) m1 S seg) {k : Nat} {x : Ins}
    (h : (loopSeg lz m out seg rest)[k]? = some x) {k' : Nat} (hk' : k' ∈ succs k x) :
    (k = 0 ∧ (k' = 1 ∨ k' = out)) ∨ (k = 1 ∧ k' = 2) ∨ (∃ j y i, k = 2 + j ∧ j < seg.length ∧ seg[j]? = some y ∧ i ∈ succs j y ∧ k' = i + 2 ∧ i ≤ seg.length) ∨ (k = seg.length + 2 ∧ k' = seg.length + 3) ∨ ∃ j, k = seg.length + 3 + j ∧ rest[j]? = some x := by
  rcases loop_get h with ⟨rfl, rfl⟩ | ⟨rfl, rfl⟩ | ⟨j, y, rfl, h2, h3, rfl⟩ | ⟨rfl, rfl⟩ | ⟨j, rfl, h2⟩
  · exact .inl ⟨rfl, splitI_succs.1 hk'⟩
  · exact .inr (.inl ⟨rfl, mem_succs_at (.inl rfl) hk'⟩)
  · rw [Nat.add_comm] at hk'
    obtain ⟨i, hi, rfl⟩ := (succs_shift _ _ _ _).1 hk'
    exact .inr (.inr (.inl ⟨j, y, i, rfl, h2, h3, hi, rfl, (hs.at_ h3).succs h2 i hi⟩))
  · exact .inr (.inr (.inr (.inl ⟨rfl, mem_succs_at (.inr rfl) hk'⟩)))
  · exact .inr (.inr (.inr (.inr ⟨j, rfl, h2⟩)))

theorem NestG.loop {lz : Bool} {m m1 m2 out : Nat} {seg rest : List Ins} {G S : Nat} (hs : SegOk G (m + 1) m1 S seg) (n1 : NestG 0 seg) (hr : ∀ i ∈ rest, i.op = 6 ∨ i.op = 7 → m1 ≤ i.a ∧ i.a < m2) (n2 : NestG (seg.length + 3) rest)
    (hg : ∀ j x, rest[j]? = some x → ∀ k' ∈ succs (seg.length + 3 + j) x, k' = 0 ∨ seg.length + 3 ≤ k') (ho : out = seg.length + 3 ∨ (seg.length + 3 + rest.length ≤ out)) : NestG 0 (loopSeg lz m out seg rest) where
  pair := by
    intro p z hz h7
    rcases loop_mark hs hr (.inr rfl) hz h7 with ⟨rfl, e⟩ | ⟨j, y, rfl, _, hy, h7', e, _⟩ | ⟨j, rfl, hy, _⟩
    · exact ⟨1, _, by simp, loop_1, rfl, e.symm⟩
    · obtain ⟨q, y', a1, a2, a3, a4⟩ := n1.pair j y hy h7'
      exact ⟨2 + q, shiftI 2 y', by omega, loop_body a2, by rw [shiftI_op]; exact a3, by rw [shiftI_a (by omega) (by omega)]; omega⟩
    · obtain ⟨q, y', a1, a2, a3, a4⟩ := n2.pair j z hy h7
      exact ⟨_, y', by omega, (loop_rest q).trans a2, a3, a4⟩
  pre := by
    intro p z hz h6
    rcases loop_mark hs hr (.inl rfl) hz h6 with ⟨rfl, e⟩ | ⟨j, y, rfl, _, hy, h6', e, _⟩ | ⟨j, rfl, hy, _⟩
    · exact ⟨0, _, rfl, loop_0, splitI_op _ _ _⟩
    · obtain ⟨q, y', a1, a2, a3⟩ := n1.pre j y hy h6'
      exact ⟨2 + q, shiftI 2 y', by omega, loop_body a2, by rw [shiftI_op]; exact a3⟩
    · obtain ⟨q, y', a1, a2, a3⟩ := n2.pre j z hy h6
      exact ⟨_, y', by omega, (loop_rest q).trans a2, a3⟩
  uniq := by
    intro q r y z hy hz h6 h6' e
    rcases loop_mark hs hr (.inl rfl) hy h6 with ⟨rfl, e1⟩ | ⟨j, y1, rfl, _, hy1, h61, e1, _⟩ | ⟨j, rfl, hy1, _⟩
    · rcases loop_mark hs hr (.inl rfl) hz h6' with ⟨rfl, e2⟩ | ⟨i, z1, rfl, _, hz1, h62, e2, _⟩ | ⟨i, rfl, hz1, _⟩
      · rfl
      · omega
      · have := hs.mm; omega
    · rcases loop_mark hs hr (.inl rfl) hz h6' with ⟨rfl, e2⟩ | ⟨i, z1, rfl, _, hz1, h62, e2, _⟩ | ⟨i, rfl, hz1, _⟩
      · omega
      · have := n1.uniq j i y1 z1 hy1 hz1 h61 h62 (by omega); omega
      · omega
    · rcases loop_mark hs hr (.inl rfl) hz h6' with ⟨rfl, e2⟩ | ⟨i, z1, rfl, _, hz1, h62, e2, _⟩ | ⟨i, rfl, hz1, _⟩
      · have := hs.mm; omega
      · omega
      · have := n2.uniq j i y z hy1 hz1 h6 h6' e; omega
  into := by
    intro k x hx k' hk' q p y z hy hz h6 h7 e l1 l2
    rw [Nat.zero_add] at hk' l1 l2
    have hmm := hs.mm
    have hkk := loop_succs hs hx hk'
    rcases loop_mark hs hr (.inl rfl) hy h6 with ⟨rfl, e1⟩ | ⟨j, y1, rfl, _, hy1, h61, e1, _⟩ | ⟨j, rfl, hy1, _⟩
    · rcases loop_mark hs hr (.inr rfl) hz h7 with ⟨rfl, e2⟩ | ⟨i, z1, rfl, _, hz1, h62, e2, _⟩ | ⟨i, rfl, hz1, _⟩
      · simp only [if_true, show (7 : Nat) = 6 ↔ False by decide, if_false] at l1 l2 ⊢
        rcases hkk with ⟨rfl, h1⟩ | ⟨rfl, h1⟩ | ⟨j, y2, i, rfl, h2, h3, h4, h5, _⟩ | ⟨rfl, h1⟩ | ⟨j, rfl, h1⟩
        · omega
        · omega
        · omega
        · omega
        · have := hg j x h1 k' hk'; omega
      · omega
      · omega
    · rcases loop_mark hs hr (.inr rfl) hz h7 with ⟨rfl, e2⟩ | ⟨i, z1, rfl, _, hz1, h62, e2, _⟩ | ⟨i, rfl, hz1, _⟩
      · omega
      · rcases hkk with ⟨rfl, h1⟩ | ⟨rfl, h1⟩ | ⟨j2, y2, i2, rfl, h2, h3, h4, h5, _⟩ | ⟨rfl, h1⟩ | ⟨j, rfl, h1⟩
        · omega
        · omega
        · have := n1.into j2 y2 h3 i2 (by simpa using h4) j i y1 z1 hy1 hz1 h61 h62 (by omega) (by omega) (by omega)
          omega
        · omega
        · have := hg _ x h1 k' hk'; omega
      · omega
    · rcases loop_mark hs hr (.inr rfl) hz h7 with ⟨rfl, e2⟩ | ⟨i, z1, rfl, _, hz1, h62, e2, _⟩ | ⟨i, rfl, hz1, _⟩
      · omega
      · omega
      · have l3 := get_lt hz1
        rcases hkk with ⟨rfl, h1⟩ | ⟨rfl, h1⟩ | ⟨j2, y2, i2, rfl, h2, h3, h4, h5, _⟩ | ⟨rfl, h1⟩ | ⟨j2, rfl, h1⟩
        · omega
        · omega
        · omega
        · omega
        · have := n2.into j2 x h1 k' hk' j i y z hy1 hz1 h6 h7 e (by omega) (by omega)
          omega
  onto := by
    intro k x hx k' hk' q y hy h6 e
    rw [Nat.zero_add] at hk' e
    have hkk := loop_succs hs hx hk'
    rcases loop_mark hs hr (.inl rfl) hy h6 with ⟨rfl, e1⟩ | ⟨j, y1, rfl, _, hy1, h61, e1, _⟩ | ⟨j, rfl, hy1, _⟩
    · simp only [if_true] at e ⊢
      rcases hkk with ⟨rfl, h1⟩ | ⟨rfl, h1⟩ | ⟨j, y2, i, rfl, h2, h3, h4, h5, _⟩ | ⟨rfl, h1⟩ | ⟨j, rfl, h1⟩
      · omega
      · omega
      · omega
      · omega
      · have := hg j x h1 k' hk'; omega
    · obtain ⟨c, d, f1, _⟩ := n1.pre j y1 hy1 h61
      rcases hkk with ⟨rfl, h1⟩ | ⟨rfl, h1⟩ | ⟨j2, y2, i2, rfl, h2, h3, h4, h5, _⟩ | ⟨rfl, h1⟩ | ⟨j, rfl, h1⟩
      · omega
      · omega
      · have := n1.onto j2 y2 h3 i2 (by simpa using h4) j y1 hy1 h61 (by omega)
        omega
      · omega
      · have := hg _ x h1 k' hk'; omega
    · obtain ⟨c, d, f1, _⟩ := n2.pre j y hy1 h6
      have l3 := get_lt hy1
      rcases hkk with ⟨rfl, h1⟩ | ⟨rfl, h1⟩ | ⟨j2, y2, i2, rfl, h2, h3, h4, h5, _⟩ | ⟨rfl, h1⟩ | ⟨j2, rfl, h1⟩
      · omega
      · omega
      · omega
      · omega
      · have := n2.onto j2 x h1 k' hk' j y hy1 h6 e
        omega

theorem br_get {s1 s2 : List Ins} {k : Nat} {x : Ins} (h : (brSeg s1 s2)[k]? = some x) :
    (k = 0 ∧ x = ⟨3, 1, s1.length + 2, .zero, 0⟩) ∨ (∃ j y, k = 1 + j ∧ j < s1.length ∧ s1[j]? = some y ∧ x = shiftI 1 y) ∨ (k = s1.length + 1 ∧ x = .mk1 4 (s1.length + 2 + s2.length)) ∨ ∃ j y, k = s1.length + 2 + j ∧ s2[j]? = some y ∧ x = shiftI (s1.length + 2) y := by
  unfold brSeg at h
  rcases k with _ | k
  · simp at h; exact .inl ⟨rfl, h.symm⟩
  · simp only [List.getElem?_cons_succ] at h
    rcases app_get h with ⟨h1, h2⟩ | ⟨j, h1, h2⟩
    · obtain ⟨y, h3, rfl⟩ := shiftL_get' h2
      rw [shiftL_len] at h1
      exact .inr (.inl ⟨k, y, by omega, h1, h3, rfl⟩)
    · rw [shiftL_len] at h1
      rcases j with _ | j
      · simp at h2; exact .inr (.inr (.inl ⟨by omega, h2.symm⟩))
      · simp at h2
        obtain ⟨y, h3, rfl⟩ := shiftL_get' h2
        exact .inr (.inr (.inr ⟨j, y, by omega, h3, rfl⟩))
theorem br_0 {s1 s2 : List Ins} : (brSeg s1 s2)[0]? = some ⟨3, 1, s1.length + 2, .zero, 0⟩ := rfl
theorem br_one {s1 s2 : List Ins} {j : Nat} {y : Ins} (h : s1[j]? = some y) : (brSeg s1 s2)[1 + j]? = some (shiftI 1 y) := by
  unfold brSeg
  rw [Nat.add_comm 1 j]
  simp only [List.getElem?_cons_succ]
  rw [List.getElem?_append_left (by rw [shiftL_len]; exact get_lt h), shiftL_get, h]
  rfl
theorem br_jump {s1 s2 : List Ins} : (brSeg s1 s2)[s1.length + 1]? = some (.mk1 4 (s1.length + 2 + s2.length)) := by
  unfold brSeg
  simp only [List.getElem?_cons_succ]
  rw [List.getElem?_append_right (by simp)]
  simp
theorem br_two {s1 s2 : List Ins} {j : Nat} {y : Ins} (h : s2[j]? = some y) : (brSeg s1 s2)[s1.length + 2 + j]? = some (shiftI (s1.length + 2) y) := by
  unfold brSeg
  rw [show s1.length + 2 + j = (s1.length + 1 + j) + 1 by omega]
  simp only [List.getElem?_cons_succ]
  rw [List.getElem?_append_right (by simp; omega)]
  rw [shiftL_len, show s1.length + 1 + j - s1.length = j + 1 by omega]
  show (shiftL (s1.length + 2) s2)[j]? = _
  rw [shiftL_get, h]
  rfl

theorem br_mark {s1 s2 : List Ins} {G m m1 m2 S1 S2 c : Nat} (h1 : SegOk G m m1 S1 s1) (h2 : SegOk G m1 m2 S2 s2) (hc : c = 6 ∨ c = 7) {k : Nat} {x : Ins} (h : (brSeg s1 s2)[k]? = some x) (hx : x.op = c) :
    (∃ j y, k = 1 + j ∧ j < s1.length ∧ s1[j]? = some y ∧ y.op = c ∧ y.a = x.a ∧ x.a < m1) ∨ ∃ j y, k = s1.length + 2 + j ∧ s2[j]? = some y ∧ y.op = c ∧ y.a = x.a ∧ m1 ≤ x.a := by
  rcases br_get h with ⟨_, rfl⟩ | ⟨j, y, h3, h4, h5, rfl⟩ | ⟨_, rfl⟩ | ⟨j, y, h3, h5, rfl⟩
  · have hx : (3 : Nat) = c := hx
    omega
  · rw [shiftI_op] at hx
    have := (h1.at_ h5).mark (by omega)
    rw [shiftI_a (by omega) (by omega)]
    exact .inl ⟨j, y, h3, h4, h5, hx, rfl, by omega⟩
  · have hx : (4 : Nat) = c := hx
    omega
  · rw [shiftI_op] at hx
    have := (h2.at_ h5).mark (by omega)
    rw [shiftI_a (by omega) (by omega)]
    exact .inr ⟨j, y, h3, h5, hx, rfl, by omega⟩

theorem br_succs {s1 s2 : List Ins} {G m m1 m2 S1 S2 : Nat} (h1 : SegOk G m m1 S1 s1) (h2 : SegOk G m1 m2 S2 s2) {k : Nat} {x : Ins} (h : (brSeg s1 s2)[k]? = some x) {k' : Nat} (hk' : k' ∈ succs k x) :
    (k = 0 ∧ (k' = 1 ∨ k' = s1.length + 2)) ∨ (∃ j y i, k = 1 + j ∧ j < s1.length ∧ s1[j]? = some y ∧ i ∈ succs j y ∧ k' = i + 1 ∧ i ≤ s1.length) ∨ (k = s1.length + 1 ∧ k' = s1.length + 2 + s2.length) ∨ ∃ j y i, k = s1.length + 2 + j ∧ s2[j]? = some y ∧ i ∈ succs j y ∧ k' = i + (s1.length + 2) := by
  rcases br_get h with ⟨rfl, rfl⟩ | ⟨j, y, rfl, h4, h5, rfl⟩ | ⟨rfl, rfl⟩ | ⟨j, y, rfl, h5, rfl⟩
  · left
    simp [succs] at hk'
    exact ⟨rfl, hk'⟩
  · right; left
    rw [Nat.add_comm] at hk'
    obtain ⟨i, hi, rfl⟩ := (succs_shift _ _ _ _).1 hk'
    exact ⟨j, y, i, rfl, h4, h5, hi, rfl, (h1.at_ h5).succs h4 i hi⟩
  · right; right; left
    simp [succs, Ins.mk1] at hk'
    exact ⟨rfl, hk'⟩
  · right; right; right
    rw [Nat.add_comm (s1.length + 2) j] at hk'
    obtain ⟨i, hi, rfl⟩ := (succs_shift _ _ _ _).1 hk'
    exact ⟨j, y, i, rfl, h5, hi, rfl⟩

theorem NestG.br {s1 s2 : List Ins} {G m m1 m2 S1 S2 : Nat} (h1 : SegOk G m m1 S1 s1) (h2 : SegOk G m1 m2 S2 s2) (n1 : NestG 0 s1) (n2 : NestG 0 s2) : NestG 0 (brSeg s1 s2) where
  pair := by
    intro p z hz h7
    rcases br_mark h1 h2 (.inr rfl) hz h7 with ⟨j, y, rfl, _, hy, h7', e, _⟩ | ⟨j, y, rfl, hy, h7', e, _⟩
    · obtain ⟨q, y', a1, a2, a3, a4⟩ := n1.pair j y hy h7'
      exact ⟨1 + q, _, by omega, br_one a2, by rw [shiftI_op]; exact a3, by rw [shiftI_a (by omega) (by omega)]; omega⟩
    · obtain ⟨q, y', a1, a2, a3, a4⟩ := n2.pair j y hy h7'
      exact ⟨_, _, by omega, br_two a2, by rw [shiftI_op]; exact a3, by rw [shiftI_a (by omega) (by omega)]; omega⟩
  pre := by
    intro p z hz h7
    rcases br_mark h1 h2 (.inl rfl) hz h7 with ⟨j, y, rfl, _, hy, h7', e, _⟩ | ⟨j, y, rfl, hy, h7', e, _⟩
    · obtain ⟨q, y', a1, a2, a3⟩ := n1.pre j y hy h7'
      exact ⟨1 + q, _, by omega, br_one a2, by rw [shiftI_op]; exact a3⟩
    · obtain ⟨q, y', a1, a2, a3⟩ := n2.pre j y hy h7'
      exact ⟨_, _, by omega, br_two a2, by rw [shiftI_op]; exact a3⟩
  uniq := by
    intro q r y z hy hz h6 h6' e
    rcases br_mark h1 h2 (.inl rfl) hy h6 with ⟨j, y1, rfl, _, hy1, h61, e1, _⟩ | ⟨j, y1, rfl, hy1, h61, e1, _⟩
    · rcases br_mark h1 h2 (.inl rfl) hz h6' with ⟨i, z1, rfl, _, hz1, h62, e2, _⟩ | ⟨i, z1, rfl, hz1, h62, e2, _⟩
      · have := n1.uniq j i y1 z1 hy1 hz1 h61 h62 (by omega); omega
      · omega
    · rcases br_mark h1 h2 (.inl rfl) hz h6' with ⟨i, z1, rfl, _, hz1, h62, e2, _⟩ | ⟨i, z1, rfl, hz1, h62, e2, _⟩
      · omega
      · have := n2.uniq j i y1 z1 hy1 hz1 h61 h62 (by omega); omega
  into := by
    intro k x hx k' hk' q p y z hy hz h6 h7 e l1 l2
    rw [Nat.zero_add] at hk' l1 l2
    have hkk := br_succs h1 h2 hx hk'
    rcases br_mark h1 h2 (.inl rfl) hy h6 with ⟨j, y1, rfl, _, hy1, h61, e1, _⟩ | ⟨j, y1, rfl, hy1, h61, e1, _⟩
    · rcases br_mark h1 h2 (.inr rfl) hz h7 with ⟨i, z1, rfl, _, hz1, h62, e2, _⟩ | ⟨i, z1, rfl, hz1, h62, e2, _⟩
      · rcases hkk with ⟨rfl, h3⟩ | ⟨j2, y2, i2, rfl, h3, h4, h5, h8, _⟩ | ⟨rfl, h3⟩ | ⟨j2, y2, i2, rfl, h4, h5, h8⟩
        · omega
        · have := n1.into j2 y2 h4 i2 (by simpa using h5) j i y1 z1 hy1 hz1 h61 h62 (by omega) (by omega) (by omega)
          omega
        · omega
        · omega
      · omega
    · rcases br_mark h1 h2 (.inr rfl) hz h7 with ⟨i, z1, rfl, _, hz1, h62, e2, _⟩ | ⟨i, z1, rfl, hz1, h62, e2, _⟩
      · omega
      · have l3 := get_lt hz1
        rcases hkk with ⟨rfl, h3⟩ | ⟨j2, y2, i2, rfl, h3, h4, h5, h8, _⟩ | ⟨rfl, h3⟩ | ⟨j2, y2, i2, rfl, h4, h5, h8⟩
        · omega
        · omega
        · omega
        · have := n2.into j2 y2 h4 i2 (by simpa using h5) j i y1 z1 hy1 hz1 h61 h62 (by omega) (by omega) (by omega)
          omega
  onto := by
    intro k x hx k' hk' q y hy h6 e
    rw [Nat.zero_add] at hk' e
    have hkk := br_succs h1 h2 hx hk'
    rcases br_mark h1 h2 (.inl rfl) hy h6 with ⟨j, y1, rfl, _, hy1, h61, e1, _⟩ | ⟨j, y1, rfl, hy1, h61, e1, _⟩
    · obtain ⟨c, d, f1, _⟩ := n1.pre j y1 hy1 h61
      rcases hkk with ⟨rfl, h3⟩ | ⟨j2, y2, i2, rfl, h3, h4, h5, h8, _⟩ | ⟨rfl, h3⟩ | ⟨j2, y2, i2, rfl, h4, h5, h8⟩
      · omega
      · have := n1.onto j2 y2 h4 i2 (by simpa using h5) j y1 hy1 h61 (by omega)
        omega
      · omega
      · omega
    · obtain ⟨c, d, f1, _⟩ := n2.pre j y1 hy1 h61
      have l3 := get_lt hy1
      rcases hkk with ⟨rfl, h3⟩ | ⟨j2, y2, i2, rfl, h3, h4, h5, h8, _⟩ | ⟨rfl, h3⟩ | ⟨j2, y2, i2, rfl, h4, h5, h8⟩
      · omega
      · omega
      · omega
      · have := n2.onto j2 y2 h4 i2 (by simpa using h5) j y1 hy1 h61 (by omega)
        omega

/-- The end behind a segment. -/
theorem NestG.fin {seg : List Ins} {G m m' S : Nat} (hs : SegOk G m m' S seg) (h : NestG 0 seg) : NestG 0 (seg ++ [.mk1 9 0]) := by
  have key : ∀ (k : Nat) (x : Ins), (seg ++ [.mk1 9 0])[k]? = some x → (k < seg.length ∧ seg[k]? = some x) ∨ (k = seg.length ∧ x = .mk1 9 0) := fun k x hx => by
    rcases app_get hx with h1 | ⟨j, rfl, h1⟩
    · exact .inl h1
    · rcases j with _ | j
      · simp at h1; exact .inr ⟨rfl, h1.symm⟩
      · simp at h1
  have up : ∀ (k : Nat) (x : Ins), seg[k]? = some x → (seg ++ [.mk1 9 0])[k]? = some x := fun k x hx => by rw [List.getElem?_append_left (get_lt hx)]; exact hx
  exact {
    pair := fun p z hz h7 => by
      rcases key p z hz with ⟨_, hz⟩ | ⟨_, rfl⟩
      · obtain ⟨q, y, a1, a2, a3⟩ := h.pair p z hz h7; exact ⟨q, y, a1, up q y a2, a3⟩
      · cases h7
    pre := fun p z hz h7 => by
      rcases key p z hz with ⟨_, hz⟩ | ⟨_, rfl⟩
      · obtain ⟨q, y, a1, a2, a3⟩ := h.pre p z hz h7; exact ⟨q, y, a1, up q y a2, a3⟩
      · cases h7
    uniq := fun q r y z hy hz h6 h6' e => by
      rcases key q y hy with ⟨_, hy⟩ | ⟨_, rfl⟩
      · rcases key r z hz with ⟨_, hz⟩ | ⟨_, rfl⟩
        · exact h.uniq q r y z hy hz h6 h6' e
        · cases h6'
      · cases h6
    into := fun k x hx k' hk' q p y z hy hz h6 h7 e l1 l2 => by
      rcases key q y hy with ⟨_, hy⟩ | ⟨_, rfl⟩
      · rcases key p z hz with ⟨_, hz⟩ | ⟨_, rfl⟩
        · rcases key k x hx with ⟨_, hx⟩ | ⟨_, rfl⟩
          · exact h.into k x hx k' hk' q p y z hy hz h6 h7 e l1 l2
          · simp [succs, Ins.mk1] at hk'
        · cases h7
      · cases h6
    onto := fun k x hx k' hk' q y hy h6 e => by
      rcases key q y hy with ⟨_, hy⟩ | ⟨_, rfl⟩
      · rcases key k x hx with ⟨_, hx⟩ | ⟨_, rfl⟩
        · exact h.onto k x hx k' hk' q y hy h6 e
        · simp [succs, Ins.mk1] at hk'
      · cases h6 }

end Go.Proofs.Ytfgghbideoehjaa

namespace Go.Proofs.Ytfgghbideoehjaa
open Go.ChangeShapes Go.WideShapes Go.ChangeAt Go.RowKit
set_option linter.unusedVariables false
set_option linter.unusedSimpArgs false
set_option maxRecDepth 100000

/-- The end is reached within n steps, whatever the marks. -/
def Rn (prog : List Ins) (s : ByteArray) : Nat → Nat → Nat → Prop
  | 0, _, _ => False
  | n + 1, pc, i => ∃ x, prog[pc]? = some x ∧
      ((x.op = 0 ∧ i < s.size ∧ x.set.has (byte s i) = true ∧ Rn prog s n (pc + 1) (i + 1)) ∨ (x.op = 3 ∧ (Rn prog s n x.a i ∨ Rn prog s n x.b i)) ∨ (x.op = 4 ∧ Rn prog s n x.a i) ∨
        ((x.op = 5 ∨ x.op = 6 ∨ x.op = 7) ∧ Rn prog s n (pc + 1) i) ∨ (x.op = 9 ∧ i = s.size))

/-- A set of states that holds what its states lead to; a test of a mark may fail where its loop's choice is there. -/
structure VCl (prog : List Ins) (s : ByteArray) (V : Nat → Nat → Prop) : Prop where
  byte : ∀ (pc i : Nat) (x : Ins), V pc i → prog[pc]? = some x → x.op = 0 → i < s.size → x.set.has (byte s i) = true → V (pc + 1) (i + 1)
  split : ∀ (pc i : Nat) (x : Ins), V pc i → prog[pc]? = some x → x.op = 3 → V x.a i ∧ V x.b i
  jump : ∀ (pc i : Nat) (x : Ins), V pc i → prog[pc]? = some x → x.op = 4 → V x.a i
  on : ∀ (pc i : Nat) (x : Ins), V pc i → prog[pc]? = some x → x.op = 5 ∨ x.op = 6 → V (pc + 1) i
  past : ∀ (pc i : Nat) (x : Ins), V pc i → prog[pc]? = some x → x.op = 7 → V (pc + 1) i ∨ ∃ (q : Nat) (y : Ins), prog[q + 1]? = some y ∧ y.op = 6 ∧ y.a = x.a ∧ V q i
  fin : ∀ (pc i : Nat) (x : Ins), V pc i → prog[pc]? = some x → x.op = 9 → i ≠ s.size

/-- A segment stands in a program. -/
def Stands (prog : List Ins) (b : Nat) (seg : List Ins) : Prop := ∀ (k : Nat) (x : Ins), seg[k]? = some x → prog[b + k]? = some (shiftI b x)

def Uniq (prog : List Ins) : Prop := ∀ (q r : Nat) (y z : Ins), prog[q]? = some y → prog[r]? = some z → y.op = 6 → z.op = 6 → y.a = z.a → q = r

structure SegL (s : ByteArray) (seg : List Ins) (L : Nat → Nat → Prop) : Prop where
  snd : ∀ (prog : List Ins) (b : Nat), Stands prog b seg → ∀ n i, Rn prog s n b i → ∃ j n', n' ≤ n ∧ L i j ∧ Rn prog s n' (b + seg.length) j
  cpl : ∀ (prog : List Ins) (b : Nat) (V : Nat → Nat → Prop), Stands prog b seg → VCl prog s V → Uniq prog → ∀ i j, V b i → L i j → V (b + seg.length) j

theorem Stands.left {prog : List Ins} {b : Nat} {s1 s2 : List Ins} (h : Stands prog b (s1 ++ s2)) : Stands prog b s1 := fun k x hx => h k x (by rw [List.getElem?_append_left (get_lt hx)]; exact hx)
theorem Stands.right {prog : List Ins} {b : Nat} {s1 s2 : List Ins} (h : Stands prog b (s1 ++ shiftL s1.length s2)) : Stands prog (b + s1.length) s2 := fun k x hx => by
  have := h (s1.length + k) (shiftI s1.length x) (by rw [app_r, shiftL_get, hx]; rfl)
  rw [shiftI_add] at this
  rw [show b + s1.length + k = b + (s1.length + k) by omega, this, Nat.add_comm]

theorem SegL.nil (s : ByteArray) : SegL s [] (fun i j => i = j) where
  snd := fun prog b _ n i h => ⟨i, n, Nat.le_refl _, rfl, h⟩
  cpl := fun prog b V _ _ _ i j h e => by subst e; exact h

theorem SegL.app {s : ByteArray} {s1 s2 : List Ins} {L1 L2 : Nat → Nat → Prop} (h1 : SegL s s1 L1) (h2 : SegL s s2 L2) : SegL s (s1 ++ shiftL s1.length s2) (fun i j => ∃ k, L1 i k ∧ L2 k j) where
  snd := by
    intro prog b hs n i h
    obtain ⟨k, n1, e1, l1, r1⟩ := h1.snd prog b hs.left n i h
    obtain ⟨j, n2, e2, l2, r2⟩ := h2.snd prog _ hs.right n1 k r1
    refine ⟨j, n2, by omega, ⟨k, l1, l2⟩, ?_⟩
    rw [List.length_append, shiftL_len, ← Nat.add_assoc]
    exact r2
  cpl := by
    rintro prog b V hs hV hu i j h ⟨k, l1, l2⟩
    have := h2.cpl prog _ V hs.right hV hu k j (h1.cpl prog b V hs.left hV hu i k h l1) l2
    rw [List.length_append, shiftL_len, ← Nat.add_assoc]
    exact this

theorem SegL.mono {s : ByteArray} {seg : List Ins} {L L' : Nat → Nat → Prop} (h : SegL s seg L) (e : ∀ i j, L i j ↔ L' i j) : SegL s seg L' where
  snd := fun prog b hs n i hr => by
    obtain ⟨j, n', h1, h2, h3⟩ := h.snd prog b hs n i hr
    exact ⟨j, n', h1, (e _ _).1 h2, h3⟩
  cpl := fun prog b V hs hV hu i j hv hl => h.cpl prog b V hs hV hu i j hv ((e _ _).2 hl)

/-- A byte of a set. -/
def byteL (s : ByteArray) (st : BSet) (i j : Nat) : Prop := i < s.size ∧ st.has (byte s i) = true ∧ j = i + 1

theorem SegL.one (s : ByteArray) (st : BSet) : SegL s [⟨0, 0, 0, st, 0⟩] (byteL s st) where
  snd := by
    intro prog b hs n i h
    have h0 := hs 0 _ rfl
    rcases n with _ | n
    · exact h.elim
    obtain ⟨x, hx, h⟩ := h
    rw [Nat.add_zero] at h0
    rw [h0] at hx
    cases hx
    rcases h with ⟨_, h1, h2, h3⟩ | ⟨h, _⟩ | ⟨h, _⟩ | ⟨h, _⟩ | ⟨h, _⟩
    · exact ⟨i + 1, n, by omega, ⟨h1, h2, rfl⟩, h3⟩
    · cases h
    · cases h
    · rcases h with h | h | h <;> cases h
    · cases h
  cpl := by
    rintro prog b V hs hV hu i j h ⟨h1, h2, rfl⟩
    exact hV.byte b i _ h (hs 0 _ rfl) rfl h1 h2

theorem SegL.save (s : ByteArray) (a : Nat) : SegL s [.mk1 5 a] (fun i j => i = j) where
  snd := by
    intro prog b hs n i h
    have h0 := hs 0 _ rfl
    rcases n with _ | n
    · exact h.elim
    obtain ⟨x, hx, h⟩ := h
    rw [Nat.add_zero] at h0
    rw [h0] at hx
    cases hx
    rcases h with ⟨h, _⟩ | ⟨h, _⟩ | ⟨h, _⟩ | ⟨h, h1⟩ | ⟨h, _⟩
    · cases h
    · cases h
    · cases h
    · exact ⟨i, n, by omega, rfl, h1⟩
    · cases h
  cpl := by
    rintro prog b V hs hV hu i j h rfl
    exact hV.on b i _ h (hs 0 _ rfl) (.inl rfl)

/-- n times. -/
def iterL (L : Nat → Nat → Prop) : Nat → Nat → Nat → Prop
  | 0, i, j => i = j
  | n + 1, i, j => ∃ k, L i k ∧ iterL L n k j

theorem iterL_add (L : Nat → Nat → Prop) : ∀ (m n i j : Nat), iterL L (m + n) i j ↔ ∃ k, iterL L m i k ∧ iterL L n k j
  | 0, n, i, j => by rw [Nat.zero_add]; exact ⟨fun h => ⟨i, rfl, h⟩, fun ⟨k, h1, h2⟩ => by cases h1; exact h2⟩
  | m + 1, n, i, j => by
    rw [show m + 1 + n = (m + n) + 1 by omega]
    constructor
    · rintro ⟨k, h1, h2⟩
      obtain ⟨k2, h3, h4⟩ := (iterL_add L m n k j).1 h2
      exact ⟨k2, ⟨k, h1, h3⟩, h4⟩
    · rintro ⟨k2, ⟨k, h1, h3⟩, h4⟩
      exact ⟨k, h1, (iterL_add L m n k j).2 ⟨k2, h3, h4⟩⟩
theorem iterL_one (L : Nat → Nat → Prop) (i j : Nat) : iterL L 1 i j ↔ L i j := ⟨fun ⟨k, h1, h2⟩ => by cases h2; exact h1, fun h => ⟨j, h, rfl⟩⟩

/-- What a loop's first two instructions, and its test, do. -/
theorem loop_in {prog : List Ins} {s : ByteArray} {b : Nat} {lz : Bool} {m out : Nat} {seg rest : List Ins} (hs : Stands prog b (loopSeg lz m out seg rest)) {n i : Nat} (h : Rn prog s n b i) :
    (∃ n', n' < n ∧ Rn prog s n' (b + out) i) ∨ ∃ n', n' < n ∧ Rn prog s n' (b + 2) i := by
  have h0 := hs 0 _ loop_0
  have h1 := hs 1 _ loop_1
  rw [splitI_shift] at h0
  rcases n with _ | n
  · exact h.elim
  obtain ⟨x, hx, h⟩ := h
  rw [Nat.add_zero] at h0
  rw [h0] at hx
  cases hx
  rw [splitI_op] at h
  have key : Rn prog s n (b + 1) i → ∃ n', n' < n + 1 ∧ Rn prog s n' (b + 2) i := by
    intro h
    rcases n with _ | n
    · exact h.elim
    obtain ⟨x, hx, h⟩ := h
    rw [h1] at hx
    cases hx
    rcases h with ⟨h, _⟩ | ⟨h, _⟩ | ⟨h, _⟩ | ⟨h, h2⟩ | ⟨h, _⟩
    · cases h
    · cases h
    · cases h
    · exact ⟨n, by omega, h2⟩
    · cases h
  rcases h with ⟨h, _⟩ | ⟨_, h⟩ | ⟨h, _⟩ | ⟨h, _⟩ | ⟨h, _⟩
  · cases h
  · have h' : Rn prog s n (b + out) i ∨ Rn prog s n (b + 1) i := by
      unfold splitI at h
      split at h
      · rw [Nat.add_comm b out, Nat.add_comm b 1]; exact h
      · rw [Nat.add_comm b out, Nat.add_comm b 1]; exact h.symm
    rcases h' with h' | h'
    · exact .inl ⟨n, by omega, h'⟩
    · exact .inr (key h')
  · cases h
  · rcases h with h | h | h <;> cases h
  · cases h

theorem loop_through {prog : List Ins} {s : ByteArray} {b : Nat} {lz : Bool} {m out : Nat} {seg rest : List Ins} (hs : Stands prog b (loopSeg lz m out seg rest)) {n i : Nat} (h : Rn prog s n (b + 2 + seg.length) i) :
    ∃ n', n' < n ∧ Rn prog s n' (b + (seg.length + 3)) i := by
  have h0 := hs _ _ loop_past
  rcases n with _ | n
  · exact h.elim
  obtain ⟨x, hx, h⟩ := h
  rw [show b + 2 + seg.length = b + (seg.length + 2) by omega, h0] at hx
  cases hx
  rcases h with ⟨h, _⟩ | ⟨h, _⟩ | ⟨h, _⟩ | ⟨h, h2⟩ | ⟨h, _⟩
  · cases h
  · cases h
  · cases h
  · exact ⟨n, by omega, by rw [show b + (seg.length + 3) = b + 2 + seg.length + 1 by omega]; exact h2⟩
  · cases h

theorem Stands.body {prog : List Ins} {b : Nat} {lz : Bool} {m out : Nat} {seg rest : List Ins} (hs : Stands prog b (loopSeg lz m out seg rest)) : Stands prog (b + 2) seg := fun k x hx => by
  have := hs _ _ (loop_body hx)
  rw [shiftI_add] at this
  rw [show b + 2 + k = b + (2 + k) by omega, this, Nat.add_comm]

theorem loop_into {prog : List Ins} {s : ByteArray} {V : Nat → Nat → Prop} (hV : VCl prog s V) {b : Nat} {lz : Bool} {m out : Nat} {seg rest : List Ins} (hs : Stands prog b (loopSeg lz m out seg rest)) {i : Nat} (h : V b i) : V (b + out) i ∧ V (b + 2) i := by
  have h0 := hs 0 _ loop_0
  have h1 := hs 1 _ loop_1
  rw [splitI_shift] at h0
  have := hV.split b i _ h h0 (splitI_op _ _ _)
  have h2 : V (b + out) i ∧ V (b + 1) i := by
    unfold splitI at this
    split at this
    · rw [Nat.add_comm b out, Nat.add_comm b 1]; exact this
    · rw [Nat.add_comm b out, Nat.add_comm b 1]; exact this.symm
  exact ⟨h2.1, hV.on (b + 1) i _ h2.2 h1 (.inr rfl)⟩

theorem loop_past_in {prog : List Ins} {s : ByteArray} {V : Nat → Nat → Prop} (hV : VCl prog s V) (hu : Uniq prog) {b : Nat} {lz : Bool} {m out : Nat} {seg rest : List Ins} (hs : Stands prog b (loopSeg lz m out seg rest)) {i : Nat} (h : V (b + 2 + seg.length) i) : V (b + (seg.length + 3)) i ∨ V b i := by
  have h0 := hs _ _ loop_past
  have h1 := hs 1 _ loop_1
  rw [show b + 2 + seg.length = b + (seg.length + 2) by omega] at h
  rcases hV.past _ i _ h h0 rfl with h2 | ⟨q, y, h2, h3, h4, h5⟩
  · exact .inl h2
  · have := hu _ _ _ _ h2 h1 h3 rfl h4
    have e : q = b := by omega
    rw [e] at h5
    exact .inr h5

/-- x* -/
theorem SegL.star {s : ByteArray} {seg : List Ins} {L : Nat → Nat → Prop} (h : SegL s seg L) (lz : Bool) (m : Nat) : SegL s (loopSeg lz m (seg.length + 4) seg [.mk1 4 0]) (fun i j => ∃ n, iterL L n i j) := by
  have hlen : (loopSeg lz m (seg.length + 4) seg [Ins.mk1 4 0]).length = seg.length + 4 := by rw [loopSeg_len]; simp
  refine ⟨?_, ?_⟩
  · intro prog b hs n
    have hj : prog[b + (seg.length + 3)]? = some (shiftI b (.mk1 4 0)) := hs _ _ ((loop_rest 0).trans rfl)
    rw [hlen]
    induction n using Nat.strongRecOn with
    | _ n ih =>
      intro i hr
      rcases loop_in hs hr with ⟨n1, e1, r1⟩ | ⟨n1, e1, r1⟩
      · exact ⟨i, n1, by omega, ⟨0, rfl⟩, r1⟩
      · obtain ⟨k, n2, e2, l2, r2⟩ := h.snd prog _ hs.body n1 i r1
        obtain ⟨n3, e3, r3⟩ := loop_through hs r2
        rcases n3 with _ | n4
        · exact r3.elim
        obtain ⟨x, hx, h4⟩ := r3
        rw [hj] at hx
        cases hx
        have r4 : Rn prog s n4 b k := by
          rcases h4 with ⟨h, _⟩ | ⟨h, _⟩ | ⟨h, h5⟩ | ⟨h, _⟩ | ⟨h, _⟩
          · cases h
          · cases h
          · have : (shiftI b (Ins.mk1 4 0)).a = b := by simp [shiftI, Ins.mk1]
            rw [this] at h5
            exact h5
          · rcases h with h | h | h <;> cases h
          · cases h
        obtain ⟨j, n5, e5, ⟨c, l5⟩, r5⟩ := ih n4 (by omega) k r4
        exact ⟨j, n5, by omega, ⟨c + 1, k, l2, l5⟩, r5⟩
  · rintro prog b V hs hV hu i j hv ⟨c, hc⟩
    have hj : prog[b + (seg.length + 3)]? = some (shiftI b (.mk1 4 0)) := hs _ _ ((loop_rest 0).trans rfl)
    rw [hlen]
    induction c generalizing i with
    | zero => cases hc; exact (loop_into hV hs hv).1
    | succ c ih =>
      obtain ⟨k, l1, l2⟩ := hc
      have h1 := h.cpl prog _ V hs.body hV hu i k (loop_into hV hs hv).2 l1
      refine ih k ?_ l2
      rcases loop_past_in hV hu hs h1 with h2 | h2
      · have := hV.jump _ k _ h2 hj rfl
        have e : (shiftI b (Ins.mk1 4 0)).a = b := by simp [shiftI, Ins.mk1]
        rw [e] at this
        exact this
      · exact h2

/-- One time more at most, and what comes behind it. -/
theorem SegL.opt {s : ByteArray} {seg s2 : List Ins} {L : Nat → Nat → Prop} (n : Nat) (h : SegL s seg L) (h2 : SegL s s2 (fun i j => ∃ c, c ≤ n ∧ iterL L c i j)) (lz : Bool) (m : Nat) :
    SegL s (loopSeg lz m (seg.length + 3 + s2.length) seg (shiftL (seg.length + 3) s2)) (fun i j => ∃ c, c ≤ n + 1 ∧ iterL L c i j) := by
  have hlen : (loopSeg lz m (seg.length + 3 + s2.length) seg (shiftL (seg.length + 3) s2)).length = seg.length + 3 + s2.length := by rw [loopSeg_len]; simp
  have hst : ∀ (prog : List Ins) (b : Nat), Stands prog b (loopSeg lz m (seg.length + 3 + s2.length) seg (shiftL (seg.length + 3) s2)) → Stands prog (b + (seg.length + 3)) s2 := fun prog b hs k x hx => by
    have := hs (seg.length + 3 + k) (shiftI (seg.length + 3) x) ((loop_rest k).trans (by rw [shiftL_get, hx]; rfl))
    rw [shiftI_add] at this
    rw [show b + (seg.length + 3) + k = b + (seg.length + 3 + k) by omega, this, Nat.add_comm b]
  refine ⟨?_, ?_⟩
  · intro prog b hs N i hr
    rw [hlen]
    rcases loop_in hs hr with ⟨n1, e1, r1⟩ | ⟨n1, e1, r1⟩
    · exact ⟨i, n1, by omega, ⟨0, by omega, rfl⟩, r1⟩
    · obtain ⟨k, n2, e2, l2, r2⟩ := h.snd prog _ hs.body n1 i r1
      obtain ⟨n3, e3, r3⟩ := loop_through hs r2
      obtain ⟨j, n4, e4, ⟨c, hc, l4⟩, r4⟩ := h2.snd prog _ (hst prog b hs) n3 k r3
      refine ⟨j, n4, by omega, ⟨c + 1, by omega, k, l2, l4⟩, ?_⟩
      rw [← Nat.add_assoc]
      exact r4
  · rintro prog b V hs hV hu i j hv ⟨c, hcn, hc⟩
    rw [hlen]
    induction c generalizing i with
    | zero => cases hc; exact (loop_into hV hs hv).1
    | succ c ih =>
      obtain ⟨k, l1, l2⟩ := hc
      have h1 := h.cpl prog _ V hs.body hV hu i k (loop_into hV hs hv).2 l1
      rcases loop_past_in hV hu hs h1 with h3 | h3
      · have := h2.cpl prog _ V (hst prog b hs) hV hu k j h3 ⟨c, by omega, l2⟩
        rw [← Nat.add_assoc]
        exact this
      · exact ih k h3 (by omega) l2

/-- Branches. -/
theorem SegL.br {s : ByteArray} {s1 s2 : List Ins} {L1 L2 : Nat → Nat → Prop} (h1 : SegL s s1 L1) (h2 : SegL s s2 L2) : SegL s (brSeg s1 s2) (fun i j => L1 i j ∨ L2 i j) := by
  have st1 : ∀ (prog : List Ins) (b : Nat), Stands prog b (brSeg s1 s2) → Stands prog (b + 1) s1 := fun prog b hs k x hx => by
    have := hs _ _ (br_one hx)
    rw [shiftI_add] at this
    rw [show b + 1 + k = b + (1 + k) by omega, this, Nat.add_comm b]
  have st2 : ∀ (prog : List Ins) (b : Nat), Stands prog b (brSeg s1 s2) → Stands prog (b + (s1.length + 2)) s2 := fun prog b hs k x hx => by
    have := hs _ _ (br_two hx)
    rw [shiftI_add] at this
    rw [show b + (s1.length + 2) + k = b + (s1.length + 2 + k) by omega, this, Nat.add_comm b]
  refine ⟨?_, ?_⟩
  · intro prog b hs n i h
    have p0 := hs 0 _ br_0
    have p1 := hs _ _ (br_jump (s1 := s1) (s2 := s2))
    rw [brSeg_len]
    rcases n with _ | n
    · exact h.elim
    obtain ⟨x, hx, h⟩ := h
    rw [Nat.add_zero] at p0
    rw [p0] at hx
    cases hx
    have h' : Rn prog s n (b + 1) i ∨ Rn prog s n (b + (s1.length + 2)) i := by
      rcases h with ⟨h, _⟩ | ⟨_, h⟩ | ⟨h, _⟩ | ⟨h, _⟩ | ⟨h, _⟩
      · cases h
      · simp only [shiftI, if_true] at h
        rw [Nat.add_comm b 1, Nat.add_comm b (s1.length + 2)]
        exact h
      · cases h
      · rcases h with h | h | h <;> cases h
      · cases h
    rcases h' with h' | h'
    · obtain ⟨j, n1, e1, l1, r1⟩ := h1.snd prog _ (st1 prog b hs) n i h'
      rcases n1 with _ | n2
      · exact r1.elim
      obtain ⟨x, hx, h3⟩ := r1
      rw [show b + 1 + s1.length = b + (s1.length + 1) by omega, p1] at hx
      cases hx
      refine ⟨j, n2, by omega, .inl l1, ?_⟩
      rcases h3 with ⟨h, _⟩ | ⟨h, _⟩ | ⟨h, h4⟩ | ⟨h, _⟩ | ⟨h, _⟩
      · cases h
      · cases h
      · have e : (shiftI b (Ins.mk1 4 (s1.length + 2 + s2.length))).a = b + (s1.length + 2 + s2.length) := by simp [shiftI, Ins.mk1]; omega
        rw [e] at h4
        exact h4
      · rcases h with h | h | h <;> cases h
      · cases h
    · obtain ⟨j, n1, e1, l1, r1⟩ := h2.snd prog _ (st2 prog b hs) n i h'
      refine ⟨j, n1, by omega, .inr l1, ?_⟩
      rw [← Nat.add_assoc]
      exact r1
  · rintro prog b V hs hV hu i j hv hl
    have p0 := hs 0 _ br_0
    have p1 := hs _ _ (br_jump (s1 := s1) (s2 := s2))
    have hsp := hV.split b i _ hv p0 rfl
    simp only [shiftI, if_true] at hsp
    rw [brSeg_len]
    rcases hl with hl | hl
    · have h3 := h1.cpl prog (b + 1) V (st1 prog b hs) hV hu i j (by rw [Nat.add_comm]; exact hsp.1) hl
      rw [show b + 1 + s1.length = b + (s1.length + 1) by omega] at h3
      have h4 := hV.jump _ j _ h3 p1 rfl
      have e : (shiftI b (Ins.mk1 4 (s1.length + 2 + s2.length))).a = b + (s1.length + 2 + s2.length) := by simp [shiftI, Ins.mk1]; omega
      rw [e] at h4
      exact h4
    · have h3 := h2.cpl prog (b + (s1.length + 2)) V (st2 prog b hs) hV hu i j (by rw [Nat.add_comm b]; exact hsp.2) hl
      rw [← Nat.add_assoc]
      exact h3

end Go.Proofs.Ytfgghbideoehjaa

namespace Go.Proofs.Ytfgghbideoehjaa
open Go.ChangeShapes Go.WideShapes Go.ChangeAt Go.RowKit
set_option linter.unusedVariables false
set_option linter.unusedSimpArgs false
set_option maxRecDepth 100000

/-- lo times or more, at most hi. -/
def timesL (L : Nat → Nat → Prop) (lo hi : Int) (i j : Nat) : Prop := ∃ n : Nat, lo ≤ (n : Int) ∧ (hi = -1 ∨ (n : Int) ≤ hi) ∧ iterL L n i j

mutual
/-- What a node matches, from i to j. -/
def Nd.mt (fl ln : Bool) (s : ByteArray) : Nd → Nat → Nat → Prop
  | .one st n, i, j => byteL s (bytesOf fl ln st n) i j
  | .place _, _, _ => False
  | .look _ _, _, _ => False
  | .back _, _, _ => False
  | .pieces l, i, j => Nd.mtL fl ln s l i j
  | .branches l, i, j => Nd.mtB fl ln s l i j
  | .times x lo hi _, i, j => timesL (fun i j => x.mt fl ln s i j) lo hi i j
  | .group _ x, i, j => x.mt fl ln s i j
def Nd.mtL (fl ln : Bool) (s : ByteArray) : List Nd → Nat → Nat → Prop
  | [], i, j => i = j
  | t :: l, i, j => ∃ k, t.mt fl ln s i k ∧ Nd.mtL fl ln s l k j
def Nd.mtB (fl ln : Bool) (s : ByteArray) : List Nd → Nat → Nat → Prop
  | [], _, _ => False
  | t :: l, i, j => t.mt fl ln s i j ∨ Nd.mtB fl ln s l i j
end

/-- A piece of the compiler that adds a segment with a language. -/
def IsLng (s : ByteArray) (G S : Nat) (f : PM → PM) (L : Nat → Nat → Prop) : Prop :=
  ∀ m, ∃ seg m', SegOk G m m' S seg ∧ (∀ pre, f (pre, m) = (pre ++ shiftL pre.length seg, m')) ∧ NestG 0 seg ∧ SegL s seg L

theorem IsLng.mono {s : ByteArray} {G S S' : Nat} {f : PM → PM} {L L' : Nat → Nat → Prop} (h : IsLng s G S f L) (hS : S ≤ S') (hL : ∀ i j, L i j ↔ L' i j) : IsLng s G S' f L' := fun m => by
  obtain ⟨seg, m', h1, e, n, l⟩ := h m
  exact ⟨seg, m', ⟨h1.mm, h1.ok, Nat.le_trans h1.sp hS⟩, e, n, l.mono hL⟩
theorem IsLng.eqf {s : ByteArray} {G S : Nat} {f g : PM → PM} {L : Nat → Nat → Prop} (h : IsLng s G S f L) (e : ∀ p, g p = f p) : IsLng s G S g L := fun m => by
  obtain ⟨seg, m', h1, e1, n, l⟩ := h m
  exact ⟨seg, m', h1, fun pre => (e _).trans (e1 pre), n, l⟩

theorem IsLng.id {s : ByteArray} {G : Nat} : IsLng s G 0 (fun p => p) (fun i j => i = j) := fun m => ⟨[], m, SegOk.nil G m 0, fun pre => by simp [shiftL], NestG.nil 0, SegL.nil s⟩

theorem IsLng.comp {s : ByteArray} {G S1 S2 : Nat} {f g : PM → PM} {L1 L2 : Nat → Nat → Prop} (hf : IsLng s G S1 f L1) (hg : IsLng s G S2 g L2) : IsLng s G (S1 + S2) (fun p => g (f p)) (fun i j => ∃ k, L1 i k ∧ L2 k j) := by
  intro m
  obtain ⟨s1, m1, h1, e1, n1, l1⟩ := hf m
  obtain ⟨s2, m2, h2, e2, n2, l2⟩ := hg m1
  refine ⟨_, m2, h1.app h2, fun pre => ?_, n1.app h1 h2 n2, l1.app l2⟩
  show g (f (pre, m)) = _
  rw [e1, e2, shiftL_app, shiftL_add]
  simp [Nat.add_comm, List.append_assoc]

theorem emit_eq {i : Ins} (h : i.op = 0 ∨ i.op = 5) (pre : List Ins) : pre ++ [i] = pre ++ shiftL pre.length [i] := by
  have h3 : i.op ≠ 3 := by omega
  have h4 : i.op ≠ 4 := by omega
  simp [shiftL, shiftI, h3, h4]
theorem emit_ok {G m : Nat} {i : Ins} (hi : i.op = 0 ∨ i.op = 5 ∧ 2 ≤ i.a ∧ i.a < G) : SegOk G m m 0 [i] := by
  refine ⟨Nat.le_refl _, ?_, ?_⟩
  · intro x hx
    simp at hx
    subst hx
    unfold InsOk
    omega
  · have : i.op ≠ 3 := by omega
    simp [splits, this]

theorem IsLng.one {s : ByteArray} {G : Nat} (st : BSet) : IsLng s G 0 (fun p => (p.1 ++ [⟨0, 0, 0, st, 0⟩], p.2)) (byteL s st) := fun m =>
  ⟨_, m, emit_ok (.inl rfl), fun pre => by show (_, _) = _; rw [emit_eq (.inl rfl)], NestG.one 0 (show (0 : Nat) ≠ 6 by decide) (show (0 : Nat) ≠ 7 by decide), SegL.one s st⟩
theorem IsLng.save {s : ByteArray} {G : Nat} (a : Nat) (h : 2 ≤ a ∧ a < G) : IsLng s G 0 (fun p => (p.1 ++ [.mk1 5 a], p.2)) (fun i j => i = j) := fun m =>
  ⟨_, m, emit_ok (.inr ⟨rfl, h⟩), fun pre => by show (_, _) = _; rw [emit_eq (.inr rfl)], NestG.one 0 (show (5 : Nat) ≠ 6 by decide) (show (5 : Nat) ≠ 7 by decide), SegL.save s a⟩

theorem IsLng.iter {s : ByteArray} {G S : Nat} {f : PM → PM} {L : Nat → Nat → Prop} (hf : IsLng s G S f L) : ∀ n, IsLng s G (n * S) (iter f n) (fun i j => iterL L n i j)
  | 0 => by rw [Nat.zero_mul]; exact IsLng.id
  | n + 1 => by
    rw [Nat.add_mul, Nat.one_mul]
    refine ((IsLng.iter hf n).comp hf).mono (Nat.le_refl _) fun i j => ?_
    rw [iterL_add L n 1]
    simp only [iterL_one]

theorem rest_nil {m1 : Nat} : ∀ i ∈ [Ins.mk1 4 0], i.op = 6 ∨ i.op = 7 → m1 ≤ i.a ∧ i.a < m1 := by
  intro i hi h
  simp at hi
  subst hi
  rcases h with h | h <;> cases h

theorem star_one {s : ByteArray} {G S : Nat} {f : PM → PM} {L : Nat → Nat → Prop} (hf : IsLng s G S f L) (lz : Bool) :
    IsLng s G (S + 1) (fun p => (chooseP lz ((onceP f p).1.length + 1) p.1.length ((onceP f p).1 ++ [.mk1 4 p.1.length]), (onceP f p).2)) (fun i j => ∃ n, iterL L n i j) := by
  intro m
  obtain ⟨seg, m', hs, he, hn, hl⟩ := hf (m + 1)
  refine ⟨loopSeg lz m (seg.length + 4) seg [.mk1 4 0], m', loop_ok (S' := 0) hs rfl (by simp) ?_ (by simp [splits]) (by omega), fun pre => ?_, ?_, hl.star lz m⟩
  · intro i hi
    simp at hi
    subst hi
    unfold InsOk
    simp
  · simp only [once_seg he]
    have e1 : ∀ L : Nat, chooseP lz L pre.length (pre ++ .mk1 3 0 :: .mk1 6 m :: (shiftL (pre.length + 2) seg ++ [.mk1 7 m]) ++ [.mk1 4 pre.length]) = pre ++ splitI lz (pre.length + 1) L :: (.mk1 6 m :: (shiftL (pre.length + 2) seg ++ [.mk1 7 m]) ++ [.mk1 4 pre.length]) := by
      intro L
      rw [List.append_assoc]
      exact choose_mid pre _ lz 0 0 L
    rw [e1]
    simp only [loopSeg, shiftL, List.map_cons, List.map_append, splitI_shift, shift_mark, shift_past, List.map_nil]
    have e2 : ∀ k, List.map (shiftI k) (List.map (shiftI 2) seg) = List.map (shiftI (k + 2)) seg := fun k => by
      have := shiftL_add 2 k seg
      simp only [shiftL] at this
      rw [this, Nat.add_comm]
    rw [e2]
    simp [shiftI, Ins.mk1]
    congr 1 <;> omega
  · refine NestG.loop hs hn rest_nil (NestG.one _ (by decide) (by decide)) ?_ (.inr (by simp))
    intro j x hx k' hk'
    rcases j with _ | j
    · simp at hx
      subst hx
      simp [succs, Ins.mk1] at hk'
      exact .inl hk'
    · simp at hx

theorem star_lng {s : ByteArray} {G S : Nat} {f : PM → PM} {L : Nat → Nat → Prop} (hf : IsLng s G S f L) (lo : Nat) (lz : Bool) : IsLng s G (lo * S + (S + 1)) (timesP f (lo : Int) (-1) lz) (fun i j => ∃ k, iterL L lo i k ∧ ∃ n, iterL L n k j) := by
  refine ((IsLng.iter hf lo).comp (star_one hf lz)).eqf fun p => ?_
  unfold timesP
  simp

/-- x?, x{n,m} behind what must be. -/
theorem opts_lng {s : ByteArray} {G S : Nat} {f : PM → PM} {L : Nat → Nat → Prop} (hf : IsLng s G S f L) (lz : Bool) : ∀ (n m : Nat), ∃ (U : Nat → List Ins) (ks : Nat → List Nat) (seg : List Ins) (m' : Nat), SegOk G m m' (n * (S + 1)) seg ∧ (∀ k, (U k).length = seg.length) ∧
    (∀ pre : List Ins, Proofs.Ytfgghbideoehjaa.iter (optP f) n ([], (pre, m)) = (ks pre.length, (pre ++ U pre.length, m'))) ∧
    (∀ pre : List Ins, (ks pre.length).foldl (fun pr k => chooseP lz (pre.length + seg.length) k pr) (pre ++ U pre.length) = pre ++ shiftL pre.length seg) ∧ NestG 0 seg ∧ SegL s seg (fun i j => ∃ c, c ≤ n ∧ iterL L c i j)
  | 0, m => ⟨fun _ => [], fun _ => [], [], m, SegOk.nil _ _ _, fun _ => rfl, fun pre => by simp [Proofs.Ytfgghbideoehjaa.iter], fun pre => by simp [shiftL], NestG.nil 0, (SegL.nil s).mono fun i j => ⟨fun e => ⟨0, Nat.le_refl _, e⟩, fun ⟨c, hc, e⟩ => by obtain rfl : c = 0 := (by omega); exact e⟩⟩
  | n + 1, m => by
    obtain ⟨s1, m1, h1, e1, n1, l1⟩ := hf (m + 1)
    obtain ⟨U, ks, s2, m2, h2, hU, hit, hch, n2, l2⟩ := opts_lng hf lz n m1
    have hone : ∀ pre : List Ins, onceP f (pre, m) = (pre ++ .mk1 3 0 :: .mk1 6 m :: (shiftL (pre.length + 2) s1 ++ [.mk1 7 m]), m1) := fun pre => once_seg e1 pre
    have hbl : ∀ pre : List Ins, (pre ++ Ins.mk1 3 0 :: Ins.mk1 6 m :: (shiftL (pre.length + 2) s1 ++ [Ins.mk1 7 m])).length = pre.length + (s1.length + 3) := fun pre => by simp
    refine ⟨fun k => .mk1 3 0 :: .mk1 6 m :: (shiftL (k + 2) s1 ++ .mk1 7 m :: U (k + (s1.length + 3))), fun k => k :: ks (k + (s1.length + 3)), loopSeg lz m (s1.length + 3 + s2.length) s1 (shiftL (s1.length + 3) s2), m2, ?_, ?_, ?_, ?_, ?_, l1.opt n l2 lz m⟩
    · have hmm := h2.mm
      have hle := h2.sp
      refine loop_ok (S := S) (S' := n * (S + 1)) ⟨by have := h1.mm; omega, fun i hi => (h1.ok i hi).mono (Nat.le_refl _) h2.mm (Nat.le_refl _), h1.sp⟩ (by rw [shiftL_len]) (by omega) ?_ (by simpa using hle) (by rw [Nat.add_mul, Nat.one_mul]; omega)
      intro i hi
      obtain ⟨j, hj, rfl⟩ := List.mem_map.1 hi
      exact (h2.ok j hj).shift.mono (by have := h1.mm; omega) (Nat.le_refl _) (by omega)
    · intro k
      rw [loopSeg_len]
      simp [hU]
      omega
    · intro pre
      rw [iter_front]
      simp only [optP, hone]
      rw [opt_ends, hit, hbl]
      simp
    · intro pre
      have hL : pre.length + (loopSeg lz m (s1.length + 3 + s2.length) s1 (shiftL (s1.length + 3) s2)).length = pre.length + (s1.length + 3) + s2.length := by rw [loopSeg_len, shiftL_len]; omega
      rw [hL]
      simp only [List.foldl_cons]
      have e0 : pre ++ (.mk1 3 0 :: .mk1 6 m :: (shiftL (pre.length + 2) s1 ++ .mk1 7 m :: U (pre.length + (s1.length + 3)))) = pre ++ ⟨3, 0, 0, .zero, 0⟩ :: (.mk1 6 m :: (shiftL (pre.length + 2) s1 ++ .mk1 7 m :: U (pre.length + (s1.length + 3)))) := rfl
      rw [e0, choose_mid]
      have hp2 := hch (pre ++ splitI lz (pre.length + 1) (pre.length + (s1.length + 3) + s2.length) :: (.mk1 6 m :: (shiftL (pre.length + 2) s1 ++ [.mk1 7 m])))
      have hlen : (pre ++ splitI lz (pre.length + 1) (pre.length + (s1.length + 3) + s2.length) :: (.mk1 6 m :: (shiftL (pre.length + 2) s1 ++ [.mk1 7 m]))).length = pre.length + (s1.length + 3) := by simp
      rw [hlen] at hp2
      have e1 : pre ++ splitI lz (pre.length + 1) (pre.length + (s1.length + 3) + s2.length) :: (.mk1 6 m :: (shiftL (pre.length + 2) s1 ++ .mk1 7 m :: U (pre.length + (s1.length + 3)))) = (pre ++ splitI lz (pre.length + 1) (pre.length + (s1.length + 3) + s2.length) :: (.mk1 6 m :: (shiftL (pre.length + 2) s1 ++ [.mk1 7 m]))) ++ U (pre.length + (s1.length + 3)) := by simp
      rw [e1, hp2]
      simp only [loopSeg, shiftL, List.map_cons, List.map_append, splitI_shift, shift_mark, shift_past]
      have e2 : ∀ j k l, List.map (shiftI k) (List.map (shiftI j) l) = List.map (shiftI (k + j)) l := fun j k l => by
        have := shiftL_add j k l
        simp only [shiftL] at this
        rw [this, Nat.add_comm]
      rw [e2, e2]
      simp
      congr 1 <;> omega
    · refine NestG.loop h1 n1 (m2 := m2) ?_ n2.shift ?_ (.inr (by simp))
      · intro i hi h67
        obtain ⟨j, hj, rfl⟩ := List.mem_map.1 hi
        rw [shiftI_op] at h67
        have := (h2.ok j hj).mark h67
        rw [shiftI_a (by omega) (by omega)]
        exact this
      · intro j x hx k' hk'
        obtain ⟨y, hy, rfl⟩ := shiftL_get' hx
        rw [Nat.add_comm] at hk'
        obtain ⟨i, hi, rfl⟩ := (succs_shift _ _ _ _).1 hk'
        exact .inr (by omega)

theorem times_lng {s : ByteArray} {G S : Nat} {f : PM → PM} {L : Nat → Nat → Prop} (hf : IsLng s G S f L) {lo hi : Int} (hlo : 0 ≤ lo) (hhi : hi = -1 ∨ lo ≤ hi) (lz : Bool) : IsLng s G (mostOf lo hi * (S + 1)) (timesP f lo hi lz) (timesL L lo hi) := by
  obtain ⟨l, rfl⟩ : ∃ l : Nat, lo = (l : Int) := ⟨lo.toNat, by omega⟩
  rcases hhi with rfl | hh
  · refine (star_lng hf l lz).mono ?_ ?_
    · simp only [mostOf, if_true, Int.toNat_natCast]
      rw [Nat.add_mul, Nat.one_mul, Nat.mul_add]
      omega
    · intro i j
      constructor
      · rintro ⟨k, h1, n, h2⟩
        exact ⟨l + n, by omega, .inl rfl, (iterL_add L l n i j).2 ⟨k, h1, h2⟩⟩
      · rintro ⟨n, h1, _, h2⟩
        obtain ⟨d, rfl⟩ : ∃ d, n = l + d := ⟨n - l, by omega⟩
        obtain ⟨k, h3, h4⟩ := (iterL_add L l d i j).1 h2
        exact ⟨k, h3, d, h4⟩
  · by_cases hne : hi = -1
    · omega
    have hm : mostOf (l : Int) hi = l + (hi - l).toNat := by unfold mostOf; rw [if_neg hne]; omega
    intro m
    obtain ⟨s1, m1, h1, e1, n1, l1⟩ := (IsLng.iter hf l) m
    obtain ⟨U, ks, s2, m2, h2, hU, hit, hch, n2, l2⟩ := opts_lng hf lz (hi - l).toNat m1
    have h12 := h1.app h2
    refine ⟨_, m2, ⟨h12.mm, h12.ok, ?_⟩, fun pre => ?_, n1.app h1 h2 n2, (l1.app l2).mono ?_⟩
    · have := h12.sp
      rw [hm, Nat.add_mul, Nat.mul_add l]
      omega
    · unfold timesP
      rw [if_neg hne]
      simp only [Int.toNat_natCast, e1, hit]
      have := hch (pre ++ shiftL pre.length s1)
      simp only [List.length_append, shiftL_len] at this ⊢
      rw [hU, this]
      rw [shiftL_app, shiftL_add]
      simp [Nat.add_comm]
    · intro i j
      constructor
      · rintro ⟨k, h1, c, hc, h2⟩
        exact ⟨l + c, by omega, .inr (by omega), (iterL_add L l c i j).2 ⟨k, h1, h2⟩⟩
      · rintro ⟨n, h1, h3, h2⟩
        obtain ⟨d, rfl⟩ : ∃ d, n = l + d := ⟨n - l, by omega⟩
        obtain ⟨k, h5, h4⟩ := (iterL_add L l d i j).1 h2
        exact ⟨k, h5, d, by omega, h4⟩

mutual
theorem cmp_lng (fl ln : Bool) (s : ByteArray) (G : Nat) : ∀ t : Nd, t.pln G → IsLng s G t.cnt (cmp fl ln t) (fun i j => t.mt fl ln s i j)
  | .one st n, h => by
    have := IsLng.one (s := s) (G := G) (bytesOf fl ln st n)
    simp only [Nd.cnt]
    exact this
  | .place _, h => by simp [Nd.pln] at h
  | .look _ _, h => by simp [Nd.pln] at h
  | .back _, h => by simp [Nd.pln] at h
  | .pieces l, h => by
    simp only [Nd.pln] at h
    simp only [Nd.cnt]
    exact cmpL_lng fl ln s G l h
  | .branches l, h => by
    simp only [Nd.pln] at h
    simp only [Nd.cnt]
    intro m
    obtain ⟨seg, m', h1, h2, h3, h4⟩ := cmpB_lng fl ln s G l (by intro e; rw [e] at h; exact absurd h.1 (by simp)) h.2 m
    refine ⟨seg, m', h1, fun pre => ?_, h3, h4⟩
    have := h2 pre [] (fun e he => by cases he)
    exact this
  | .times i lo hi lz, h => by
    simp only [Nd.pln] at h
    simp only [Nd.cnt]
    exact times_lng (cmp_lng fl ln s G i h.2.2) h.1 h.2.1 lz
  | .group n i, h => by
    simp only [Nd.pln] at h
    simp only [Nd.cnt]
    have hi := cmp_lng fl ln s G i h.2
    by_cases hn : n > 0
    · have h1 := (IsLng.save (s := s) (G := G) (2 * n) ⟨by omega, by omega⟩).comp hi
      have h2 := h1.comp (IsLng.save (s := s) (G := G) (2 * n + 1) ⟨by omega, by omega⟩)
      refine (h2.mono (by omega) fun a b => ?_).eqf fun p => ?_
      · simp only [Nd.mt]
        constructor
        · rintro ⟨k, ⟨k2, rfl, h3⟩, rfl⟩; exact h3
        · exact fun h3 => ⟨b, ⟨a, rfl, h3⟩, rfl⟩
      · simp [cmp, hn]
    · refine hi.eqf fun p => ?_
      simp [cmp, hn]
theorem cmpL_lng (fl ln : Bool) (s : ByteArray) (G : Nat) : ∀ l : List Nd, Nd.plns G l → IsLng s G (Nd.cnts l) (cmpL fl ln l) (fun i j => Nd.mtL fl ln s l i j)
  | [], h => by
    simp only [Nd.cnts]
    refine (IsLng.id (s := s) (G := G)).eqf fun p => by simp [cmpL]
  | t :: l, h => by
    simp only [Nd.plns] at h
    simp only [Nd.cnts]
    refine ((cmp_lng fl ln s G t h.1).comp (cmpL_lng fl ln s G l h.2)).eqf fun p => by simp [cmpL]
theorem cmpB_lng (fl ln : Bool) (s : ByteArray) (G : Nat) : ∀ (l : List Nd), l ≠ [] → Nd.plns G l → ∀ m, ∃ seg m', SegOk G m m' (Nd.cnts l + l.length) seg ∧ (∀ (pre : List Ins) (ends : List Nat), (∀ e ∈ ends, e < pre.length) → cmpB fl ln l ends (pre, m) = (patchTo (pre.length + seg.length) ends pre ++ shiftL pre.length seg, m')) ∧ NestG 0 seg ∧ SegL s seg (fun i j => Nd.mtB fl ln s l i j)
  | [], h0, h, m => absurd rfl h0
  | [t], h0, h, m => by
    simp only [Nd.plns] at h
    obtain ⟨seg, m', h3, h4, h5, h6⟩ := cmp_lng fl ln s G t h.1 m
    refine ⟨seg, m', ⟨h3.mm, h3.ok, by have := h3.sp; simp [Nd.cnts]; omega⟩, fun pre ends he => ?_, h5, h6.mono fun i j => by simp [Nd.mtB]⟩
    simp only [cmpB, h4, patch_eq, List.length_append, shiftL_len]
    rw [patchTo_left _ _ _ _ he]
  | t :: u :: l, h0, h, m => by
    simp only [Nd.plns] at h
    obtain ⟨s1, m1, h3, h4, n1, l1⟩ := cmp_lng fl ln s G t h.1 m
    obtain ⟨s2, m2, h5, h6, n2, l2⟩ := cmpB_lng fl ln s G (u :: l) (by simp) (by simpa only [Nd.plns] using h.2) m1
    have hok := brSeg_ok h3 h5
    refine ⟨brSeg s1 s2, m2, ⟨hok.mm, hok.ok, by have := hok.sp; simp only [Nd.cnts, List.length_cons] at this ⊢; omega⟩, fun pre ends he => ?_, n1.br h3 h5 n2, (l1.br l2).mono fun i j => by simp [Nd.mtB]⟩
    simp only [cmpB]
    have e0 : setA (pre ++ [Ins.mk1 3 0]) pre.length (pre.length + 1) = pre ++ [⟨3, pre.length + 1, 0, .zero, 0⟩] := setA_mid pre [] (.mk1 3 0) _
    rw [e0, h4]
    simp only [List.length_append, List.length_cons, List.length_nil, shiftL_len]
    have e1 : setB (pre ++ [⟨3, pre.length + 1, 0, .zero, 0⟩] ++ shiftL (pre.length + (0 + 1)) s1 ++ [Ins.mk1 4 0]) pre.length (pre.length + (0 + 1) + s1.length + 1) = pre ++ ⟨3, pre.length + 1, pre.length + (0 + 1) + s1.length + 1, .zero, 0⟩ :: (shiftL (pre.length + 1) s1 ++ [Ins.mk1 4 0]) := by
      have := setB_mid pre (shiftL (pre.length + 1) s1 ++ [Ins.mk1 4 0]) ⟨3, pre.length + 1, 0, .zero, 0⟩ (pre.length + (0 + 1) + s1.length + 1)
      simpa using this
    rw [e1]
    rw [h6 _ _ (by
      intro e hm
      simp only [List.mem_append, List.mem_singleton] at hm
      simp
      rcases hm with hm | hm
      · have := he e hm; omega
      · omega)]
    have hlen : (pre ++ ⟨3, pre.length + 1, pre.length + (0 + 1) + s1.length + 1, BSet.zero, 0⟩ :: (shiftL (pre.length + 1) s1 ++ [Ins.mk1 4 0])).length = pre.length + (s1.length + 2) := by simp
    rw [hlen]
    have hout : pre.length + (s1.length + 2) + s2.length = pre.length + (brSeg s1 s2).length := by rw [brSeg_len]; omega
    rw [hout]
    generalize hO : pre.length + (brSeg s1 s2).length = O
    have e2 : patchTo O (ends ++ [pre.length + (0 + 1) + s1.length]) (pre ++ ⟨3, pre.length + 1, pre.length + (0 + 1) + s1.length + 1, BSet.zero, 0⟩ :: (shiftL (pre.length + 1) s1 ++ [Ins.mk1 4 0])) = patchTo O ends pre ++ ⟨3, pre.length + 1, pre.length + (0 + 1) + s1.length + 1, BSet.zero, 0⟩ :: (shiftL (pre.length + 1) s1 ++ [Ins.mk1 4 O]) := by
      have h7 := patchTo_left O ends pre (⟨3, pre.length + 1, pre.length + (0 + 1) + s1.length + 1, BSet.zero, 0⟩ :: (shiftL (pre.length + 1) s1 ++ [Ins.mk1 4 0])) he
      simp only [patchTo, List.foldl_append, List.foldl_cons, List.foldl_nil] at h7 ⊢
      rw [h7]
      have hpl := patchTo_len O ends pre
      simp only [patchTo] at hpl
      have h8 := setA_mid (List.foldl (fun p e => setA p e O) pre ends ++ ⟨3, pre.length + 1, pre.length + (0 + 1) + s1.length + 1, BSet.zero, 0⟩ :: shiftL (pre.length + 1) s1) [] (.mk1 4 0) O
      simp only [List.length_append, List.length_cons, shiftL_len, hpl] at h8
      have e3 : pre.length + (s1.length + 1) = pre.length + (0 + 1) + s1.length := by omega
      rw [e3] at h8
      simpa using h8
    rw [e2]
    simp only [brSeg, shiftL, List.map_cons, List.map_append]
    have e4 : ∀ j k l, List.map (shiftI k) (List.map (shiftI j) l) = List.map (shiftI (k + j)) l := fun j k l => by
      have := shiftL_add j k l
      simp only [shiftL] at this
      rw [this, Nat.add_comm]
    rw [e4, e4]
    rw [brSeg_len] at hO
    simp [shiftI]
    refine ⟨⟨by omega, by omega⟩, by omega⟩
end

end Go.Proofs.Ytfgghbideoehjaa

namespace Go.Proofs.Ytfgghbideoehjaa
open Go.ChangeShapes Go.WideShapes Go.ChangeAt Go.RowKit
set_option linter.unusedVariables false
set_option linter.unusedSimpArgs false
set_option maxRecDepth 100000

/-- A thread is there. -/
def Pend (st : Option Th) (l : List Th) (pc i : Nat) : Prop := (∃ t, st = some t ∧ t.pc = pc ∧ t.pos = i) ∨ ∃ t ∈ l, t.pc = pc ∧ t.pos = i

theorem run_hits {prog : List Ins} {s : ByteArray} : ∀ (k : Nat) (st : Option Th) (l : List Th) (tr : List (Nat × Nat)) (gs : List Int) (tr' : List (Nat × Nat)),
    vrun prog s true k st l tr = some (some gs, tr') → ∃ pc i n, Pend st l pc i ∧ Rn prog s n pc i
  | 0, st, l, tr, gs, tr', h => by simp [vrun] at h
  | k + 1, none, [], tr, gs, tr', h => by simp [vrun] at h
  | k + 1, none, t :: l, tr, gs, tr', h => by
    simp only [vrun] at h
    obtain ⟨pc, i, n, hp, hr⟩ := run_hits k (some t) l tr gs tr' h
    refine ⟨pc, i, n, .inr ?_, hr⟩
    rcases hp with ⟨t', e, h1, h2⟩ | ⟨t', hm, h1, h2⟩
    · cases e; exact ⟨t, by simp, h1, h2⟩
    · exact ⟨t', by simp [hm], h1, h2⟩
  | k + 1, some t, l, tr, gs, tr', h => by
    have on : ∀ (t' : Th) (l' : List Th) (tr1 : List (Nat × Nat)), vrun prog s true k (some t') l' tr1 = some (some gs, tr') → (∀ n, Rn prog s n t'.pc t'.pos → ∃ m, Rn prog s m t.pc t.pos) → (∀ u ∈ l', u ∈ l ∨ ∀ n, Rn prog s n u.pc u.pos → ∃ m, Rn prog s m t.pc t.pos) →
        ∃ pc i n, Pend (some t) l pc i ∧ Rn prog s n pc i := by
      intro t' l' tr1 h1 h2 h3
      obtain ⟨pc, i, n, hp, hr⟩ := run_hits k (some t') l' tr1 gs tr' h1
      rcases hp with ⟨u, e, rfl, rfl⟩ | ⟨u, hm, rfl, rfl⟩
      · cases e
        obtain ⟨m, hm⟩ := h2 n hr
        exact ⟨t.pc, t.pos, m, .inl ⟨t, rfl, rfl, rfl⟩, hm⟩
      · rcases h3 u hm with h4 | h4
        · exact ⟨u.pc, u.pos, n, .inr ⟨u, h4, rfl, rfl⟩, hr⟩
        · obtain ⟨m, hm⟩ := h4 n hr
          exact ⟨t.pc, t.pos, m, .inl ⟨t, rfl, rfl, rfl⟩, hm⟩
    have off : ∀ (tr1 : List (Nat × Nat)), vrun prog s true k none l tr1 = some (some gs, tr') → ∃ pc i n, Pend (some t) l pc i ∧ Rn prog s n pc i := by
      intro tr1 h1
      obtain ⟨pc, i, n, hp, hr⟩ := run_hits k none l tr1 gs tr' h1
      rcases hp with ⟨u, e, _⟩ | ⟨u, hm, h2, h3⟩
      · cases e
      · exact ⟨pc, i, n, .inr ⟨u, hm, h2, h3⟩, hr⟩
    simp only [vrun] at h
    unfold Th.step at h
    cases hx : prog[t.pc]? with
    | none => rw [hx] at h; simp at h
    | some x =>
      rw [hx] at h
      simp only at h
      by_cases h0 : x.op = 0
      · rw [if_pos h0] at h
        split at h
        · rename_i e
          split at e
          · rename_i hc
            cases e
            exact on _ _ _ h (fun n hn => ⟨n + 1, x, hx, .inl ⟨h0, hc.1, hc.2, hn⟩⟩) (fun u hu => .inl hu)
          · cases e
        · rename_i e
          split at e
          · cases e
          · cases e; exact off _ h
        · rename_i e; split at e <;> cases e
        · rename_i e; split at e <;> cases e
      rw [if_neg h0] at h
      by_cases h3 : x.op = 3
      · rw [if_pos h3] at h
        split at h
        · rename_i e
          split at e
          · cases e
          · split at e
            · cases e
              refine on _ _ _ h (fun n hn => ⟨n + 1, x, hx, .inr (.inl ⟨h3, .inl hn⟩)⟩) (fun u hu => ?_)
              rcases List.mem_cons.1 hu with rfl | hu
              · exact .inr fun n hn => ⟨n + 1, x, hx, .inr (.inl ⟨h3, .inr hn⟩)⟩
              · exact .inl hu
            · cases e
        · rename_i e
          split at e
          · cases e; exact off _ h
          · split at e <;> cases e
        · rename_i e; split at e <;> (try split at e) <;> cases e
        · cases h
      rw [if_neg h3] at h
      by_cases h4 : x.op = 4
      · rw [if_pos h4] at h
        split at h
        · rename_i e
          split at e
          · cases e
          · cases e
            exact on _ _ _ h (fun n hn => ⟨n + 1, x, hx, .inr (.inr (.inl ⟨h4, hn⟩))⟩) (fun u hu => .inl hu)
        · rename_i e
          split at e
          · cases e; exact off _ h
          · cases e
        · rename_i e; split at e <;> cases e
        · cases h
      rw [if_neg h4] at h
      by_cases h5 : x.op = 5
      · rw [if_pos h5] at h
        split at h
        · rename_i e
          split at e
          · cases e
            exact on _ _ _ h (fun n hn => ⟨n + 1, x, hx, .inr (.inr (.inr (.inl ⟨.inl h5, hn⟩)))⟩) (fun u hu => .inl hu)
          · cases e
        · rename_i e; split at e <;> cases e
        · rename_i e; split at e <;> cases e
        · cases h
      rw [if_neg h5] at h
      by_cases h6 : x.op = 6
      · rw [if_pos h6] at h
        split at h
        · rename_i e
          split at e
          · cases e
            exact on _ _ _ h (fun n hn => ⟨n + 1, x, hx, .inr (.inr (.inr (.inl ⟨.inr (.inl h6), hn⟩)))⟩) (fun u hu => .inl hu)
          · cases e
        · rename_i e; split at e <;> cases e
        · rename_i e; split at e <;> cases e
        · cases h
      rw [if_neg h6] at h
      by_cases h7 : x.op = 7
      · rw [if_pos h7] at h
        split at h
        · rename_i e
          split at e
          · cases e
          · split at e
            · cases e
              exact on _ _ _ h (fun n hn => ⟨n + 1, x, hx, .inr (.inr (.inr (.inl ⟨.inr (.inr h7), hn⟩)))⟩) (fun u hu => .inl hu)
            · cases e
        · rename_i e
          split at e
          · cases e
          · split at e
            · cases e
            · cases e; exact off _ h
        · rename_i e; split at e <;> (try split at e) <;> cases e
        · cases h
      rw [if_neg h7] at h
      by_cases h9 : x.op = 9
      · rw [if_pos h9] at h
        split at h
        · rename_i e
          split at e <;> (try split at e) <;> cases e
        · rename_i e
          split at e
          · split at e <;> cases e
          · cases e; exact off _ h
        · rename_i e
          split at e
          · rename_i hw
            have hw : t.pos = s.size := hw.elim (fun hw => by cases hw) (fun hw => hw)
            exact ⟨t.pc, t.pos, 1, .inl ⟨t, rfl, rfl, rfl⟩, x, hx, .inr (.inr (.inr (.inr ⟨h9, hw⟩)))⟩
          · cases e
        · cases h
      rw [if_neg h9] at h
      cases h

/-- What a state leads to is in W. -/
structure Cl1 (prog : List Ins) (s : ByteArray) (W : Nat → Nat → Prop) (pc i : Nat) : Prop where
  byte : ∀ (x : Ins), prog[pc]? = some x → x.op = 0 → i < s.size → x.set.has (byte s i) = true → W (pc + 1) (i + 1)
  split : ∀ (x : Ins), prog[pc]? = some x → x.op = 3 → W x.a i ∧ W x.b i
  jump : ∀ (x : Ins), prog[pc]? = some x → x.op = 4 → W x.a i
  on : ∀ (x : Ins), prog[pc]? = some x → x.op = 5 ∨ x.op = 6 → W (pc + 1) i
  past : ∀ (x : Ins), prog[pc]? = some x → x.op = 7 → W (pc + 1) i ∨ ∃ (q : Nat) (y : Ins), prog[q + 1]? = some y ∧ y.op = 6 ∧ y.a = x.a ∧ W q i
  fin : ∀ (x : Ins), prog[pc]? = some x → x.op = 9 → i ≠ s.size

theorem Cl1.mono {prog : List Ins} {s : ByteArray} {W W' : Nat → Nat → Prop} {pc i : Nat} (h : Cl1 prog s W pc i) (hs : ∀ pc i, W pc i → W' pc i) : Cl1 prog s W' pc i where
  byte := fun x hx h0 h1 h2 => hs _ _ (h.byte x hx h0 h1 h2)
  split := fun x hx h0 => ⟨hs _ _ (h.split x hx h0).1, hs _ _ (h.split x hx h0).2⟩
  jump := fun x hx h0 => hs _ _ (h.jump x hx h0)
  on := fun x hx h0 => hs _ _ (h.on x hx h0)
  past := fun x hx h0 => by
    rcases h.past x hx h0 with h1 | ⟨q, y, h1, h2, h3, h4⟩
    · exact .inl (hs _ _ h1)
    · exact .inr ⟨q, y, h1, h2, h3, hs _ _ h4⟩
  fin := h.fin

theorem vcl_of {prog : List Ins} {s : ByteArray} {V : Nat → Nat → Prop} (h : ∀ pc i, V pc i → Cl1 prog s V pc i) : VCl prog s V where
  byte := fun pc i x hv => (h pc i hv).byte x
  split := fun pc i x hv => (h pc i hv).split x
  jump := fun pc i x hv => (h pc i hv).jump x
  on := fun pc i x hv => (h pc i hv).on x
  past := fun pc i x hv => (h pc i hv).past x
  fin := fun pc i x hv => (h pc i hv).fin x

/-- What is known of a thread's marks. -/
structure TI (prog : List Ins) (P : Nat → Nat → Prop) (t : Th) : Prop where
  body : ∀ (q p : Nat) (y z : Ins), prog[q]? = some y → prog[p]? = some z → y.op = 6 → z.op = 7 → y.a = z.a → q < t.pc → t.pc ≤ p → ∃ i : Nat, t.ms[y.a]? = some (i : Int) ∧ i ≤ t.pos ∧ P (q - 1) i
  at_ : ∀ (q : Nat) (y : Ins), prog[q]? = some y → y.op = 6 → t.pc = q → P (q - 1) t.pos

theorem TI.mono {prog : List Ins} {P P' : Nat → Nat → Prop} {t : Th} (h : TI prog P t) (hs : ∀ pc i, P pc i → P' pc i) : TI prog P' t where
  body := fun q p y z h1 h2 h3 h4 h5 h6 h7 => by
    obtain ⟨i, a, b, c⟩ := h.body q p y z h1 h2 h3 h4 h5 h6 h7
    exact ⟨i, a, b, hs _ _ c⟩
  at_ := fun q y h1 h2 h3 => hs _ _ (h.at_ q y h1 h2 h3)

theorem TI.step {prog : List Ins} {P : Nat → Nat → Prop} {t t' : Th} (hn : NestG 0 prog) (h : TI prog P t) (hP : P t.pc t.pos) {x : Ins} (hx : prog[t.pc]? = some x) (hpc : t'.pc ∈ succs t.pc x) (hle : t.pos ≤ t'.pos) (hsp : x.op = 3 → t'.pos = t.pos)
    (hms : (x.op ≠ 6 ∧ t'.ms = t.ms) ∨ (x.op = 6 ∧ x.a < t.ms.length ∧ t'.ms = t.ms.set x.a (t.pos : Int))) : TI prog P t' where
  body := by
    intro q p y z hy hz h6 h7 e l1 l2
    have hp0 : t'.pc ∈ succs (0 + t.pc) x := by rw [Nat.zero_add]; exact hpc
    rcases hn.into t.pc x hx t'.pc hp0 q p y z hy hz h6 h7 e (by omega) (by omega) with ⟨h1, h2⟩ | h1
    · obtain ⟨i, e1, e2, e3⟩ := h.body q p y z hy hz h6 h7 e h1 h2
      refine ⟨i, ?_, by omega, e3⟩
      rcases hms with ⟨_, hm⟩ | ⟨hx6, hlt, hm⟩
      · rw [hm]; exact e1
      · rw [hm, List.getElem?_set_ne]
        · exact e1
        · intro ha
          have := hn.uniq q t.pc y x hy hx h6 hx6 ha.symm
          omega
    · have hyx : y = x := by rw [← h1, hx] at hy; exact (Option.some.inj hy).symm
      subst hyx
      rcases hms with ⟨hx6, _⟩ | ⟨hx6, hlt, hm⟩
      · exact absurd h6 hx6
      · refine ⟨t.pos, ?_, hle, h.at_ q y hy h6 h1⟩
        rw [hm, List.getElem?_set_self hlt]
  at_ := by
    intro q y hy h6 e
    have hp0 : t'.pc ∈ succs (0 + t.pc) x := by rw [Nat.zero_add]; exact hpc
    have h1 := hn.onto t.pc x hx t'.pc hp0 q y hy h6 (by omega)
    obtain ⟨k, u, h2, h3, h4⟩ := hn.pre q y hy h6
    have hk : k = t.pc := by omega
    rw [hk, hx] at h3
    cases h3
    rw [hsp h4, show q - 1 = t.pc by omega]
    exact hP

structure Inv (prog : List Ins) (s : ByteArray) (P : Nat → Nat → Prop) (st : Option Th) (l : List Th) (tr : List (Nat × Nat)) : Prop where
  clo : ∀ pc i, P pc i → Cl1 prog s (fun pc i => P pc i ∨ Pend st l pc i) pc i
  tr : ∀ x ∈ tr, P x.1 x.2
  cur : ∀ t, st = some t → TI prog P t
  stk : ∀ t ∈ l, TI prog P t

/-- The run goes on with one state more. -/
theorem Inv.go {prog : List Ins} {s : ByteArray} {P : Nat → Nat → Prop} {t : Th} {l : List Th} {tr : List (Nat × Nat)} (h : Inv prog s P (some t) l tr) {st' : Option Th} {l' : List Th} {tr' : List (Nat × Nat)}
    (hl : ∀ u ∈ l, u ∈ l') (hc : Cl1 prog s (fun pc i => (P pc i ∨ pc = t.pc ∧ i = t.pos) ∨ Pend st' l' pc i) t.pc t.pos) (ht : ∀ x ∈ tr', x ∈ tr ∨ x = (t.pc, t.pos))
    (hcur : ∀ u, st' = some u → TI prog (fun pc i => P pc i ∨ pc = t.pc ∧ i = t.pos) u) (hstk : ∀ u ∈ l', u ∈ l ∨ TI prog (fun pc i => P pc i ∨ pc = t.pc ∧ i = t.pos) u) :
    Inv prog s (fun pc i => P pc i ∨ pc = t.pc ∧ i = t.pos) st' l' tr' where
  clo := by
    rintro pc i (hp | ⟨rfl, rfl⟩)
    · refine (h.clo pc i hp).mono fun pc i hw => ?_
      rcases hw with hw | ⟨u, e, h1, h2⟩ | ⟨u, hu, h1, h2⟩
      · exact .inl (.inl hw)
      · cases e; exact .inl (.inr ⟨h1.symm, h2.symm⟩)
      · exact .inr (.inr ⟨u, hl u hu, h1, h2⟩)
    · exact hc
  tr := by
    intro x hx
    rcases ht x hx with h1 | rfl
    · exact .inl (h.tr x h1)
    · exact .inr ⟨rfl, rfl⟩
  cur := hcur
  stk := by
    intro u hu
    rcases hstk u hu with h1 | h1
    · exact (h.stk u h1).mono fun _ _ hp => .inl hp
    · exact h1

/-- A state of one kind. -/
theorem cl1_of {prog : List Ins} {s : ByteArray} {W : Nat → Nat → Prop} {pc i : Nat} {x : Ins} (hx : prog[pc]? = some x) (h0 : x.op = 0 → i < s.size → x.set.has (Proofs.Ytfgghbideoehjaa.byte s i) = true → W (pc + 1) (i + 1)) (h3 : x.op = 3 → W x.a i ∧ W x.b i) (h4 : x.op = 4 → W x.a i) (h5 : x.op = 5 ∨ x.op = 6 → W (pc + 1) i)
    (h7 : x.op = 7 → W (pc + 1) i ∨ ∃ (q : Nat) (y : Ins), prog[q + 1]? = some y ∧ y.op = 6 ∧ y.a = x.a ∧ W q i) (h9 : x.op = 9 → i ≠ s.size) : Cl1 prog s W pc i where
  byte := fun y hy => by rw [hx] at hy; cases hy; exact h0
  split := fun y hy => by rw [hx] at hy; cases hy; exact h3
  jump := fun y hy => by rw [hx] at hy; cases hy; exact h4
  on := fun y hy => by rw [hx] at hy; cases hy; exact h5
  past := fun y hy => by rw [hx] at hy; cases hy; exact h7
  fin := fun y hy => by rw [hx] at hy; cases hy; exact h9

theorem run_fails {prog : List Ins} {s : ByteArray} (hn : NestG 0 prog) : ∀ (k : Nat) (P : Nat → Nat → Prop) (st : Option Th) (l : List Th) (tr tr' : List (Nat × Nat)), Inv prog s P st l tr →
    vrun prog s true k st l tr = some (none, tr') → ∃ V, VCl prog s V ∧ (∀ pc i, P pc i → V pc i) ∧ ∀ pc i, Pend st l pc i → V pc i
  | 0, P, st, l, tr, tr', hi, h => by simp [vrun] at h
  | k + 1, P, none, [], tr, tr', hi, h => by
    refine ⟨P, vcl_of fun pc i hp => (hi.clo pc i hp).mono fun pc i hw => ?_, fun _ _ h => h, fun pc i hp => ?_⟩
    · rcases hw with hw | ⟨u, e, _⟩ | ⟨u, hu, _⟩
      · exact hw
      · cases e
      · cases hu
    · rcases hp with ⟨u, e, _⟩ | ⟨u, hu, _⟩
      · cases e
      · cases hu
  | k + 1, P, none, t :: l, tr, tr', hi, h => by
    simp only [vrun] at h
    have hp : ∀ pc i, Pend none (t :: l) pc i → Pend (some t) l pc i := by
      rintro pc i (⟨u, e, _⟩ | ⟨u, hu, h1, h2⟩)
      · cases e
      · rcases List.mem_cons.1 hu with rfl | hu
        · exact .inl ⟨u, rfl, h1, h2⟩
        · exact .inr ⟨u, hu, h1, h2⟩
    obtain ⟨V, h1, h2, h3⟩ := run_fails hn k P (some t) l tr tr' ⟨fun pc i h4 => (hi.clo pc i h4).mono fun pc i hw => hw.imp (fun h => h) (hp pc i), hi.tr, fun u e => by cases e; exact hi.stk t (by simp), fun u hu => hi.stk u (by simp [hu])⟩ h
    exact ⟨V, h1, h2, fun pc i h4 => h3 pc i (hp pc i h4)⟩
  | k + 1, P, some t, l, tr, tr', hi, h => by
    have fin : ∀ (st' : Option Th) (l' : List Th) (tr1 : List (Nat × Nat)), vrun prog s true k st' l' tr1 = some (none, tr') → Inv prog s (fun pc i => P pc i ∨ pc = t.pc ∧ i = t.pos) st' l' tr1 → (∀ u ∈ l, u ∈ l') →
        ∃ V, VCl prog s V ∧ (∀ pc i, P pc i → V pc i) ∧ ∀ pc i, Pend (some t) l pc i → V pc i := by
      intro st' l' tr1 h2 h1 hl
      obtain ⟨V, h3, h4, h5⟩ := run_fails hn k _ st' l' tr1 tr' h1 h2
      refine ⟨V, h3, fun pc i hp => h4 pc i (.inl hp), ?_⟩
      rintro pc i (⟨u, e, e1, e2⟩ | ⟨u, hu, e1, e2⟩)
      · cases e; exact h4 pc i (.inr ⟨e1.symm, e2.symm⟩)
      · exact h5 pc i (.inr ⟨u, hl u hu, e1, e2⟩)
    have hT := (hi.cur t rfl).mono (P' := fun pc i => P pc i ∨ pc = t.pc ∧ i = t.pos) fun _ _ h => .inl h
    have hT2 := hi.cur t rfl
    have hPt : (fun pc i => P pc i ∨ pc = t.pc ∧ i = t.pos) t.pc t.pos := .inr ⟨rfl, rfl⟩
    have old : P t.pc t.pos → ∀ (tr1 : List (Nat × Nat)), (∀ x ∈ tr1, x ∈ tr) → Inv prog s (fun pc i => P pc i ∨ pc = t.pc ∧ i = t.pos) none l tr1 := fun hP tr1 h1 => by
      refine hi.go (fun u hu => hu) ((hi.clo _ _ hP).mono fun pc i hw => ?_) (fun x hx => .inl (h1 x hx)) (fun u e => by cases e) fun u hu => .inl hu
      rcases hw with hw | ⟨u, e, e1, e2⟩ | ⟨u, hu, e1, e2⟩
      · exact .inl (.inl hw)
      · cases e; exact .inl (.inr ⟨e1.symm, e2.symm⟩)
      · exact .inr (.inr ⟨u, hu, e1, e2⟩)
    simp only [vrun] at h
    unfold Th.step at h
    cases hx : prog[t.pc]? with
    | none => rw [hx] at h; simp at h
    | some x =>
      rw [hx] at h
      simp only at h
      by_cases h0 : x.op = 0
      · rw [if_pos h0] at h
        have hsu : t.pc + 1 ∈ succs t.pc x := by simp [succs, h0]
        split at h
        · rename_i e
          split at e
          · rename_i hc
            cases e
            refine fin _ _ _ h (hi.go (fun u hu => hu) (cl1_of hx (fun _ _ _ => .inr (.inl ⟨_, rfl, rfl, rfl⟩)) (by omega) (by omega) (by omega) (by omega) (by omega)) (fun x hx => .inl hx) (fun u e => ?_) fun u hu => .inl hu) (fun u hu => hu)
            cases e
            exact hT.step hn hPt hx hsu (by simp) (by omega) (.inl ⟨by omega, rfl⟩)
          · cases e
        · rename_i e
          split at e
          · cases e
          · rename_i hc
            cases e
            refine fin _ _ _ h (hi.go (fun u hu => hu) (cl1_of hx (fun _ h1 h2 => absurd ⟨h1, h2⟩ hc) (by omega) (by omega) (by omega) (by omega) (by omega)) (fun x hx => .inl hx) (fun u e => by cases e) fun u hu => .inl hu) (fun u hu => hu)
        · cases h
        · cases h
      rw [if_neg h0] at h
      by_cases h3 : x.op = 3
      · rw [if_pos h3] at h
        have hsu : x.a ∈ succs t.pc x := by simp [succs, h3]
        have hsv : x.b ∈ succs t.pc x := by simp [succs, h3]
        split at h
        · rename_i e
          split at e
          · cases e
          · split at e
            · cases e
              refine fin _ _ _ h (hi.go (fun u hu => by simp [hu]) (cl1_of hx (by omega) (fun _ => ⟨.inr (.inl ⟨_, rfl, rfl, rfl⟩), .inr (.inr ⟨_, List.mem_cons_self, rfl, rfl⟩)⟩) (by omega) (by omega) (by omega) (by omega)) (fun x hx => by simpa using hx) (fun u e => ?_) fun u hu => ?_) (fun u hu => by simp [hu])
              · cases e
                exact hT.step hn hPt hx hsu (by simp) (fun _ => rfl) (.inl ⟨by omega, rfl⟩)
              · rcases List.mem_cons.1 hu with rfl | hu
                · exact .inr (hT.step hn hPt hx hsv (by simp) (fun _ => rfl) (.inl ⟨by omega, rfl⟩))
                · exact .inl hu
            · cases e
        · rename_i e
          split at e
          · rename_i hc
            cases e
            exact fin _ _ _ h (old (hi.tr _ (by simpa using hc)) _ fun x hx => hx) (fun u hu => hu)
          · split at e <;> cases e
        · cases h
        · cases h
      rw [if_neg h3] at h
      by_cases h4 : x.op = 4
      · rw [if_pos h4] at h
        have hsu : x.a ∈ succs t.pc x := by simp [succs, h4]
        split at h
        · rename_i e
          split at e
          · cases e
          · cases e
            refine fin _ _ _ h (hi.go (fun u hu => hu) (cl1_of hx (by omega) (by omega) (fun _ => .inr (.inl ⟨_, rfl, rfl, rfl⟩)) (by omega) (by omega) (by omega)) (fun x hx => by simpa using hx) (fun u e => ?_) fun u hu => .inl hu) (fun u hu => hu)
            cases e
            exact hT.step hn hPt hx hsu (by simp) (by omega) (.inl ⟨by omega, rfl⟩)
        · rename_i e
          split at e
          · rename_i hc
            cases e
            exact fin _ _ _ h (old (hi.tr _ (by simpa using hc)) _ fun x hx => hx) (fun u hu => hu)
          · cases e
        · cases h
        · cases h
      rw [if_neg h4] at h
      by_cases h5 : x.op = 5
      · rw [if_pos h5] at h
        have hsu : t.pc + 1 ∈ succs t.pc x := by simp [succs, h5]
        split at h
        · rename_i e
          split at e
          · cases e
            refine fin _ _ _ h (hi.go (fun u hu => hu) (cl1_of hx (by omega) (by omega) (by omega) (fun _ => .inr (.inl ⟨_, rfl, rfl, rfl⟩)) (by omega) (by omega)) (fun x hx => .inl hx) (fun u e => ?_) fun u hu => .inl hu) (fun u hu => hu)
            cases e
            exact hT.step hn hPt hx hsu (by simp) (by omega) (.inl ⟨by omega, rfl⟩)
          · cases e
        · rename_i e; split at e <;> cases e
        · cases h
        · cases h
      rw [if_neg h5] at h
      by_cases h6 : x.op = 6
      · rw [if_pos h6] at h
        have hsu : t.pc + 1 ∈ succs t.pc x := by simp [succs, h6]
        split at h
        · rename_i e
          split at e
          · rename_i hc
            cases e
            refine fin _ _ _ h (hi.go (fun u hu => hu) (cl1_of hx (by omega) (by omega) (by omega) (fun _ => .inr (.inl ⟨_, rfl, rfl, rfl⟩)) (by omega) (by omega)) (fun x hx => .inl hx) (fun u e => ?_) fun u hu => .inl hu) (fun u hu => hu)
            cases e
            exact hT.step hn hPt hx hsu (by simp) (by omega) (.inr ⟨h6, hc, rfl⟩)
          · cases e
        · rename_i e; split at e <;> cases e
        · cases h
        · cases h
      rw [if_neg h6] at h
      by_cases h7 : x.op = 7
      · rw [if_pos h7] at h
        have hsu : t.pc + 1 ∈ succs t.pc x := by simp [succs, h7]
        split at h
        · rename_i e
          split at e
          · cases e
          · split at e
            · cases e
              refine fin _ _ _ h (hi.go (fun u hu => hu) (cl1_of hx (by omega) (by omega) (by omega) (by omega) (fun _ => .inl (.inr (.inl ⟨_, rfl, rfl, rfl⟩))) (by omega)) (fun x hx => .inl hx) (fun u e => ?_) fun u hu => .inl hu) (fun u hu => hu)
              cases e
              exact hT.step hn hPt hx hsu (by simp) (by omega) (.inl ⟨by omega, rfl⟩)
            · cases e
        · rename_i e
          split at e
          · cases e
          · rename_i v hv
            split at e
            · cases e
            · rename_i hlt
              cases e
              obtain ⟨q, y, h1, h2, h8, h9⟩ := hn.pair t.pc x hx h7
              obtain ⟨i, e1, e2, e3⟩ := hT2.body q t.pc y x h2 hx h8 h7 h9 h1 (Nat.le_refl _)
              rw [h9, hv] at e1
              cases e1
              have hip : i = t.pos := by omega
              subst hip
              obtain ⟨c, d, f1, _⟩ := hn.pre q y h2 h8
              subst f1
              refine fin _ _ _ h (hi.go (fun u hu => hu) (cl1_of hx (by omega) (by omega) (by omega) (by omega) (fun _ => .inr ⟨c, y, h2, h8, h9, .inl (.inl e3)⟩) (by omega)) (fun x hx => .inl hx) (fun u e => by cases e) fun u hu => .inl hu) (fun u hu => hu)
        · cases h
        · cases h
      rw [if_neg h7] at h
      by_cases h9 : x.op = 9
      · rw [if_pos h9] at h
        split at h
        · rename_i e
          split at e <;> (try split at e) <;> cases e
        · rename_i e
          split at e
          · split at e <;> cases e
          · rename_i hc
            cases e
            exact fin _ _ _ h (hi.go (fun u hu => hu) (cl1_of hx (by omega) (by omega) (by omega) (by omega) (by omega) (fun _ hs => hc (.inr hs))) (fun x hx => .inl hx) (fun u e => by cases e) fun u hu => .inl hu) (fun u hu => hu)
        · cases h
        · cases h
      rw [if_neg h9] at h
      cases h

end Go.Proofs.Ytfgghbideoehjaa

namespace Go.Proofs.Ytfgghbideoehjaa
open Go.ChangeShapes Go.WideShapes Go.ChangeAt Go.RowKit
set_option linter.unusedVariables false
set_option linter.unusedSimpArgs false
set_option maxRecDepth 100000

theorem lng_match {seg : List Ins} {G m m' S : Nat} {s : ByteArray} {L : Nat → Nat → Prop} (hs : SegOk G m m' S seg) (hn : NestG 0 seg) (hl : SegL s seg L) {groups marks k : Nat} {r : Option (List Int)} {tr : List (Nat × Nat)}
    (h : vrun (seg ++ [.mk1 9 0]) s true k none [Th.first groups marks 0] [] = some (r, tr)) : r.isSome = true ↔ L 0 s.size := by
  have hst : Stands (seg ++ [.mk1 9 0]) 0 seg := fun k x hx => by
    rw [Nat.zero_add, List.getElem?_append_left (get_lt hx), hx]
    have : shiftL 0 [x] = [x] := shiftL_zero [x]
    simp [shiftL] at this
    rw [this]
  have hend : (seg ++ [Ins.mk1 9 0])[0 + seg.length]? = some (.mk1 9 0) := by rw [Nat.zero_add, List.getElem?_append_right (Nat.le_refl _)]; simp
  have hne := hn.fin hs
  cases r with
  | some gs =>
    simp only [Option.isSome_some, true_iff]
    obtain ⟨pc, i, n, hp, hr⟩ := run_hits k none _ [] gs tr h
    rcases hp with ⟨u, e, _⟩ | ⟨u, hu, h1, h2⟩
    · cases e
    · simp at hu
      subst hu
      have e1 : pc = 0 := h1.symm
      have e2 : i = 0 := h2.symm
      subst e1
      subst e2
      obtain ⟨j, n', _, hj, hr'⟩ := hl.snd _ 0 hst n 0 hr
      rcases n' with _ | n'
      · exact hr'.elim
      obtain ⟨x, hx, h3⟩ := hr'
      rw [hend] at hx
      cases hx
      rcases h3 with ⟨h, _⟩ | ⟨h, _⟩ | ⟨h, _⟩ | ⟨h, _⟩ | ⟨_, h⟩
      · cases h
      · cases h
      · cases h
      · rcases h with h | h | h <;> cases h
      · rw [h] at hj; exact hj
  | none =>
    simp only [Option.isSome_none, Bool.false_eq_true, false_iff]
    intro hL
    obtain ⟨V, hV, _, h3⟩ := run_fails hne k (fun _ _ => False) none [Th.first groups marks 0] [] tr ⟨fun pc i h => h.elim, (fun x hx => by cases hx), (fun u e => by cases e), fun u hu => by
      simp at hu
      subst hu
      refine ⟨fun q p y z _ _ _ _ _ h1 _ => absurd h1 (Nat.not_lt_zero q), fun q y hy h6 e => ?_⟩
      obtain ⟨c, d, f1, _⟩ := hne.pre q y hy h6
      have e : 0 = q := e
      omega⟩ h
    have h0 : V 0 0 := h3 0 0 (.inr ⟨Th.first groups marks 0, by simp, rfl, rfl⟩)
    have h4 := hl.cpl _ 0 V hst hV hne.uniq 0 s.size h0 hL
    exact hV.fin _ _ _ h4 hend rfl rfl

theorem pln_lng {p : ByteArray} (hz : p.size ≤ 50000) (hb : Bare p) (hn : NoPlace p) {fin : PSt} {deep : Nat} (h : readOf p = .ok fin deep) (fl ln : Bool) (s : ByteArray) :
    ∃ seg, SegOk (2 * fin.groups + 2) 0 (fin.marksX fl ln) 5000 seg ∧ fin.progX fl ln = seg ++ [.mk1 9 0] ∧ NestG 0 seg ∧ SegL s seg (fun i j => fin.top.whole.mt fl ln s i j) := by
  obtain ⟨h1, h2, h3, h4, h5, h6, h7, h8⟩ := read_cov hz hb h
  have hp := read_pln hz hb hn h
  obtain ⟨seg, m', hk, he, hnest, hl⟩ := cmp_lng fl ln s _ _ hp 0
  have hc := cnt_le fin.top.whole h8 (by omega)
  have e0 := he []
  simp only [List.nil_append, List.length_nil, shiftL_zero] at e0
  have em : fin.marksX fl ln = m' := by show (cmp fl ln fin.top.whole ([], 0)).2 = m'; rw [e0]
  refine ⟨seg, ⟨Nat.zero_le _, by rw [em]; exact hk.ok, by have := hk.sp; omega⟩, ?_, hnest, hl⟩
  show (cmp fl ln fin.top.whole ([], 0)).1 ++ _ = _
  rw [e0]

/-- The machine of a plain pattern matches a whole text exactly if its tree does. -/
theorem match_law {p s : ByteArray} (hz : p.size ≤ 50000) (hb : Bare p) (hn : NoPlace p) (hs : s.size ≤ 100) {fin : PSt} {deep : Nat} (h : readOf p = .ok fin deep) (fl ln : Bool) :
    ∃ k r tr, vrun (fin.progX fl ln) s true k none [Th.first fin.groups (fin.marksX fl ln) 0] [] = some (r, tr) ∧ (r.isSome = true ↔ fin.top.whole.mt fl ln s 0 s.size) := by
  obtain ⟨seg, hk, he, hnest, hl⟩ := pln_lng hz hb hn h fl ln s
  have hsp := prog_splits hk
  have hS : splits (seg ++ [Ins.mk1 9 0]) * (s.size + 1) < 1000000 := by
    have : splits (seg ++ [Ins.mk1 9 0]) * (s.size + 1) ≤ 5000 * 101 := Nat.mul_le_mul hsp (by omega)
    omega
  obtain ⟨k, res, hr, _⟩ := vrun_ends (M := fin.marksX fl ln) true (prog_ok hk) (by omega) hS _ _ _ (some (Th.first fin.groups (fin.marksX fl ln) 0)) [] [] rfl rfl rfl ⟨(fun t e => by
    cases e
    exact ⟨by simp [Th.first], Nat.zero_le _, by simp [Th.first, filled], by simp [Th.first]⟩), (fun t hm => by cases hm), ⟨List.nodup_nil, fun x hx => by cases hx⟩, Nat.zero_le _⟩
  have hr : vrun (seg ++ [Ins.mk1 9 0]) s true (k + 1) none [Th.first fin.groups (fin.marksX fl ln) 0] [] = some res := hr
  obtain ⟨r, tr⟩ := res
  exact ⟨k + 1, r, tr, by rw [he]; exact hr, lng_match hk hnest hl hr⟩

theorem iterL_le {L : Nat → Nat → Prop} (h : ∀ i j, L i j → i ≤ j) : ∀ n i j, iterL L n i j → i ≤ j
  | 0, i, j, e => by cases e; exact Nat.le_refl _
  | n + 1, i, j, ⟨k, h1, h2⟩ => Nat.le_trans (h i k h1) (iterL_le h n k j h2)

mutual
theorem mt_le (fl ln : Bool) (s : ByteArray) : ∀ (t : Nd) (i j : Nat), t.mt fl ln s i j → i ≤ j
  | .one _ _, i, j, h => by simp only [Nd.mt] at h; have := h.2.2; omega
  | .place _, i, j, h => by simp [Nd.mt] at h
  | .look _ _, i, j, h => by simp [Nd.mt] at h
  | .back _, i, j, h => by simp [Nd.mt] at h
  | .pieces l, i, j, h => by simp only [Nd.mt] at h; exact mtL_le fl ln s l i j h
  | .branches l, i, j, h => by simp only [Nd.mt] at h; exact mtB_le fl ln s l i j h
  | .times x lo hi _, i, j, h => by
    simp only [Nd.mt] at h
    obtain ⟨n, _, _, h⟩ := h
    exact iterL_le (fun i j => mt_le fl ln s x i j) n i j h
  | .group _ x, i, j, h => by simp only [Nd.mt] at h; exact mt_le fl ln s x i j h
theorem mtL_le (fl ln : Bool) (s : ByteArray) : ∀ (l : List Nd) (i j : Nat), Nd.mtL fl ln s l i j → i ≤ j
  | [], i, j, h => by simp only [Nd.mtL] at h; omega
  | t :: l, i, j, h => by
    simp only [Nd.mtL] at h
    obtain ⟨k, h1, h2⟩ := h
    exact Nat.le_trans (mt_le fl ln s t i k h1) (mtL_le fl ln s l k j h2)
theorem mtB_le (fl ln : Bool) (s : ByteArray) : ∀ (l : List Nd) (i j : Nat), Nd.mtB fl ln s l i j → i ≤ j
  | [], i, j, h => by simp [Nd.mtB] at h
  | t :: l, i, j, h => by
    simp only [Nd.mtB] at h
    rcases h with h | h
    · exact mt_le fl ln s t i j h
    · exact mtB_le fl ln s l i j h
end

/-- A part of a text: z bytes from o on. -/
structure Part (s v : ByteArray) (o : Nat) : Prop where
  fit : v.size + o ≤ s.size
  same : ∀ i, i < v.size → byte v i = byte s (i + o)

theorem iterL_part {L L' : Nat → Nat → Prop} {o z : Nat} (hle : ∀ i j, L i j → i ≤ j) (h : ∀ i j, i ≤ z → (L' i j ↔ L (i + o) (j + o) ∧ j ≤ z)) : ∀ n i j, i ≤ z → (iterL L' n i j ↔ iterL L n (i + o) (j + o) ∧ j ≤ z)
  | 0, i, j, hi => by simp only [iterL]; omega
  | n + 1, i, j, hi => by
    constructor
    · rintro ⟨k, h1, h2⟩
      obtain ⟨h3, h4⟩ := (h i k hi).1 h1
      obtain ⟨h5, h6⟩ := (iterL_part hle h n k j h4).1 h2
      exact ⟨⟨k + o, h3, h5⟩, h6⟩
    · rintro ⟨⟨K, h1, h2⟩, h3⟩
      have g1 := hle _ _ h1
      have g2 := iterL_le hle _ _ _ h2
      obtain ⟨k, rfl⟩ : ∃ k, K = k + o := ⟨K - o, by omega⟩
      exact ⟨k, (h i k hi).2 ⟨h1, by omega⟩, (iterL_part hle h n k j (by omega)).2 ⟨h2, h3⟩⟩

mutual
theorem mt_part (fl ln : Bool) {s v : ByteArray} {o : Nat} (hp : Part s v o) : ∀ (t : Nd) (i j : Nat), i ≤ v.size → (t.mt fl ln v i j ↔ t.mt fl ln s (i + o) (j + o) ∧ j ≤ v.size)
  | .one st n, i, j, hi => by
    simp only [Nd.mt, byteL]
    have := hp.fit
    constructor
    · rintro ⟨h1, h2, h3⟩
      rw [hp.same i h1] at h2
      exact ⟨⟨by omega, h2, by omega⟩, by omega⟩
    · rintro ⟨⟨h1, h2, h3⟩, h4⟩
      rw [← hp.same i (by omega)] at h2
      exact ⟨by omega, h2, by omega⟩
  | .place _, i, j, hi => by simp [Nd.mt]
  | .look _ _, i, j, hi => by simp [Nd.mt]
  | .back _, i, j, hi => by simp [Nd.mt]
  | .pieces l, i, j, hi => by simp only [Nd.mt]; exact mtL_part fl ln hp l i j hi
  | .branches l, i, j, hi => by simp only [Nd.mt]; exact mtB_part fl ln hp l i j hi
  | .times x lo hi2 _, i, j, hi => by
    simp only [Nd.mt, timesL]
    have key := iterL_part (L := fun i j => x.mt fl ln s i j) (L' := fun i j => x.mt fl ln v i j) (o := o) (z := v.size) (fun i j => mt_le fl ln s x i j) (fun i j => mt_part fl ln hp x i j)
    constructor
    · rintro ⟨n, h1, h2, h3⟩
      obtain ⟨h4, h5⟩ := (key n i j hi).1 h3
      exact ⟨⟨n, h1, h2, h4⟩, h5⟩
    · rintro ⟨⟨n, h1, h2, h3⟩, h4⟩
      exact ⟨n, h1, h2, (key n i j hi).2 ⟨h3, h4⟩⟩
  | .group _ x, i, j, hi => by simp only [Nd.mt]; exact mt_part fl ln hp x i j hi
theorem mtL_part (fl ln : Bool) {s v : ByteArray} {o : Nat} (hp : Part s v o) : ∀ (l : List Nd) (i j : Nat), i ≤ v.size → (Nd.mtL fl ln v l i j ↔ Nd.mtL fl ln s l (i + o) (j + o) ∧ j ≤ v.size)
  | [], i, j, hi => by simp only [Nd.mtL]; omega
  | t :: l, i, j, hi => by
    simp only [Nd.mtL]
    constructor
    · rintro ⟨k, h1, h2⟩
      obtain ⟨h3, h4⟩ := (mt_part fl ln hp t i k hi).1 h1
      obtain ⟨h5, h6⟩ := (mtL_part fl ln hp l k j h4).1 h2
      exact ⟨⟨k + o, h3, h5⟩, h6⟩
    · rintro ⟨⟨K, h1, h2⟩, h3⟩
      have g1 := mt_le _ _ _ _ _ _ h1
      have g2 := mtL_le _ _ _ _ _ _ h2
      obtain ⟨k, rfl⟩ : ∃ k, K = k + o := ⟨K - o, by omega⟩
      exact ⟨k, (mt_part fl ln hp t i k hi).2 ⟨h1, by omega⟩, (mtL_part fl ln hp l k j (by omega)).2 ⟨h2, h3⟩⟩
theorem mtB_part (fl ln : Bool) {s v : ByteArray} {o : Nat} (hp : Part s v o) : ∀ (l : List Nd) (i j : Nat), i ≤ v.size → (Nd.mtB fl ln v l i j ↔ Nd.mtB fl ln s l (i + o) (j + o) ∧ j ≤ v.size)
  | [], i, j, hi => by simp [Nd.mtB]
  | t :: l, i, j, hi => by
    simp only [Nd.mtB]
    rw [mt_part fl ln hp t i j hi, mtB_part fl ln hp l i j hi]
    constructor
    · rintro (⟨h1, h2⟩ | ⟨h1, h2⟩)
      · exact ⟨.inl h1, h2⟩
      · exact ⟨.inr h1, h2⟩
    · rintro ⟨h1 | h1, h2⟩
      · exact .inl ⟨h1, h2⟩
      · exact .inr ⟨h1, h2⟩
end

mutual
theorem mt_up (fl ln : Bool) (s : ByteArray) (g : Nat) : ∀ (t : Nd) (i j : Nat), (t.up g).mt fl ln s i j ↔ t.mt fl ln s i j
  | .one _ _, i, j => by simp [Nd.up]
  | .place _, i, j => by simp [Nd.up]
  | .look x _, i, j => by simp [Nd.up, Nd.mt]
  | .back _, i, j => by simp [Nd.up, Nd.mt]
  | .pieces l, i, j => by simp only [Nd.up, Nd.mt]; exact mtL_up fl ln s g l i j
  | .branches l, i, j => by simp only [Nd.up, Nd.mt]; exact mtB_up fl ln s g l i j
  | .times x lo hi _, i, j => by
    simp only [Nd.up, Nd.mt]
    have : (fun i j => (x.up g).mt fl ln s i j) = fun i j => x.mt fl ln s i j := by funext a b; exact propext (mt_up fl ln s g x a b)
    rw [this]
  | .group _ x, i, j => by simp only [Nd.up, Nd.mt]; exact mt_up fl ln s g x i j
theorem mtL_up (fl ln : Bool) (s : ByteArray) (g : Nat) : ∀ (l : List Nd) (i j : Nat), Nd.mtL fl ln s (Nd.ups g l) i j ↔ Nd.mtL fl ln s l i j
  | [], i, j => by simp [Nd.ups]
  | t :: l, i, j => by simp only [Nd.ups, Nd.mtL, mt_up fl ln s g t, mtL_up fl ln s g l]
theorem mtB_up (fl ln : Bool) (s : ByteArray) (g : Nat) : ∀ (l : List Nd) (i j : Nat), Nd.mtB fl ln s (Nd.ups g l) i j ↔ Nd.mtB fl ln s l i j
  | [], i, j => by simp [Nd.ups]
  | t :: l, i, j => by simp only [Nd.ups, Nd.mtB, mt_up fl ln s g t, mtB_up fl ln s g l]
end

end Go.Proofs.Ytfgghbideoehjaa
