/-
  The run in a joined program against the run of its first part alone.
  The run in a joined program against the run of its first part alone: step by step.
  The run in a joined program against the run of its first part alone: the whole run.
  What a joined program finds, against what its first part finds alone.
  The program of two branches.
-/
import Derived.Test.YtfgghbideoehjaaEndA
import Derived.Test.YtfgghbideoehjaaCovAToSegB
import Derived.Test.YtfgghbideoehjaaVmSToVmT
namespace Go.Proofs.Ytfgghbideoehjaa
open Go.ChangeShapes Go.WideShapes Go.ChangeAt Go.RowKit
set_option linter.unusedVariables false
set_option linter.unusedSimpArgs false
set_option maxRecDepth 100000

theorem vrun_more (prog : List Ins) (s : ByteArray) (whole : Bool) : ∀ (k : Nat) (st : Option Th) (l : List Th) (tr : List (Nat × Nat)) (r : Option (List Int) × List (Nat × Nat)), vrun prog s whole k st l tr = some r → vrun prog s whole (k + 1) st l tr = some r
  | 0, st, l, tr, r, h => by simp [vrun] at h
  | k + 1, none, [], tr, r, h => h
  | k + 1, none, t :: l, tr, r, h => by
    have h' : vrun prog s whole k (some t) l tr = some r := h
    exact vrun_more prog s whole k (some t) l tr r h'
  | k + 1, some t, l, tr, r, h => by
    rw [vrun] at h ⊢
    cases hs : t.step prog s whole l tr with
    | on t' l' tr' => rw [hs] at h; exact vrun_more prog s whole k _ _ _ r h
    | off l' tr' => rw [hs] at h; exact vrun_more prog s whole k _ _ _ r h
    | hit gs tr' => rw [hs] at h; exact h
    | bad => rw [hs] at h; cases h
theorem vrun_le (prog : List Ins) (s : ByteArray) (whole : Bool) (st : Option Th) (l : List Th) (tr : List (Nat × Nat)) (r : Option (List Int) × List (Nat × Nat)) {k : Nat} (h : vrun prog s whole k st l tr = some r) : ∀ d, vrun prog s whole (k + d) st l tr = some r
  | 0 => h
  | d + 1 => vrun_more prog s whole (k + d) st l tr r (vrun_le prog s whole st l tr r h d)
theorem vrun_det {prog : List Ins} {s : ByteArray} {whole : Bool} {st : Option Th} {l : List Th} {tr : List (Nat × Nat)} {r1 r2 : Option (List Int) × List (Nat × Nat)} {k1 k2 : Nat} (h1 : vrun prog s whole k1 st l tr = some r1) (h2 : vrun prog s whole k2 st l tr = some r2) : r1 = r2 := by
  have a := vrun_le prog s whole st l tr r1 h1 k2
  have b := vrun_le prog s whole st l tr r2 h2 k1
  rw [Nat.add_comm, b] at a
  exact (Option.some.inj a).symm

set_option maxHeartbeats 4000000 in
/-- All that a run from the places behind n does: it tries states behind n; its groups begin as they did. -/
theorem vrun_behind {prog : List Ins} {s : ByteArray} {whole : Bool} {n : Nat} {g0 : Int} (hP : ∀ k i, n ≤ k → prog[k]? = some i → (i.op = 3 → n ≤ i.a ∧ n ≤ i.b) ∧ (i.op = 4 → n ≤ i.a) ∧ (i.op = 5 → 2 ≤ i.a)) :
    ∀ (k : Nat) (st : Option Th) (l : List Th) (tr : List (Nat × Nat)) (r : Option (List Int) × List (Nat × Nat)), vrun prog s whole k st l tr = some r → (∀ t, st = some t → n ≤ t.pc ∧ t.gs[0]? = some g0) → (∀ t ∈ l, n ≤ t.pc ∧ t.gs[0]? = some g0) →
      (∀ x, x ∈ tr → x ∈ r.2) ∧ (∀ x, x ∈ r.2 → x ∈ tr ∨ n ≤ x.1) ∧ ∀ gs, r.1 = some gs → gs[0]? = some g0
  | 0, st, l, tr, r, h, _, _ => by simp [vrun] at h
  | k + 1, none, [], tr, r, h, _, _ => by
    simp only [vrun, Option.some.injEq] at h
    subst h
    exact ⟨fun x hx => hx, fun x hx => .inl hx, fun gs e => by cases e⟩
  | k + 1, none, t :: l, tr, r, h, _, hl => by
    have h' : vrun prog s whole k (some t) l tr = some r := h
    exact vrun_behind hP k (some t) l tr r h' (fun t' e => by cases e; exact hl t (by simp)) (fun t' ht => hl t' (by simp [ht]))
  | k + 1, some t, l, tr, r, h, ht, hl => by
    obtain ⟨hpc, hg⟩ := ht t rfl
    rw [vrun] at h
    cases hx : prog[t.pc]? with
    | none =>
      have : t.step prog s whole l tr = .bad := by simp only [Th.step, hx]
      rw [this] at h; cases h
    | some x =>
      obtain ⟨p3, p4, p5⟩ := hP _ _ hpc hx
      cases hs : t.step prog s whole l tr with
      | bad => rw [hs] at h; cases h
      | off l' tr' =>
        rw [hs] at h
        have e : l' = l ∧ tr' = tr := by
          simp only [Th.step, hx] at hs
          repeat' split at hs
          all_goals first | (cases hs; done) | (cases hs; exact ⟨rfl, rfl⟩)
        obtain ⟨rfl, rfl⟩ := e
        exact vrun_behind hP k none l' tr' r h (fun t' e => by cases e) hl
      | hit gs tr' =>
        rw [hs] at h
        simp only [Option.some.injEq] at h
        subst h
        simp only [Th.step, hx] at hs
        repeat' split at hs
        all_goals first | (cases hs; done) | skip
        cases hs
        refine ⟨fun x hx => hx, fun x hx => .inl hx, fun gs e => ?_⟩
        cases e
        rw [List.getElem?_set_ne (by decide)]
        exact hg
      | on t' l' tr' =>
        rw [hs] at h
        have key : (n ≤ t'.pc ∧ t'.gs[0]? = some g0) ∧ (∀ t ∈ l', n ≤ t.pc ∧ t.gs[0]? = some g0) ∧ (tr' = tr ∨ tr' = tr ++ [(t.pc, t.pos)]) := by
          simp only [Th.step, hx] at hs
          repeat' split at hs
          all_goals first | (cases hs; done) | skip
          · cases hs; exact ⟨⟨by show n ≤ t.pc + 1; omega, hg⟩, hl, .inl rfl⟩
          · rename_i h0 h3 _ _
            cases hs
            refine ⟨⟨(p3 h3).1, hg⟩, fun t'' hm => ?_, .inr rfl⟩
            rcases List.mem_cons.1 hm with rfl | hm
            · exact ⟨(p3 h3).2, hg⟩
            · exact hl _ hm
          · rename_i h0 h3 h4 _
            cases hs; exact ⟨⟨p4 h4, hg⟩, hl, .inr rfl⟩
          · rename_i h0 h3 h4 h5 _
            cases hs
            have := p5 h5
            exact ⟨⟨by show n ≤ t.pc + 1; omega, by show (t.gs.set x.a t.pos)[0]? = _; rw [List.getElem?_set_ne (by omega)]; exact hg⟩, hl, .inl rfl⟩
          · cases hs; exact ⟨⟨by show n ≤ t.pc + 1; omega, hg⟩, hl, .inl rfl⟩
          · cases hs; exact ⟨⟨by show n ≤ t.pc + 1; omega, hg⟩, hl, .inl rfl⟩
        obtain ⟨k1, k2, k3⟩ := key
        obtain ⟨r1, r2, r3⟩ := vrun_behind hP k (some t') l' tr' r h (fun t'' e => by cases e; exact k1) k2
        rcases k3 with rfl | rfl
        · exact ⟨r1, r2, r3⟩
        · refine ⟨fun x hx => r1 x (by simp [hx]), fun x hx => ?_, r3⟩
          rcases r2 x hx with h9 | h9
          · rcases List.mem_append.1 h9 with h9 | h9
            · exact .inl h9
            · simp at h9; subst h9; exact .inr hpc
          · exact .inr h9

end Go.Proofs.Ytfgghbideoehjaa

namespace Go.Proofs.Ytfgghbideoehjaa
open Go.ChangeShapes Go.WideShapes Go.ChangeAt Go.RowKit
set_option linter.unusedVariables false
set_option linter.unusedSimpArgs false
set_option maxRecDepth 100000

abbrev joined (s1 s2 : List Ins) : List Ins := brSeg s1 s2 ++ [Ins.mk1 9 0]
abbrev alone (s1 : List Ins) : List Ins := s1 ++ [Ins.mk1 9 0]

theorem joined_first (s1 s2 : List Ins) : (joined s1 s2)[0]? = some ⟨3, 1, s1.length + 2, .zero, 0⟩ := by simp [joined, brSeg]
theorem joined_p {s1 : List Ins} (s2 : List Ins) {k : Nat} {x : Ins} (h : s1[k]? = some x) : (joined s1 s2)[k + 1]? = some (shiftI 1 x) := by
  have hk : k < s1.length := (List.getElem?_eq_some_iff.1 h).1
  simp only [joined, brSeg, List.cons_append, List.getElem?_cons_succ]
  rw [List.append_assoc, List.getElem?_append_left (by simpa using hk)]
  simp [shiftL, h]
theorem joined_jump (s1 s2 : List Ins) : (joined s1 s2)[s1.length + 1]? = some (.mk1 4 (s1.length + 2 + s2.length)) := by
  simp only [joined, brSeg, List.cons_append, List.getElem?_cons_succ]
  rw [List.append_assoc, List.getElem?_append_right (by simp)]
  simp
theorem joined_match (s1 s2 : List Ins) : (joined s1 s2)[s1.length + 2 + s2.length]? = some (.mk1 9 0) := by
  rw [List.getElem?_append_right (by rw [brSeg_len]; omega), brSeg_len]
  simp
theorem joined_q {s1 s2 : List Ins} {k : Nat} {i : Ins} (hk : s1.length + 2 ≤ k) (h : (joined s1 s2)[k]? = some i) : (∃ x ∈ s2, i = shiftI (s1.length + 2) x) ∨ i = .mk1 9 0 := by
  obtain ⟨j, rfl⟩ : ∃ j, k = s1.length + 2 + j := ⟨k - (s1.length + 2), by omega⟩
  simp only [joined, brSeg, List.cons_append] at h
  rw [show s1.length + 2 + j = (s1.length + 1 + j) + 1 by omega, List.getElem?_cons_succ, List.append_assoc, List.getElem?_append_right (by simp; omega)] at h
  simp only [shiftL_len] at h
  rw [show s1.length + 1 + j - s1.length = j + 1 by omega] at h
  simp only [List.cons_append, List.getElem?_cons_succ] at h
  rcases List.mem_append.1 (List.mem_of_getElem? h) with h | h
  · obtain ⟨x, hx, rfl⟩ := List.mem_map.1 h
    exact .inl ⟨x, hx, rfl⟩
  · simp at h; exact .inr h

def Th.lift (e f : List Int) (t : Th) : Th := ⟨t.pc + 1, t.pos, t.gs ++ e, t.ms ++ f⟩

structure Rtr (n : Nat) (trA trB : List (Nat × Nat)) : Prop where
  p : ∀ p q, p < n → ((p, q) ∈ trA ↔ (p + 1, q) ∈ trB)
  j : ∀ q, (n + 1, q) ∉ trB

theorem Rtr.add {n : Nat} {trA trB : List (Nat × Nat)} (h : Rtr n trA trB) {p q : Nat} (hp : p < n) : Rtr n (trA ++ [(p, q)]) (trB ++ [(p + 1, q)]) where
  p := fun p' q' hp' => by
    have := h.p p' q' hp'
    simp only [List.mem_append, List.mem_singleton, Prod.mk.injEq]
    rw [this]
    constructor
    · rintro (h | ⟨rfl, rfl⟩)
      · exact .inl h
      · exact .inr ⟨rfl, rfl⟩
    · rintro (h | ⟨h1, h2⟩)
      · exact .inl h
      · exact .inr ⟨by omega, h2⟩
  j := fun q' hm => by
    simp only [List.mem_append, List.mem_singleton, Prod.mk.injEq] at hm
    rcases hm with hm | ⟨h1, _⟩
    · exact h.j q' hm
    · omega

structure ThA (n G M : Nat) (t : Th) : Prop where
  pc : t.pc ≤ n
  gs : t.gs.length = G
  ms : t.ms.length = M

set_option maxHeartbeats 4000000 in
/-- One step within the first part. -/
theorem step_lift {s : ByteArray} {s1 s2 : List Ins} {G M S : Nat} (hS : SegOk G 0 M S s1) (e f : List Int) {t : Th} (ht : ThA s1.length G M t) (hpc : t.pc < s1.length) {l : List Th} {Q : Th} {trA trB : List (Nat × Nat)} (hR : Rtr s1.length trA trB) :
    ((t.lift e f).step (joined s1 s2) s false (l.map (Th.lift e f) ++ [Q]) trB = .bad) ∨
    (t.step (alone s1) s false l trA = .off l trA ∧ (t.lift e f).step (joined s1 s2) s false (l.map (Th.lift e f) ++ [Q]) trB = .off (l.map (Th.lift e f) ++ [Q]) trB) ∨
    (∃ t' l' trA' trB', t.step (alone s1) s false l trA = .on t' l' trA' ∧ (t.lift e f).step (joined s1 s2) s false (l.map (Th.lift e f) ++ [Q]) trB = .on (t'.lift e f) (l'.map (Th.lift e f) ++ [Q]) trB' ∧
      ThA s1.length G M t' ∧ (∀ x ∈ l', x ∈ l ∨ ThA s1.length G M x) ∧ Rtr s1.length trA' trB' ∧ ∀ q, (0, q) ∈ trB' ↔ (0, q) ∈ trB) := by
  obtain ⟨x, hx⟩ : ∃ x, s1[t.pc]? = some x := ⟨_, List.getElem?_eq_getElem hpc⟩
  have hxa : (alone s1)[t.pc]? = some x := by rw [List.getElem?_append_left hpc]; exact hx
  have hxb : (joined s1 s2)[(t.lift e f).pc]? = some (shiftI 1 x) := joined_p s2 hx
  have hok := hS.ok x (List.mem_of_getElem? hx)
  have hgs := ht.gs
  have hms := ht.ms
  have hcon : ∀ q, (trA.contains (t.pc, q) = true ↔ trB.contains (t.pc + 1, q) = true) := fun q => by
    have := hR.p t.pc q hpc
    simpa using this
  have hz : ∀ q, (0, q) ∈ trB ++ [(t.pc + 1, t.pos)] ↔ (0, q) ∈ trB := fun q => by
    simp only [List.mem_append, List.mem_singleton, Prod.mk.injEq]
    constructor
    · rintro (h | ⟨h, _⟩)
      · exact h
      · omega
    · exact .inl
  unfold InsOk at hok
  rcases hok with h0 | ⟨h3, ha, hb⟩ | ⟨h4, ha⟩ | ⟨h5, ha1, ha2⟩ | ⟨h67, ha1, ha2⟩
  · -- a byte
    have hsh : shiftI 1 x = x := by unfold shiftI; rw [if_neg (by omega), if_neg (by omega)]
    rw [hsh] at hxb
    by_cases hb : t.pos < s.size ∧ x.set.has (byte s t.pos) = true
    · refine .inr (.inr ⟨{ t with pc := t.pc + 1, pos := t.pos + 1 }, l, trA, trB, ?_, ?_, ⟨by show t.pc + 1 ≤ _; omega, hgs, hms⟩, fun y hy => .inl hy, hR, fun q => Iff.rfl⟩)
      · simp only [Th.step, hxa, h0, if_true, if_pos hb]
      · simp only [Th.step, hxb, h0, if_true]
        rw [if_pos (show (t.lift e f).pos < s.size ∧ x.set.has (byte s (t.lift e f).pos) = true from hb)]
        rfl
    · refine .inr (.inl ⟨?_, ?_⟩)
      · simp only [Th.step, hxa, h0, if_true, if_neg hb]
      · simp only [Th.step, hxb, h0, if_true]
        rw [if_neg (show ¬ ((t.lift e f).pos < s.size ∧ x.set.has (byte s (t.lift e f).pos) = true) from hb)]
  · -- a choice
    have hsh : shiftI 1 x = { x with a := x.a + 1, b := x.b + 1 } := by unfold shiftI; rw [if_pos h3]
    rw [hsh] at hxb
    by_cases hc : trA.contains (t.pc, t.pos) = true
    · have hc' := (hcon t.pos).1 hc
      refine .inr (.inl ⟨?_, ?_⟩)
      · simp only [Th.step, hxa, h3, if_true, if_pos hc]; rfl
      · simp only [Th.step, hxb, h3]
        rw [if_neg (by decide), if_pos trivial, if_pos (show trB.contains ((t.lift e f).pc, (t.lift e f).pos) = true from hc')]
    · have hc' : ¬ trB.contains (t.pc + 1, t.pos) = true := fun h => hc ((hcon t.pos).2 h)
      by_cases hlen : (l.map (Th.lift e f) ++ [Q]).length < 1000000
      · refine .inr (.inr ⟨{ t with pc := x.a }, { t with pc := x.b } :: l, trA ++ [(t.pc, t.pos)], trB ++ [(t.pc + 1, t.pos)], ?_, ?_, ⟨ha, hgs, hms⟩, ?_, hR.add hpc, hz⟩)
        · simp only [Th.step, hxa, h3]
          rw [if_neg (by decide), if_pos trivial, if_neg hc, if_pos (by simp at hlen; omega)]
        · simp only [Th.step, hxb, h3]
          rw [if_neg (by decide), if_pos trivial, if_neg (show ¬ trB.contains ((t.lift e f).pc, (t.lift e f).pos) = true from hc'), if_pos hlen]
          rfl
        · intro y hy
          rcases List.mem_cons.1 hy with rfl | hy
          · exact .inr ⟨hb, hgs, hms⟩
          · exact .inl hy
      · left
        simp only [Th.step, hxb, h3]
        rw [if_neg (by decide), if_pos trivial, if_neg (show ¬ trB.contains ((t.lift e f).pc, (t.lift e f).pos) = true from hc'), if_neg hlen]
  · -- a jump
    have hsh : shiftI 1 x = { x with a := x.a + 1 } := by unfold shiftI; rw [if_neg (by omega), if_pos h4]
    rw [hsh] at hxb
    by_cases hc : trA.contains (t.pc, t.pos) = true
    · have hc' := (hcon t.pos).1 hc
      refine .inr (.inl ⟨?_, ?_⟩)
      · simp only [Th.step, hxa, h4]
        rw [if_neg (by decide), if_neg (by decide), if_pos trivial, if_pos hc]
      · simp only [Th.step, hxb, h4]
        rw [if_neg (by decide), if_neg (by decide), if_pos trivial, if_pos (show trB.contains ((t.lift e f).pc, (t.lift e f).pos) = true from hc')]
    · have hc' : ¬ trB.contains (t.pc + 1, t.pos) = true := fun h => hc ((hcon t.pos).2 h)
      refine .inr (.inr ⟨{ t with pc := x.a }, l, trA ++ [(t.pc, t.pos)], trB ++ [(t.pc + 1, t.pos)], ?_, ?_, ⟨ha, hgs, hms⟩, fun y hy => .inl hy, hR.add hpc, hz⟩)
      · simp only [Th.step, hxa, h4]
        rw [if_neg (by decide), if_neg (by decide), if_pos trivial, if_neg hc]
      · simp only [Th.step, hxb, h4]
        rw [if_neg (by decide), if_neg (by decide), if_pos trivial, if_neg (show ¬ trB.contains ((t.lift e f).pc, (t.lift e f).pos) = true from hc')]
        rfl
  · -- a group's place
    have hsh : shiftI 1 x = x := by unfold shiftI; rw [if_neg (by omega), if_neg (by omega)]
    rw [hsh] at hxb
    refine .inr (.inr ⟨{ t with pc := t.pc + 1, gs := t.gs.set x.a t.pos }, l, trA, trB, ?_, ?_, ⟨by show t.pc + 1 ≤ _; omega, by simp [hgs], hms⟩, fun y hy => .inl hy, hR, fun q => Iff.rfl⟩)
    · simp only [Th.step, hxa, h5]
      rw [if_neg (by decide), if_neg (by decide), if_neg (by decide), if_pos trivial, if_pos (by omega)]
    · simp only [Th.step, hxb, h5]
      rw [if_neg (by decide), if_neg (by decide), if_neg (by decide), if_pos trivial, if_pos (show x.a < (t.lift e f).gs.length by simp [Th.lift]; omega)]
      simp only [Th.lift]
      rw [List.set_append_left _ _ (by omega)]
  · have hsh : shiftI 1 x = x := by unfold shiftI; rw [if_neg (by omega), if_neg (by omega)]
    rw [hsh] at hxb
    rcases h67 with h6 | h7
    · refine .inr (.inr ⟨{ t with pc := t.pc + 1, ms := t.ms.set x.a t.pos }, l, trA, trB, ?_, ?_, ⟨by show t.pc + 1 ≤ _; omega, hgs, by simp [hms]⟩, fun y hy => .inl hy, hR, fun q => Iff.rfl⟩)
      · simp only [Th.step, hxa, h6]
        rw [if_neg (by decide), if_neg (by decide), if_neg (by decide), if_neg (by decide), if_pos trivial, if_pos (by omega)]
      · simp only [Th.step, hxb, h6]
        rw [if_neg (by decide), if_neg (by decide), if_neg (by decide), if_neg (by decide), if_pos trivial, if_pos (show x.a < (t.lift e f).ms.length by simp [Th.lift]; omega)]
        simp only [Th.lift]
        rw [List.set_append_left _ _ (by omega)]
    · obtain ⟨m, hm⟩ : ∃ m, t.ms[x.a]? = some m := ⟨_, List.getElem?_eq_getElem (by omega)⟩
      have hm' : (t.lift e f).ms[x.a]? = some m := by
        simp only [Th.lift]
        rw [List.getElem?_append_left (by omega)]
        exact hm
      by_cases hlt : m < (t.pos : Int)
      · refine .inr (.inr ⟨{ t with pc := t.pc + 1 }, l, trA, trB, ?_, ?_, ⟨by show t.pc + 1 ≤ _; omega, hgs, hms⟩, fun y hy => .inl hy, hR, fun q => Iff.rfl⟩)
        · simp only [Th.step, hxa, h7]
          rw [if_neg (by decide), if_neg (by decide), if_neg (by decide), if_neg (by decide), if_neg (by decide), if_pos trivial, hm]
          simp only [if_pos hlt]
        · simp only [Th.step, hxb, h7]
          rw [if_neg (by decide), if_neg (by decide), if_neg (by decide), if_neg (by decide), if_neg (by decide), if_pos trivial, hm']
          simp only []
          rw [if_pos (show m < ((t.lift e f).pos : Int) from hlt)]
          rfl
      · refine .inr (.inl ⟨?_, ?_⟩)
        · simp only [Th.step, hxa, h7]
          rw [if_neg (by decide), if_neg (by decide), if_neg (by decide), if_neg (by decide), if_neg (by decide), if_pos trivial, hm]
          simp only [if_neg hlt]
        · simp only [Th.step, hxb, h7]
          rw [if_neg (by decide), if_neg (by decide), if_neg (by decide), if_neg (by decide), if_neg (by decide), if_pos trivial, hm']
          simp only []
          rw [if_neg (show ¬ m < ((t.lift e f).pos : Int) from hlt)]

end Go.Proofs.Ytfgghbideoehjaa

namespace Go.Proofs.Ytfgghbideoehjaa
open Go.ChangeShapes Go.WideShapes Go.ChangeAt Go.RowKit
set_option linter.unusedVariables false
set_option linter.unusedSimpArgs false
set_option maxRecDepth 100000

theorem alone_match (s1 : List Ins) : (alone s1)[s1.length]? = some (.mk1 9 0) := by simp [alone]

set_option maxHeartbeats 4000000 in
theorem run_lift {s : ByteArray} {s1 s2 : List Ins} {G M S : Nat} (hS : SegOk G 0 M S s1) (hG : 1 < G) (e f : List Int) {Q : Th} {resB : Option (List Int) × List (Nat × Nat)} :
    ∀ (k : Nat) (stA : Option Th) (lA : List Th) (trA trB : List (Nat × Nat)), (∀ t, stA = some t → ThA s1.length G M t) → (∀ t ∈ lA, ThA s1.length G M t) → Rtr s1.length trA trB →
      vrun (joined s1 s2) s false k (stA.map (Th.lift e f)) (lA.map (Th.lift e f) ++ [Q]) trB = some resB →
      (∃ kA gs trA', vrun (alone s1) s false kA stA lA trA = some (some gs, trA') ∧ gs.length = G ∧ resB.1 = some (gs ++ e)) ∨
      (∃ kA trA' trB' k', vrun (alone s1) s false kA stA lA trA = some (none, trA') ∧ Rtr s1.length trA' trB' ∧ (∀ q, (0, q) ∈ trB' ↔ (0, q) ∈ trB) ∧ vrun (joined s1 s2) s false k' none [Q] trB' = some resB)
  | 0, stA, lA, trA, trB, _, _, _, h => by simp [vrun] at h
  | k + 1, none, [], trA, trB, _, _, hR, h => .inr ⟨1, trA, trB, k + 1, rfl, hR, fun q => Iff.rfl, h⟩
  | k + 1, none, t :: l, trA, trB, _, hl, hR, h => by
    have h' : vrun (joined s1 s2) s false k ((some t).map (Th.lift e f)) (l.map (Th.lift e f) ++ [Q]) trB = some resB := h
    rcases run_lift hS hG e f k (some t) l trA trB (fun t' e => by cases e; exact hl t (by simp)) (fun t' ht => hl t' (by simp [ht])) hR h' with ⟨kA, gs, trA', h1, h2, h3⟩ | ⟨kA, trA', trB', k', h1, h2, h3, h4⟩
    · exact .inl ⟨kA + 1, gs, trA', h1, h2, h3⟩
    · exact .inr ⟨kA + 1, trA', trB', k', h1, h2, h3, h4⟩
  | k + 1, some t, l, trA, trB, ht, hl, hR, h => by
    have hta := ht t rfl
    rw [Option.map_some, vrun] at h
    by_cases hpc : t.pc < s1.length
    · rcases step_lift (s := s) (s2 := s2) hS e f hta hpc (l := l) (Q := Q) hR with hb | ⟨ha, hb⟩ | ⟨t', l', trA1, trB1, ha, hb, ht', hl', hR', hz⟩
      · rw [hb] at h; cases h
      · rw [hb] at h
        rcases run_lift hS hG e f k none l trA trB (fun t' e => by cases e) hl hR h with ⟨kA, gs, trA', h1, h2, h3⟩ | ⟨kA, trA', trB', k', h1, h2, h3, h4⟩
        · exact .inl ⟨kA + 1, gs, trA', by rw [vrun, ha]; exact h1, h2, h3⟩
        · exact .inr ⟨kA + 1, trA', trB', k', by rw [vrun, ha]; exact h1, h2, h3, h4⟩
      · rw [hb] at h
        rcases run_lift hS hG e f k (some t') l' trA1 trB1 (fun t'' e => by cases e; exact ht') (fun x hx => (hl' x hx).elim (hl x) id) hR' h with ⟨kA, gs, trA', h1, h2, h3⟩ | ⟨kA, trA', trB', k', h1, h2, h3, h4⟩
        · exact .inl ⟨kA + 1, gs, trA', by rw [vrun, ha]; exact h1, h2, h3⟩
        · exact .inr ⟨kA + 1, trA', trB', k', by rw [vrun, ha]; exact h1, h2, fun q => (h3 q).trans (hz q), h4⟩
    · have hn : t.pc = s1.length := by have := hta.pc; omega
      have hgs := hta.gs
      have hA : t.step (alone s1) s false l trA = .hit (t.gs.set 1 t.pos) trA := by
        simp only [Th.step, hn, alone_match, Ins.mk1]
        rw [if_neg (by decide), if_neg (by decide), if_neg (by decide), if_neg (by decide), if_neg (by decide), if_neg (by decide), if_pos trivial, if_pos (.inl trivial), if_pos (by omega)]
      have hj : (joined s1 s2)[(t.lift e f).pc]? = some (.mk1 4 (s1.length + 2 + s2.length)) := by
        show (joined s1 s2)[t.pc + 1]? = _
        rw [hn]; exact joined_jump s1 s2
      have hB : (t.lift e f).step (joined s1 s2) s false (l.map (Th.lift e f) ++ [Q]) trB = .on { t.lift e f with pc := s1.length + 2 + s2.length } (l.map (Th.lift e f) ++ [Q]) (trB ++ [((t.lift e f).pc, (t.lift e f).pos)]) := by
        simp only [Th.step, hj, Ins.mk1]
        rw [if_neg (by decide), if_neg (by decide), if_pos trivial, if_neg]
        intro hc
        refine hR.j t.pos ?_
        have hc' : (t.pc + 1, t.pos) ∈ trB := by simpa [Th.lift] using hc
        rw [hn] at hc'
        exact hc'
      rw [hB] at h
      left
      refine ⟨1, t.gs.set 1 t.pos, trA, by rw [vrun, hA], by simp [hgs], ?_⟩
      cases k with
      | zero => simp [vrun] at h
      | succ k =>
        have hB2 : Th.step (joined s1 s2) s false { t.lift e f with pc := s1.length + 2 + s2.length } (l.map (Th.lift e f) ++ [Q]) (trB ++ [((t.lift e f).pc, (t.lift e f).pos)]) = .hit ((t.gs ++ e).set 1 t.pos) (trB ++ [((t.lift e f).pc, (t.lift e f).pos)]) := by
          simp only [Th.step, joined_match, Ins.mk1]
          rw [if_neg (by decide), if_neg (by decide), if_neg (by decide), if_neg (by decide), if_neg (by decide), if_neg (by decide), if_pos trivial, if_pos (.inl trivial), if_pos (show 1 < (t.lift e f).gs.length by simp [Th.lift]; omega)]
          rfl
        dsimp only at h
        rw [vrun, hB2] at h
        simp only [Option.some.injEq] at h
        subst h
        show some ((t.gs ++ e).set 1 t.pos) = _
        rw [List.set_append_left _ _ (by omega)]

end Go.Proofs.Ytfgghbideoehjaa

namespace Go.Proofs.Ytfgghbideoehjaa
open Go.ChangeShapes Go.WideShapes Go.ChangeAt Go.RowKit
set_option linter.unusedVariables false
set_option linter.unusedSimpArgs false
set_option maxRecDepth 100000

theorem first_zero (g m a : Nat) : (Th.first g m a).gs[0]? = some (a : Int) := by
  simp [Th.first, filled]
theorem first_len (g m a : Nat) : (Th.first g m a).gs.length = 2 * g + 2 := by
  simp [Th.first, filled]
theorem first_lift (g m a dg dm : Nat) : ({ Th.first (g + dg) (m + dm) a with pc := 1 } : Th) = (Th.first g m a).lift (List.replicate (2 * dg) (-1)) (List.replicate dm 0) := by
  simp only [Th.first, Th.lift, filled, Nat.sub_self, List.replicate_zero, List.append_nil]
  rw [show 2 * (g + dg) + 2 = (2 * g + 2) + 2 * dg by omega, ← List.replicate_append_replicate (n := 2 * g + 2), List.set_append_left _ _ (by simp), List.replicate_append_replicate]

/-- What a run finds begins where its thread does. -/
theorem found_zero {s1 : List Ins} {s : ByteArray} {G M S : Nat} (hS : SegOk G 0 M S s1) {g m a : Nat} {tr : List (Nat × Nat)} {res : Option (List Int)} (h : VFound (alone s1) s g m a tr res) : ∀ gs, res = some gs → ∃ i : Nat, a ≤ i ∧ gs[0]? = some (i : Int) := by
  induction h with
  | stop h => intro gs e; cases e
  | @hit a k tr tr' gs h hr hl =>
    intro gs' e
    cases e
    have := (vrun_behind (n := 0) (g0 := (a : Int)) (fun k i _ hk => ⟨fun _ => ⟨Nat.zero_le _, Nat.zero_le _⟩, fun _ => Nat.zero_le _, fun h5 => by
      rcases List.mem_append.1 (List.mem_of_getElem? hk) with hm | hm
      · have := hS.ok i hm
        unfold InsOk at this
        omega
      · simp at hm; subst hm; simp [Ins.mk1] at h5⟩) k none _ tr _ hr (fun t e => by cases e) (fun t ht => by
        simp only [List.mem_singleton] at ht; subst ht; exact ⟨Nat.zero_le _, first_zero _ _ _⟩)).2.2 gs rfl
    exact ⟨a, Nat.le_refl _, this⟩
  | miss h hr hn ih =>
    intro gs e
    obtain ⟨i, hi, hg⟩ := ih gs e
    exact ⟨i, by omega, hg⟩

theorem step_first (s1 s2 : List Ins) (s : ByteArray) (g m a : Nat) (tr : List (Nat × Nat)) (h : (0, a) ∉ tr) : (Th.first g m a).step (joined s1 s2) s false [] tr = .on { Th.first g m a with pc := 1 } [{ Th.first g m a with pc := s1.length + 2 }] (tr ++ [(0, a)]) := by
  have e : (joined s1 s2)[(Th.first g m a).pc]? = some ⟨3, 1, s1.length + 2, .zero, 0⟩ := joined_first s1 s2
  simp only [Th.step, e]
  rw [if_neg (by decide), if_pos trivial, if_neg (show ¬ tr.contains ((Th.first g m a).pc, (Th.first g m a).pos) = true by simpa [Th.first] using h), if_pos (by simp)]
  rfl

set_option maxHeartbeats 4000000 in
theorem found_join {s1 s2 : List Ins} {s : ByteArray} {g m S : Nat} (hS : SegOk (2 * g + 2) 0 m S s1) (h2 : ∀ x ∈ s2, x.op = 5 → 2 ≤ x.a) (dg dm : Nat) {a : Nat} {trA : List (Nat × Nat)} {resA : Option (List Int)} (hA : VFound (alone s1) s g m a trA resA) :
    ∀ (trB : List (Nat × Nat)) (resB : Option (List Int)) (gs : List Int), Rtr s1.length trA trB → (∀ q, a ≤ q → (0, q) ∉ trB) → VFound (joined s1 s2) s (g + dg) (m + dm) a trB resB → resA = some gs →
      ∃ gsB, resB = some gsB ∧ ∃ i : Nat, gs[0]? = some (i : Int) ∧ ((∃ j : Nat, j < i ∧ gsB[0]? = some (j : Int)) ∨ (gsB[0]? = gs[0]? ∧ gsB[1]? = gs[1]?)) := by
  have key : ∀ (a : Nat) (trA trB : List (Nat × Nat)) (kB : Nat) (resB : Option (List Int) × List (Nat × Nat)), Rtr s1.length trA trB → (0, a) ∉ trB → vrun (joined s1 s2) s false kB none [Th.first (g + dg) (m + dm) a] trB = some resB →
      (∃ kA gs trA', vrun (alone s1) s false kA none [Th.first g m a] trA = some (some gs, trA') ∧ gs.length = 2 * g + 2 ∧ resB.1 = some (gs ++ List.replicate (2 * dg) (-1))) ∨
      (∃ kA trA', vrun (alone s1) s false kA none [Th.first g m a] trA = some (none, trA') ∧ ((∃ gsB, resB.1 = some gsB ∧ gsB[0]? = some (a : Int)) ∨ (resB.1 = none ∧ Rtr s1.length trA' resB.2 ∧ ∀ q, a < q → (0, q) ∉ trB → (0, q) ∉ resB.2))) := by
    intro a trA trB kB resB hR h0 h
    match kB, h with
    | 0, h => simp [vrun] at h
    | 1, h => simp [vrun] at h
    | kB + 2, h =>
      have h' : vrun (joined s1 s2) s false (kB + 1) (some (Th.first (g + dg) (m + dm) a)) [] trB = some resB := h
      rw [vrun, step_first s1 s2 s _ _ _ _ h0, first_lift] at h'
      have hR' : Rtr s1.length trA (trB ++ [(0, a)]) := ⟨fun p q hp => by
        rw [hR.p p q hp]; simp, fun q hm => by
        rcases List.mem_append.1 hm with hm | hm
        · exact hR.j q hm
        · simp at hm⟩
      have hta : ThA s1.length (2 * g + 2) m (Th.first g m a) := ⟨Nat.zero_le _, first_len _ _ _, by simp [Th.first]⟩
      rcases run_lift hS (by omega) (List.replicate (2 * dg) (-1)) (List.replicate dm 0) kB (some (Th.first g m a)) [] trA (trB ++ [(0, a)]) (fun t e => by cases e; exact hta) (fun t ht => by cases ht) hR' h' with ⟨kA, gs, trA', r1, r2, r3⟩ | ⟨kA, trA', trB', k', r1, r2, r3, r4⟩
      · exact .inl ⟨kA + 1, gs, trA', r1, r2, r3⟩
      · refine .inr ⟨kA + 1, trA', r1, ?_⟩
        obtain ⟨b1, b2, b3⟩ := vrun_behind (n := s1.length + 2) (g0 := (a : Int)) (fun k i hk hi => by
          rcases joined_q hk hi with ⟨x, hx, rfl⟩ | rfl
          · have hx2 := h2 x hx
            unfold shiftI
            split
            · rename_i h3
              exact ⟨fun _ => ⟨by show _ ≤ x.a + _; omega, by show _ ≤ x.b + _; omega⟩, fun h4 => by simp [h3] at h4, fun h5 => by simp [h3] at h5⟩
            · split
              · rename_i h3 h4
                exact ⟨fun h => by simp [h4] at h, fun _ => by show _ ≤ x.a + _; omega, fun h5 => by simp [h4] at h5⟩
              · rename_i h3 h4
                exact ⟨fun h => absurd h h3, fun h => absurd h h4, hx2⟩
          · exact ⟨fun h => by simp [Ins.mk1] at h, fun h => by simp [Ins.mk1] at h, fun h => by simp [Ins.mk1] at h⟩) k' none _ trB' _ r4 (fun t e => by cases e) (fun t ht => by
            simp only [List.mem_singleton] at ht; subst ht; exact ⟨Nat.le_refl _, first_zero (g + dg) (m + dm) a⟩)
        obtain ⟨res1, res2⟩ := resB
        cases res1 with
        | some gsB => exact .inl ⟨gsB, rfl, b3 gsB rfl⟩
        | none =>
          refine .inr ⟨rfl, ⟨fun p q hp => ?_, fun q hm => ?_⟩, fun q hq hn hm => ?_⟩
          · rw [r2.p p q hp]
            constructor
            · exact b1 _
            · intro hm
              rcases b2 _ hm with hm | hm
              · exact hm
              · simp at hm; omega
          · rcases b2 _ hm with hm | hm
            · exact r2.j q hm
            · simp at hm
          · rcases b2 _ hm with hm | hm
            · have := (r3 q).1 hm
              rcases List.mem_append.1 this with h9 | h9
              · exact hn h9
              · simp at h9; omega
            · simp at hm
  induction hA with
  | stop h => intro trB resB gs _ _ _ e; cases e
  | @hit a k tr tr' gs h hr hl =>
    intro trB resB gs' hR h0 hB e
    cases e
    have hone : ∀ (l : List Int), gs.length = 2 * g + 2 → (gs ++ l)[0]? = gs[0]? ∧ (gs ++ l)[1]? = gs[1]? := fun l hl => by
      rw [List.getElem?_append_left (by omega), List.getElem?_append_left (by omega)]; exact ⟨rfl, rfl⟩
    obtain ⟨i, _, hi⟩ := found_zero hS (.hit h hr hl) gs rfl
    cases hB with
    | stop h' => omega
    | hit h' hrB hlB =>
      rcases key a tr trB _ _ hR (h0 a (Nat.le_refl _)) hrB with ⟨kA, gs2, trA', r1, r2, r3⟩ | ⟨kA, trA', r1, _⟩
      · have := vrun_det hr r1
        cases this
        cases r3
        exact ⟨_, rfl, i, hi, .inr (hone _ r2)⟩
      · have := vrun_det hr r1
        cases this
    | miss h' hrB hnB =>
      rcases key a tr trB _ _ hR (h0 a (Nat.le_refl _)) hrB with ⟨kA, gs2, trA', r1, r2, r3⟩ | ⟨kA, trA', r1, _⟩
      · cases r3
      · have := vrun_det hr r1
        cases this
  | @miss a k tr tr' res h hr hn ih =>
    intro trB resB gs' hR h0 hB e
    obtain ⟨i, hi, hg⟩ := found_zero hS hn gs' e
    cases hB with
    | stop h' => omega
    | hit h' hrB hlB =>
      rcases key a tr trB _ _ hR (h0 a (Nat.le_refl _)) hrB with ⟨kA, gs2, trA', r1, r2, r3⟩ | ⟨kA, trA', r1, ⟨gsB, e2, e3⟩ | ⟨e2, _⟩⟩
      · have := vrun_det hr r1
        cases this
      · cases e2
        exact ⟨_, rfl, i, hg, .inl ⟨a, by omega, e3⟩⟩
      · cases e2
    | miss h' hrB hnB =>
      rcases key a tr trB _ _ hR (h0 a (Nat.le_refl _)) hrB with ⟨kA, gs2, trA', r1, r2, r3⟩ | ⟨kA, trA', r1, ⟨gsB, e2, e3⟩ | ⟨e2, e3, e4⟩⟩
      · have := vrun_det hr r1
        cases this
      · cases e2
      · have hd := vrun_det hr r1
        cases hd
        exact ih _ _ gs' e3 (fun q hq => e4 q (by omega) (h0 q (by omega))) hnB e

end Go.Proofs.Ytfgghbideoehjaa

namespace Go.Proofs.Ytfgghbideoehjaa
open Go.ChangeShapes Go.WideShapes Go.ChangeAt Go.RowKit
set_option linter.unusedVariables false
set_option linter.unusedSimpArgs false
set_option maxRecDepth 100000

theorem cmp_two (fl ln : Bool) {t u : Nd} {m m1 m2 : Nat} {s1 s2 : List Ins} (h4 : ∀ pre, cmp fl ln t (pre, m) = (pre ++ shiftL pre.length s1, m1)) (h6 : ∀ pre, cmp fl ln u (pre, m1) = (pre ++ shiftL pre.length s2, m2)) :
    cmp fl ln (.branches [t, u]) ([], m) = (brSeg s1 s2, m2) := by
  have e0 : setA ([] ++ [Ins.mk1 3 0]) 0 (0 + 1) = [⟨3, 1, 0, .zero, 0⟩] := setA_mid [] [] (.mk1 3 0) _
  have e1 : setB ([⟨3, 1, 0, .zero, 0⟩] ++ shiftL 1 s1 ++ [Ins.mk1 4 0]) 0 (1 + s1.length + 1) = ⟨3, 1, s1.length + 2, .zero, 0⟩ :: (shiftL 1 s1 ++ [Ins.mk1 4 0]) := by
    have := setB_mid [] (shiftL 1 s1 ++ [Ins.mk1 4 0]) ⟨3, 1, 0, .zero, 0⟩ (1 + s1.length + 1)
    rw [show s1.length + 2 = 1 + s1.length + 1 by omega]
    simpa using this
  have hl : (⟨3, 1, s1.length + 2, BSet.zero, 0⟩ :: (shiftL 1 s1 ++ [Ins.mk1 4 0])).length = s1.length + 2 := by simp
  have e2 : setA (⟨3, 1, s1.length + 2, BSet.zero, 0⟩ :: (shiftL 1 s1 ++ [Ins.mk1 4 0]) ++ shiftL (s1.length + 2) s2) (1 + s1.length) (s1.length + 2 + s2.length) = brSeg s1 s2 := by
    have h8 := setA_mid (⟨3, 1, s1.length + 2, BSet.zero, 0⟩ :: shiftL 1 s1) (shiftL (s1.length + 2) s2) (.mk1 4 0) (s1.length + 2 + s2.length)
    simp only [List.length_cons, shiftL_len] at h8
    rw [show s1.length + 1 = 1 + s1.length by omega] at h8
    simpa [brSeg] using h8
  simp only [cmp, cmpB, List.length_nil]
  rw [e0, h4]
  simp only [List.length_append, List.length_cons, List.length_nil, shiftL_len, Nat.zero_add]
  rw [e1, h6, hl, patch_eq]
  simp only [List.nil_append, patchTo, List.foldl_cons, List.foldl_nil, List.length_append, hl, shiftL_len]
  rw [e2]

end Go.Proofs.Ytfgghbideoehjaa
