/-
  The machine always ends.
-/
import Derived.Test.YtfgghbideoehjaaVmSToVmT
import Derived.Test.YtfgghbideoehjaaCovAToSegB
namespace Go.Proofs.Ytfgghbideoehjaa
open Go.ChangeShapes Go.WideShapes Go.ChangeAt Go.RowKit
set_option linter.unusedVariables false
set_option linter.unusedSimpArgs false
set_option maxRecDepth 100000

/-- A program whose places all lie within. -/
def InsIn (G M n k : Nat) (i : Ins) : Prop :=
  (i.op = 0 ∧ k + 1 < n) ∨ (i.op = 3 ∧ i.a < n ∧ i.b < n) ∨ (i.op = 4 ∧ i.a < n) ∨ (i.op = 5 ∧ i.a < G ∧ k + 1 < n) ∨ ((i.op = 6 ∨ i.op = 7) ∧ i.a < M ∧ k + 1 < n) ∨ i.op = 9
def ProgOk (prog : List Ins) (G M : Nat) : Prop := ∀ k i, prog[k]? = some i → InsIn G M prog.length k i

theorem prog_ok {G M S : Nat} {seg : List Ins} (h : SegOk G 0 M S seg) : ProgOk (seg ++ [.mk1 9 0]) G M := by
  intro k i hi
  rw [List.length_append]
  simp only [List.length_cons, List.length_nil]
  by_cases hk : k < seg.length
  · rw [List.getElem?_append_left hk] at hi
    have := h.ok i (List.mem_of_getElem? hi)
    unfold InsOk at this
    unfold InsIn
    omega
  · rw [List.getElem?_append_right (by omega)] at hi
    have hk0 : k - seg.length = 0 := by
      rcases Nat.eq_zero_or_pos (k - seg.length) with e | e
      · exact e
      · rw [List.getElem?_eq_none (by simp; omega)] at hi; cases hi
    rw [hk0] at hi
    simp at hi
    subst hi
    unfold InsIn
    simp

theorem nodup_len {α : Type} [DecidableEq α] : ∀ (l m : List α), l.Nodup → (∀ x ∈ l, x ∈ m) → l.length ≤ m.length
  | [], m, _, _ => by simp
  | a :: l, m, hn, hs => by
    have hn' := List.nodup_cons.1 hn
    have ha := hs a (by simp)
    have := nodup_len l (m.erase a) hn'.2 fun x hx => by
      have hxa : x ≠ a := fun e => hn'.1 (by rw [← e]; exact hx)
      exact (List.mem_erase_of_ne hxa).2 (hs x (by simp [hx]))
    rw [List.length_erase_of_mem ha] at this
    have : 0 < m.length := List.length_pos_of_mem ha
    simp
    omega

/-- Is the instruction at k a choice? -/
def isSplit (prog : List Ins) (k : Nat) : Bool := match prog[k]? with | some i => decide (i.op = 3) | none => false

theorem splits_range : ∀ (prog : List Ins), ((List.range prog.length).filter (isSplit prog)).length = splits prog := by
  have h : ∀ (n : Nat) (prog : List Ins), n ≤ prog.length → ((List.range n).filter (isSplit prog)).length = splits (prog.take n) := by
    intro n
    induction n with
    | zero => intro prog _; simp [splits]
    | succ n ih =>
      intro prog hn
      rw [List.range_succ, List.filter_append, List.length_append, ih prog (by omega), List.take_add_one]
      obtain ⟨i, hi⟩ : ∃ i, prog[n]? = some i := ⟨_, List.getElem?_eq_getElem (by omega)⟩
      rw [hi]
      simp only [splits_app, Option.toList]
      congr 1
      by_cases h3 : i.op = 3
      · simp [isSplit, hi, h3, splits]
      · simp [isSplit, hi, h3, splits]
  intro prog
  rw [h prog.length prog (Nat.le_refl _), List.take_length]

structure TrOk (n z : Nat) (tr : List (Nat × Nat)) : Prop where
  nd : tr.Nodup
  lt : ∀ x ∈ tr, x.1 < n ∧ x.2 ≤ z

theorem flat_len {α β : Type} (f : α → List β) (c : Nat) (hf : ∀ x, (f x).length = c) : ∀ l : List α, (l.flatMap f).length = l.length * c
  | [] => by simp
  | a :: l => by rw [List.flatMap_cons, List.length_append, flat_len f c hf l, hf, List.length_cons, Nat.add_mul]; omega

theorem tr_len {n z : Nat} {tr : List (Nat × Nat)} (h : TrOk n z tr) : tr.length ≤ n * (z + 1) := by
  have := nodup_len tr ((List.range n).flatMap fun p => (List.range (z + 1)).map fun q => (p, q)) h.nd fun x hx => by
    obtain ⟨h1, h2⟩ := h.lt x hx
    simp only [List.mem_flatMap, List.mem_range, List.mem_map]
    exact ⟨x.1, h1, x.2, by omega, rfl⟩
  rw [flat_len _ (z + 1) (fun x => by simp)] at this
  simpa using this

/-- How many choices were tried. -/
def spl (prog : List Ins) (tr : List (Nat × Nat)) : Nat := tr.countP fun x => isSplit prog x.1

theorem spl_le {prog : List Ins} {z : Nat} {tr : List (Nat × Nat)} (h : TrOk prog.length z tr) : spl prog tr ≤ splits prog * (z + 1) := by
  have := nodup_len (tr.filter fun x => isSplit prog x.1) (((List.range prog.length).filter (isSplit prog)).flatMap fun p => (List.range (z + 1)).map fun q => (p, q)) (h.nd.sublist List.filter_sublist) fun x hx => by
    rw [List.mem_filter] at hx
    obtain ⟨h1, h2⟩ := h.lt x hx.1
    simp only [List.mem_flatMap, List.mem_filter, List.mem_range, List.mem_map]
    exact ⟨x.1, ⟨h1, hx.2⟩, x.2, by omega, rfl⟩
  rw [← List.countP_eq_length_filter] at this
  have e : (((List.range prog.length).filter (isSplit prog)).flatMap fun p => (List.range (z + 1)).map fun q => (p, q)).length = splits prog * (z + 1) := by
    rw [flat_len _ (z + 1) (fun x => by simp), splits_range]
  rw [e] at this
  exact this

structure ThOk (n z G M : Nat) (t : Th) : Prop where
  pc : t.pc < n
  pos : t.pos ≤ z
  gs : t.gs.length = G
  ms : t.ms.length = M

structure VI (prog : List Ins) (z G M : Nat) (st : Option Th) (l : List Th) (tr : List (Nat × Nat)) : Prop where
  th : ∀ t, st = some t → ThOk prog.length z G M t
  st : ∀ t ∈ l, ThOk prog.length z G M t
  trk : TrOk prog.length z tr
  sp : l.length ≤ spl prog tr

theorem tr_add {n z : Nat} {tr : List (Nat × Nat)} (h : TrOk n z tr) {p q : Nat} (hc : tr.contains (p, q) ≠ true) (hp : p < n) (hq : q ≤ z) : TrOk n z (tr ++ [(p, q)]) := by
  have hm : (p, q) ∉ tr := fun hm => hc (by simpa using hm)
  refine ⟨?_, ?_⟩
  · rw [List.nodup_append]
    refine ⟨h.nd, by simp, ?_⟩
    intro a ha b hb
    simp at hb
    subst hb
    exact fun e => hm (by rw [← e]; exact ha)
  · intro x hx
    rcases List.mem_append.1 hx with hx | hx
    · exact h.lt x hx
    · simp at hx; subst hx; exact ⟨hp, hq⟩

theorem spl_add (prog : List Ins) (tr : List (Nat × Nat)) (p q : Nat) : spl prog (tr ++ [(p, q)]) = spl prog tr + if isSplit prog p = true then 1 else 0 := by
  simp [spl, List.countP_append, List.countP_cons]

def stW : Option Th → Nat
  | some _ => 1
  | none => 0
def stR (n : Nat) : Option Th → Nat
  | some t => n - t.pc
  | none => 0

/-- What a run answers. -/
structure EndR (prog : List Ins) (z G : Nat) (res : Option (List Int) × List (Nat × Nat)) : Prop where
  trk : TrOk prog.length z res.2
  gs : ∀ gs, res.1 = some gs → gs.length = G

set_option maxHeartbeats 1000000 in
theorem vrun_ends {prog : List Ins} {s : ByteArray} {G M : Nat} (whole : Bool) (hP : ProgOk prog G M) (hG : 1 < G) (hS : splits prog * (s.size + 1) < 1000000) :
    ∀ (a b c : Nat) (st : Option Th) (l : List Th) (tr : List (Nat × Nat)), prog.length * (s.size + 1) - tr.length = a → 2 * l.length + stW st = b → stR prog.length st = c → VI prog s.size G M st l tr →
      ∃ k res, vrun prog s whole k st l tr = some res ∧ EndR prog s.size G res := by
  intro a
  induction a using Nat.strongRecOn with
  | ind a iha =>
  intro b
  induction b using Nat.strongRecOn with
  | ind b ihb =>
  intro c
  induction c using Nat.strongRecOn with
  | ind c ihc =>
  intro st l tr ha hb hc h
  have htl := tr_len h.trk
  have hsp := spl_le h.trk
  cases st with
  | none =>
    cases l with
    | nil => exact ⟨1, (none, tr), rfl, h.trk, (fun gs e => by cases e)⟩
    | cons t l =>
      obtain ⟨k, res, hr, he⟩ := ihb (2 * l.length + 1) (by simp [stW] at hb; omega) _ (some t) l tr ha rfl rfl ⟨fun t' e => by cases e; exact h.st t (by simp), fun t' ht => h.st t' (by simp [ht]), h.trk, by have := h.sp; simp at this; omega⟩
      exact ⟨k + 1, res, hr, he⟩
  | some t =>
    have ht := h.th t rfl
    obtain ⟨x, hx⟩ : ∃ x, prog[t.pc]? = some x := ⟨_, List.getElem?_eq_getElem ht.pc⟩
    have hin := hP _ _ hx
    -- the ways on
    have same : ∀ t' : Th, t'.pc = t.pc + 1 → ThOk prog.length s.size G M t' → ∃ k res, vrun prog s whole k (some t') l tr = some res ∧ EndR prog s.size G res := fun t' hp hk =>
      ihc (prog.length - t'.pc) (by simp only [stR] at hc; have := hk.pc; omega) (some t') l tr ha hb rfl ⟨fun t'' e => by cases e; exact hk, h.st, h.trk, h.sp⟩
    have off : ∃ k res, vrun prog s whole k none l tr = some res ∧ EndR prog s.size G res :=
      ihb (2 * l.length) (by simp only [stW] at hb; omega) _ none l tr ha rfl rfl ⟨(fun t' e => by cases e), h.st, h.trk, h.sp⟩
    have fin : ∀ v, t.step prog s whole l tr = v → (∀ t' l' tr', v = .on t' l' tr' → ∃ k res, vrun prog s whole k (some t') l' tr' = some res ∧ EndR prog s.size G res) → (∀ l' tr', v = .off l' tr' → l' = l ∧ tr' = tr) → (∀ gs tr', v = .hit gs tr' → tr' = tr ∧ gs.length = G) → v ≠ .bad → ∃ k res, vrun prog s whole k (some t) l tr = some res ∧ EndR prog s.size G res := by
      intro v hv h1 h2 h3 h4
      cases v with
      | on t' l' tr' =>
        obtain ⟨k, res, hr, he⟩ := h1 _ _ _ rfl
        exact ⟨k + 1, res, by simp only [vrun, hv]; exact hr, he⟩
      | off l' tr' =>
        obtain ⟨rfl, rfl⟩ := h2 _ _ rfl
        obtain ⟨k, res, hr, he⟩ := off
        exact ⟨k + 1, res, by simp only [vrun, hv]; exact hr, he⟩
      | hit gs tr' =>
        obtain ⟨rfl, hg⟩ := h3 _ _ rfl
        exact ⟨1, (some gs, tr'), by simp only [vrun, hv], h.trk, (fun g e => by cases e; exact hg)⟩
      | bad => exact absurd rfl h4
    refine fin _ rfl ?_ ?_ ?_ ?_
    all_goals simp only [Th.step, hx]
    · intro t' l' tr' e
      unfold InsIn at hin
      repeat' split at e
      all_goals first
        | (cases e; done)
        | skip
      · cases e; exact same _ rfl ⟨by show t.pc + 1 < _; omega, by show t.pos + 1 ≤ _; omega, ht.gs, ht.ms⟩
      · rename_i h0 h3 hcon hlt
        cases e
        have htr := tr_add h.trk hcon ht.pc ht.pos
        have hsplit : isSplit prog t.pc = true := by simp [isSplit, hx, h3]
        have := tr_len htr
        refine iha (prog.length * (s.size + 1) - (tr ++ [(t.pc, t.pos)]).length) (by simp at this ⊢; omega) _ _ _ _ _ rfl rfl rfl ⟨fun t'' e => by cases e; exact ⟨by show x.a < _; omega, ht.pos, ht.gs, ht.ms⟩, fun t'' hm => ?_, htr, ?_⟩
        · rcases List.mem_cons.1 hm with rfl | hm
          · exact ⟨by show x.b < _; omega, ht.pos, ht.gs, ht.ms⟩
          · exact h.st _ hm
        · rw [spl_add, if_pos hsplit]; have := h.sp; simp; omega
      · rename_i h0 h3 h4 hcon
        cases e
        have htr := tr_add h.trk hcon ht.pc ht.pos
        have := tr_len htr
        refine iha (prog.length * (s.size + 1) - (tr ++ [(t.pc, t.pos)]).length) (by simp at this ⊢; omega) _ _ _ _ _ rfl rfl rfl ⟨fun t'' e => by cases e; exact ⟨by show x.a < _; omega, ht.pos, ht.gs, ht.ms⟩, h.st, htr, ?_⟩
        rw [spl_add]; have := h.sp; omega
      · cases e; exact same _ rfl ⟨by show t.pc + 1 < _; omega, ht.pos, by simp [ht.gs], ht.ms⟩
      · cases e; exact same _ rfl ⟨by show t.pc + 1 < _; omega, ht.pos, ht.gs, by simp [ht.ms]⟩
      · cases e; exact same _ rfl ⟨by show t.pc + 1 < _; omega, ht.pos, ht.gs, ht.ms⟩
    · intro l' tr' e
      repeat' split at e
      all_goals first
        | (cases e; done)
        | (cases e; exact ⟨rfl, rfl⟩)
    · intro gs tr' e
      repeat' split at e
      all_goals first
        | (cases e; done)
        | (cases e; exact ⟨rfl, by simp [ht.gs]⟩)
    · intro e
      unfold InsIn at hin
      have hsl := h.sp
      have h1 := ht.gs
      have h2 := ht.ms
      repeat' split at e
      all_goals first
        | (cases e; done)
        | (exfalso; omega)
        | skip
      all_goals
        rename_i hnone
        rw [List.getElem?_eq_none_iff] at hnone
        omega

end Go.Proofs.Ytfgghbideoehjaa
