/-
  The parser: read's closure behind a panic; the parser as a plain function on any pattern.
  The parser as a plain function: what every step keeps.
  The parser: read behind a panic and at a limit.
-/
import Derived.Test.YtfgghbideoehjaaBrkAToBrkB
import Derived.Test.YtfgghbideoehjaaLevAToLevB
import Derived.Test.YtfgghbideoehjaaNumAToRptB
namespace Go.Proofs.Ytfgghbideoehjaa
open Go.ChangeShapes Go.WideShapes Go.ChangeAt Go.RowKit
set_option linter.unusedVariables false
set_option linter.unusedSimpArgs false
set_option maxRecDepth 100000

theorem assert_wrong (w : World) (k : Int) : (Instr.typeAssert (.iface 115 (.int .i64 k)) 20 115 true).run Try.prog w = .ok (.tuple #[.int .i64 k, .bool true]) w := by kernel_rfl

abbrev zero65 : Array Value := #[.nilIface, .int .i64 0, .slice none 0 0, .int .i64 0]

theorem build65 (w : World) : (Instr.build 65 #[]).run Try.prog w = .ok (.agg zero65) w := by kernel_rfl

set_option maxHeartbeats 1000000 in
theorem read1_catch (w : World) (b0 b1 b2 : Nat) (k : Nat) (c0 c1 c2 c3 x1 x2 : Value) (h0 : w.heap[b0]? = some (.cells #[c0, c1, c2, c3] 65 (0, 0))) (h1 : w.heap[b1]? = some (.cells #[x1] 3 (0, 0))) (h2 : w.heap[b2]? = some (.cells #[x2] 26 (0, 0))) (n01 : b0 ≠ b1) (n02 : b0 ≠ b2) (n12 : b1 ≠ b2) :
    CallsD Try.prog 51 #[.pointer (some ⟨b0, 0, none⟩), .pointer (some ⟨b1, 0, none⟩), .pointer (some ⟨b2, 0, none⟩)] (.panicking [{ v := .iface 115 (.int .i64 (k : Int)), recovered := false }]) w fun e u' w' =>
      e = .returned (.tuple #[]) ∧ u' = .panicking [{ v := .iface 115 (.int .i64 (k : Int)), recovered := true }] ∧
        w' = ((fill4 w b0 .nilIface (.int .i64 0) (.slice none 0 0) (.int .i64 0)).setCell ⟨b1, 0, none⟩ (.int .i64 (k : Int))).setCell ⟨b2, 0, none⟩ (.int .i64 2) := by
  have hta := assert_wrong
  have y0 : w.cell? ⟨b0, 0, none⟩ = some c0 := (cell_of_blk h0 0).trans rfl
  have y1 : w.cell? ⟨b0, 1, none⟩ = some c1 := (cell_of_blk h0 1).trans rfl
  have y2 : w.cell? ⟨b0, 2, none⟩ = some c2 := (cell_of_blk h0 2).trans rfl
  have y3 : w.cell? ⟨b0, 3, none⟩ = some c3 := (cell_of_blk h0 3).trans rfl
  have z0 : w.cell? ⟨b1, 0, none⟩ = some x1 := (cell_of_blk h1 0).trans rfl
  have z1 : w.cell? ⟨b2, 0, none⟩ = some x2 := (cell_of_blk h2 0).trans rfl
  have f0 := free_of_blk h0 0
  have f1 := free_of_blk h0 1
  have f2 := free_of_blk h0 2
  have f3 := free_of_blk h0 3
  have g1 := free_of_blk h1 0
  have g2 := free_of_blk h2 0
  refine callsD_of_wpS Try.func51 rfl fun c₀ cs hu => ?_
  apply wpS_seq
  apply wpS_region
  have he : (#[.pointer (some ⟨b0, 0, none⟩), .pointer (some ⟨b1, 0, none⟩), .pointer (some ⟨b2, 0, none⟩)] ++ Array.replicate (Try.f51.ntmps - #[Value.pointer (some ⟨b0, 0, none⟩), .pointer (some ⟨b1, 0, none⟩), .pointer (some ⟨b2, 0, none⟩)].size) undef : Array Value) = #[.pointer (some ⟨b0, 0, none⟩), .pointer (some ⟨b1, 0, none⟩), .pointer (some ⟨b2, 0, none⟩), undef, undef, undef, undef, undef, undef, undef, undef, undef, undef] := by
    simp [Try.ntmps51, Array.replicate]
  rw [he]
  simp [wpOpsS, go_sem, recoverD, hu, hta, Exit.thenS]
  apply wpS_seq
  apply wpS_region
  simp [wpOpsS, go_sem, Exit.thenS]
  refine wpS_cond (t := true) (by simp [Act.eval]) ?_
  simp only [if_true]
  apply wpS_region
  simp [wpOpsS, go_sem, y0, y1, y2, y3, z0, z1, f0, f1, f2, f3, g1, g2, n01, n02, n12, bodyPostS, results, Try.results51]

def brkN (s : ByteArray) : Nat → Nat → Bool → BSet → BS
  | 0, _, _, _ => .bad 0
  | n + 1, k, f, all =>
    match brkStep s k f all with
    | .on k' a' => brkN s n k' false a'
    | .fin k' a' => .fin k' a'
    | .bad j => .bad j

theorem brkStep_on {s : ByteArray} {k : Nat} {f : Bool} {all : BSet} {k' : Nat} {a' : BSet} (h : brkStep s k f all = .on k' a') : k < k' ∧ k' ≤ s.size := by
  unfold brkStep at h
  split at h
  · cases h
  split at h
  · cases h
  rename_i hk _
  split at h
  · cases h
  · rename_i c cs single n hm
    obtain ⟨_, _, h1, h2, h3⟩ := memAt_item (by omega) hm
    split at h
    · cases h
    split at h
    · rename_i hd
      have hdl := dashAt_lt hd
      unfold brkRange at h
      split at h
      · cases h
      split at h
      · cases h
      · rename_i d ds too m hm2
        obtain ⟨_, _, g1, g2, g3⟩ := memAt_item hdl hm2
        split at h
        · cases h
        split at h
        · cases h
        · cases h; omega
    · cases h; omega

theorem brkN_brk (s : ByteArray) : ∀ (n k : Nat) (f : Bool) (all : BSet), s.size + 2 ≤ n + k → Brk s k f all (brkN s n k f all) ∨ s.size + 1 < k
  | 0, k, f, all, h => .inr (by omega)
  | n + 1, k, f, all, h => by
    by_cases hk : s.size + 1 < k
    · exact .inr hk
    refine .inl ?_
    unfold brkN
    cases hs : brkStep s k f all with
    | fin k' a' => exact .fin hs
    | bad j => exact .bad hs
    | on k' a' =>
      have := brkStep_on hs
      rcases brkN_brk s n k' false a' (by omega) with h | h
      · exact .on hs h
      · omega

def brkOf (s : ByteArray) (k : Nat) : BS := brkN s (s.size + 2) (brkFrom s k) true .zero
theorem brkOf_brk {s : ByteArray} {k : Nat} (hk : k < s.size) : Brk s (brkFrom s k) true .zero (brkOf s k) := by
  rcases brkN_brk s (s.size + 2) (brkFrom s k) true .zero (by omega) with h | h
  · exact h
  · exfalso
    unfold brkFrom at h
    split at h
    · rename_i hn; simp [negAt] at hn; omega
    · omega

/-- One step of the parser, whatever byte. -/
def PSt.stepP (st : PSt) : PR :=
  if byte st.s st.pos = 92 then st.esc
  else if byte st.s st.pos = 91 then st.brk (negAt st.s st.pos) (brkOf st.s st.pos)
  else if byte st.s st.pos = 40 then
    if pre2 st.s st.pos = false then (if st.looks = 0 then .ok st.enter else .bad st.pos)
    else if st.pos + 2 < st.s.size ∧ (byte st.s (st.pos + 2) = 58 ∨ byte st.s (st.pos + 2) = 61 ∨ byte st.s (st.pos + 2) = 33) then .ok (st.enterK (byte st.s (st.pos + 2)).toUInt8)
    else .bad (st.pos + 1)
  else if byte st.s st.pos = 41 then
    match st.low.getLast? with
    | none => .bad st.pos
    | some f =>
      if st.top.kind = 40 then .ok ((st.pop st.low.dropLast f).put (.group st.top.num st.top.whole) true 1)
      else if st.top.kind = 58 then .ok ((st.pop st.low.dropLast f).put (.group 0 st.top.whole) true 1)
      else .ok ((st.popL st.low.dropLast f).put (.look st.top.whole (decide (st.top.kind = 33))) false 1)
  else if byte st.s st.pos = 124 then .ok st.bar
  else if byte st.s st.pos = 42 ∨ byte st.s st.pos = 43 ∨ byte st.s st.pos = 63 ∨ byte st.s st.pos = 123 then
    match st.top.pcs.getLast? with
    | some y => if (repAt st.s st.pos).ok = true ∧ st.top.single = true then .ok (st.rep st.top.pcs.dropLast y (repAt st.s st.pos).lo (repAt st.s st.pos).hi (repAt st.s st.pos).fin) else .bad st.pos
    | none => .bad st.pos
  else if byte st.s st.pos = 94 ∨ byte st.s st.pos = 36 then .ok (st.put (.place (byte st.s st.pos).toUInt8) false 1)
  else if byte st.s st.pos = 46 then .ok (st.put (.one .zero BSet.zero.not) true 1)
  else .ok (st.put (.one (BSet.zero.range (byte st.s st.pos) (byte st.s st.pos)) .zero) true 1)

/-- How the parser's steps end: at the pattern's end, or where it is wrong. -/
inductive RunR where
  | fin (st : PSt) (deep : Nat)
  | bad (k : Nat)

def runP : Nat → PSt → Nat → RunR
  | 0, _, _ => .bad 0
  | n + 1, st, d =>
    if st.pos < st.s.size then
      match st.stepP with
      | .ok st' => runP n st' (deeper st st' d)
      | .bad k => .bad k
    else .fin st d

/-- What is known of a state that the parser comes to. -/
structure PSt.Good (st : PSt) : Prop where
  size : st.s.size ≤ 50000
  pos : st.pos ≤ st.s.size
  low : st.low.length ≤ st.pos
  frs : ∀ f ∈ st.top :: st.low, f.brs.length ≤ st.pos ∧ f.pcs.length ≤ st.pos ∧ f.num ≤ st.pos ∧ Nd.fines f.brs ∧ Nd.fines f.pcs
  groups : st.groups ≤ st.pos
  begun : st.begun = st.groups
  refs : st.refs.length = st.groups + 1
  looks : st.looks = (st.low ++ [st.top]).countP fun f => decide (f.kind = 61) || decide (f.kind = 33)
  kinds : st.low ≠ [] → st.top.kind = 40 ∨ st.top.kind = 58 ∨ st.top.kind = 61 ∨ st.top.kind = 33
  kindsl : ∀ f ∈ st.low.tail, f.kind = 40 ∨ f.kind = 58 ∨ f.kind = 61 ∨ f.kind = 33
  single : st.top.single = true → st.top.pcs ≠ []

end Go.Proofs.Ytfgghbideoehjaa

namespace Go.Proofs.Ytfgghbideoehjaa
open Go.ChangeShapes Go.WideShapes Go.ChangeAt Go.RowKit
set_option linter.unusedVariables false
set_option linter.unusedSimpArgs false
set_option maxRecDepth 100000

theorem fines_snoc (x : Nd) : ∀ l : List Nd, Nd.fines (l ++ [x]) ↔ Nd.fines l ∧ x.fine
  | [] => by simp [Nd.fines]
  | a :: l => by simp [Nd.fines, fines_snoc x l, and_assoc]
theorem whole_fine {f : Fr} {n : Nat} (hn : n ≤ 100000) (h : f.brs.length ≤ n ∧ f.pcs.length ≤ n ∧ f.num ≤ n ∧ Nd.fines f.brs ∧ Nd.fines f.pcs) : f.whole.fine := by
  obtain ⟨h1, h2, h3, h4, h5⟩ := h
  simp only [Fr.whole, Nd.fine, fines_snoc, List.length_append, List.length_cons, List.length_nil]
  exact ⟨by omega, h4, by omega, h5⟩

theorem lazyEnd_le {s : ByteArray} {k : Nat} (h : k ≤ s.size) : k ≤ lazyEnd s k ∧ lazyEnd s k ≤ s.size := by
  unfold lazyEnd
  split
  · rename_i hl
    simp [lazyAt] at hl
    omega
  · omega

theorem repAt_ok {s : ByteArray} {p : Nat} (hp : p < s.size) (h : (repAt s p).ok = true) :
    p < (repAt s p).fin ∧ (repAt s p).fin ≤ s.size ∧ 0 ≤ (repAt s p).lo ∧ (repAt s p).lo ≤ 50 ∧ ((repAt s p).hi = -1 ∨ (repAt s p).lo ≤ (repAt s p).hi ∧ (repAt s p).hi ≤ 50) := by
  have hn := numAt_end s (p + 1)
  have hn2 := numAt_end s ((numAt s (p + 1)).2 + 1)
  unfold repAt at h ⊢
  split
  · simp; omega
  split
  · simp; omega
  split
  · simp; omega
  rename_i a b c
  rw [if_neg a, if_neg b, if_neg c] at h
  unfold braceAt at h ⊢
  generalize hf : numAt s (p + 1) = r at *
  obtain ⟨f, e⟩ := r
  simp only at h ⊢ hn hn2
  generalize hf2 : numAt s (e + 1) = r2 at *
  obtain ⟨f2, e2⟩ := r2
  simp only at h ⊢ hn2
  split
  · rename_i h1
    rw [if_pos h1] at h
    split
    · rename_i h2
      rw [if_pos h2] at h
      simp [closeAt] at h ⊢
      omega
    · rename_i h2
      rw [if_neg h2] at h
      split
      · rename_i h3
        rw [if_pos h3] at h
        cases h
      · rename_i h3
        rw [if_neg h3] at h
        simp [closeAt] at h ⊢
        omega
  · rename_i h1
    rw [if_neg h1] at h
    simp [closeAt] at h ⊢
    omega

theorem brk_fin {s : ByteArray} {k : Nat} {f : Bool} {all : BSet} {r : BS} (h : Brk s k f all r) : ∀ k' a', r = .fin k' a' → k ≤ k' ∧ k' < s.size := by
  induction h with
  | fin h =>
    intro k' a' e
    cases e
    unfold brkStep at h
    split at h
    · cases h
    split at h
    · cases h; omega
    split at h
    · cases h
    · split at h
      · cases h
      split at h
      · unfold brkRange at h
        split at h
        · cases h
        split at h
        · cases h
        · split at h
          · cases h
          split at h <;> cases h
      · cases h
  | bad h => intro k' a' e; cases e
  | on h t ih =>
    intro k' a' e
    have := brkStep_on h
    have := ih k' a' e
    omega

theorem PSt.Good.small {st : PSt} (h : st.Good) (hp : st.pos < st.s.size) : st.Small ∧ st.top.num ≤ 1000000 := by
  have h1 := h.frs st.top (by simp)
  have hz := h.size
  have hpo := h.pos
  have hl := h.low
  have hlk : st.looks ≤ st.low.length + 1 := by
    rw [h.looks]
    refine Nat.le_trans List.countP_le_length ?_
    simp
  have := h.groups
  have := h.begun
  have := h.refs
  exact ⟨⟨by omega, by omega, by omega, by omega, by omega, by omega, by omega, by omega⟩, by omega⟩

abbrev isLook (f : Fr) : Bool := decide (f.kind = 61) || decide (f.kind = 33)

theorem good_put {st : PSt} (h : st.Good) {x : Nd} {single : Bool} {n : Nat} (hn : 1 ≤ n) (hp : st.pos + n ≤ st.s.size) (hx : x.fine) : (st.put x single n).Good where
  size := h.size
  pos := hp
  low := Nat.le_trans h.low (by simp [PSt.put])
  frs := by
    intro f hf
    simp only [PSt.put, List.mem_cons] at hf ⊢
    rcases hf with rfl | hf
    · obtain ⟨h1, h2, h3, h4, h5⟩ := h.frs st.top (by simp)
      refine ⟨by dsimp only; omega, by simp; omega, by dsimp only; omega, h4, (fines_snoc _ _).2 ⟨h5, hx⟩⟩
    · obtain ⟨h1, h2, h3, h4, h5⟩ := h.frs f (by simp [hf])
      exact ⟨by omega, by omega, by omega, h4, h5⟩
  groups := Nat.le_trans h.groups (by simp [PSt.put])
  begun := h.begun
  refs := h.refs
  looks := by have := h.looks; simpa [PSt.put, List.countP_append] using this
  kinds := h.kinds
  kindsl := h.kindsl
  single := by intro _; simp [PSt.put]

theorem good_refs {st : PSt} (h : st.Good) (n : Nat) : ({ st with refs := st.refs.set n true } : PSt).Good :=
  { h with refs := by simpa using h.refs }

theorem mono_frs {st : PSt} (h : st.Good) {f : Fr} (hf : f ∈ st.top :: st.low) {m : Nat} (hm : st.pos ≤ m) : f.brs.length ≤ m ∧ f.pcs.length ≤ m ∧ f.num ≤ m ∧ Nd.fines f.brs ∧ Nd.fines f.pcs := by
  obtain ⟨h1, h2, h3, h4, h5⟩ := h.frs f hf
  exact ⟨by omega, by omega, by omega, h4, h5⟩

theorem good_push {st st' : PSt} (h : st.Good) {k : UInt8} {num n : Nat} (hk : k = 40 ∨ k = 58 ∨ k = 61 ∨ k = 33) (hn : 1 ≤ n) (hp : st.pos + n ≤ st.s.size) (hnum : num ≤ st.pos + n)
    (e1 : st'.s = st.s) (e2 : st'.pos = st.pos + n) (e3 : st'.low = st.low ++ [st.top]) (e4 : st'.top = ⟨k, num, [], [], false⟩) (e5 : st'.groups ≤ st.pos + n) (e6 : st'.begun = st'.groups) (e7 : st'.refs.length = st'.groups + 1)
    (e8 : st'.looks = st.looks + if isLook ⟨k, num, [], [], false⟩ then 1 else 0) : st'.Good where
  size := by rw [e1]; exact h.size
  pos := by rw [e2, e1]; exact hp
  low := by rw [e3, e2]; have := h.low; simp; omega
  frs := by
    intro f hf
    rw [e2]
    rw [e3, e4] at hf
    simp only [List.mem_cons, List.mem_append, List.not_mem_nil, or_false] at hf
    rcases hf with rfl | hf | rfl
    · exact ⟨Nat.zero_le _, Nat.zero_le _, hnum, trivial, trivial⟩
    · exact mono_frs h (by simp [hf]) (by omega)
    · exact mono_frs h (by simp) (by omega)
  groups := by rw [e2]; exact e5
  begun := e6
  refs := e7
  looks := by
    rw [e8, e3, e4, h.looks, List.countP_append (l₂ := [(⟨k, num, [], [], false⟩ : Fr)])]
    simp only [List.countP_singleton]
  kinds := by intro _; rw [e4]; exact hk
  kindsl := by
    intro f hf
    rw [e3] at hf
    by_cases hl : st.low = []
    · rw [hl] at hf; simp at hf
    · rw [List.tail_append_of_ne_nil hl] at hf
      simp only [List.mem_append, List.mem_singleton] at hf
      rcases hf with hf | rfl
      · exact h.kindsl f hf
      · exact h.kinds hl
  single := by rw [e4]; intro h; cases h

theorem good_popped {st st' : PSt} (h : st.Good) {l : List Fr} {f : Fr} (hl : st.low = l ++ [f]) {x : Nd} {single : Bool} (hx : x.fine) (hp : st.pos < st.s.size)
    (e1 : st'.s = st.s) (e2 : st'.pos = st.pos) (e3 : st'.low = l) (e4 : st'.top = f) (e5 : st'.groups = st.groups) (e6 : st'.begun = st.begun) (e7 : st'.refs = st.refs)
    (e8 : st'.looks + (if isLook st.top then 1 else 0) = st.looks) : (st'.put x single 1).Good where
  size := by show st'.s.size ≤ _; rw [e1]; exact h.size
  pos := by show st'.pos + 1 ≤ st'.s.size; rw [e1, e2]; omega
  low := by show st'.low.length ≤ st'.pos + 1; rw [e2, e3]; have := h.low; rw [hl] at this; simp at this; omega
  frs := by
    intro y hy
    simp only [PSt.put, List.mem_cons] at hy
    show y.brs.length ≤ st'.pos + 1 ∧ y.pcs.length ≤ st'.pos + 1 ∧ y.num ≤ st'.pos + 1 ∧ _
    rw [e2]
    rw [e3, e4] at hy
    rcases hy with rfl | hy
    · obtain ⟨h1, h2, h3, h4, h5⟩ := h.frs f (by simp [hl])
      refine ⟨by dsimp only; omega, by simp; omega, by dsimp only; omega, h4, (fines_snoc _ _).2 ⟨h5, hx⟩⟩
    · exact mono_frs h (by simp [hl, hy]) (by omega)
  groups := by show st'.groups ≤ st'.pos + 1; rw [e5, e2]; have := h.groups; omega
  begun := by show st'.begun = st'.groups; rw [e6, e5]; exact h.begun
  refs := by show st'.refs.length = st'.groups + 1; rw [e7, e5]; exact h.refs
  looks := by
    have h1 : st.looks = (st.low ++ [st.top]).countP isLook := h.looks
    rw [hl, List.countP_append] at h1
    show st'.looks = (st'.low ++ [{ st'.top with pcs := st'.top.pcs ++ [x], single := single }]).countP isLook
    rw [e3, e4, List.countP_append]
    rw [List.countP_append] at h1
    rw [List.countP_singleton, List.countP_singleton] at h1
    rw [List.countP_singleton]
    have e9 : isLook { f with pcs := f.pcs ++ [x], single := single } = isLook f := rfl
    rw [e9]
    omega
  kinds := by
    have ek : (st'.put x single 1).top.kind = f.kind := by show st'.top.kind = _; rw [e4]
    rw [ek]
    show st'.low ≠ [] → _
    rw [e3]
    intro hn
    refine h.kindsl f ?_
    rw [hl, List.tail_append_of_ne_nil hn]
    simp
  kindsl := by
    show ∀ y ∈ st'.low.tail, _
    rw [e3]
    intro y hy
    refine h.kindsl y ?_
    rw [hl]
    by_cases hn : l = []
    · rw [hn] at hy; simp at hy
    · rw [List.tail_append_of_ne_nil hn]; simp [hy]
  single := by intro _; simp [PSt.put]

theorem good_bar {st : PSt} (h : st.Good) (hp : st.pos < st.s.size) : st.bar.Good where
  size := h.size
  pos := hp
  low := Nat.le_trans h.low (by simp [PSt.bar])
  frs := by
    intro f hf
    simp only [PSt.bar, List.mem_cons] at hf ⊢
    rcases hf with rfl | hf
    · obtain ⟨h1, h2, h3, h4, h5⟩ := h.frs st.top (by simp)
      have hz := h.size
      have hpo := h.pos
      refine ⟨by simp; omega, by simp, by dsimp only; omega, (fines_snoc _ _).2 ⟨h4, ?_⟩, trivial⟩
      simp only [Nd.fine]
      exact ⟨by omega, h5⟩
    · exact mono_frs h (by simp [hf]) (by omega)
  groups := Nat.le_trans h.groups (by simp [PSt.bar])
  begun := h.begun
  refs := h.refs
  looks := by have := h.looks; simpa [PSt.bar, List.countP_append] using this
  kinds := h.kinds
  kindsl := h.kindsl
  single := by intro h; cases h

theorem fines_mem {x : Nd} : ∀ {l : List Nd}, Nd.fines l → x ∈ l → x.fine
  | a :: l, h, hx => by
    simp only [Nd.fines] at h
    rcases List.mem_cons.1 hx with rfl | hx
    · exact h.1
    · exact fines_mem h.2 hx

theorem good_rep {st : PSt} (h : st.Good) {pre : List Nd} {y : Nd} (hpc : st.top.pcs = pre ++ [y]) {lo hi : Int} {fin : Nat} (hf : st.pos < fin) (hf2 : fin ≤ st.s.size) (hlo : 0 ≤ lo ∧ lo ≤ 100) (hhi : -1 ≤ hi ∧ hi ≤ 100) : (st.rep pre y lo hi fin).Good where
  size := h.size
  pos := (lazyEnd_le hf2).2
  low := by have := h.low; have := (lazyEnd_le hf2).1; show st.low.length ≤ lazyEnd st.s fin; omega
  frs := by
    intro f hfm
    have hle := (lazyEnd_le hf2).1
    simp only [PSt.rep, List.mem_cons] at hfm ⊢
    rcases hfm with rfl | hfm
    · obtain ⟨h1, h2, h3, h4, h5⟩ := h.frs st.top (by simp)
      rw [hpc, fines_snoc] at h5
      rw [hpc] at h2
      refine ⟨by dsimp only; omega, by simp at h2 ⊢; omega, by dsimp only; omega, h4, (fines_snoc _ _).2 ⟨h5.1, ?_⟩⟩
      simp only [Nd.fine]
      exact ⟨hlo, hhi, h5.2⟩
    · exact mono_frs h (by simp [hfm]) (by omega)
  groups := by have := h.groups; have := (lazyEnd_le hf2).1; show st.groups ≤ lazyEnd st.s fin; omega
  begun := h.begun
  refs := h.refs
  looks := by have := h.looks; simpa [PSt.rep, List.countP_append] using this
  kinds := h.kinds
  kindsl := h.kindsl
  single := by intro h; cases h

theorem last_snoc {α : Type} {l : List α} {f : α} (h : l.getLast? = some f) : l = l.dropLast ++ [f] := by
  obtain ⟨m, hm⟩ := List.getLast?_eq_some_iff.1 h
  subst hm
  simp

theorem good_esc {st st' : PSt} (h : st.Good) (hp : st.pos < st.s.size) (hs : st.esc = .ok st') : st'.Good ∧ st.pos < st'.pos ∧ st'.s = st.s := by
  unfold PSt.esc at hs
  split at hs
  · cases hs
  rename_i h1
  split at hs
  · cases hs; exact ⟨good_put h (by omega) (by omega) trivial, by simp [PSt.put], rfl⟩
  split at hs
  · cases hs; exact ⟨good_put h (by omega) (by omega) trivial, by simp [PSt.put], rfl⟩
  split at hs
  · cases hs; exact ⟨good_put h (by omega) (by omega) trivial, by simp [PSt.put], rfl⟩
  split at hs
  · cases hs; exact ⟨good_put h (by omega) (by omega) trivial, by simp [PSt.put], rfl⟩
  split at hs
  · cases hs; exact ⟨good_put (good_refs h _) (by omega) (by show st.pos + 2 ≤ st.s.size; omega) trivial, by simp [PSt.put], rfl⟩
  · cases hs

theorem good_brk {st st' : PSt} (h : st.Good) (hp : st.pos < st.s.size) (hs : st.brk (negAt st.s st.pos) (brkOf st.s st.pos) = .ok st') : st'.Good ∧ st.pos < st'.pos ∧ st'.s = st.s := by
  have hb := brkOf_brk hp
  cases hr : brkOf st.s st.pos with
  | fin k a =>
    have hf := brk_fin hb k a hr
    have hge : st.pos + 1 ≤ brkFrom st.s st.pos := by unfold brkFrom; split <;> omega
    rw [hr] at hs
    simp only [PSt.brk, PR.ok.injEq] at hs
    subst hs
    refine ⟨good_put h (by omega) (by omega) ?_, by simp [PSt.put]; omega, rfl⟩
    split <;> trivial
  | bad k => rw [hr] at hs; cases hs
  | on k a => rw [hr] at hs; cases hs

theorem good_step {st st' : PSt} (h : st.Good) (hp : st.pos < st.s.size) (hs : st.stepP = .ok st') : st'.Good ∧ st.pos < st'.pos ∧ st'.s = st.s := by
  have hz := h.size
  unfold PSt.stepP at hs
  split at hs
  · exact good_esc h hp hs
  split at hs
  · exact good_brk h hp hs
  split at hs
  · split at hs
    · split at hs
      · rename_i hl
        cases hs
        refine ⟨good_push (st' := st.enter) h (k := 40) (num := st.groups + 1) (n := 1) (.inl rfl) (by omega) (by omega) (by have := h.groups; omega) rfl rfl rfl rfl ?_ ?_ ?_ ?_, by simp [PSt.enter], rfl⟩
        · have := h.groups; simp [PSt.enter]; omega
        · rfl
        · have := h.refs; simp [PSt.enter]; omega
        · simp [PSt.enter, isLook]
      · cases hs
    · split at hs
      · rename_i hl
        cases hs
        obtain ⟨h2, hk⟩ := hl
        have hk' : (byte st.s (st.pos + 2)).toUInt8 = 58 ∨ (byte st.s (st.pos + 2)).toUInt8 = 61 ∨ (byte st.s (st.pos + 2)).toUInt8 = 33 := by
          rcases hk with hk | hk | hk <;> rw [hk] <;> simp
        have hlk : (st.enterK (byte st.s (st.pos + 2)).toUInt8).looks = st.looks + if isLook ⟨(byte st.s (st.pos + 2)).toUInt8, 0, [], [], false⟩ then 1 else 0 := by
          rcases hk with hk | hk | hk <;> rw [hk] <;> simp [PSt.enterK, isLook]
        refine ⟨good_push (st' := st.enterK (byte st.s (st.pos + 2)).toUInt8) h (k := (byte st.s (st.pos + 2)).toUInt8) (num := 0) (n := 3) (.inr hk') (by omega) (by omega) (by omega) rfl rfl rfl rfl ?_ ?_ ?_ hlk, by simp [PSt.enterK], rfl⟩
        · have := h.groups; simp [PSt.enterK]; omega
        · exact h.begun
        · exact h.refs
      · cases hs
  split at hs
  · split at hs
    · cases hs
    · rename_i f hf
      have hl := last_snoc hf
      have hfin := whole_fine (n := st.pos) (by have := h.pos; omega) (h.frs st.top (by simp))
      have hne : st.low ≠ [] := by intro e; rw [e] at hf; cases hf
      have hkd := h.kinds hne
      split at hs
      · rename_i hk
        cases hs
        exact ⟨good_popped h hl (by exact hfin) hp rfl rfl rfl rfl rfl rfl rfl (by simp [PSt.pop, isLook, hk]), by simp [PSt.put, PSt.pop], rfl⟩
      split at hs
      · rename_i hk
        cases hs
        exact ⟨good_popped h hl (by exact hfin) hp rfl rfl rfl rfl rfl rfl rfl (by simp [PSt.pop, isLook, hk]), by simp [PSt.put, PSt.pop], rfl⟩
      · rename_i hk1 hk2
        cases hs
        have hlk : isLook st.top = true := by
          rcases hkd with e | e | e | e
          · exact absurd e hk1
          · exact absurd e hk2
          · simp [isLook, e]
          · simp [isLook, e]
        have h1 : 1 ≤ st.looks := by
          have : st.looks = (st.low ++ [st.top]).countP isLook := h.looks
          rw [List.countP_append, List.countP_singleton, hlk] at this
          simp at this
          omega
        refine ⟨good_popped (st' := st.popL st.low.dropLast f) h hl (by exact hfin) hp rfl rfl rfl rfl rfl rfl rfl (by rw [hlk]; simp [PSt.popL]; omega), by simp [PSt.put, PSt.popL], rfl⟩
  split at hs
  · cases hs; exact ⟨good_bar h hp, by simp [PSt.bar], rfl⟩
  split at hs
  · split at hs
    · rename_i y hy
      split at hs
      · rename_i hk
        cases hs
        obtain ⟨r1, r2, r3, r4, r5⟩ := repAt_ok hp hk.1
        have hle := (lazyEnd_le r2).1
        exact ⟨good_rep h (last_snoc hy) r1 r2 (by omega) (by omega), by simp only [PSt.rep]; omega, rfl⟩
      · cases hs
    · cases hs
  split at hs
  · cases hs; exact ⟨good_put h (by omega) (by omega) trivial, by simp [PSt.put], rfl⟩
  split at hs
  · cases hs; exact ⟨good_put h (by omega) (by omega) trivial, by simp [PSt.put], rfl⟩
  · cases hs; exact ⟨good_put h (by omega) (by omega) trivial, by simp [PSt.put], rfl⟩

theorem good_start (s : ByteArray) (hs : s.size ≤ 50000) : (PSt.start s).Good where
  size := hs
  pos := Nat.zero_le _
  low := Nat.le_refl _
  frs := by
    intro f hf
    simp [PSt.start] at hf
    subst hf
    exact ⟨Nat.le_refl _, Nat.le_refl _, Nat.le_refl _, trivial, trivial⟩
  groups := Nat.le_refl _
  begun := rfl
  refs := rfl
  looks := by simp [PSt.start]
  kinds := by intro h; exact absurd rfl h
  kindsl := by intro f hf; cases hf
  single := by intro h; cases h

end Go.Proofs.Ytfgghbideoehjaa

namespace Go.Proofs.Ytfgghbideoehjaa
open Go.ChangeShapes Go.WideShapes Go.ChangeAt Go.RowKit
set_option linter.unusedVariables false
set_option linter.unusedSimpArgs false
set_option maxRecDepth 100000

theorem results_any {tmps : Array Value} {w : World} {b0 b1 b2 : Nat} {cs : Array Value} {e1 e2 : Int} (hs : cs.size = 4) (h2 : tmps.getD 2 undef = .pointer (some ⟨b0, 0, none⟩)) (h3 : tmps.getD 3 undef = .pointer (some ⟨b1, 0, none⟩)) (h4 : tmps.getD 4 undef = .pointer (some ⟨b2, 0, none⟩))
    (r0 : w.heap[b0]? = some (.cells cs 65 (0, 0))) (r1 : w.cell? ⟨b1, 0, none⟩ = some (.int .i64 e1)) (r2 : w.cell? ⟨b2, 0, none⟩ = some (.int .i64 e2)) :
    (results Try.f29 tmps).run Try.prog w = .ok (.tuple #[.agg cs, .int .i64 e1, .int .i64 e2]) w := by
  have hr : Try.f29.results = #[.cell 2 65, .cell 3 3, .cell 4 26] := by kernel_rfl
  have hp2 : tmps[2]?.getD undef = .pointer (some ⟨b0, 0, none⟩) := by simpa using h2
  have hp3 : tmps[3]?.getD undef = .pointer (some ⟨b1, 0, none⟩) := by simpa using h3
  have hp4 : tmps[4]?.getD undef = .pointer (some ⟨b2, 0, none⟩) := by simpa using h4
  simp [results, hr, hp2, hp3, hp4, asAddr, run_loadVar_row w b0 65 65 cs (0, 0) _ r0 Try.underlying65 rfl (by rw [size65, hs])]
  rw [load_int agg3 r1]
  simp
  rw [load_int agg26 r2]
  simp

abbrev dfr51 (b0 b1 b2 : Nat) : Deferred := { target := .fn (.func 51) #[.pointer (some ⟨b0, 0, none⟩), .pointer (some ⟨b1, 0, none⟩), .pointer (some ⟨b2, 0, none⟩)], args := #[] }

theorem read_panic {w W0 w2 : World} {s : ByteArray} {b0 b1 b2 bp : Nat} {Q : Ending → World → Prop} (HS : StartW w s b0 b1 b2 bp W0) (hB : Below (w.heap.size + 3) W0 w2) (k : Nat) (tmps : Array Value)
    (h2 : tmps.getD 2 undef = .pointer (some ⟨b0, 0, none⟩)) (h3 : tmps.getD 3 undef = .pointer (some ⟨b1, 0, none⟩)) (h4 : tmps.getD 4 undef = .pointer (some ⟨b2, 0, none⟩))
    (hQ : ∀ w', Below w.heap.size w w' → Q (.returned (.tuple #[.agg zero65, .int .i64 (k : Int), .int .i64 2])) w') :
    bodyPostD Try.prog Try.f29 Q (Exit.panic [{ v := .iface 115 (.int .i64 (k : Int)), recovered := false }]) { tmps := tmps, defers := [dfr51 b0 b1 b2] } w2 := by
  have n0 := HS.h0
  have n1 := HS.h1
  have n2 := HS.h2
  have r0 : w2.heap[b0]? = _ := (hB.block b0 (by omega)).trans HS.out0
  have r1 : w2.heap[b1]? = _ := (hB.block b1 (by omega)).trans HS.out1
  have r2 : w2.heap[b2]? = _ := (hB.block b2 (by omega)).trans HS.out2
  refine leaves_cons (f := 51) (args := #[.pointer (some ⟨b0, 0, none⟩), .pointer (some ⟨b1, 0, none⟩), .pointer (some ⟨b2, 0, none⟩)]) (by simp) (by simp [go_sem]) ?_
  refine (read1_catch w2 b0 b1 b2 k _ _ _ _ _ _ r0 r1 r2 (by omega) (by omega) (by omega)).mono ?_
  rintro e u' w'' ⟨rfl, rfl, rfl⟩
  have v0 := fill4_same w2 b0 _ _ _ _ .nilIface (.int .i64 0) (.slice none 0 0) (.int .i64 0) _ r0
  have v1 := heap_setCell_same _ b1 0 _ _ (.int .i64 (k : Int)) ((fill4_other w2 b0 .nilIface (.int .i64 0) (.slice none 0 0) (.int .i64 0) b1 (by omega)).trans r1)
  have v2 := heap_setCell_same _ b2 0 _ _ (.int .i64 2) ((heap_setCell_other _ ⟨b1, 0, none⟩ b2 (.int .i64 (k : Int)) (by show b2 ≠ b1; omega)).trans ((fill4_other w2 b0 .nilIface (.int .i64 0) (.slice none 0 0) (.int .i64 0) b2 (by omega)).trans r2))
  have hres := results_any (tmps := tmps) (b0 := b0) (b1 := b1) (b2 := b2) (cs := zero65) (e1 := (k : Int)) (e2 := 2) rfl h2 h3 h4
    ((heap_setCell_other _ ⟨b2, 0, none⟩ b0 (.int .i64 2) (by show b0 ≠ b2; omega)).trans ((heap_setCell_other _ ⟨b1, 0, none⟩ b0 (.int .i64 (k : Int)) (by show b0 ≠ b1; omega)).trans v0))
    ((cell_of_blk ((heap_setCell_other _ ⟨b2, 0, none⟩ b1 (.int .i64 2) (by show b1 ≠ b2; omega)).trans v1) 0).trans rfl) ((cell_of_blk v2 0).trans rfl)
  have hbel : Below w.heap.size w (((fill4 w2 b0 .nilIface (.int .i64 0) (.slice none 0 0) (.int .i64 0)).setCell ⟨b1, 0, none⟩ (.int .i64 (k : Int))).setCell ⟨b2, 0, none⟩ (.int .i64 2)) := by
    have B := HS.below.trans (hB.mono (by omega))
    exact ((((((B.setCell (p := ⟨b0, 0, none⟩) (by show w.heap.size ≤ b0; omega) _).setCell (p := ⟨b0, 1, none⟩) (by show w.heap.size ≤ b0; omega) _).setCell (p := ⟨b0, 2, none⟩) (by show w.heap.size ≤ b0; omega) _).setCell (p := ⟨b0, 3, none⟩) (by show w.heap.size ≤ b0; omega) _).setCell (p := ⟨b1, 0, none⟩) (by show w.heap.size ≤ b1; omega) _).setCell (p := ⟨b2, 0, none⟩) (by show w.heap.size ≤ b2; omega) _)
  have hq := hQ _ hbel
  generalize (((fill4 w2 b0 .nilIface (.int .i64 0) (.slice none 0 0) (.int .i64 0)).setCell ⟨b1, 0, none⟩ (.int .i64 (k : Int))).setCell ⟨b2, 0, none⟩ (.int .i64 2)) = F at hres hq ⊢
  simp [Leaves, settle, hres, hq]

theorem read_limit {w W : World} {b0 b1 b2 : Nat} {Q : Ending → World → Prop} (n0 : w.heap.size ≤ b0) (n1 : w.heap.size ≤ b1) (n2 : w.heap.size ≤ b2) (n01 : b0 ≠ b1) (n02 : b0 ≠ b2) (n12 : b1 ≠ b2) {c0 c1 c2 c3 x1 x2 : Value}
    (r0 : W.heap[b0]? = some (.cells #[c0, c1, c2, c3] 65 (0, 0))) (r1 : W.heap[b1]? = some (.cells #[x1] 3 (0, 0))) (r2 : W.heap[b2]? = some (.cells #[x2] 26 (0, 0))) (hB : Below w.heap.size w W) (tmps : Array Value)
    (h2 : tmps.getD 2 undef = .pointer (some ⟨b0, 0, none⟩)) (h3 : tmps.getD 3 undef = .pointer (some ⟨b1, 0, none⟩)) (h4 : tmps.getD 4 undef = .pointer (some ⟨b2, 0, none⟩))
    (hQ : ∀ w', Below w.heap.size w w' → Q (.returned (.tuple #[.agg zero65, .int .i64 0, .int .i64 4])) w') :
    bodyPostD Try.prog Try.f29 Q Exit.ret { tmps := tmps, defers := [dfr51 b0 b1 b2] } (((fill4 W b0 .nilIface (.int .i64 0) (.slice none 0 0) (.int .i64 0)).setCell ⟨b1, 0, none⟩ (.int .i64 0)).setCell ⟨b2, 0, none⟩ (.int .i64 4)) := by
  refine leaves_cons (f := 51) (args := #[.pointer (some ⟨b0, 0, none⟩), .pointer (some ⟨b1, 0, none⟩), .pointer (some ⟨b2, 0, none⟩)]) (by simp) (by simp [go_sem]) ?_
  refine (read1_idle _ _ _ _).mono ?_
  rintro e u' w'' ⟨rfl, rfl, rfl⟩
  have v0 := fill4_same W b0 _ _ _ _ .nilIface (.int .i64 0) (.slice none 0 0) (.int .i64 0) _ r0
  have v1 := heap_setCell_same _ b1 0 _ _ (.int .i64 0) ((fill4_other W b0 .nilIface (.int .i64 0) (.slice none 0 0) (.int .i64 0) b1 (by omega)).trans r1)
  have v2 := heap_setCell_same _ b2 0 _ _ (.int .i64 4) ((heap_setCell_other _ ⟨b1, 0, none⟩ b2 (.int .i64 0) (by show b2 ≠ b1; omega)).trans ((fill4_other W b0 .nilIface (.int .i64 0) (.slice none 0 0) (.int .i64 0) b2 (by omega)).trans r2))
  have hres := results_any (tmps := tmps) (b0 := b0) (b1 := b1) (b2 := b2) (cs := zero65) (e1 := 0) (e2 := 4) rfl h2 h3 h4
    ((heap_setCell_other _ ⟨b2, 0, none⟩ b0 (.int .i64 4) (by show b0 ≠ b2; omega)).trans ((heap_setCell_other _ ⟨b1, 0, none⟩ b0 (.int .i64 0) (by show b0 ≠ b1; omega)).trans v0))
    ((cell_of_blk ((heap_setCell_other _ ⟨b2, 0, none⟩ b1 (.int .i64 4) (by show b1 ≠ b2; omega)).trans v1) 0).trans rfl) ((cell_of_blk v2 0).trans rfl)
  refine ⟨_, hres, hQ _ ?_⟩
  exact ((((((hB.setCell (p := ⟨b0, 0, none⟩) n0 _).setCell (p := ⟨b0, 1, none⟩) n0 _).setCell (p := ⟨b0, 2, none⟩) n0 _).setCell (p := ⟨b0, 3, none⟩) n0 _).setCell (p := ⟨b1, 0, none⟩) n1 _).setCell (p := ⟨b2, 0, none⟩) n2 _)

theorem escP {base : Nat} {g : Tags} {w : World} {bp : Nat} {st : PSt} (h : PInv base g w bp st) (hg : st.Good) (hbase : base ≤ w.heap.size) (hp : st.pos < st.s.size) (h92 : byte st.s st.pos = 92) :
    Calls Try.prog 52 #[.pointer (some ⟨bp, 0, none⟩)] w (PPost base g w bp st.stepP) := by
  have e : st.stepP = st.esc := by unfold PSt.stepP; rw [if_pos h92]
  rw [e]
  exact esc_any h (hg.small hp).1 hbase hp (by have := hg.begun; have := hg.refs; omega)
theorem brkP {base : Nat} {g : Tags} {w : World} {bp : Nat} {st : PSt} (h : PInv base g w bp st) (hg : st.Good) (hbase : base ≤ w.heap.size) (hp : st.pos < st.s.size) (h91 : byte st.s st.pos = 91) :
    Calls Try.prog 53 #[.pointer (some ⟨bp, 0, none⟩)] w (PPost base g w bp st.stepP) := by
  have e : st.stepP = st.brk (negAt st.s st.pos) (brkOf st.s st.pos) := by unfold PSt.stepP; rw [if_neg (by omega), if_pos h91]
  rw [e]
  exact brackets_any h (hg.small hp).1 hbase hp (by have := hg.size; omega) (brkOf_brk hp)
theorem step_place {st : PSt} (h : byte st.s st.pos = 94 ∨ byte st.s st.pos = 36) : st.stepP = .ok (st.put (.place (byte st.s st.pos).toUInt8) false 1) := by
  unfold PSt.stepP; rw [if_neg (by omega), if_neg (by omega), if_neg (by omega), if_neg (by omega), if_neg (by omega), if_neg (by omega), if_pos h]
theorem step_dotP {st : PSt} (h : byte st.s st.pos = 46) : st.stepP = .ok (st.put (.one .zero BSet.zero.not) true 1) := by
  unfold PSt.stepP; rw [if_neg (by omega), if_neg (by omega), if_neg (by omega), if_neg (by omega), if_neg (by omega), if_neg (by omega), if_neg (by omega), if_pos h]
theorem step_barP {st : PSt} (h : byte st.s st.pos = 124) : st.stepP = .ok st.bar := by
  unfold PSt.stepP; rw [if_neg (by omega), if_neg (by omega), if_neg (by omega), if_neg (by omega), if_pos h]

theorem enter_any {base : Nat} {g : Tags} {w : World} {bp : Nat} {st : PSt} (h : PInv base g w bp st) (hg : st.Good) (hbase : base ≤ w.heap.size) (hp : st.pos < st.s.size) (h40 : byte st.s st.pos = 40) :
    Calls Try.prog 54 #[.pointer (some ⟨bp, 0, none⟩)] w (PPost base g w bp st.stepP) := by
  have hs := (hg.small hp).1
  unfold PSt.stepP
  rw [if_neg (by omega), if_neg (by omega), if_pos h40]
  cases hpre : pre2 st.s st.pos with
  | false =>
    rw [if_pos rfl]
    by_cases hl : st.looks = 0
    · rw [if_pos hl]; exact enter_group h hs hbase hp hl (no_prefix h40 hp hpre)
    · rw [if_neg hl]; exact enter_inner h hs hbase hp (by omega) (no_prefix h40 hp hpre)
  | true =>
    rw [if_neg (by simp)]
    have h1 : st.pos + 1 < st.s.size := by simp [pre2] at hpre; omega
    by_cases hk : st.pos + 2 < st.s.size ∧ (byte st.s (st.pos + 2) = 58 ∨ byte st.s (st.pos + 2) = 61 ∨ byte st.s (st.pos + 2) = 33)
    · rw [if_pos hk]
      have e : (byte st.s (st.pos + 2)).toUInt8.toNat = byte st.s (st.pos + 2) := by
        have := byte_lt st.s (st.pos + 2)
        simp; omega
      exact enter_kind h hs hbase hk.1 (by rw [e]; exact hk.2) e.symm (yes_prefix h40 hp hpre)
    · rw [if_neg hk]
      exact enter_wrong h hs hbase h1 (by omega) (yes_prefix h40 hp hpre)

theorem leave_any {base : Nat} {g : Tags} {w : World} {bp : Nat} {st : PSt} (h : PInv base g w bp st) (hg : st.Good) (hbase : base ≤ w.heap.size) (hp : st.pos < st.s.size) (h41 : byte st.s st.pos = 41) :
    Calls Try.prog 55 #[.pointer (some ⟨bp, 0, none⟩)] w (PPost base g w bp st.stepP) := by
  obtain ⟨hs, hnum⟩ := hg.small hp
  unfold PSt.stepP
  rw [if_neg (by omega), if_neg (by omega), if_neg (by omega), if_pos h41]
  cases hl : st.low.getLast? with
  | none => exact leave_none h hs hbase (by simpa using hl)
  | some f =>
    dsimp only
    have hlow := last_snoc hl
    have hf := hg.frs f (by rw [hlow]; simp)
    have hz := hg.size
    have hlen := hg.low
    have hd : st.low.dropLast.length ≤ st.low.length := by simp
    have hsm : (st.pop st.low.dropLast f).Small := ⟨hs.pos, by show st.low.dropLast.length ≤ _; omega, by show f.brs.length ≤ _; omega, by show f.pcs.length ≤ _; omega, hs.groups, hs.begun, hs.looks, hs.refs⟩
    have hsm2 : (st.popL st.low.dropLast f).Small := ⟨hs.pos, by show st.low.dropLast.length ≤ _; omega, by show f.brs.length ≤ _; omega, by show f.pcs.length ≤ _; omega, hs.groups, hs.begun, by have := hs.looks; show st.looks - 1 ≤ _; omega, hs.refs⟩
    by_cases k40 : st.top.kind = 40
    · rw [if_pos k40]; exact leave_group h hs hbase hlow k40 hnum hsm
    rw [if_neg k40]
    by_cases k58 : st.top.kind = 58
    · rw [if_pos k58]; exact leave_plain h hs hbase hlow k58 hnum hsm
    rw [if_neg k58]
    have hk := hg.kinds (by intro e; rw [e] at hl; cases hl)
    have hlk : 1 ≤ st.looks := by
      have h1 : st.looks = (st.low ++ [st.top]).countP isLook := hg.looks
      rw [List.countP_append, List.countP_singleton] at h1
      have : isLook st.top = true := by
        rcases hk with e | e | e | e
        · exact absurd e k40
        · exact absurd e k58
        · simp [isLook, e]
        · simp [isLook, e]
      rw [this] at h1
      simp at h1
      omega
    rcases hk with e | e | e | e
    · exact absurd e k40
    · exact absurd e k58
    · have := leave_look61 h hs hbase hlow e hlk hnum hsm2
      rw [e]; exact this
    · have := leave_look33 h hs hbase hlow e hlk hnum hsm2
      rw [e]; exact this

theorem repeat_any {base : Nat} {g : Tags} {w : World} {bp : Nat} {st : PSt} (h : PInv base g w bp st) (hg : st.Good) (hbase : base ≤ w.heap.size) (hp : st.pos < st.s.size) (hb : byte st.s st.pos = 42 ∨ byte st.s st.pos = 43 ∨ byte st.s st.pos = 63 ∨ byte st.s st.pos = 123) :
    Calls Try.prog 57 #[.pointer (some ⟨bp, 0, none⟩)] w (PPost base g w bp st.stepP) := by
  have hs := (hg.small hp).1
  have hz := hg.size
  unfold PSt.stepP
  rw [if_neg (by omega), if_neg (by omega), if_neg (by omega), if_neg (by omega), if_neg (by omega), if_pos hb]
  cases hpc : st.top.pcs.getLast? with
  | none =>
    dsimp only
    have he : st.top.pcs = [] := by simpa using hpc
    have hsg : st.top.single = false := by
      cases hsg : st.top.single with
      | false => rfl
      | true => exact absurd he (hg.single hsg)
    refine repeat_fail h hs hbase hp (by omega) ?_
    cases (repAt st.s st.pos).ok with
    | false => exact .inl rfl
    | true => exact .inr ⟨rfl, hsg⟩
  | some y =>
    dsimp only
    by_cases hk : (repAt st.s st.pos).ok = true ∧ st.top.single = true
    · rw [if_pos hk]
      refine repeat_node h hs hbase hp (by omega) ?_ hk.2 (last_snoc hpc)
      obtain ⟨h1, _⟩ := hk
      generalize repAt st.s st.pos = r at h1
      obtain ⟨a, b, c, d⟩ := r
      simp only at h1 ⊢
      rw [h1]
    · rw [if_neg hk]
      refine repeat_fail h hs hbase hp (by omega) ?_
      cases h1 : (repAt st.s st.pos).ok with
      | false => exact .inl rfl
      | true =>
        refine .inr ⟨rfl, ?_⟩
        cases h2 : st.top.single with
        | false => rfl
        | true => exact absurd ⟨h1, h2⟩ hk

end Go.Proofs.Ytfgghbideoehjaa
