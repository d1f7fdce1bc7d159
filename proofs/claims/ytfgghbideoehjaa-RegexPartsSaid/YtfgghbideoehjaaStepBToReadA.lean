/-
  The parser: read's start, its steps taken apart.
  The sizes of nodes: the contracts of size.
  The sizes of nodes: the size of a tree, and that a node answers it.
  The parser: read's end, in plain memory: the node that is read, the result's cells; what recover's closure does where nothing panics.
-/
import Derived.Test.YtfgghbideoehjaaParseIToStepA
import Derived.Defers
import Derived.Recover
import Derived.Deep.LoopGhost
namespace Go.Proofs.Ytfgghbideoehjaa
open Go.ChangeShapes Go.WideShapes Go.ChangeAt Go.RowKit
set_option linter.unusedVariables false
set_option maxRecDepth 100000

def PSt.start (s : ByteArray) : PSt := ⟨s, 0, [], ⟨0, 0, [], [], false⟩, 0, 0, 0, [false]⟩

def startTags (n : Nat) : Tags := fun b => if b = n then some .opn else if b = n + 1 then some .refs else if b = n + 2 then some .parser else none

/-- The world at the head of read's loop. -/
structure StartW (w : World) (s : ByteArray) (b0 b1 b2 bp : Nat) (W : World) : Prop where
  inv : PInv (w.heap.size + 3) (startTags (w.heap.size + 3)) W bp (PSt.start s)
  h0 : b0 = w.heap.size
  h1 : b1 = w.heap.size + 1
  h2 : b2 = w.heap.size + 2
  out0 : W.heap[b0]? = some (.cells #[.nilIface, .int .i64 0, .slice none 0 0, .int .i64 0] 65 (0, 0))
  out1 : W.heap[b1]? = some (.cells #[.int .i64 0] 3 (0, 0))
  out2 : W.heap[b2]? = some (.cells #[.int .i64 0] 26 (0, 0))
  below : Below w.heap.size w W
  size : w.heap.size + 6 ≤ W.heap.size

theorem alloc_pack (w : World) (cs : Array Value) (T : TypeId) : ∃ A, w.alloc (.cells cs T) = A ∧ A.heap.size = w.heap.size + 1 ∧ A.heap[w.heap.size]? = some (.cells cs T (0, 0)) ∧ (∀ j, j < w.heap.size → A.heap[j]? = w.heap[j]?) ∧ Below w.heap.size w A :=
  ⟨_, rfl, by simp, heap_alloc_new w _, fun j hj => heap_alloc_old w _ hj, (Below.refl _ w).alloc (Nat.le_refl _) _⟩

theorem start_world (w : World) (s : ByteArray) : StartW w s w.heap.size (w.heap.size + 1) (w.heap.size + 1 + 1) (w.heap.size + 1 + 1 + 1 + 1 + 1)
    ((((((w.alloc (.cells #[.nilIface, .int .i64 0, .slice none 0 0, .int .i64 0] 65)).alloc (.cells #[.int .i64 0] 3)).alloc (.cells #[.int .i64 0] 26)).alloc
      (.cells #[.int .u8 0, .int .i64 0, .slice none 0 0, .slice none 0 0, .bool false] 111)).alloc (.cells #[.bool false] 4)).alloc
      (.cells #[.string s, .int .i64 0, .slice (some ⟨w.heap.size + 1 + 1 + 1, 0, none⟩) 1 1, .int .i64 0, .int .i64 0, .int .i64 0, .slice (some ⟨w.heap.size + 1 + 1 + 1 + 1, 0, none⟩) 1 1] 114)) := by
  obtain ⟨A, hA, sA, an, aq, bA'⟩ := alloc_pack w #[.nilIface, .int .i64 0, .slice none 0 0, .int .i64 0] 65
  rw [hA]
  have bA := bA'
  have a0 := an
  obtain ⟨B, hB, sB, bn, bq, bB'⟩ := alloc_pack A #[.int .i64 0] 3
  rw [hB]
  rw [sA] at sB
  have bB : Below w.heap.size w B := bA.trans (bB'.mono (by omega))
  have b0 := (bq (w.heap.size + 0) (by omega)).trans a0
  have b1 := bn
  rw [sA] at b1
  obtain ⟨C, hC, sC, cn, cq, bC'⟩ := alloc_pack B #[.int .i64 0] 26
  rw [hC]
  rw [sB] at sC
  have bC : Below w.heap.size w C := bB.trans (bC'.mono (by omega))
  have c0 := (cq (w.heap.size + 0) (by omega)).trans b0
  have c1 := (cq (w.heap.size + 1) (by omega)).trans b1
  have c2 := cn
  rw [sB] at c2
  obtain ⟨D, hD, sD, dn, dq, bD'⟩ := alloc_pack C #[.int .u8 0, .int .i64 0, .slice none 0 0, .slice none 0 0, .bool false] 111
  rw [hD]
  rw [sC] at sD
  have bD : Below w.heap.size w D := bC.trans (bD'.mono (by omega))
  have d0 := (dq (w.heap.size + 0) (by omega)).trans c0
  have d1 := (dq (w.heap.size + 1) (by omega)).trans c1
  have d2 := (dq (w.heap.size + 2) (by omega)).trans c2
  have d3 := dn
  rw [sC] at d3
  obtain ⟨E, hE, sE, en, eq, bE'⟩ := alloc_pack D #[.bool false] 4
  rw [hE]
  rw [sD] at sE
  have bE : Below w.heap.size w E := bD.trans (bE'.mono (by omega))
  have e0 := (eq (w.heap.size + 0) (by omega)).trans d0
  have e1 := (eq (w.heap.size + 1) (by omega)).trans d1
  have e2 := (eq (w.heap.size + 2) (by omega)).trans d2
  have e3 := (eq (w.heap.size + 3) (by omega)).trans d3
  have e4 := en
  rw [sD] at e4
  obtain ⟨F, hF, sF, fn, fq, bF'⟩ := alloc_pack E #[.string s, .int .i64 0, .slice (some ⟨w.heap.size + 1 + 1 + 1, 0, none⟩) 1 1, .int .i64 0, .int .i64 0, .int .i64 0, .slice (some ⟨w.heap.size + 1 + 1 + 1 + 1, 0, none⟩) 1 1] 114
  rw [hF]
  rw [sE] at sF
  have bF : Below w.heap.size w F := bE.trans (bF'.mono (by omega))
  have f0 := (fq (w.heap.size + 0) (by omega)).trans e0
  have f1 := (fq (w.heap.size + 1) (by omega)).trans e1
  have f2 := (fq (w.heap.size + 2) (by omega)).trans e2
  have f3 := (fq (w.heap.size + 3) (by omega)).trans e3
  have f4 := (fq (w.heap.size + 4) (by omega)).trans e4
  have f5 := fn
  rw [sE] at f5
  refine ⟨⟨⟨w.heap.size + 3, 1, [], .slice (some ⟨w.heap.size + 4, 0, none⟩) 1 1, [], .slice none 0 0, .slice none 0 0⟩, ?_⟩, rfl, rfl, rfl, f0, f1, f2, bF, by omega⟩
  exact {
    tags := by
      intro b t hb
      unfold startTags at hb
      split at hb
      · omega
      · split at hb
        · omega
        · split at hb
          · omega
          · cases hb
    gp := by unfold startTags; rw [if_neg (by omega), if_neg (by omega), if_pos (by omega)]
    blk := f5
    gob := by simp [startTags]
    opn := f3
    cap1 := by simp [PSt.start]
    cap2 := by simp [maxLen]
    cap3 := by simp [frCells]
    refs := ⟨by simp [PSt.start], .inr ⟨w.heap.size + 4, 1, _, rfl, Nat.zero_le _, f4, by simp [PSt.start], by simp [maxLen], by simp, by simp [PSt.start]⟩⟩
    grefs := by intro k hk; simp [Value.ownBlock] at hk; subst hk; simp [startTags]
    low := rfl
    top := ⟨⟨[], ⟨World.ownsRow_nil _ _ _ _, fun k hk => by cases hk⟩, rfl⟩, ⟨[], ⟨World.ownsRow_nil _ _ _ _, fun k hk => by cases hk⟩, rfl⟩⟩ }

theorem Runs.cut {st fin : PSt} {d e : Nat} (h : Runs st d fin e) :
    (st.pos = st.s.size ∧ st.smallB = true ∧ fin = st ∧ e = d) ∨ ∃ st', st.pos < st.s.size ∧ st.smallB = true ∧ d ≤ 100000 ∧ st.step = some st' ∧ Runs st' (deeper st st' d) fin e := by
  cases h with
  | done h hs => exact .inl ⟨h, hs, rfl, rfl⟩
  | more h hs hd hst k => exact .inr ⟨_, h, hs, hd, hst, k⟩

theorem step_92 {st st' : PSt} (h : byte st.s st.pos = 92) (hst : st.step = some st') : st.pos + 1 < st.s.size ∧ classOf (byte st.s (st.pos + 1)) = none ∧ ∃ p, plainOf (byte st.s (st.pos + 1)) = (p, true) ∧ st' = st.put (.one (BSet.zero.range p p) .zero) true 2 := by
  unfold PSt.step at hst
  simp only [] at hst
  rw [if_pos h] at hst
  split at hst
  · rename_i hc
    cases hst
    exact ⟨hc.1, hc.2.1, _, Prod.ext rfl hc.2.2, rfl⟩
  · cases hst
theorem step_40 {st st' : PSt} (h : byte st.s st.pos = 40) (hst : st.step = some st') : st.looks = 0 ∧ pre2 st.s st.pos = false ∧ st' = st.enter := by
  unfold PSt.step at hst
  simp only [] at hst
  rw [if_neg (by omega), if_pos h] at hst
  split at hst
  · rename_i hc; cases hst; exact ⟨hc.1, hc.2, rfl⟩
  · cases hst
theorem step_41 {st st' : PSt} (h : byte st.s st.pos = 41) (hst : st.step = some st') : ∃ low f, st.low = low ++ [f] ∧ st.low.getLast? = some f ∧ st.low.dropLast = low ∧ st.top.kind = 40 ∧ st' = (st.pop low f).put (.group st.top.num st.top.whole) true 1 := by
  unfold PSt.step at hst
  simp only [] at hst
  rw [if_neg (by omega), if_neg (by omega), if_pos h] at hst
  split at hst
  · rename_i f hf
    split at hst
    · rename_i hk
      cases hst
      obtain ⟨l, hl⟩ := List.getLast?_eq_some_iff.1 hf
      exact ⟨l, f, hl, hf, by simp [hl], hk, by simp [hl]⟩
    · cases hst
  · cases hst
theorem step_124 {st st' : PSt} (h : byte st.s st.pos = 124) (hst : st.step = some st') : st' = st.bar := by
  unfold PSt.step at hst
  simp only [] at hst
  rw [if_neg (by omega), if_neg (by omega), if_neg (by omega), if_pos h] at hst
  cases hst; rfl
theorem step_42 {st st' : PSt} (h : byte st.s st.pos = 42) (hst : st.step = some st') : ∃ pre y, st.top.pcs = pre ++ [y] ∧ st.top.single = true ∧ (st.pos + 1 = st.s.size ∨ st.pos + 1 < st.s.size ∧ byte st.s (st.pos + 1) ≠ 63) ∧ st' = st.star pre y := by
  unfold PSt.step at hst
  simp only [] at hst
  rw [if_neg (by omega), if_neg (by omega), if_neg (by omega), if_neg (by omega), if_pos h] at hst
  split at hst
  · rename_i f hf
    split at hst
    · rename_i hk
      cases hst
      obtain ⟨l, hl⟩ := List.getLast?_eq_some_iff.1 hf
      exact ⟨l, f, hl, hk.1, hk.2, by simp [hl]⟩
    · cases hst
  · cases hst
theorem step_46 {st st' : PSt} (h : byte st.s st.pos = 46) (hst : st.step = some st') : st' = st.put (.one .zero BSet.zero.not) true 1 := by
  unfold PSt.step at hst
  simp only [] at hst
  rw [if_neg (by omega), if_neg (by omega), if_neg (by omega), if_neg (by omega), if_neg (by omega), if_pos h] at hst
  cases hst; rfl
theorem step_else {st st' : PSt} (h1 : byte st.s st.pos ≠ 92) (h2 : byte st.s st.pos ≠ 40) (h3 : byte st.s st.pos ≠ 41) (h4 : byte st.s st.pos ≠ 124) (h5 : byte st.s st.pos ≠ 42) (h6 : byte st.s st.pos ≠ 46) (hst : st.step = some st') :
    (byte st.s st.pos ≠ 91 ∧ byte st.s st.pos ≠ 43 ∧ byte st.s st.pos ≠ 63 ∧ byte st.s st.pos ≠ 123 ∧ byte st.s st.pos ≠ 94 ∧ byte st.s st.pos ≠ 36) ∧ st' = st.put (.one (BSet.zero.range (byte st.s st.pos) (byte st.s st.pos)) .zero) true 1 := by
  unfold PSt.step at hst
  simp only [] at hst
  rw [if_neg h1, if_neg h2, if_neg h3, if_neg h4, if_neg h5, if_neg h6] at hst
  split at hst
  · cases hst
  · rename_i hc
    cases hst
    refine ⟨?_, rfl⟩
    omega

theorem gen_code {P : Program} {Q : Exit → Act → World → Prop} {c : Code} {a : Act} {W : World} (F : World → Prop) (hF : F W) (h : ∀ W, F W → c.wp P Q a W) : c.wp P Q a W := h W hF

/-- What holds at the head of a round. -/
structure RoundW (s : ByteArray) (fin : PSt) (deep base bp : Nat) (W0 : World) (st : PSt) (dp : Nat) (g : Tags) (W : World) : Prop where
  s : st.s = s
  runs : Runs st dp fin deep
  inv : PInv base g W bp st
  below : Below base W0 W

theorem RoundW.next {s : ByteArray} {fin : PSt} {deep base bp : Nat} {W0 : World} {st st' : PSt} {dp : Nat} {g g' : Tags} {W W' : World} (h : RoundW s fin deep base bp W0 st dp g W) (hst : st.step = some st')
    (hr : Runs st' (deeper st st' dp) fin deep) (hi : PInv base g' W' bp st') (hk : Keeps base g W g' W') : RoundW s fin deep base bp W0 st' (deeper st st' dp) g' W' :=
  ⟨(step_s hst).1.trans h.s, hr, hi, h.below.trans hk.below⟩

end Go.Proofs.Ytfgghbideoehjaa

namespace Go.Proofs.Ytfgghbideoehjaa
open Go.ChangeShapes Go.WideShapes Go.ChangeAt Go.RowKit
set_option linter.unusedVariables false
set_option maxRecDepth 100000

/-- A type whose method size is function f. -/
structure SizeFn (T : TypeId) (f : Nat) : Prop where
  hm : ∀ (u : Value) (w : World), (method 283 T u "threadbare/regex.size").run Try.prog w = .ok (f, u) w
  hc : ∀ (args : Array Value) (w : World), (callFunc f args).run Try.prog w = .ok (.enter f args) w

theorem sizeFn108 : SizeFn 108 109 := ⟨fun _ _ => by kernel_rfl, fun _ _ => by kernel_rfl⟩
theorem sizeFn109 : SizeFn 109 111 := ⟨fun _ _ => by kernel_rfl, fun _ _ => by kernel_rfl⟩
theorem sizeFn121 : SizeFn 121 114 := ⟨fun _ _ => by kernel_rfl, fun _ _ => by kernel_rfl⟩
theorem sizeFn124 : SizeFn 124 116 := ⟨fun _ _ => by kernel_rfl, fun _ _ => by kernel_rfl⟩
theorem sizeFn133 : SizeFn 133 118 := ⟨fun _ _ => by kernel_rfl, fun _ _ => by kernel_rfl⟩
theorem sizeFn135 : SizeFn 135 120 := ⟨fun _ _ => by kernel_rfl, fun _ _ => by kernel_rfl⟩
theorem sizeFn139 : SizeFn 139 122 := ⟨fun _ _ => by kernel_rfl, fun _ _ => by kernel_rfl⟩
theorem sizeFn141 : SizeFn 141 124 := ⟨fun _ _ => by kernel_rfl, fun _ _ => by kernel_rfl⟩

/-- Asked for its size behind a world, a value answers n. -/
def SizeAt (w : World) (v : Value) (n : Nat) : Prop :=
  n ≤ 10000 ∧ ∃ T u f, v = .iface T u ∧ SizeFn T f ∧ ∀ w', Below w.heap.size w w' → Calls Try.prog f #[u] w' fun e w'' => e = .returned (.int .i64 (n : Int)) ∧ Below w'.heap.size w' w''

set_option maxHeartbeats 400000 in
theorem capped_any (n : Nat) (hn : n ≤ 1000000000) (w : World) : Calls Try.prog 110 #[.int .i64 (n : Int)] w fun e w' => e = .returned (.int .i64 ((min n 10000 : Nat) : Int)) ∧ w = w' := by
  have h : min (n : Int) 10000 = ((min n 10000 : Nat) : Int) := by omega
  go_enter Try.func110, Try.ntmps110
  go_wp2
  go_ret
  exact ⟨rfl, rfl⟩
theorem capped_int {k : Int} {n : Nat} (h : k = (n : Int)) (hn : n ≤ 1000000000) (w : World) : Calls Try.prog 110 #[.int .i64 k] w fun e w' => e = .returned (.int .i64 ((min n 10000 : Nat) : Int)) ∧ w = w' := by
  subst h; exact capped_any n hn w

set_option maxHeartbeats 400000 in
theorem one_size (v : Array Value) (w : World) : Calls Try.prog 116 #[.agg v] w fun e w' => e = .returned (.int .i64 1) ∧ Below w.heap.size w w' := by
  go_enter Try.func116, Try.ntmps116
  go_wp2
  go_ret
  exact ⟨rfl, (Below.refl _ _).alloc (Nat.le_refl _) _⟩
set_option maxHeartbeats 400000 in
theorem place_size (v : Array Value) (w : World) : Calls Try.prog 114 #[.agg v] w fun e w' => e = .returned (.int .i64 1) ∧ Below w.heap.size w w' := by
  go_enter Try.func114, Try.ntmps114
  go_wp2
  go_ret
  exact ⟨rfl, (Below.refl _ _).alloc (Nat.le_refl _) _⟩
set_option maxHeartbeats 400000 in
theorem back_size (v : Array Value) (w : World) : Calls Try.prog 118 #[.agg v] w fun e w' => e = .returned (.int .i64 1) ∧ Below w.heap.size w w' := by
  go_enter Try.func118, Try.ntmps118
  go_wp2
  go_ret
  exact ⟨rfl, (Below.refl _ _).alloc (Nat.le_refl _) _⟩

set_option maxHeartbeats 400000 in
theorem group_size (w0 : World) (n : Int) (x : Value) (m : Nat) (h : SizeAt w0 x m) (w : World) (hw : Below w0.heap.size w0 w) : Calls Try.prog 124 #[.agg #[.int .i64 n, x]] w fun e w' => e = .returned (.int .i64 ((min (1 + m) 10000 : Nat) : Int)) ∧ Below w.heap.size w w' := by
  obtain ⟨hm0, T, u, f, rfl, hf, hc⟩ := h
  have h1 := hf.hm
  have h2 := hf.hc
  have HC := Lib.hid hc
  have HW := Lib.hid hw
  clear hc hw
  go_enter Try.func124, Try.ntmps124
  go_wp2_with (fail)
  refine (HC.out _ (HW.out.alloc HW.out.size _)).mono ?_
  rintro e w1 ⟨rfl, hb⟩
  have HB := Lib.hid hb
  clear hb
  go_wp2_with (fail)
  refine (capped_int (n := 1 + m) (by omega) (by omega) _).mono ?_
  rintro e w2 ⟨rfl, rfl⟩
  go_wp2
  go_ret
  exact ⟨rfl, ((Below.refl _ _).alloc (Nat.le_refl _) _).trans (HB.out.mono (by simp))⟩

set_option maxHeartbeats 400000 in
theorem look_size (w0 : World) (n : Bool) (x : Value) (m : Nat) (h : SizeAt w0 x m) (w : World) (hw : Below w0.heap.size w0 w) : Calls Try.prog 120 #[.agg #[x, .bool n]] w fun e w' => e = .returned (.int .i64 ((min (1 + m) 10000 : Nat) : Int)) ∧ Below w.heap.size w w' := by
  obtain ⟨hm0, T, u, f, rfl, hf, hc⟩ := h
  have h1 := hf.hm
  have h2 := hf.hc
  have HC := Lib.hid hc
  have HW := Lib.hid hw
  clear hc hw
  go_enter Try.func120, Try.ntmps120
  go_wp2_with (fail)
  refine (HC.out _ (HW.out.alloc HW.out.size _)).mono ?_
  rintro e w1 ⟨rfl, hb⟩
  have HB := Lib.hid hb
  clear hb
  go_wp2_with (fail)
  refine (capped_int (n := 1 + m) (by omega) (by omega) _).mono ?_
  rintro e w2 ⟨rfl, rfl⟩
  go_wp2
  go_ret
  exact ⟨rfl, ((Below.refl _ _).alloc (Nat.le_refl _) _).trans (HB.out.mono (by simp))⟩

def mostOf (lo hi : Int) : Nat := if hi = -1 then lo.toNat + 1 else hi.toNat

set_option maxHeartbeats 1000000 in
theorem times_size (w0 : World) (lo hi : Int) (hlo : 0 ≤ lo ∧ lo ≤ 100) (hhi : -1 ≤ hi ∧ hi ≤ 100) (lz : Bool) (x : Value) (m : Nat) (h : SizeAt w0 x m) (w : World) (hw : Below w0.heap.size w0 w) :
    Calls Try.prog 122 #[.agg #[x, .int .i64 lo, .int .i64 hi, .bool lz]] w fun e w' => e = .returned (.int .i64 ((max 1 (min (m * mostOf lo hi) 10000) : Nat) : Int)) ∧ Below w.heap.size w w' := by
  obtain ⟨hm0, T, u, f, rfl, hf, hc⟩ := h
  have h1 := hf.hm
  have h2 := hf.hc
  have HC := Lib.hid hc
  have HW := Lib.hid hw
  have HH := Lib.hid hhi
  clear hc hw
  by_cases hh : hi = -1
  · have t1 : (hi == -1) = true := by simp [hh]
    have HH2 := Lib.hid hh
    clear hh
    have hml : m * (lo.toNat + 1) ≤ 10000 * 101 := Nat.mul_le_mul hm0 (by omega)
    have hmi : (m : Int) * (lo + 1) = ((m * (lo.toNat + 1) : Nat) : Int) := by push_cast; congr 1; omega
    have HM := Lib.hid hmi
    clear hmi
    have hmm : (m : Int) * (lo + 1) ≤ 1010000 ∧ 0 ≤ (m : Int) * (lo + 1) := by rw [HM.out]; omega
    go_enter Try.func122, Try.ntmps122
    go_wp2_with (fail)
    refine (HC.out _ (HW.out.alloc HW.out.size _)).mono ?_
    rintro e w1 ⟨rfl, hb⟩
    have HB := Lib.hid hb
    clear hb
    go_wp2_with (fail)
    refine (capped_int HM.out (by omega) _).mono ?_
    rintro e w2 ⟨rfl, rfl⟩
    generalize hK : min (m * (lo.toNat + 1)) 10000 = K
    have HK := Lib.hid hK
    clear hK
    have h3 : max (1 : Int) (K : Int) = ((max 1 K : Nat) : Int) := by omega
    go_wp2
    go_ret
    refine ⟨?_, ((Below.refl _ _).alloc (Nat.le_refl _) _).trans (HB.out.mono (by simp))⟩
    unfold mostOf; rw [if_pos HH2.out, HK.out]; rfl
  · have t1 : (hi == -1) = false := by simp [hh]
    have HH2 := Lib.hid hh
    clear hh
    have hml : m * hi.toNat ≤ 10000 * 100 := Nat.mul_le_mul hm0 (by have := HH.out; omega)
    have hmi : (m : Int) * hi = ((m * hi.toNat : Nat) : Int) := by push_cast; congr 1; have := HH.out; have := HH2.out; omega
    have HM := Lib.hid hmi
    clear hmi
    have hmm : (m : Int) * hi ≤ 1010000 ∧ 0 ≤ (m : Int) * hi := by rw [HM.out]; omega
    go_enter Try.func122, Try.ntmps122
    go_wp2_with (fail)
    refine (HC.out _ (HW.out.alloc HW.out.size _)).mono ?_
    rintro e w1 ⟨rfl, hb⟩
    have HB := Lib.hid hb
    clear hb
    go_wp2_with (fail)
    refine (capped_int HM.out (by omega) _).mono ?_
    rintro e w2 ⟨rfl, rfl⟩
    generalize hK : min (m * hi.toNat) 10000 = K
    have HK := Lib.hid hK
    clear hK
    have h3 : max (1 : Int) (K : Int) = ((max 1 K : Nat) : Int) := by omega
    go_wp2
    go_ret
    refine ⟨?_, ((Below.refl _ _).alloc (Nat.le_refl _) _).trans (HB.out.mono (by simp))⟩
    unfold mostOf; rw [if_neg HH2.out, HK.out]; rfl

def capSum (l : List Nat) : Nat := l.foldl (fun n x => min (n + x) 10000) 0
theorem capSum_le (l : List Nat) : capSum l ≤ 10000 := by
  have : ∀ (l : List Nat) (n : Nat), n ≤ 10000 → l.foldl (fun n x => min (n + x) 10000) n ≤ 10000 := by
    intro l
    induction l with
    | nil => exact fun n h => h
    | cons a l ih => exact fun n h => ih _ (Nat.min_le_right _ _)
  exact this l 0 (by decide)
theorem capSum_snoc (l : List Nat) (x : Nat) : capSum (l ++ [x]) = min (capSum l + x) 10000 := by simp [capSum, List.foldl_append]

set_option maxHeartbeats 1000000 in
theorem pieces_size (w0 : World) (sv : Value) (vs : List Value) (ns : List Nat) (hrow : w0.ownsRow 0 62 1 sv vs.length vs) (hlen : ns.length = vs.length) (hl : vs.length ≤ 1000000)
    (hall : ∀ (j : Nat) v n, vs[j]? = some v → ns[j]? = some n → SizeAt w0 v n) (w : World) (hw : Below w0.heap.size w0 w) :
    Calls Try.prog 111 #[sv] w fun e w' => e = .returned (.int .i64 (capSum ns : Int)) ∧ Below w.heap.size w w' := by
  obtain ⟨a, k, c, rfl⟩ := ownsRow_shape hrow
  have HR := Lib.hid hrow
  have HL := Lib.hid hlen
  have HA := Lib.hid hall
  have HW := Lib.hid hw
  have hk : k = vs.length := by
    rcases hrow.2 with ⟨h, h0⟩ | ⟨g, cap, cur, h, _⟩
    · cases h; exact h0.symm
    · cases h; rfl
  subst hk
  clear hlen hall hw hrow
  go_enter Try.func111, Try.ntmps111
  go_wp2
  go_loopg [3, 8] vs.length (fun k n i wr => ∃ j : Nat, j ≤ vs.length ∧ k = vs.length - j ∧ i = .int .i64 (j : Int) ∧ n = .int .i64 (capSum (ns.take j) : Int) ∧ Below w.heap.size w wr)
  case atStart => exact ⟨0, Nat.zero_le _, rfl, rfl, by simp [capSum], Below.refl _ _⟩
  case round =>
    obtain ⟨j, hj, hk, rfl, rfl, hB⟩ := hrel
    have HB := Lib.hid hB
    have HK := Lib.hid hk
    clear hB hk
    generalize hS : capSum (ns.take j) = S
    have hS0 : S ≤ 10000 := by rw [← hS]; exact capSum_le _
    have HS := Lib.hid hS
    clear hS
    by_cases hlt : j < vs.length
    · obtain ⟨v, hv⟩ : ∃ v, vs[j]? = some v := ⟨_, List.getElem?_eq_getElem hlt⟩
      obtain ⟨n, hn⟩ : ∃ n, ns[j]? = some n := ⟨_, List.getElem?_eq_getElem (by rw [HL.out]; exact hlt)⟩
      obtain ⟨hn0, T, u, f, rfl, hf, hc⟩ := HA.out j v n hv hn
      have h1 := hf.hm
      have h2 := hf.hc
      have HC := Lib.hid hc
      clear hc
      have hB0 : Below w0.heap.size w0 wr := HW.out.trans (HB.out.mono HW.out.size)
      obtain ⟨g, cap, ha⟩ : ∃ g cap, (Value.slice a vs.length c) = .slice (some ⟨g, 0, none⟩) vs.length cap := by
        rcases HR.out.2 with ⟨h, h0⟩ | ⟨g, cap, cur, h, _⟩
        · omega
        · exact ⟨g, cap, h⟩
      cases ha
      have hcell : wr.cell? ⟨g, j, none⟩ = some (.iface T u) := by
        have hr := HR.out
        have hlt' := (hr.lt g rfl).2
        rw [hB0.cell (p := ⟨g, j, none⟩) hlt', hr.cellAt j (by omega)]; exact hv
      have HV := Lib.hid hv
      have HN := Lib.hid hn
      have HB0 := Lib.hid hB0
      clear hv hn hB0
      go_wp2_with (fail)
      refine (HC.out _ HB0.out).mono ?_
      rintro e w1 ⟨rfl, hb⟩
      have HB1 := Lib.hid hb
      clear hb
      go_wp2_with (fail)
      refine (capped_int (n := S + n) (by omega) (by omega) _).mono ?_
      rintro e w2 ⟨rfl, rfl⟩
      go_wp2
      go_roundg (vs.length - (j + 1))
      case measure => rw [HK.out]; omega
      case rel =>
        refine ⟨j + 1, by omega, rfl, by go_num, ?_, HB.out.trans (HB1.out.mono HB.out.size)⟩
        rw [List.take_add_one, HN.out]
        simp only [Option.toList]
        rw [capSum_snoc, HS.out]
    · have hje : j = vs.length := by omega
      have HE := Lib.hid hje
      clear hje
      go_wp2
      go_ret
      have e1 : ns.take j = ns := List.take_of_length_le (by rw [HE.out, HL.out]; exact Nat.le_refl _)
      have hs := HS.out
      rw [e1] at hs
      exact ⟨by rw [hs]; rfl, HB.out⟩

set_option maxHeartbeats 400000 in
theorem branches_size (w0 : World) (sv : Value) (vs : List Value) (ns : List Nat) (hrow : w0.ownsRow 0 62 1 sv vs.length vs) (hlen : ns.length = vs.length) (hl : vs.length ≤ 1000000)
    (hall : ∀ (j : Nat) v n, vs[j]? = some v → ns[j]? = some n → SizeAt w0 v n) (w : World) (hw : Below w0.heap.size w0 w) :
    Calls Try.prog 109 #[sv] w fun e w' => e = .returned (.int .i64 ((min (capSum ns + vs.length) 10000 : Nat) : Int)) ∧ Below w.heap.size w w' := by
  have hc := pieces_size w0 sv vs ns hrow hlen hl hall w hw
  have hcs := capSum_le ns
  obtain ⟨a, k, c, rfl⟩ := ownsRow_shape hrow
  have hk : k = vs.length := by
    rcases hrow.2 with ⟨h, h0⟩ | ⟨g, cap, cur, h, _⟩
    · cases h; exact h0.symm
    · cases h; rfl
  subst hk
  have HC := Lib.hid hc
  clear hc hrow hlen hall hw
  go_enter Try.func109, Try.ntmps109
  go_wp2_with (fail)
  refine HC.out.mono ?_
  rintro e w1 ⟨rfl, hb⟩
  have HB := Lib.hid hb
  clear hb
  go_wp2_with (fail)
  refine (capped_int (n := capSum ns + vs.length) (by omega) (by omega) _).mono ?_
  rintro e w2 ⟨rfl, rfl⟩
  go_wp2
  go_ret
  exact ⟨rfl, HB.out⟩

end Go.Proofs.Ytfgghbideoehjaa

namespace Go.Proofs.Ytfgghbideoehjaa
open Go.ChangeShapes Go.WideShapes Go.ChangeAt Go.RowKit
set_option linter.unusedVariables false
set_option maxRecDepth 100000

mutual
def Nd.size : Nd → Nat
  | .one _ _ => 1
  | .place _ => 1
  | .look i _ => min (1 + i.size) 10000
  | .pieces l => capSum (Nd.sizes l)
  | .branches l => min (capSum (Nd.sizes l) + l.length) 10000
  | .times i lo hi _ => max 1 (min (i.size * mostOf lo hi) 10000)
  | .group _ i => min (1 + i.size) 10000
  | .back _ => 1
def Nd.sizes : List Nd → List Nat
  | [] => []
  | t :: l => t.size :: Nd.sizes l
end

mutual
/-- Its lists are not too long, its bounds as a pattern's. -/
def Nd.fine : Nd → Prop
  | .one _ _ => True
  | .place _ => True
  | .look i _ => i.fine
  | .pieces l => l.length ≤ 1000000 ∧ Nd.fines l
  | .branches l => l.length ≤ 1000000 ∧ Nd.fines l
  | .times i lo hi _ => (0 ≤ lo ∧ lo ≤ 100) ∧ (-1 ≤ hi ∧ hi ≤ 100) ∧ i.fine
  | .group _ i => i.fine
  | .back _ => True
def Nd.fines : List Nd → Prop
  | [] => True
  | t :: l => t.fine ∧ Nd.fines l
end

theorem Nd.sizes_length : ∀ l : List Nd, (Nd.sizes l).length = l.length
  | [] => by simp [Nd.sizes]
  | t :: l => by simp [Nd.sizes, Nd.sizes_length l]

mutual
theorem size_node {G : Nat → Prop} {w : World} : ∀ (t : Nd) (v : Value), NodeAt G w t v → t.fine → SizeAt w v t.size
  | .one s n, v, h, hf => by
    simp only [NodeAt] at h; subst h
    exact ⟨by simp [Nd.size], 124, _, 116, rfl, sizeFn124, fun w' _ => (one_size _ w').mono fun e w'' h => by simp only [Nd.size]; exact h⟩
  | .place k, v, h, hf => by
    simp only [NodeAt] at h; subst h
    exact ⟨by simp [Nd.size], 121, _, 114, rfl, sizeFn121, fun w' _ => (place_size _ w').mono fun e w'' h => by simp only [Nd.size]; exact h⟩
  | .back k, v, h, hf => by
    simp only [NodeAt] at h; subst h
    exact ⟨by simp [Nd.size], 133, _, 118, rfl, sizeFn133, fun w' _ => (back_size _ w').mono fun e w'' h => by simp only [Nd.size]; exact h⟩
  | .look i ng, v, h, hf => by
    simp only [NodeAt] at h
    obtain ⟨x, rfl, h⟩ := h
    simp only [Nd.fine] at hf
    simp only [Nd.size]
    exact ⟨Nat.min_le_right _ _, 135, _, 120, rfl, sizeFn135, fun w' hw => look_size w ng x _ (size_node i x h hf) w' hw⟩
  | .group n i, v, h, hf => by
    simp only [NodeAt] at h
    obtain ⟨x, rfl, h⟩ := h
    simp only [Nd.fine] at hf
    simp only [Nd.size]
    exact ⟨Nat.min_le_right _ _, 141, _, 124, rfl, sizeFn141, fun w' hw => group_size w n x _ (size_node i x h hf) w' hw⟩
  | .times i lo hi lz, v, h, hf => by
    simp only [NodeAt] at h
    obtain ⟨x, rfl, h⟩ := h
    simp only [Nd.fine] at hf
    simp only [Nd.size]
    exact ⟨by omega, 139, _, 122, rfl, sizeFn139, fun w' hw => times_size w lo hi hf.1 hf.2.1 lz x _ (size_node i x h hf.2.2) w' hw⟩
  | .pieces l, v, h, hf => by
    simp only [NodeAt] at h
    obtain ⟨sv, vs, rfl, hr, h⟩ := h
    simp only [Nd.fine] at hf
    simp only [Nd.size]
    have hl := h.length
    exact ⟨capSum_le _, 109, _, 111, rfl, sizeFn109, fun w' hw => pieces_size w sv vs _ hr.1 (by rw [Nd.sizes_length, hl]) (by omega) (sizes_node l vs h hf.2) w' hw⟩
  | .branches l, v, h, hf => by
    simp only [NodeAt] at h
    obtain ⟨sv, vs, rfl, hr, h⟩ := h
    simp only [Nd.fine] at hf
    simp only [Nd.size]
    have hl := h.length
    rw [← hl]
    exact ⟨Nat.min_le_right _ _, 108, _, 109, rfl, sizeFn108, fun w' hw => branches_size w sv vs _ hr.1 (by rw [Nd.sizes_length, hl]) (by omega) (sizes_node l vs h hf.2) w' hw⟩
theorem sizes_node {G : Nat → Prop} {w : World} : ∀ (l : List Nd) (vs : List Value), NodesAt G w l vs → Nd.fines l → ∀ (j : Nat) v n, vs[j]? = some v → (Nd.sizes l)[j]? = some n → SizeAt w v n
  | [], vs, h, hf, j, v, n, h1, h2 => by simp only [NodesAt] at h; subst h; simp at h1
  | t :: l, vs, h, hf, j, v, n, h1, h2 => by
    simp only [NodesAt] at h
    obtain ⟨u, vs', rfl, hu, h⟩ := h
    simp only [Nd.fines] at hf
    simp only [Nd.sizes] at h2
    cases j with
    | zero =>
      simp at h1 h2
      subst h1; subst h2
      exact size_node t u hu hf.1
    | succ j =>
      simp at h1 h2
      exact sizes_node l vs' h hf.2 j v n h1 h2
end

end Go.Proofs.Ytfgghbideoehjaa

namespace Go.Proofs.Ytfgghbideoehjaa
open Go.ChangeShapes Go.WideShapes Go.ChangeAt Go.RowKit
set_option linter.unusedVariables false
set_option linter.unusedSimpArgs false
set_option maxRecDepth 100000

theorem no_prefix {s : ByteArray} {k : Nat} (h : byte s k = 40) (hk : k < s.size) (hp : pre2 s k = false) : Lib.hasPrefix (s.extract k s.size).data.toList (ByteArray.mk #[40, 63]).data.toList = false := by
  cases h' : Lib.hasPrefix (s.extract k s.size).data.toList (ByteArray.mk #[40, 63]).data.toList with
  | false => rfl
  | true =>
    exfalso
    obtain ⟨r, hr⟩ := List.isPrefixOf_iff_prefix.1 h'
    have e1 := congrArg (fun l => l[1]?) hr
    simp at e1
    have hlt : k + 1 < s.size := by
      rcases Nat.lt_or_ge (k + 1) s.size with a | a
      · exact a
      · rw [List.getElem?_eq_none (by simp; omega)] at e1; cases e1
    have e2 : s[k + 1]'hlt = 63 := by
      have := e1.symm
      simp [List.getElem?_take, List.getElem?_drop] at this
      have h2 := Array.getElem?_eq_some_iff.1 this.2
      exact h2.2
    simp [pre2, hlt, byte, e2] at hp

theorem grown_cellH {w W w1 : World} {row : Option Nat} {a : Addr} {v : Value} (h : W.grownBy w1 row) (hH : W.heap = w.heap) (hc : w.cell? a = some v) (hne : row ≠ some a.block) : w1.cell? a = some v := by
  refine h.cell ?_ (fun e => hne e.symm)
  rw [World.cell?_of_block (w := w) (by rw [hH])]; exact hc

theorem grown_frozenH {w W w1 : World} {row : Option Nat} {a : Addr} {v : Value} {c : Bool} (h : W.grownBy w1 row) (hH : W.heap = w.heap) (hc : w.cell? a = some v) (hf : w.frozen? a = c) (hne : row ≠ some a.block) : w1.frozen? a = c := by
  have hlt := World.block_lt_of_cell? w a hc
  rw [World.frozen?_of_block (w := w) ((h.block a.block (by rw [hH]; exact hlt) (fun e => hne e.symm)).trans (by rw [hH]))]
  exact hf

theorem far4 {w : World} {b0 bp : Nat} (h : bp ≠ b0) (o : Nat) (v0 v1 v2 v3 : Value) :
    ((((w.setCell ⟨b0, 0, none⟩ v0).setCell ⟨b0, 1, none⟩ v1).setCell ⟨b0, 2, none⟩ v2).setCell ⟨b0, 3, none⟩ v3).cell? ⟨bp, o, none⟩ = w.cell? ⟨bp, o, none⟩ := by
  have hn : ∀ (j : Nat), (⟨bp, o, none⟩ : Addr) ≠ ⟨b0, j, none⟩ := fun j e => h (by cases e; rfl)
  rw [cell_set_other _ _ _ _ (hn 3), cell_set_other _ _ _ _ (hn 2), cell_set_other _ _ _ _ (hn 1), cell_set_other _ _ _ _ (hn 0)]

theorem assert_nil (w : World) : (Instr.typeAssert .nilIface 20 115 true).run Try.prog w = .ok (.tuple #[.int .i64 0, .bool false]) w := by kernel_rfl

set_option maxHeartbeats 1000000 in
theorem read1_idle (p q r : Value) (w : World) :
    CallsD Try.prog 51 #[p, q, r] .returning w fun e u' w' => e = .returned (.tuple #[]) ∧ u' = .returning ∧ w' = w := by
  have hta := assert_nil
  refine callsD_of_wpS Try.func51 rfl fun c₀ cs hu => ?_
  apply wpS_seq
  apply wpS_region
  have he : (#[p, q, r] ++ Array.replicate (Try.f51.ntmps - #[p, q, r].size) undef : Array Value) = #[p, q, r, undef, undef, undef, undef, undef, undef, undef, undef, undef, undef] := by
    simp [Try.ntmps51, Array.replicate]
  rw [he]
  simp [wpOpsS, go_sem, recoverD, hu, hta, Exit.thenS]
  apply wpS_seq
  apply wpS_region
  simp [wpOpsS, go_sem, Exit.thenS]
  refine wpS_cond (t := false) (by simp [Act.eval]) ?_
  simp only [Bool.false_eq_true, if_false]
  refine wpS_of_wp (wp_skip ?_)
  cases c₀
  simp_all [bodyPostS, results, Try.results51]

theorem not_zero (w : World) : Calls Try.prog 59 #[.agg #[.int .u64 0, .int .u64 0, .int .u64 0, .int .u64 0]] w fun e w' =>
    e = .returned (.agg #[.int .u64 18446744073709551615, .int .u64 18446744073709551615, .int .u64 18446744073709551615, .int .u64 18446744073709551615]) ∧ Below w.heap.size w w' :=
  not_any BSet.zero BSet.zero_wf w

theorem size65 : (Try.prog.info? 65).map (·.size) = some 4 := by kernel_rfl

theorem load_int {w : World} {b : Nat} {t : TypeId} {v : Value} (ha : ∀ w, (isAgg t).run Try.prog w = .ok false w) (h : w.cell? ⟨b, 0, none⟩ = some v) : (loadVar t ⟨b, 0, none⟩).run Try.prog w = .ok v w := by
  have ha' := ha w
  simp [loadVar, ha', h, go_sem]
theorem agg3 (w : World) : (isAgg 3).run Try.prog w = .ok false w := by kernel_rfl
theorem agg26 (w : World) : (isAgg 26).run Try.prog w = .ok false w := by kernel_rfl

theorem results_read {tmps : Array Value} {w : World} {b0 b1 b2 : Nat} {cs : Array Value} (hs : cs.size = 4) (h2 : tmps.getD 2 undef = .pointer (some ⟨b0, 0, none⟩)) (h3 : tmps.getD 3 undef = .pointer (some ⟨b1, 0, none⟩)) (h4 : tmps.getD 4 undef = .pointer (some ⟨b2, 0, none⟩))
    (r0 : w.heap[b0]? = some (.cells cs 65 (0, 0))) (r1 : w.cell? ⟨b1, 0, none⟩ = some (.int .i64 0)) (r2 : w.cell? ⟨b2, 0, none⟩ = some (.int .i64 0)) :
    (results Try.f29 tmps).run Try.prog w = .ok (.tuple #[.agg cs, .int .i64 0, .int .i64 0]) w := by
  have hr : Try.f29.results = #[.cell 2 65, .cell 3 3, .cell 4 26] := by kernel_rfl
  have hp2 : tmps[2]?.getD undef = .pointer (some ⟨b0, 0, none⟩) := by simpa using h2
  have hp3 : tmps[3]?.getD undef = .pointer (some ⟨b1, 0, none⟩) := by simpa using h3
  have hp4 : tmps[4]?.getD undef = .pointer (some ⟨b2, 0, none⟩) := by simpa using h4
  simp [results, hr, hp2, hp3, hp4, asAddr, run_loadVar_row w b0 65 65 cs (0, 0) _ r0 Try.underlying65 rfl (by rw [size65, hs])]
  rw [load_int agg3 r1]
  simp
  rw [load_int agg26 r2]
  simp

/-- The world behind the result's first store. -/
structure TailW (b0 b1 b2 : Nat) (bv' : Value) (groups : Nat) (refsv : Value) (dp : Nat) (W : World) : Prop where
  o : W.heap[b0]? = some (.cells #[.iface 108 bv', .int .i64 (groups : Int), refsv, .int .i64 (dp : Int)] 65 (0, 0))
  r1 : W.heap[b1]? = some (.cells #[.int .i64 0] 3 (0, 0))
  r2 : W.heap[b2]? = some (.cells #[.int .i64 0] 26 (0, 0))

/-- What read answers, and what lies behind it. -/
def ReadR (w : World) (fin : PSt) (deep : Nat) (e : Ending) (w' : World) : Prop :=
  ∃ (G : Nat → Prop) (root refsv : Value), e = .returned (.tuple #[.agg #[root, .int .i64 (fin.groups : Int), refsv, .int .i64 (deep : Int)], .int .i64 0, .int .i64 0]) ∧
    NodeAt G w' fin.top.whole root ∧ (∀ b, G b → w.heap.size ≤ b ∧ b < w'.heap.size) ∧ w'.ownsRow 0 4 1 refsv fin.refs.length (fin.refs.map Value.bool) ∧
    (∀ k, refsv.ownBlock = some k → w.heap.size ≤ k ∧ k < w'.heap.size) ∧ Below w.heap.size w w'

theorem read_node {base : Nat} {g : Tags} {w W w3 : World} {bp : Nat} {st : PSt} {x : PV} (h : PAt base g w bp st x) (hbase : base ≤ w.heap.size) (hB : Below w.heap.size w W)
    {bvs : List Value} {bv' : Value} (hb1 : RowAt (fun b => g b = some (.br st.low.length)) w x.bv bvs) (hb2 : NodesAt (isTree g) w st.top.brs bvs)
    (ho : w3.ownsRow 0 62 1 bv' (bvs.length + 1) (bvs ++ [.iface 109 x.pv])) (hg : W.grownBy w3 x.bv.ownBlock) (ht : SameOrNew W x.bv bv') :
    NodeAt (isTree (closed g st.low.length bv')) w3 st.top.whole (.iface 108 bv') ∧ (∀ b t, closed g st.low.length bv' b = some t → base ≤ b ∧ b < w3.heap.size) ∧
      (∀ b t, g b = some t → t ≠ .br st.low.length → w3.heap[b]? = w.heap[b]?) := by
  obtain ⟨_, ⟨pvs, hp1, hp2⟩⟩ := h.top
  have sW := hB.size
  have s3 := hg.size
  have hbt := hb1.2
  have same : ∀ b t, g b = some t → t ≠ .br st.low.length → w3.heap[b]? = w.heap[b]? := fun b t hb n1 => by
    have hlt := (h.tags b t hb).2
    rw [hg.block b (by omega) (fun e => tag_ne hb (hbt b e.symm) n1 rfl), hB.block b hlt]
  have keep : ∀ b t, g b = some t → t ≠ .br st.low.length → t ≠ .pc st.low.length → closed g st.low.length bv' b = some t := fun b t hb n1 n2 => closed_other h.tags hbt ht sW hb n1 n2
  have agT : Agree w w3 (isTree g) := fun b hb => same b .tree hb (by simp)
  have moT : ∀ b, isTree g b → isTree (closed g st.low.length bv') b := fun b hb => keep b _ hb (by simp) (by simp)
  refine ⟨?_, ?_, same⟩
  · refine ⟨bv', bvs ++ [.iface 109 x.pv], rfl, ⟨?_, fun k hk => closed_new hk⟩, ?_⟩
    · rw [List.length_append]; exact ho
    · refine NodesAt.snoc ?_ _ _ (NodesAt.agree agT moT _ _ hb2)
      refine ⟨x.pv, pvs, rfl, ⟨?_, fun k hk => closed_own (.inr (hp1.2 k hk))⟩, NodesAt.agree agT moT _ _ hp2⟩
      exact ownsRow_agree hp1.1 fun k hk => same k _ (hp1.2 k hk) (by simp)
  · intro b t hb
    unfold closed at hb
    split at hb
    · rename_i e
      refine ⟨?_, (ho.lt b e).2⟩
      rcases ht with ht | ht
      · rw [ht] at e; exact (h.tags b _ (hbt b e)).1
      · have := ht b e; omega
    · split at hb
      · rename_i e
        rcases e with e | e <;> (have := h.tags b _ e; omega)
      · have := h.tags b t hb; omega

abbrev fill4 (w : World) (b : Nat) (v0 v1 v2 v3 : Value) : World := (((w.setCell ⟨b, 0, none⟩ v0).setCell ⟨b, 1, none⟩ v1).setCell ⟨b, 2, none⟩ v2).setCell ⟨b, 3, none⟩ v3
theorem fill4_other (w : World) (b : Nat) (v0 v1 v2 v3 : Value) (j : Nat) (h : j ≠ b) : (fill4 w b v0 v1 v2 v3).heap[j]? = w.heap[j]? :=
  (heap_setCell_other _ _ _ _ h).trans ((heap_setCell_other _ _ _ _ h).trans ((heap_setCell_other _ _ _ _ h).trans (heap_setCell_other _ _ _ _ h)))
theorem fill4_same (w : World) (b : Nat) (u0 u1 u2 u3 v0 v1 v2 v3 : Value) (T : TypeId) (h : w.heap[b]? = some (.cells #[u0, u1, u2, u3] T (0, 0))) : (fill4 w b v0 v1 v2 v3).heap[b]? = some (.cells #[v0, v1, v2, v3] T (0, 0)) := by
  have h0 := heap_setCell_same _ _ 0 _ _ v0 h
  have h1 := heap_setCell_same _ _ 1 _ _ v1 h0
  have h2 := heap_setCell_same _ _ 2 _ _ v2 h1
  have h3 := heap_setCell_same _ _ 3 _ _ v3 h2
  exact h3.trans rfl

set_option maxHeartbeats 1000000 in
theorem read_done {w W0 wr w3 : World} {s : ByteArray} {b0 b1 b2 bp : Nat} {g : Tags} {st : PSt} {x : PV} {dp : Nat} (HS : StartW w s b0 b1 b2 bp W0) (hbel : Below (w.heap.size + 3) W0 wr) (h : PAt (w.heap.size + 3) g wr bp st x) (hlow : st.low.length = 0)
    {bvs : List Value} {bv' : Value} (hb1 : RowAt (fun b => g b = some (.br st.low.length)) wr x.bv bvs) (hb2 : NodesAt (isTree g) wr st.top.brs bvs) {k : Nat}
    (ho : w3.ownsRow 0 62 1 bv' (bvs.length + 1) (bvs ++ [.iface 109 x.pv])) (hg : (wr.drewN k).grownBy w3 x.bv.ownBlock) (ht : SameOrNew (wr.drewN k) x.bv bv') (hfine : st.top.whole.fine) :
    TailW b0 b1 b2 bv' st.groups x.refsv dp (fill4 w3 b0 (.iface 108 bv') (.int .i64 (st.groups : Int)) x.refsv (.int .i64 (dp : Int))) ∧
      (∀ w', Below (fill4 w3 b0 (.iface 108 bv') (.int .i64 (st.groups : Int)) x.refsv (.int .i64 (dp : Int))).heap.size (fill4 w3 b0 (.iface 108 bv') (.int .i64 (st.groups : Int)) x.refsv (.int .i64 (dp : Int))) w' →
        Calls Try.prog 109 #[bv'] w' fun e w'' => e = .returned (.int .i64 (st.top.whole.size : Int)) ∧ Below w'.heap.size w' w'') ∧
      ∀ W5, Below (fill4 w3 b0 (.iface 108 bv') (.int .i64 (st.groups : Int)) x.refsv (.int .i64 (dp : Int))).heap.size (fill4 w3 b0 (.iface 108 bv') (.int .i64 (st.groups : Int)) x.refsv (.int .i64 (dp : Int))) W5 →
        ReadR w st dp (.returned (.tuple #[.agg #[.iface 108 bv', .int .i64 (st.groups : Int), x.refsv, .int .i64 (dp : Int)], .int .i64 0, .int .i64 0]))
          (((fill4 W5 b0 (.iface 108 bv') (.int .i64 (st.groups : Int)) x.refsv (.int .i64 (dp : Int))).setCell ⟨b1, 0, none⟩ (.int .i64 0)).setCell ⟨b2, 0, none⟩ (.int .i64 0)) := by
  have hbase : w.heap.size + 3 ≤ wr.heap.size := by have := hbel.size; have := HS.size; omega
  obtain ⟨hn, htags, hsame⟩ := read_node h hbase (below_drewN (Below.refl _ wr) k) hb1 hb2 ho hg ht
  have n0 := HS.h0
  have n1 := HS.h1
  have n2 := HS.h2
  have hs3 := hg.size
  have hs3' : wr.heap.size ≤ w3.heap.size := hs3
  have lowb : ∀ j, j < w.heap.size + 3 → w3.heap[j]? = W0.heap[j]? := fun j hj =>
    (hg.block j (by show j < wr.heap.size; omega) (fun e => by have := (h.tags _ _ (hb1.2 j e.symm)).1; omega)).trans (hbel.block j hj)
  have o3 := (lowb b0 (by omega)).trans HS.out0
  have r1 := (lowb b1 (by omega)).trans HS.out1
  have r2 := (lowb b2 (by omega)).trans HS.out2
  have ag4 : Agree w3 (fill4 w3 b0 (.iface 108 bv') (.int .i64 (st.groups : Int)) x.refsv (.int .i64 (dp : Int))) (isTree (closed g st.low.length bv')) := fun b hb => fill4_other _ _ _ _ _ _ b (by have := (htags b _ hb).1; omega)
  have hn4 := NodeAt.agree ag4 (fun b hb => hb) _ _ hn
  obtain ⟨_, T, u, f, he, hf, hc⟩ := size_node _ _ hn4 hfine
  cases he
  have hf9 : f = 109 := by
    have a1 := hf.hm bv' w
    rw [sizeFn108.hm bv' w] at a1
    cases a1; rfl
  subst hf9
  refine ⟨⟨fill4_same _ _ _ _ _ _ _ _ _ _ _ o3, (fill4_other _ _ _ _ _ _ b1 (by omega)).trans r1, (fill4_other _ _ _ _ _ _ b2 (by omega)).trans r2⟩, hc, ?_⟩
  intro W5 hb5
  have s5 := hb5.size
  simp only [World.size_setCell] at s5
  have go : ∀ j, j < w3.heap.size → j ≠ b0 → j ≠ b1 → j ≠ b2 → (((fill4 W5 b0 (.iface 108 bv') (.int .i64 (st.groups : Int)) x.refsv (.int .i64 (dp : Int))).setCell ⟨b1, 0, none⟩ (.int .i64 0)).setCell ⟨b2, 0, none⟩ (.int .i64 0)).heap[j]? = w3.heap[j]? := fun j hj m0 m1 m2 =>
    (heap_setCell_other _ _ _ _ (by exact m2)).trans ((heap_setCell_other _ _ _ _ (by exact m1)).trans ((fill4_other _ _ _ _ _ _ j m0).trans ((hb5.block j (by simp; exact hj)).trans (fill4_other _ _ _ _ _ _ j m0))))
  refine ⟨isTree (closed g st.low.length bv'), .iface 108 bv', x.refsv, rfl, ?_, ?_, ?_, ?_, ?_⟩
  · exact NodeAt.agree (fun b hb => go b (htags b _ hb).2 (by have := (htags b _ hb).1; omega) (by have := (htags b _ hb).1; omega) (by have := (htags b _ hb).1; omega)) (fun b hb => hb) _ _ hn
  · intro b hb
    have := htags b _ hb
    simp
    omega
  · refine ownsRow_agree h.refs fun j hj => ?_
    have hgj := h.grefs j hj
    have := h.tags j _ hgj
    exact (go j (by omega) (by omega) (by omega) (by omega)).trans (hsame j _ hgj (by simp))
  · intro j hj
    have := h.tags j _ (h.grefs j hj)
    simp
    omega
  · have B1 : Below w.heap.size w w3 := ((HS.below.trans (hbel.mono (by omega))).trans (below_drewN (Below.refl _ wr) k)).grown hg (by show _ ≤ wr.heap.size; omega) fun j hj => by have := (h.tags j _ (hb1.2 j hj)).1; omega
    have B2 : Below w.heap.size w (fill4 w3 b0 (.iface 108 bv') (.int .i64 (st.groups : Int)) x.refsv (.int .i64 (dp : Int))) := (((B1.setCell (by simp; omega) _).setCell (by simp; omega) _).setCell (by simp; omega) _).setCell (by simp; omega) _
    have B3 := B2.trans (hb5.mono (by simp; omega))
    exact (((((B3.setCell (by simp; omega) _).setCell (by simp; omega) _).setCell (by simp; omega) _).setCell (by simp; omega) _).setCell (by simp; omega) _).setCell (by simp; omega) _

end Go.Proofs.Ytfgghbideoehjaa
