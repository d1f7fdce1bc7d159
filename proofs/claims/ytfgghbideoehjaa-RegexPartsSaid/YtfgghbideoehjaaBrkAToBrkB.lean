/-
  The parser: a member of a set.
  The parser: a set in brackets.
-/
import Derived.Test.YtfgghbideoehjaaEscAToEscB
import Derived.Deep.CutRange
import Derived.LoopTactic
import Derived.IntWalk
namespace Go.Proofs.Ytfgghbideoehjaa
open Go.ChangeShapes Go.WideShapes Go.ChangeAt Go.RowKit
set_option linter.unusedVariables false
set_option maxRecDepth 100000

inductive MR where
  | item (c : Nat) (cs : BSet) (single : Bool) (n : Nat)
  | bad (k : Nat)

def memAt (s : ByteArray) (k : Nat) : MR :=
  if byte s k ≠ 92 then .item (byte s k) .zero true 1
  else if k + 1 = s.size then .bad s.size
  else match classOf (byte s (k + 1)) with
    | some cs => .item 0 cs false 2
    | none => if (plainOf (byte s (k + 1))).2 then .item (plainOf (byte s (k + 1))).1 .zero true 2 else .bad k

def MPost (w : World) (r : MR) (e : Ending) (w' : World) : Prop :=
  match r with
  | .item c cs single n => e = .returned (.tuple #[.int .u8 (c : Int), .agg #[.int .u64 (cs.a : Int), .int .u64 (cs.b : Int), .int .u64 (cs.c : Int), .int .u64 (cs.d : Int)], .bool single, .int .i64 (n : Int)]) ∧ Below w.heap.size w w'
  | .bad k => e = wrongAt k ∧ Below w.heap.size w w'

theorem results_mem {P : Program} {fn : Func} {p q r t : Tmp} {ty : TypeId} (h : fn.results = #[.tmp q, .cell p ty, .tmp r, .tmp t]) (tmps : Array Value) (w : World) (g : Nat) (T : TypeId) (cs : Array Value) (fr : Nat × Nat) (d : TypeDesc)
    (hp : tmps.getD p undef = .pointer (some ⟨g, 0, none⟩)) (hg : w.heap[g]? = some (.cells cs T fr)) (hd : P.underlying ty = some d) (ha : (match d with | .struct _ | .array _ _ => true | _ => false) = true) (hsz : (P.info? ty).map (·.size) = some cs.size) :
    (results fn tmps).run P w = .ok (.tuple #[tmps.getD q undef, .agg cs, tmps.getD r undef, tmps.getD t undef]) w := by
  have hp' : tmps[p]?.getD undef = .pointer (some ⟨g, 0, none⟩) := by simpa using hp
  simp [results, h, hp', asAddr, run_loadVar_row w g T ty cs fr d hg hd ha hsz]

theorem results75 : Try.f75.results = #[.tmp 4, .cell 5 97, .tmp 6, .tmp 7] := by kernel_rfl
theorem size97 : (Try.prog.info? 97).map (·.size) = some 4 := by kernel_rfl

set_option maxHeartbeats 1000000 in
theorem member_any (w : World) (s : ByteArray) (bp k : Nat) (hk : k < s.size) (hs : s.size ≤ 1000000) (c0 : w.cell? ⟨bp, 0, none⟩ = some (.string s)) :
    Calls Try.prog 75 #[.pointer (some ⟨bp, 0, none⟩), .int .i64 (k : Int)] w (MPost w (memAt s k)) := by
  have hby := get_byte s
  have hki : (k : Int) < (s.size : Int) := by omega
  have hlb : bp < w.heap.size := World.block_lt_of_cell? w _ c0
  unfold memAt
  by_cases h92 : byte s k = 92
  · rw [if_neg (by simp [h92])]
    by_cases h1 : k + 1 = s.size
    · rw [if_pos h1]
      have t1 : ((k : Int) + 1 == (s.size : Int)) = true := by simp; omega
      clear h1
      go_enter Try.func75, Try.ntmps75
      go_wp2_with (go_at_call 61; refine (fail_any _ _ _).mono ?_; rintro e w' ⟨rfl, rfl⟩)
      exact ⟨rfl, rfl, (Below.refl _ _).alloc (Nat.le_refl _) _⟩
    rw [if_neg h1]
    have t1 : ((k : Int) + 1 == (s.size : Int)) = false := by simp; omega
    have t2 : k + 1 < s.size := by omega
    have hbl := byte_lt s (k + 1)
    cases hc : classOf (byte s (k + 1)) with
    | some cs =>
      dsimp only
      have HC := Lib.hid hc
      clear hc
      go_enter Try.func75, Try.ntmps75
      go_wp2_with (fail)
      refine (class_hit HC.out _).mono ?_
      rintro e w1 ⟨rfl, hb1⟩
      have HB1 := Lib.hid hb1
      have hbx : w1.heap[w.heap.size]? = some zcells := (hb1.block _ (by simp)).trans (heap_alloc_new w _)
      have z0 := free_of_blk hbx 0
      have z1 := free_of_blk hbx 1
      have z2 := free_of_blk hbx 2
      have z3 := free_of_blk hbx 3
      have y0 : w1.cell? ⟨w.heap.size, 0, none⟩ = some (.int .u64 0) := (cell_of_blk hbx 0).trans rfl
      have y1 : w1.cell? ⟨w.heap.size, 1, none⟩ = some (.int .u64 0) := (cell_of_blk hbx 1).trans rfl
      have y2 : w1.cell? ⟨w.heap.size, 2, none⟩ = some (.int .u64 0) := (cell_of_blk hbx 2).trans rfl
      have y3 : w1.cell? ⟨w.heap.size, 3, none⟩ = some (.int .u64 0) := (cell_of_blk hbx 3).trans rfl
      have hl1 : w.heap.size < w1.heap.size := (Array.getElem?_eq_some_iff.1 hbx).1
      have HBX := Lib.hid hbx
      clear hb1 hbx
      go_wp2
      go_region
      all_goals
        go_wp2
        have hset := set4 (t := cs) HBX.out
        have hbel := set4_below (v0 := .int .u64 (cs.a : Int)) (v1 := .int .u64 (cs.b : Int)) (v2 := .int .u64 (cs.c : Int)) (v3 := .int .u64 (cs.d : Int)) (((Below.refl _ w).alloc (Nat.le_refl _) _).trans (HB1.out.mono (by simp))) (Nat.le_refl _)
        have hlF : w.heap.size < ((((w1.setCell ⟨w.heap.size, 0, none⟩ (.int .u64 (cs.a : Int))).setCell ⟨w.heap.size, 1, none⟩ (.int .u64 (cs.b : Int))).setCell ⟨w.heap.size, 2, none⟩ (.int .u64 (cs.c : Int))).setCell ⟨w.heap.size, 3, none⟩ (.int .u64 (cs.d : Int))).heap.size := by simp; exact hl1
        generalize ((((w1.setCell ⟨w.heap.size, 0, none⟩ (.int .u64 (cs.a : Int))).setCell ⟨w.heap.size, 1, none⟩ (.int .u64 (cs.b : Int))).setCell ⟨w.heap.size, 2, none⟩ (.int .u64 (cs.c : Int))).setCell ⟨w.heap.size, 3, none⟩ (.int .u64 (cs.d : Int))) = F at *
        refine bodyPost_ret (results_mem results75 _ _ w.heap.size 97 _ (0, 0) _ rfl ((heap_alloc_old F _ hlF).trans hset) Try.underlying97 (by kernel_rfl) (by kernel_rfl)) rfl ?_
        exact ⟨rfl, (hbel.alloc (by omega) _).drew⟩
    | none =>
      dsimp only
      have HC := Lib.hid hc
      clear hc
      cases hp : (plainOf (byte s (k + 1))).2 with
      | true =>
        rw [if_pos rfl]
        have HP := Lib.hid (show plainOf (byte s (k + 1)) = ((plainOf (byte s (k + 1))).1, true) from Prod.ext rfl hp)
        clear hp
        go_enter Try.func75, Try.ntmps75
        go_wp2_with (fail)
        refine (class_miss hbl HC.out _).mono ?_
        rintro e w1 ⟨rfl, hb1⟩
        have HB1 := Lib.hid hb1
        have hbx : w1.heap[w.heap.size]? = some zcells := (hb1.block _ (by simp)).trans (heap_alloc_new w _)
        have z0 := free_of_blk hbx 0
        have z1 := free_of_blk hbx 1
        have z2 := free_of_blk hbx 2
        have z3 := free_of_blk hbx 3
        have y0 : w1.cell? ⟨w.heap.size, 0, none⟩ = some (.int .u64 0) := (cell_of_blk hbx 0).trans rfl
        have y1 : w1.cell? ⟨w.heap.size, 1, none⟩ = some (.int .u64 0) := (cell_of_blk hbx 1).trans rfl
        have y2 : w1.cell? ⟨w.heap.size, 2, none⟩ = some (.int .u64 0) := (cell_of_blk hbx 2).trans rfl
        have y3 : w1.cell? ⟨w.heap.size, 3, none⟩ = some (.int .u64 0) := (cell_of_blk hbx 3).trans rfl
        have hl1 : w.heap.size < w1.heap.size := (Array.getElem?_eq_some_iff.1 hbx).1
        have lb1 : bp < w1.heap.size := by omega
        have q0 : w1.cell? ⟨bp, 0, none⟩ = some (.string s) := (hb1.cell (p := ⟨bp, 0, none⟩) (by simp; omega)).trans ((World.cell?_alloc_lt w _ _ hlb).trans c0)
        have HBX := Lib.hid hbx
        clear hb1 hbx
        go_wp2_with (fail)
        refine (plain_yes hbl HP.out _).mono ?_
        rintro e w2 ⟨rfl, rfl⟩
        dsimp only
        go_wp2
        have hset : ((((w1.setCell ⟨w.heap.size, 0, none⟩ (.int .u64 0)).setCell ⟨w.heap.size, 1, none⟩ (.int .u64 0)).setCell ⟨w.heap.size, 2, none⟩ (.int .u64 0)).setCell ⟨w.heap.size, 3, none⟩ (.int .u64 0)).heap[w.heap.size]? = some (.cells #[.int .u64 0, .int .u64 0, .int .u64 0, .int .u64 0] 97 (0, 0)) := set4 (t := BSet.zero) HBX.out
        have hbel : Below w.heap.size w ((((w1.setCell ⟨w.heap.size, 0, none⟩ (.int .u64 0)).setCell ⟨w.heap.size, 1, none⟩ (.int .u64 0)).setCell ⟨w.heap.size, 2, none⟩ (.int .u64 0)).setCell ⟨w.heap.size, 3, none⟩ (.int .u64 0)) := set4_below (((Below.refl _ w).alloc (Nat.le_refl _) _).trans (HB1.out.mono (by simp))) (Nat.le_refl _)
        have hlF : w.heap.size < ((((w1.setCell ⟨w.heap.size, 0, none⟩ (.int .u64 0)).setCell ⟨w.heap.size, 1, none⟩ (.int .u64 0)).setCell ⟨w.heap.size, 2, none⟩ (.int .u64 0)).setCell ⟨w.heap.size, 3, none⟩ (.int .u64 0)).heap.size := by simp; exact hl1
        generalize ((((w1.setCell ⟨w.heap.size, 0, none⟩ (.int .u64 0)).setCell ⟨w.heap.size, 1, none⟩ (.int .u64 0)).setCell ⟨w.heap.size, 2, none⟩ (.int .u64 0)).setCell ⟨w.heap.size, 3, none⟩ (.int .u64 0)) = F at *
        refine bodyPost_ret (results_mem results75 _ _ w.heap.size 97 _ (0, 0) _ rfl ((heap_alloc_old F _ hlF).trans hset) Try.underlying97 (by kernel_rfl) (by kernel_rfl)) rfl ?_
        exact ⟨rfl, hbel.alloc (by omega) _⟩
      | false =>
        rw [if_neg (by simp)]
        have HP := Lib.hid (plain_false hp)
        clear hp
        go_enter Try.func75, Try.ntmps75
        go_wp2_with (fail)
        refine (class_miss hbl HC.out _).mono ?_
        rintro e w1 ⟨rfl, hb1⟩
        have HB1 := Lib.hid hb1
        have hl1 : w.heap.size < w1.heap.size := by have := hb1.size; simp at this; omega
        have q0 : w1.cell? ⟨bp, 0, none⟩ = some (.string s) := (hb1.cell (p := ⟨bp, 0, none⟩) (by simp; omega)).trans ((World.cell?_alloc_lt w _ _ hlb).trans c0)
        have lb1 : bp < w1.heap.size := by omega
        clear hb1
        go_wp2_with (fail)
        refine (plain_no hbl HP.out _).mono ?_
        rintro e w2 ⟨rfl, rfl⟩
        dsimp only
        go_wp2_with (go_at_call 61; refine (fail_any _ _ _).mono ?_; rintro e w' ⟨rfl, rfl⟩)
        exact ⟨rfl, rfl, (((Below.refl _ w).alloc (Nat.le_refl _) _).trans (HB1.out.mono (by simp))).alloc (by omega) _⟩
  · rw [if_pos h92]
    have b92 : ((byte s k : Int) == 92) = false := by simp; omega
    go_enter Try.func75, Try.ntmps75
    go_wp2
    refine bodyPost_ret (results_mem results75 _ _ w.heap.size 97 _ (0, 0) _ rfl (heap_alloc_new w _) Try.underlying97 (by kernel_rfl) (by kernel_rfl)) rfl ?_
    exact ⟨rfl, (Below.refl _ _).alloc (Nat.le_refl _) _⟩

end Go.Proofs.Ytfgghbideoehjaa

namespace Go.Proofs.Ytfgghbideoehjaa
open Go.ChangeShapes Go.WideShapes Go.ChangeAt Go.RowKit
set_option linter.unusedVariables false
set_option maxRecDepth 100000

/-- The set's closing bracket stands behind k. -/
def lastAt (s : ByteArray) (k : Nat) : Bool := decide (k + 1 < s.size) && decide (byte s (k + 1) = 93)
/-- A range's dash stands at k. -/
def dashAt (s : ByteArray) (k : Nat) : Bool := decide (k + 1 < s.size) && decide (byte s k = 45) && !decide (byte s (k + 1) = 93)

inductive BS where
  | fin (k : Nat) (all : BSet)
  | bad (k : Nat)
  | on (k : Nat) (all : BSet)

def brkRange (s : ByteArray) (k : Nat) (all : BSet) (c : Nat) (single : Bool) (j : Nat) : BS :=
  if single = false then .bad k
  else match memAt s (j + 1) with
    | .bad i => .bad i
    | .item d _ too m => if too = false then .bad (j + 1) else if d < c then .bad k else .on (j + 1 + m) (all.range c d)

def brkStep (s : ByteArray) (k : Nat) (f : Bool) (all : BSet) : BS :=
  if s.size ≤ k then .bad s.size
  else if byte s k = 93 ∧ f = false then .fin k all
  else match memAt s k with
    | .bad j => .bad j
    | .item c cs single n =>
      if byte s k = 45 ∧ f = false ∧ lastAt s k = false then .bad k
      else if dashAt s (k + n) = true then brkRange s k all c single (k + n)
      else .on (k + n) (all.union (if single then BSet.zero.range c c else cs))

/-- From a state to the end of the set. -/
inductive Brk (s : ByteArray) : Nat → Bool → BSet → BS → Prop where
  | fin {k f all k' a'} (h : brkStep s k f all = .fin k' a') : Brk s k f all (.fin k' a')
  | bad {k f all j} (h : brkStep s k f all = .bad j) : Brk s k f all (.bad j)
  | on {k f all k' a' r} (h : brkStep s k f all = .on k' a') (t : Brk s k' false a' r) : Brk s k f all r

theorem Brk.fin_eq {s : ByteArray} {k : Nat} {f : Bool} {all : BSet} {r : BS} (h : Brk s k f all r) {k' : Nat} {a' : BSet} (e : brkStep s k f all = .fin k' a') : r = .fin k' a' := by
  cases h with
  | fin h => rw [e] at h; exact h.symm
  | bad h => rw [e] at h; cases h
  | on h t => rw [e] at h; cases h
theorem Brk.bad_eq {s : ByteArray} {k : Nat} {f : Bool} {all : BSet} {r : BS} (h : Brk s k f all r) {j : Nat} (e : brkStep s k f all = .bad j) : r = .bad j := by
  cases h with
  | fin h => rw [e] at h; cases h
  | bad h => rw [e] at h; exact h.symm
  | on h t => rw [e] at h; cases h
theorem Brk.on_eq {s : ByteArray} {k : Nat} {f : Bool} {all : BSet} {r : BS} (h : Brk s k f all r) {k' : Nat} {a' : BSet} (e : brkStep s k f all = .on k' a') : Brk s k' false a' r := by
  cases h with
  | fin h => rw [e] at h; cases h
  | bad h => rw [e] at h; cases h
  | on h t => rw [e] at h; cases h; exact t

theorem memAt_item {s : ByteArray} {k : Nat} (hk : k < s.size) {c : Nat} {cs : BSet} {single : Bool} {n : Nat} (h : memAt s k = .item c cs single n) : c < 256 ∧ cs.WF ∧ 1 ≤ n ∧ n ≤ 2 ∧ k + n ≤ s.size := by
  unfold memAt at h
  split at h
  · cases h; exact ⟨byte_lt _ _, BSet.zero_wf, by omega, by omega, by omega⟩
  · split at h
    · cases h
    · split at h
      · rename_i cs' hc
        cases h
        exact ⟨by omega, classOf_wf hc, by omega, by omega, by omega⟩
      · split at h
        · cases h
          exact ⟨plain_lt (byte_lt _ _), BSet.zero_wf, by omega, by omega, by omega⟩
        · cases h

/-- What the set's end makes of the state. -/
def PSt.brk (st : PSt) (neg : Bool) (r : BS) : PR :=
  match r with
  | .fin k all => .ok (st.put (if neg then .one .zero all.not else .one all .zero) true (k + 1 - st.pos))
  | .bad k => .bad k
  | .on _ _ => .bad 0

/-- Where a set begins, and whether it is negated. -/
def negAt (s : ByteArray) (k : Nat) : Bool := decide (k + 1 < s.size) && decide (byte s (k + 1) = 94)
def brkFrom (s : ByteArray) (k : Nat) : Nat := if negAt s k then k + 2 else k + 1

theorem set8 (w : World) (b : Nat) (u0 u1 u2 u3 u4 u5 u6 u7 v0 v1 v2 v3 v4 v5 v6 v7 : Value) (T : TypeId) (h : w.heap[b]? = some (.cells #[u0, u1, u2, u3, u4, u5, u6, u7] T (0, 0))) :
    ((((((((w.setCell ⟨b, 0, none⟩ v0).setCell ⟨b, 1, none⟩ v1).setCell ⟨b, 2, none⟩ v2).setCell ⟨b, 3, none⟩ v3).setCell ⟨b, 4, none⟩ v4).setCell ⟨b, 5, none⟩ v5).setCell ⟨b, 6, none⟩ v6).setCell ⟨b, 7, none⟩ v7).heap[b]? = some (.cells #[v0, v1, v2, v3, v4, v5, v6, v7] T (0, 0)) := by
  have h0 := heap_setCell_same _ _ 0 _ _ v0 h
  have h1 := heap_setCell_same _ _ 1 _ _ v1 h0
  have h2 := heap_setCell_same _ _ 2 _ _ v2 h1
  have h3 := heap_setCell_same _ _ 3 _ _ v3 h2
  have h4 := heap_setCell_same _ _ 4 _ _ v4 h3
  have h5 := heap_setCell_same _ _ 5 _ _ v5 h4
  have h6 := heap_setCell_same _ _ 6 _ _ v6 h5
  have h7 := heap_setCell_same _ _ 7 _ _ v7 h6
  exact h7.trans (by simp)

structure BrkW (w : World) (s : ByteArray) (k : Nat) (f : Bool) (all : BSet) (R : BS) (wr : World) : Prop where
  brk : Brk s k f all R
  wf : all.WF
  box : wr.heap[w.heap.size]? = some (.cells #[.int .u64 (all.a : Int), .int .u64 (all.b : Int), .int .u64 (all.c : Int), .int .u64 (all.d : Int)] 97 (0, 0))
  bel : Below w.heap.size w wr

theorem dash_cases (s : ByteArray) (k : Nat) : ((¬ ((k : Int) + 1 < (s.size : Int))) ∧ dashAt s k = false) ∨ ((k : Int) + 1 < (s.size : Int) ∧ ((byte s k : Int) == 45) = false ∧ dashAt s k = false) ∨ ((k : Int) + 1 < (s.size : Int) ∧ byte s k = 45 ∧ ((byte s (k + 1) : Int) == 93) = !dashAt s k) := by
  by_cases h1 : k + 1 < s.size
  · by_cases h2 : byte s k = 45
    · refine .inr (.inr ⟨by omega, h2, ?_⟩)
      by_cases h3 : byte s (k + 1) = 93
      · simp [dashAt, h3]
      · simp [dashAt, h1, h2, h3]; omega
    · exact .inr (.inl ⟨by omega, by simp; omega, by simp [dashAt, h2]⟩)
  · exact .inl ⟨by omega, by simp [dashAt, h1]⟩

theorem last_cases (s : ByteArray) (k : Nat) : ((¬ ((k : Int) + 1 < (s.size : Int))) ∧ lastAt s k = false) ∨ ((k : Int) + 1 < (s.size : Int) ∧ ((byte s (k + 1) : Int) == 93) = lastAt s k) := by
  by_cases h1 : k + 1 < s.size
  · refine .inr ⟨by omega, ?_⟩
    by_cases h3 : byte s (k + 1) = 93
    · simp [lastAt, h1, h3]
    · simp [lastAt, h3]; omega
  · exact .inl ⟨by omega, by simp [lastAt, h1]⟩

theorem member_int (w : World) (s : ByteArray) (bp : Nat) {kI : Int} {k : Nat} (hkI : kI = (k : Int)) (hk : k < s.size) (hs : s.size ≤ 1000000) (c0 : w.cell? ⟨bp, 0, none⟩ = some (.string s)) {r : MR} (hr : memAt s k = r) :
    Calls Try.prog 75 #[.pointer (some ⟨bp, 0, none⟩), .int .i64 kI] w (MPost w r) := by
  subst hkI; subst hr; exact member_any w s bp k hk hs c0

theorem dashAt_lt {s : ByteArray} {k : Nat} (h : dashAt s k = true) : k + 1 < s.size := by
  simp [dashAt] at h; omega

/-- The world behind a store into the box of the set. -/
theorem BrkW.store {w : World} {s : ByteArray} {k : Nat} {all : BSet} {R : BS} {A w2 : World} {u0 u1 u2 u3 : Value} (hb : Brk s k false all R) (hwf : all.WF) (hbox : A.heap[w.heap.size]? = some (.cells #[u0, u1, u2, u3] 97 (0, 0))) (hA : Below w.heap.size w A) (hlA : w.heap.size < A.heap.size) (h2 : Below A.heap.size A w2) :
    BrkW w s k false all R (fill4 w2 w.heap.size (.int .u64 (all.a : Int)) (.int .u64 (all.b : Int)) (.int .u64 (all.c : Int)) (.int .u64 (all.d : Int))) :=
  ⟨hb, hwf, fill4_same _ _ _ _ _ _ _ _ _ _ _ ((h2.block _ hlA).trans hbox), set4_below (hA.trans (h2.mono (by omega))) (Nat.le_refl _)⟩

theorem join_open (s t : BSet) (hs : s.WF) (ht : t.WF) (w : World) : Calls Try.prog 76 #[.agg #[.int .u64 (s.a : Int), .int .u64 (s.b : Int), .int .u64 (s.c : Int), .int .u64 (s.d : Int)], .agg #[.int .u64 (t.a : Int), .int .u64 (t.b : Int), .int .u64 (t.c : Int), .int .u64 (t.d : Int)]] w fun e w' =>
    ∃ u : BSet, u = s.union t ∧ e = .returned (.agg #[.int .u64 (u.a : Int), .int .u64 (u.b : Int), .int .u64 (u.c : Int), .int .u64 (u.d : Int)]) ∧ Below w.heap.size w w' :=
  (join_any s t hs ht w).mono fun e w' h => ⟨_, rfl, h⟩

set_option maxHeartbeats 8000000 in
theorem brackets_any {base : Nat} {g : Tags} {w : World} {bp : Nat} {st : PSt} (h : PInv base g w bp st) (hs : st.Small) (hbase : base ≤ w.heap.size) (hp : st.pos < st.s.size) (hsz : st.s.size ≤ 100000)
    {R : BS} (hr : Brk st.s (brkFrom st.s st.pos) true .zero R) :
    Calls Try.prog 53 #[.pointer (some ⟨bp, 0, none⟩)] w (PPost base g w bp (st.brk (negAt st.s st.pos) R)) := by
  obtain ⟨x, hx⟩ := id h
  have c0 : w.cell? ⟨bp, 0, none⟩ = some (.string st.s) := by rw [cell_of_blk hx.blk]; rfl
  have c1 : w.cell? ⟨bp, 1, none⟩ = some (.int .i64 (st.pos : Int)) := by rw [cell_of_blk hx.blk]; rfl
  have hlb : bp < w.heap.size := (hx.tags _ _ hx.gp).2
  have hsm := hs.pos
  have hby := get_byte st.s
  have HH := Lib.hid h
  have HR := Lib.hid hr
  have HS := Lib.hid hs
  clear hx h hr hs
  obtain ⟨neg, hneg⟩ : ∃ b, negAt st.s st.pos = b := ⟨_, rfl⟩
  have hn3 : (¬ ((st.pos : Int) + 1 < (st.s.size : Int)) ∧ neg = false) ∨ ((st.pos : Int) + 1 < (st.s.size : Int) ∧ ((byte st.s (st.pos + 1) : Int) == 94) = neg) := by
    by_cases h1 : st.pos + 1 < st.s.size
    · refine .inr ⟨by omega, ?_⟩
      rw [← hneg]
      by_cases h2 : byte st.s (st.pos + 1) = 94
      · simp [negAt, h1, h2]
      · simp [negAt, h2]; omega
    · exact .inl ⟨by omega, by rw [← hneg]; simp [negAt, h1]⟩
  have hst0 : brkFrom st.s st.pos = st.pos + 1 + (if neg then 1 else 0) := by unfold brkFrom; rw [hneg]; cases neg <;> rfl
  rw [hneg]
  have HN := Lib.hid hneg
  have HST := Lib.hid hst0
  clear hneg hst0
  go_enter Try.func53, Try.ntmps53
  go_upto_region 1 with (fail)
  go_cut [3] from 22 to 37 (fun v wx => v = .bool neg ∧ wx = w)
  case first =>
    rcases hn3 with ⟨h1, rfl⟩ | ⟨h1, h2⟩
    · go_wp2_with (fail)
      go_meet
      exact ⟨rfl, rfl⟩
    · go_wp2_with (fail)
      go_meet
      exact ⟨by first | rw [h2] | rfl, rfl⟩
  case rest =>
  obtain ⟨rfl, rfl⟩ := hcut
  clear hn3
  go_upto_if 38 with (fail)
  go_cut [2] from 39 to 40 (fun v wx => v = .int .i64 ((brkFrom st.s st.pos : Nat) : Int) ∧ wx = wc)
  case first =>
    cases neg
    · go_wp2_with (fail)
      go_meet
      exact ⟨by rw [HST.out]; simp, rfl⟩
    · go_wp2_with (fail)
      go_meet
      exact ⟨by rw [HST.out]; simp, rfl⟩
  case rest =>
  obtain ⟨rfl, rfl⟩ := hcut
  go_wp2
  obtain ⟨w, hww⟩ : ∃ w, w = wc := ⟨_, rfl⟩
  subst hww
  have HC := Lib.hid (And.intro c0 c1)
  clear c0 c1
  go_loopg [2, 5] (st.s.size + 1 - brkFrom st.s st.pos) (fun m kv fv wr => ∃ (k : Nat) (f : Bool) (all : BSet), kv = .int .i64 (k : Int) ∧ fv = .bool f ∧ m = st.s.size + 1 - k ∧ (st.pos ≤ k ∧ k ≤ st.s.size + 1) ∧ BrkW w st.s k f all R wr)
  case atStart =>
    refine ⟨_, true, .zero, rfl, rfl, rfl, ?_, HR.out, BSet.zero_wf, heap_alloc_new w _, (Below.refl _ _).alloc (Nat.le_refl _) _⟩
    · rw [HST.out]; split <;> omega
  case round =>
    obtain ⟨k, f, all, rfl, rfl, hm, ⟨hlp, hk⟩, HW⟩ := hrel
    have hl1 : w.heap.size < wr.heap.size := (Array.getElem?_eq_some_iff.1 HW.box).1
    have hlr : bp < wr.heap.size := by omega
    have c0 : wr.cell? ⟨bp, 0, none⟩ = some (.string st.s) := (HW.bel.cell (p := ⟨bp, 0, none⟩) hlb).trans HC.out.1
    have c1 : wr.cell? ⟨bp, 1, none⟩ = some (.int .i64 (st.pos : Int)) := (HW.bel.cell (p := ⟨bp, 1, none⟩) hlb).trans HC.out.2
    have y0 : wr.cell? ⟨w.heap.size, 0, none⟩ = some (.int .u64 (all.a : Int)) := (cell_of_blk HW.box 0).trans rfl
    have y1 : wr.cell? ⟨w.heap.size, 1, none⟩ = some (.int .u64 (all.b : Int)) := (cell_of_blk HW.box 1).trans rfl
    have y2 : wr.cell? ⟨w.heap.size, 2, none⟩ = some (.int .u64 (all.c : Int)) := (cell_of_blk HW.box 2).trans rfl
    have y3 : wr.cell? ⟨w.heap.size, 3, none⟩ = some (.int .u64 (all.d : Int)) := (cell_of_blk HW.box 3).trans rfl
    have HWl := Lib.hid HW
    have HM := Lib.hid hm
    clear HW hm
    by_cases h1 : st.s.size ≤ k
    · have hres := HWl.out.brk.bad_eq (j := st.s.size) (by unfold brkStep; rw [if_pos h1])
      have t1 : (st.s.size : Int) ≤ (k : Int) := by omega
      go_wp2_with (go_at_call 61; refine (fail_any _ _ _).mono ?_; rintro e w' ⟨rfl, rfl⟩)
      exact ⟨rfl, rfl, HWl.out.bel.mono hbase⟩
    have hkl : k < st.s.size := by omega
    have t1 : ¬ (st.s.size : Int) ≤ (k : Int) := by omega
    by_cases h93 : byte st.s k = 93 ∧ f = false
    · have hres := HWl.out.brk.fin_eq (k' := k) (a' := all) (by unfold brkStep; rw [if_neg h1, if_pos h93])
      obtain ⟨h93, rfl⟩ := h93
      have HRES := Lib.hid hres
      clear hres
      have hw1 : IntKind.i64.wrap ((k : Int) + 1) = (k : Int) + 1 := IntWalk.i64_in _ (by omega)
      have hw2 : IntKind.i64.wrap ((k : Int) + 1 - (st.pos : Int)) = (k : Int) + 1 - (st.pos : Int) := IntWalk.i64_in _ (by omega)
      have hkp : ((k : Int) + 1 - (st.pos : Int)).toNat = k + 1 - st.pos := by omega
      cases neg
      · go_wp2
        go_region_with (go_at_call 58; refine (put_int HH.out (by exact ((HWl.out.bel.alloc (by omega) _).drew)) HS.out hbase (nd := .one all .zero) rfl (by omega) (by omega)).mono ?_; rintro e w4 ⟨rfl, hq⟩)
        all_goals
          have HQ := Lib.hid hq
          clear hq
          go_wp2
          go_end0
          rw [HRES.out]
          refine ⟨rfl, ?_⟩
          have hq := HQ.out
          rw [hkp] at hq
          exact hq
      · go_wp2_with (fail)
        refine (not_open all HWl.out.wf _).mono ?_
        rintro e w3 ⟨t, ht, rfl, hb3⟩
        have HT := Lib.hid ht
        have B3 : Below w.heap.size w w3 := (HWl.out.bel.alloc (by omega) _).trans (hb3.mono (by simp; omega))
        have hbx : w3.heap[wr.heap.size]? = some (.cells #[.int .u64 (all.a : Int), .int .u64 (all.b : Int), .int .u64 (all.c : Int), .int .u64 (all.d : Int), .int .u64 0, .int .u64 0, .int .u64 0, .int .u64 0] 124 (0, 0)) := (hb3.block _ (by simp)).trans (heap_alloc_new wr _)
        have x0 : w3.cell? ⟨wr.heap.size, 0, none⟩ = some (.int .u64 (all.a : Int)) := (cell_of_blk hbx 0).trans rfl
        have x1 : w3.cell? ⟨wr.heap.size, 1, none⟩ = some (.int .u64 (all.b : Int)) := (cell_of_blk hbx 1).trans rfl
        have x2 : w3.cell? ⟨wr.heap.size, 2, none⟩ = some (.int .u64 (all.c : Int)) := (cell_of_blk hbx 2).trans rfl
        have x3 : w3.cell? ⟨wr.heap.size, 3, none⟩ = some (.int .u64 (all.d : Int)) := (cell_of_blk hbx 3).trans rfl
        have x4 : w3.cell? ⟨wr.heap.size, 4, none⟩ = some (.int .u64 0) := (cell_of_blk hbx 4).trans rfl
        have x5 : w3.cell? ⟨wr.heap.size, 5, none⟩ = some (.int .u64 0) := (cell_of_blk hbx 5).trans rfl
        have x6 : w3.cell? ⟨wr.heap.size, 6, none⟩ = some (.int .u64 0) := (cell_of_blk hbx 6).trans rfl
        have x7 : w3.cell? ⟨wr.heap.size, 7, none⟩ = some (.int .u64 0) := (cell_of_blk hbx 7).trans rfl
        have f0 := free_of_blk hbx 0
        have f1 := free_of_blk hbx 1
        have f2 := free_of_blk hbx 2
        have f3 := free_of_blk hbx 3
        have f4 := free_of_blk hbx 4
        have f5 := free_of_blk hbx 5
        have f6 := free_of_blk hbx 6
        have f7 := free_of_blk hbx 7
        have lx : wr.heap.size < w3.heap.size := (Array.getElem?_eq_some_iff.1 hbx).1
        have e1 : w3.cell? ⟨bp, 1, none⟩ = some (.int .i64 (st.pos : Int)) := (B3.cell (p := ⟨bp, 1, none⟩) hlb).trans HC.out.2
        have lb3 : bp < w3.heap.size := by omega
        have HB3 := Lib.hid B3
        have HBX := Lib.hid hbx
        clear ht hb3 B3 hbx
        dsimp only
        go_wp2
        have hF : ((((((((w3.setCell ⟨wr.heap.size, 0, none⟩ (.int .u64 0)).setCell ⟨wr.heap.size, 1, none⟩ (.int .u64 0)).setCell ⟨wr.heap.size, 2, none⟩ (.int .u64 0)).setCell ⟨wr.heap.size, 3, none⟩ (.int .u64 0)).setCell ⟨wr.heap.size, 4, none⟩ (.int .u64 (t.a : Int))).setCell ⟨wr.heap.size, 5, none⟩ (.int .u64 (t.b : Int))).setCell ⟨wr.heap.size, 6, none⟩ (.int .u64 (t.c : Int))).setCell ⟨wr.heap.size, 7, none⟩ (.int .u64 (t.d : Int))).heap[wr.heap.size]? = some (.cells #[.int .u64 0, .int .u64 0, .int .u64 0, .int .u64 0, .int .u64 (t.a : Int), .int .u64 (t.b : Int), .int .u64 (t.c : Int), .int .u64 (t.d : Int)] 124 (0, 0)) := set8 w3 wr.heap.size _ _ _ _ _ _ _ _ _ _ _ _ _ _ _ _ 124 HBX.out
        have bF : Below w.heap.size w ((((((((w3.setCell ⟨wr.heap.size, 0, none⟩ (.int .u64 0)).setCell ⟨wr.heap.size, 1, none⟩ (.int .u64 0)).setCell ⟨wr.heap.size, 2, none⟩ (.int .u64 0)).setCell ⟨wr.heap.size, 3, none⟩ (.int .u64 0)).setCell ⟨wr.heap.size, 4, none⟩ (.int .u64 (t.a : Int))).setCell ⟨wr.heap.size, 5, none⟩ (.int .u64 (t.b : Int))).setCell ⟨wr.heap.size, 6, none⟩ (.int .u64 (t.c : Int))).setCell ⟨wr.heap.size, 7, none⟩ (.int .u64 (t.d : Int))) := ((((((((HB3.out.setCell (p := ⟨wr.heap.size, 0, none⟩) (Nat.le_of_lt hl1) (.int .u64 0)).setCell (p := ⟨wr.heap.size, 1, none⟩) (Nat.le_of_lt hl1) (.int .u64 0)).setCell (p := ⟨wr.heap.size, 2, none⟩) (Nat.le_of_lt hl1) (.int .u64 0)).setCell (p := ⟨wr.heap.size, 3, none⟩) (Nat.le_of_lt hl1) (.int .u64 0)).setCell (p := ⟨wr.heap.size, 4, none⟩) (Nat.le_of_lt hl1) (.int .u64 (t.a : Int))).setCell (p := ⟨wr.heap.size, 5, none⟩) (Nat.le_of_lt hl1) (.int .u64 (t.b : Int))).setCell (p := ⟨wr.heap.size, 6, none⟩) (Nat.le_of_lt hl1) (.int .u64 (t.c : Int))).setCell (p := ⟨wr.heap.size, 7, none⟩) (Nat.le_of_lt hl1) (.int .u64 (t.d : Int)))
        generalize ((((((((w3.setCell ⟨wr.heap.size, 0, none⟩ (.int .u64 0)).setCell ⟨wr.heap.size, 1, none⟩ (.int .u64 0)).setCell ⟨wr.heap.size, 2, none⟩ (.int .u64 0)).setCell ⟨wr.heap.size, 3, none⟩ (.int .u64 0)).setCell ⟨wr.heap.size, 4, none⟩ (.int .u64 (t.a : Int))).setCell ⟨wr.heap.size, 5, none⟩ (.int .u64 (t.b : Int))).setCell ⟨wr.heap.size, 6, none⟩ (.int .u64 (t.c : Int))).setCell ⟨wr.heap.size, 7, none⟩ (.int .u64 (t.d : Int))) = F at hF bF ⊢
        clear x0 x1 x2 x3 x4 x5 x6 x7 f0 f1 f2 f3 f4 f5 f6 f7 e1 lb3 lx
        have x0 : F.cell? ⟨wr.heap.size, 0, none⟩ = some (.int .u64 0) := (cell_of_blk hF 0).trans rfl
        have x1 : F.cell? ⟨wr.heap.size, 1, none⟩ = some (.int .u64 0) := (cell_of_blk hF 1).trans rfl
        have x2 : F.cell? ⟨wr.heap.size, 2, none⟩ = some (.int .u64 0) := (cell_of_blk hF 2).trans rfl
        have x3 : F.cell? ⟨wr.heap.size, 3, none⟩ = some (.int .u64 0) := (cell_of_blk hF 3).trans rfl
        have x4 : F.cell? ⟨wr.heap.size, 4, none⟩ = some (.int .u64 (t.a : Int)) := (cell_of_blk hF 4).trans rfl
        have x5 : F.cell? ⟨wr.heap.size, 5, none⟩ = some (.int .u64 (t.b : Int)) := (cell_of_blk hF 5).trans rfl
        have x6 : F.cell? ⟨wr.heap.size, 6, none⟩ = some (.int .u64 (t.c : Int)) := (cell_of_blk hF 6).trans rfl
        have x7 : F.cell? ⟨wr.heap.size, 7, none⟩ = some (.int .u64 (t.d : Int)) := (cell_of_blk hF 7).trans rfl
        have e1 : F.cell? ⟨bp, 1, none⟩ = some (.int .i64 (st.pos : Int)) := (bF.cell (p := ⟨bp, 1, none⟩) hlb).trans HC.out.2
        have HF := Lib.hid bF
        clear hF bF
        go_region_with (go_at_call 58; refine (put_int HH.out (by exact HF.out.drew) HS.out hbase (nd := .one .zero t) rfl (by omega) (by omega)).mono ?_; rintro e w4 ⟨rfl, hq⟩)
        all_goals
          have HQ := Lib.hid hq
          clear hq
          go_wp2
          go_end0
          rw [HRES.out]
          refine ⟨rfl, ?_⟩
          have hq := HQ.out
          rw [hkp, HT.out] at hq
          exact hq
    have hst1 : brkStep st.s k f all = (match memAt st.s k with
      | .bad j => .bad j
      | .item c cs single n =>
        if byte st.s k = 45 ∧ f = false ∧ lastAt st.s k = false then .bad k
        else if dashAt st.s (k + n) = true then brkRange st.s k all c single (k + n)
        else .on (k + n) (all.union (if single then BSet.zero.range c c else cs))) := by unfold brkStep; rw [if_neg h1, if_neg h93]
    have HST1 := Lib.hid hst1
    clear hst1
    go_upto_region 9 with (fail)
    go_cut [65] from 60 to 65 (fun v wx => v = .bool false ∧ wx = wr)
    case first =>
      by_cases e : byte st.s k = 93
      · cases f
        · exact absurd ⟨e, rfl⟩ h93
        · go_wp2_with (fail)
          go_meet
          exact ⟨rfl, rfl⟩
      · have b93 : ((byte st.s k : Int) == 93) = false := by simp; omega
        go_wp2_with (fail)
        go_meet
        exact ⟨rfl, rfl⟩
    case rest =>
    obtain ⟨hv, hw⟩ := hcut
    subst hv
    subst hw
    clear h93
    go_upto_region 10 with (fail)
    go_cut [6] from 75 to 83 (fun v wx => v = .bool (lastAt st.s k) ∧ wx = wc)
    case first =>
      rcases last_cases st.s k with ⟨q1, q2⟩ | ⟨q1, q2⟩
      · go_wp2_with (fail)
        go_meet
        exact ⟨by first | rfl | rw [q2], rfl⟩
      · go_wp2_with (fail)
        go_meet
        exact ⟨by first | rfl | rw [q2], rfl⟩
    case rest =>
    obtain ⟨hv, hw⟩ := hcut
    subst hv
    subst hw
    generalize hL : lastAt st.s k = L at *
    clear hL
    have hmem := member_any wc st.s bp k hkl (by omega) c0
    cases hme : memAt st.s k with
    | bad j =>
      have hres := HWl.out.brk.bad_eq (j := j) (by rw [HST1.out, hme])
      have HRES := Lib.hid hres
      rw [hme] at hmem
      have HME := Lib.hid hmem
      clear hres hmem hme
      go_wp2_with (fail)
      refine HME.out.mono ?_
      rintro e w1 ⟨rfl, hb⟩
      rw [HRES.out]
      exact ⟨rfl, rfl, (HWl.out.bel.trans (hb.mono (by omega))).mono hbase⟩
    | item c cs single n =>
      rw [hme] at hmem
      obtain ⟨hc256, hcswf, hn1, hn2, hkn⟩ := memAt_item hkl hme
      have hst2 := HST1.out
      rw [hme] at hst2
      simp only at hst2
      have HST2 := Lib.hid hst2
      have HME := Lib.hid hmem
      clear hmem hme HST1 hst2
      obtain ⟨nx, hnx⟩ : ∃ nx, k + n = nx := ⟨_, rfl⟩
      have hnxi : (k : Int) + (n : Int) = (nx : Int) := by omega
      have HNX := Lib.hid hnx
      go_wp2_with (fail)
      refine HME.out.mono ?_
      rintro e w1 ⟨rfl, hb1⟩
      dsimp only
      have hbA : Below w.heap.size w (w1.alloc (.cells #[.int .u64 (cs.a : Int), .int .u64 (cs.b : Int), .int .u64 (cs.c : Int), .int .u64 (cs.d : Int)] 97)) := (HWl.out.bel.trans (hb1.mono (by omega))).alloc (by have := hb1.size; omega) _
      have hA1 := heap_alloc_new w1 (.cells #[.int .u64 (cs.a : Int), .int .u64 (cs.b : Int), .int .u64 (cs.c : Int), .int .u64 (cs.d : Int)] 97)
      have hA0 : (w1.alloc (.cells #[.int .u64 (cs.a : Int), .int .u64 (cs.b : Int), .int .u64 (cs.c : Int), .int .u64 (cs.d : Int)] 97)).heap[w.heap.size]? = _ := (heap_alloc_old w1 _ (by have := hb1.size; omega)).trans ((hb1.block _ hl1).trans HWl.out.box)
      have hw1 : w.heap.size < w1.heap.size := by have := hb1.size; omega
      clear c0 c1 y0 y1 y2 y3 hb1
      go_upto_region 12 with (fail)
      generalize w1.alloc (.cells #[.int .u64 (cs.a : Int), .int .u64 (cs.b : Int), .int .u64 (cs.c : Int), .int .u64 (cs.d : Int)] 97) = A at *
      generalize hB1 : w1.heap.size = b1 at *
      clear hB1
      have c0 : A.cell? ⟨bp, 0, none⟩ = some (.string st.s) := (hbA.cell (p := ⟨bp, 0, none⟩) hlb).trans HC.out.1
      have c1 : A.cell? ⟨bp, 1, none⟩ = some (.int .i64 (st.pos : Int)) := (hbA.cell (p := ⟨bp, 1, none⟩) hlb).trans HC.out.2
      have hlA : b1 < A.heap.size := (Array.getElem?_eq_some_iff.1 hA1).1
      have hlA0 : w.heap.size < A.heap.size := (Array.getElem?_eq_some_iff.1 hA0).1
      have hlAb : bp < A.heap.size := by omega
      have y0 : A.cell? ⟨w.heap.size, 0, none⟩ = some (.int .u64 (all.a : Int)) := (cell_of_blk hA0 0).trans rfl
      have y1 : A.cell? ⟨w.heap.size, 1, none⟩ = some (.int .u64 (all.b : Int)) := (cell_of_blk hA0 1).trans rfl
      have y2 : A.cell? ⟨w.heap.size, 2, none⟩ = some (.int .u64 (all.c : Int)) := (cell_of_blk hA0 2).trans rfl
      have y3 : A.cell? ⟨w.heap.size, 3, none⟩ = some (.int .u64 (all.d : Int)) := (cell_of_blk hA0 3).trans rfl
      have x0 : A.cell? ⟨b1, 0, none⟩ = some (.int .u64 (cs.a : Int)) := (cell_of_blk hA1 0).trans rfl
      have x1 : A.cell? ⟨b1, 1, none⟩ = some (.int .u64 (cs.b : Int)) := (cell_of_blk hA1 1).trans rfl
      have x2 : A.cell? ⟨b1, 2, none⟩ = some (.int .u64 (cs.c : Int)) := (cell_of_blk hA1 2).trans rfl
      have x3 : A.cell? ⟨b1, 3, none⟩ = some (.int .u64 (cs.d : Int)) := (cell_of_blk hA1 3).trans rfl
      have HA0 := Lib.hid hA0
      have HA1 := Lib.hid hA1
      have HAB := Lib.hid hbA
      have hbrk := HWl.out.brk
      have hallwf := HWl.out.wf
      have HBRK := Lib.hid hbrk
      clear hA0 hA1 hbA HWl HME hbrk hl1 hlr
      go_cut [11] from 94 to 94 (fun v wx => v = .int .i64 (nx : Int) ∧ wx = A)
      case first =>
        go_wp2_with (fail)
        go_meet
        exact ⟨rfl, rfl⟩
      case rest =>
      obtain ⟨hv, hw⟩ := hcut
      subst hv
      subst hw
      clear hnxi
      go_upto_region 13 with (fail)
      go_cut [109] from 100 to 109 (fun v wx => v = .bool (decide (byte st.s k = 45 ∧ f = false ∧ L = false)) ∧ wx = wc)
      case first =>
        by_cases e : byte st.s k = 45
        · cases f
          · cases L
            · go_wp2_with (fail)
              go_meet
              exact ⟨by simp [e], rfl⟩
            · go_wp2_with (fail)
              go_meet
              exact ⟨by simp, rfl⟩
          · go_wp2_with (fail)
            go_meet
            exact ⟨by simp, rfl⟩
        · have b45 : ((byte st.s k : Int) == 45) = false := by simp; omega
          go_wp2_with (fail)
          go_meet
          exact ⟨by simp [e], rfl⟩
      case rest =>
      obtain ⟨hv, hw⟩ := hcut
      subst hw
      by_cases hd : byte st.s k = 45 ∧ f = false ∧ L = false
      · rw [decide_eq_true hd] at hv
        subst hv
        have hres := HBRK.out.bad_eq (j := k) (by rw [HST2.out, if_pos hd])
        have HRES := Lib.hid hres
        clear hres
        go_wp2_with (go_at_call 61; refine (fail_any _ _ _).mono ?_; rintro e w' ⟨rfl, rfl⟩)
        rw [HRES.out]
        exact ⟨rfl, rfl, HAB.out.mono hbase⟩
      rw [decide_eq_false hd] at hv
      subst hv
      have hst3 := HST2.out
      rw [if_neg hd, HNX.out] at hst3
      have HST3 := Lib.hid hst3
      clear hst3 HST2 hd
      go_upto_region 15 with (fail)
      go_cut [139] from 120 to 139 (fun v wx => v = .bool (dashAt st.s nx) ∧ wx = wc)
      case first =>
        have hnxs : nx ≤ 1000000 := by omega
        rcases dash_cases st.s nx with ⟨q1, q2⟩ | ⟨q1, q2, q3⟩ | ⟨q1, q2, q3⟩
        · go_wp2_with (fail)
          go_meet
          exact ⟨by first | rfl | rw [q2], rfl⟩
        · go_wp2_with (fail)
          go_meet
          exact ⟨by first | rfl | rw [q3], rfl⟩
        · cases hD : dashAt st.s nx
          · rw [hD] at q3
            have q4 : ((byte st.s (nx + 1) : Int) != 93) = false := by rw [bne, q3]; rfl
            go_wp2_with (fail)
            go_meet
            exact ⟨by rw [hD], rfl⟩
          · rw [hD] at q3
            have q4 : ((byte st.s (nx + 1) : Int) != 93) = true := by rw [bne, q3]; rfl
            go_wp2_with (fail)
            go_meet
            exact ⟨by rw [hD], rfl⟩
      case rest =>
      obtain ⟨hv, hw⟩ := hcut
      subst hw
      have z0 := free_of_blk HA0.out 0
      have z1 := free_of_blk HA0.out 1
      have z2 := free_of_blk HA0.out 2
      have z3 := free_of_blk HA0.out 3
      cases hD : dashAt st.s nx with
      | false =>
        rw [hD] at hv
        subst hv
        have hst4 := HST3.out
        rw [if_neg (by rw [hD]; simp)] at hst4
        have HST4 := Lib.hid hst4
        clear hst4 HST3 hD
        cases single
        · go_wp2_with (fail)
          refine (join_open all cs hallwf hcswf _).mono ?_
          rintro e w2 ⟨u, hu, rfl, hb2⟩
          dsimp only
          have HB2 := Lib.hid hb2
          have HU := Lib.hid hu
          have g0 := (hb2.frozen (p := ⟨w.heap.size, 0, none⟩) hlA0).trans z0
          have g1 := (hb2.frozen (p := ⟨w.heap.size, 1, none⟩) hlA0).trans z1
          have g2 := (hb2.frozen (p := ⟨w.heap.size, 2, none⟩) hlA0).trans z2
          have g3 := (hb2.frozen (p := ⟨w.heap.size, 3, none⟩) hlA0).trans z3
          have v0 := (hb2.cell (p := ⟨w.heap.size, 0, none⟩) hlA0).trans y0
          have v1 := (hb2.cell (p := ⟨w.heap.size, 1, none⟩) hlA0).trans y1
          have v2 := (hb2.cell (p := ⟨w.heap.size, 2, none⟩) hlA0).trans y2
          have v3 := (hb2.cell (p := ⟨w.heap.size, 3, none⟩) hlA0).trans y3
          clear hb2 hu x0 x1 x2 x3 y0 y1 y2 y3 z0 z1 z2 z3 c0 c1
          go_wp2
          go_roundg (st.s.size + 1 - nx)
          case measure => rw [HM.out]; have := HNX.out; omega
          case rel =>
            refine ⟨nx, false, u, rfl, rfl, rfl, by have := HNX.out; omega, ?_⟩
            have hbk := HBRK.out.on_eq HST4.out
            simp only [Bool.false_eq_true, if_false] at hbk
            rw [← HU.out] at hbk
            exact BrkW.store hbk (by rw [HU.out]; exact hallwf.union hcswf) HA0.out HAB.out hlA0 HB2.out
        · go_wp2_with (fail)
          refine (with_open zero_val BSet.zero_wf (by omega) (by omega) (by omega) (by omega) _).mono ?_
          rintro e w2 ⟨t, ht, htw, rfl, hb2⟩
          dsimp only
          have HB2 := Lib.hid hb2
          have HT := Lib.hid ht
          have hbx1 := (hb2.block _ hlA).trans HA1.out
          have g0 := free_of_blk hbx1 0
          have g1 := free_of_blk hbx1 1
          have g2 := free_of_blk hbx1 2
          have g3 := free_of_blk hbx1 3
          have v0 : w2.cell? ⟨b1, 0, none⟩ = some (.int .u64 (cs.a : Int)) := (cell_of_blk hbx1 0).trans rfl
          have v1 : w2.cell? ⟨b1, 1, none⟩ = some (.int .u64 (cs.b : Int)) := (cell_of_blk hbx1 1).trans rfl
          have v2 : w2.cell? ⟨b1, 2, none⟩ = some (.int .u64 (cs.c : Int)) := (cell_of_blk hbx1 2).trans rfl
          have v3 : w2.cell? ⟨b1, 3, none⟩ = some (.int .u64 (cs.d : Int)) := (cell_of_blk hbx1 3).trans rfl
          have HX1 := Lib.hid hbx1
          clear hb2 ht hbx1 x0 x1 x2 x3 y0 y1 y2 y3 z0 z1 z2 z3 c0 c1
          go_upto_region 27 with (fail)
          have hF1 : (fill4 w2 b1 (.int .u64 (t.a : Int)) (.int .u64 (t.b : Int)) (.int .u64 (t.c : Int)) (.int .u64 (t.d : Int))).heap[b1]? = some (.cells #[.int .u64 (t.a : Int), .int .u64 (t.b : Int), .int .u64 (t.c : Int), .int .u64 (t.d : Int)] 97 (0, 0)) := fill4_same _ _ _ _ _ _ _ _ _ _ _ HX1.out
          have hF0 : (fill4 w2 b1 (.int .u64 (t.a : Int)) (.int .u64 (t.b : Int)) (.int .u64 (t.c : Int)) (.int .u64 (t.d : Int))).heap[w.heap.size]? = _ := (fill4_other _ _ _ _ _ _ _ (by omega)).trans ((HB2.out.block _ hlA0).trans HA0.out)
          have hFb : Below w.heap.size w (fill4 w2 b1 (.int .u64 (t.a : Int)) (.int .u64 (t.b : Int)) (.int .u64 (t.c : Int)) (.int .u64 (t.d : Int))) := set4_below (HAB.out.trans (HB2.out.mono (by omega))) (by omega)
          clear g0 g1 g2 g3 v0 v1 v2 v3
          change Code.wp _ _ _ _ (fill4 w2 b1 (.int .u64 (t.a : Int)) (.int .u64 (t.b : Int)) (.int .u64 (t.c : Int)) (.int .u64 (t.d : Int)))
          generalize fill4 w2 b1 (.int .u64 (t.a : Int)) (.int .u64 (t.b : Int)) (.int .u64 (t.c : Int)) (.int .u64 (t.d : Int)) = F at hF1 hF0 hFb ⊢
          have hlF0 : w.heap.size < F.heap.size := (Array.getElem?_eq_some_iff.1 hF0).1
          have z0 := free_of_blk hF0 0
          have z1 := free_of_blk hF0 1
          have z2 := free_of_blk hF0 2
          have z3 := free_of_blk hF0 3
          have y0 : F.cell? ⟨w.heap.size, 0, none⟩ = some (.int .u64 (all.a : Int)) := (cell_of_blk hF0 0).trans rfl
          have y1 : F.cell? ⟨w.heap.size, 1, none⟩ = some (.int .u64 (all.b : Int)) := (cell_of_blk hF0 1).trans rfl
          have y2 : F.cell? ⟨w.heap.size, 2, none⟩ = some (.int .u64 (all.c : Int)) := (cell_of_blk hF0 2).trans rfl
          have y3 : F.cell? ⟨w.heap.size, 3, none⟩ = some (.int .u64 (all.d : Int)) := (cell_of_blk hF0 3).trans rfl
          have x0 : F.cell? ⟨b1, 0, none⟩ = some (.int .u64 (t.a : Int)) := (cell_of_blk hF1 0).trans rfl
          have x1 : F.cell? ⟨b1, 1, none⟩ = some (.int .u64 (t.b : Int)) := (cell_of_blk hF1 1).trans rfl
          have x2 : F.cell? ⟨b1, 2, none⟩ = some (.int .u64 (t.c : Int)) := (cell_of_blk hF1 2).trans rfl
          have x3 : F.cell? ⟨b1, 3, none⟩ = some (.int .u64 (t.d : Int)) := (cell_of_blk hF1 3).trans rfl
          have HF0 := Lib.hid hF0
          have HFB := Lib.hid hFb
          clear hF0 hF1 hFb
          go_wp2_with (fail)
          refine (join_open all t hallwf htw _).mono ?_
          rintro e w3 ⟨u, hu, rfl, hb3⟩
          dsimp only
          have HB3 := Lib.hid hb3
          have HU := Lib.hid hu
          have g0 := (hb3.frozen (p := ⟨w.heap.size, 0, none⟩) hlF0).trans z0
          have g1 := (hb3.frozen (p := ⟨w.heap.size, 1, none⟩) hlF0).trans z1
          have g2 := (hb3.frozen (p := ⟨w.heap.size, 2, none⟩) hlF0).trans z2
          have g3 := (hb3.frozen (p := ⟨w.heap.size, 3, none⟩) hlF0).trans z3
          have v0 := (hb3.cell (p := ⟨w.heap.size, 0, none⟩) hlF0).trans y0
          have v1 := (hb3.cell (p := ⟨w.heap.size, 1, none⟩) hlF0).trans y1
          have v2 := (hb3.cell (p := ⟨w.heap.size, 2, none⟩) hlF0).trans y2
          have v3 := (hb3.cell (p := ⟨w.heap.size, 3, none⟩) hlF0).trans y3
          clear hb3 hu x0 x1 x2 x3 y0 y1 y2 y3 z0 z1 z2 z3
          go_wp2
          go_roundg (st.s.size + 1 - nx)
          case measure => rw [HM.out]; have := HNX.out; omega
          case rel =>
            refine ⟨nx, false, u, rfl, rfl, rfl, by have := HNX.out; omega, ?_⟩
            have hbk := HBRK.out.on_eq HST4.out
            simp only [if_true] at hbk
            have ht := HT.out
            simp only [Int.toNat_natCast] at ht
            rw [← ht, ← HU.out] at hbk
            exact BrkW.store hbk (by rw [HU.out]; exact hallwf.union htw) HF0.out HFB.out hlF0 HB3.out
      | true =>
        rw [hD] at hv
        subst hv
        have hst4 := HST3.out
        rw [if_pos hD] at hst4
        unfold brkRange at hst4
        have hdl := dashAt_lt hD
        clear HST3 hD
        cases single
        · rw [if_pos rfl] at hst4
          have HRES := Lib.hid (HBRK.out.bad_eq hst4)
          clear hst4
          go_wp2_with (go_at_call 61; refine (fail_any _ _ _).mono ?_; rintro e w' ⟨rfl, rfl⟩)
          rw [HRES.out]
          exact ⟨rfl, rfl, HAB.out.mono hbase⟩
        rw [if_neg (by simp)] at hst4
        cases hme : memAt st.s (nx + 1) with
        | bad j =>
          rw [hme] at hst4
          have HRES := Lib.hid (HBRK.out.bad_eq hst4)
          have HME := Lib.hid hme
          clear hst4 hme
          go_wp2_with (fail)
          refine (member_int wc st.s bp (by omega) hdl (by omega) c0 HME.out).mono ?_
          rintro e w2 ⟨rfl, hb⟩
          rw [HRES.out]
          exact ⟨rfl, rfl, (HAB.out.trans (hb.mono (by omega))).mono hbase⟩
        | item d ds too m =>
          rw [hme] at hst4
          simp only at hst4
          obtain ⟨hd256, hdswf, hm1, hm2, hkm⟩ := memAt_item hdl hme
          have HME := Lib.hid hme
          have HST5 := Lib.hid hst4
          clear hst4 hme
          go_wp2_with (fail)
          refine (member_int wc st.s bp (by omega) hdl (by omega) c0 HME.out).mono ?_
          rintro e w2 ⟨rfl, hb2⟩
          dsimp only
          have hbA : Below wc.heap.size wc (w2.alloc (.cells #[.int .u64 (ds.a : Int), .int .u64 (ds.b : Int), .int .u64 (ds.c : Int), .int .u64 (ds.d : Int)] 97)) := hb2.alloc hb2.size _
          clear hb2 x0 x1 x2 x3
          go_upto_region 19 with (fail)
          generalize w2.alloc (.cells #[.int .u64 (ds.a : Int), .int .u64 (ds.b : Int), .int .u64 (ds.c : Int), .int .u64 (ds.d : Int)] 97) = F at hbA ⊢
          generalize w2.heap.size = b2
          have HFA := Lib.hid hbA
          have q0 := (hbA.cell (p := ⟨w.heap.size, 0, none⟩) hlA0).trans y0
          have q1 := (hbA.cell (p := ⟨w.heap.size, 1, none⟩) hlA0).trans y1
          have q2 := (hbA.cell (p := ⟨w.heap.size, 2, none⟩) hlA0).trans y2
          have q3 := (hbA.cell (p := ⟨w.heap.size, 3, none⟩) hlA0).trans y3
          have p0 := (hbA.frozen (p := ⟨w.heap.size, 0, none⟩) hlA0).trans z0
          have p1 := (hbA.frozen (p := ⟨w.heap.size, 1, none⟩) hlA0).trans z1
          have p2 := (hbA.frozen (p := ⟨w.heap.size, 2, none⟩) hlA0).trans z2
          have p3 := (hbA.frozen (p := ⟨w.heap.size, 3, none⟩) hlA0).trans z3
          have hlF0 : w.heap.size < F.heap.size := by have := hbA.size; omega
          clear hbA y0 y1 y2 y3 z0 z1 z2 z3 c0 c1
          cases too
          · have hst6 := HST5.out
            rw [if_pos rfl] at hst6
            have HRES := Lib.hid (HBRK.out.bad_eq hst6)
            clear hst6
            go_wp2_with (go_at_call 61; refine (fail_any _ _ _).mono ?_; rintro e w' ⟨rfl, rfl⟩)
            rw [HRES.out]
            exact ⟨rfl, by simp [wrongAt], (HAB.out.trans (HFA.out.mono (by omega))).mono hbase⟩
          by_cases hdc : d < c
          · have hst6 := HST5.out
            rw [if_neg (by simp), if_pos hdc] at hst6
            have HRES := Lib.hid (HBRK.out.bad_eq hst6)
            have hdci : (d : Int) < (c : Int) := by omega
            clear hst6
            go_wp2_with (go_at_call 61; refine (fail_any _ _ _).mono ?_; rintro e w' ⟨rfl, rfl⟩)
            rw [HRES.out]
            exact ⟨rfl, rfl, (HAB.out.trans (HFA.out.mono (by omega))).mono hbase⟩
          have hst6 := HST5.out
          rw [if_neg (by simp), if_neg hdc] at hst6
          have HST6 := Lib.hid hst6
          have hdci : ¬ (d : Int) < (c : Int) := by omega
          clear hst6 HST5 hdc
          go_wp2_with (fail)
          refine (with_open (v := .agg #[.int .u64 (all.a : Int), .int .u64 (all.b : Int), .int .u64 (all.c : Int), .int .u64 (all.d : Int)]) rfl hallwf (by omega) (by omega) (by omega) (by omega) _).mono ?_
          rintro e w3 ⟨t, ht, htw, rfl, hb3⟩
          dsimp only
          have HB3 := Lib.hid hb3
          have HT := Lib.hid ht
          have g0 := (hb3.frozen (p := ⟨w.heap.size, 0, none⟩) hlF0).trans p0
          have g1 := (hb3.frozen (p := ⟨w.heap.size, 1, none⟩) hlF0).trans p1
          have g2 := (hb3.frozen (p := ⟨w.heap.size, 2, none⟩) hlF0).trans p2
          have g3 := (hb3.frozen (p := ⟨w.heap.size, 3, none⟩) hlF0).trans p3
          have v0 := (hb3.cell (p := ⟨w.heap.size, 0, none⟩) hlF0).trans q0
          have v1 := (hb3.cell (p := ⟨w.heap.size, 1, none⟩) hlF0).trans q1
          have v2 := (hb3.cell (p := ⟨w.heap.size, 2, none⟩) hlF0).trans q2
          have v3 := (hb3.cell (p := ⟨w.heap.size, 3, none⟩) hlF0).trans q3
          clear hb3 ht q0 q1 q2 q3 p0 p1 p2 p3
          go_wp2
          go_roundg (st.s.size + 1 - (nx + 1 + m))
          case measure => rw [HM.out]; have := HNX.out; omega
          case rel =>
            refine ⟨nx + 1 + m, false, t, by go_num, rfl, rfl, by omega, ?_⟩
            have hbk := HBRK.out.on_eq HST6.out
            have ht := HT.out
            simp only [Int.toNat_natCast] at ht
            rw [← ht] at hbk
            exact BrkW.store hbk htw ((HFA.out.block _ hlA0).trans HA0.out) (HAB.out.trans (HFA.out.mono (by omega))) hlF0 HB3.out

end Go.Proofs.Ytfgghbideoehjaa
