/-
  The machine at any program, as a plain function: places, looks ahead, back references, and what groups that are referred to have.
-/
import Derived.Test.YtfgghbideoehjaaGmO
namespace Go.Proofs.Ytfgghbideoehjaa
open Go.ChangeShapes Go.WideShapes Go.ChangeAt Go.RowKit
set_option linter.unusedVariables false
set_option linter.unusedSimpArgs false
set_option maxRecDepth 100000

/-- Two bytes of a number from -1 on. -/
def lowB (x : Int) : UInt8 := ((x + 1).toNat % 256).toUInt8
def highB (x : Int) : UInt8 := ((x + 1).toNat / 256 % 256).toUInt8
/-- What groups that are referred to have, as a text. -/
def refText : List Bool → List Int → List UInt8
  | [], _ => []
  | b :: r, a :: c :: gs => (if b = true then [lowB a, highB a, lowB c, highB c] else []) ++ refText r gs
  | _ :: _, _ => []

abbrev Key := Nat × Nat × List UInt8

/-- What is tried. -/
structure Gt where
  pc : Nat
  pos : Nat
  gs : List Int
  ms : List Int

inductive GR where
  | on (t : Gt) (l : List Gt) (tr : List Key)
  | off (l : List Gt) (tr : List Key)
  | hit (gs : List Int) (tr : List Key)
  | bad

/-- A machine's own data. -/
structure Mc where
  prog : List Ins
  s : ByteArray
  refs : List Bool
  marks : Nat
  fold : Bool
  lines : Bool

def wordB (c : Nat) : Bool := (97 ≤ c && c ≤ 122 || 65 ≤ c && c ≤ 90) || (48 ≤ c && c ≤ 57) || c == 95
/-- Whether a place is there. -/
def placeP (lines : Bool) (s : ByteArray) (kind pos : Nat) : Bool :=
  if kind = 94 then !decide (0 < pos) || (lines && byte s (pos - 1) == 10)
  else if kind = 36 then !decide (pos < s.size) || (lines && byte s pos == 10)
  else (decide (0 < pos) && wordB (byte s (pos - 1))) != (decide (pos < s.size) && wordB (byte s pos))

def lowerB (c : UInt8) : UInt8 := if 65 ≤ c ∧ c ≤ 90 then c + 32 else c
/-- A text with small letters. -/
def lowerT (s : ByteArray) : ByteArray := ⟨s.data.map lowerB⟩
/-- Whether two texts are alike. -/
def alikeT (fold : Bool) (a b : ByteArray) : Bool := a == b || (fold && lowerT a == lowerT b)

/-- Whether a text of the groups can be made. -/
def keyOk (r : List Bool) (gs : List Int) : Bool := decide (2 * r.length ≤ gs.length) && gs.all (fun v => decide (-1 ≤ v) && decide (v ≤ 60000))

/-- One instruction; lk tells what looks ahead answer. -/
def Gt.step (M : Mc) (lk : Nat → Nat → Option Bool) (whole : Bool) (t : Gt) (l : List Gt) (tr : List Key) : GR :=
  match M.prog[t.pc]? with
  | none => .bad
  | some x =>
    if x.op = 0 then (if t.pos < M.s.size ∧ x.set.has (byte M.s t.pos) = true then .on { t with pc := t.pc + 1, pos := t.pos + 1 } l tr else .off l tr)
    else if x.op = 3 then (if keyOk M.refs t.gs = false then .bad else if tr.contains (t.pc, t.pos, refText M.refs t.gs) = true then .off l tr else if l.length < 200000000 then .on { t with pc := x.a } ({ t with pc := x.b } :: l) (tr ++ [(t.pc, t.pos, refText M.refs t.gs)]) else .bad)
    else if x.op = 4 then (if keyOk M.refs t.gs = false then .bad else if tr.contains (t.pc, t.pos, refText M.refs t.gs) = true then .off l tr else .on { t with pc := x.a } l (tr ++ [(t.pc, t.pos, refText M.refs t.gs)]))
    else if x.op = 5 then (if x.a < t.gs.length then .on { t with pc := t.pc + 1, gs := t.gs.set x.a t.pos } l tr else .bad)
    else if x.op = 6 then (if x.a < t.ms.length then .on { t with pc := t.pc + 1, ms := t.ms.set x.a t.pos } l tr else .bad)
    else if x.op = 7 then (match t.ms[x.a]? with | none => .bad | some m => if m < t.pos then .on { t with pc := t.pc + 1 } l tr else .off l tr)
    else if x.op = 9 then (if whole = false ∨ t.pos = M.s.size then (if 1 < t.gs.length then .hit (t.gs.set 1 t.pos) tr else .bad) else .off l tr)
    else if x.op = 1 then (if placeP M.lines M.s x.kind t.pos = true then .on { t with pc := t.pc + 1 } l tr else .off l tr)
    else if x.op = 2 then (match lk x.a t.pos with | none => .bad | some b => if b = decide (x.b = 0) then .on { t with pc := t.pc + 1 } l tr else .off l tr)
    else if x.op = 8 then
      (if keyOk M.refs t.gs = false then .bad else match t.gs[2 * x.a]?, t.gs[2 * x.a + 1]? with
        | some f, some e =>
          if 0 ≤ e ∧ f ≤ e ∧ (t.pos : Int) + e - f ≤ M.s.size then
            (if f < 0 ∨ (M.s.size : Int) < e then .bad
            else if alikeT M.fold (M.s.extract f.toNat e.toNat) (M.s.extract t.pos (t.pos + (e.toNat - f.toNat))) = true then .on { t with pc := t.pc + 1, pos := t.pos + (e.toNat - f.toNat) } l tr else .off l tr)
          else .off l tr
        | _, _ => .bad)
    else .bad

/-- The machine's run. -/
def grun (M : Mc) (lk : Nat → Nat → Option Bool) (whole : Bool) : Nat → Option Gt → List Gt → List Key → Option (Option (List Int) × List Key)
  | 0, _, _, _ => none
  | n + 1, none, [], tr => some (none, tr)
  | n + 1, none, t :: l, tr => grun M lk whole n (some t) l tr
  | n + 1, some t, l, tr =>
    match t.step M lk whole l tr with
    | .on t l tr => grun M lk whole n (some t) l tr
    | .off l tr => grun M lk whole n none l tr
    | .hit gs tr => some (some gs, tr)
    | .bad => none

/-- The groups that from begins with, as far as the loop has come. -/
def fillG (n j : Nat) : List Int := List.replicate j (-1) ++ List.replicate (n - j) 0

/-- The first state from an instruction and an index. -/
def Gt.first (groups marks pc at_ : Nat) : Gt := ⟨pc, at_, (fillG (2 * groups + 2) (2 * groups + 2)).set 0 at_, List.replicate marks 0⟩

/-- The machine of a look ahead. -/
def Mc.sub (M : Mc) : Mc := { M with refs := [] }

open Classical in
/-- What looks ahead answer, as far as d of them lie in one another. -/
noncomputable def lkD (M : Mc) : Nat → Nat → Nat → Option Bool
  | 0, _, _ => none
  | d + 1, pc, at_ => if h : ∃ k res, grun M.sub (lkD M d) false k none [Gt.first 0 M.marks pc at_] [] = some res then some (Classical.choose (Classical.choose_spec h)).1.isSome else none

theorem lkD_some {M : Mc} {d pc at_ : Nat} {b : Bool} (h : lkD M (d + 1) pc at_ = some b) : ∃ k res, grun M.sub (lkD M d) false k none [Gt.first 0 M.marks pc at_] [] = some res ∧ b = res.1.isSome := by
  unfold lkD at h
  split at h
  · rename_i h1
    cases h
    exact ⟨_, _, Classical.choose_spec (Classical.choose_spec h1), rfl⟩
  · cases h
theorem lkD_ends {M : Mc} {d pc at_ : Nat} (h : ∃ k res, grun M.sub (lkD M d) false k none [Gt.first 0 M.marks pc at_] [] = some res) : ∃ b, lkD M (d + 1) pc at_ = some b := by
  unfold lkD
  rw [dif_pos h]
  exact ⟨_, rfl⟩

/-- What found finds from an index on. -/
inductive GFound (M : Mc) (lk : Nat → Nat → Option Bool) (groups : Nat) : Nat → List Key → Option (List Int) → Prop where
  | stop {a : Nat} {tr : List Key} (h : M.s.size < a) : GFound M lk groups a tr none
  | hit {a k : Nat} {tr tr' : List Key} {gs : List Int} (h : a ≤ M.s.size) (hr : grun M lk false k none [Gt.first groups M.marks 0 a] tr = some (some gs, tr')) (hl : gs.length = 2 * groups + 2) : GFound M lk groups a tr (some gs)
  | miss {a k : Nat} {tr tr' : List Key} {res : Option (List Int)} (h : a ≤ M.s.size) (hr : grun M lk false k none [Gt.first groups M.marks 0 a] tr = some (none, tr')) (hn : GFound M lk groups (a + 1) tr' res) : GFound M lk groups a tr res

/-- The equations are made here, once: texts that do not import one another would each make them. -/
theorem eqs_made : True := by
  have := @Gt.step.eq_def
  have := @Gt.step.eq_1
  have := @grun.eq_def
  have := @grun.eq_1
  have := @grun.eq_2
  have := @grun.eq_3
  have := @grun.eq_4
  have := @refText.eq_def
  have := @refText.eq_1
  have := @refText.eq_2
  have := @refText.eq_3
  have := @keyOk.eq_def
  have := @keyOk.eq_1
  have := @placeP.eq_def
  have := @placeP.eq_1
  have := @alikeT.eq_def
  have := @alikeT.eq_1
  have := @lowerT.eq_def
  have := @lowerT.eq_1
  have := @lowerB.eq_def
  have := @lowerB.eq_1
  have := @lowB.eq_def
  have := @lowB.eq_1
  have := @highB.eq_def
  have := @highB.eq_1
  have := @Gt.first.eq_def
  have := @Gt.first.eq_1
  have := @fillG.eq_def
  have := @fillG.eq_1
  have := @Mc.sub.eq_def
  have := @Mc.sub.eq_1
  have := @wordB.eq_def
  have := @wordB.eq_1
  trivial

end Go.Proofs.Ytfgghbideoehjaa
