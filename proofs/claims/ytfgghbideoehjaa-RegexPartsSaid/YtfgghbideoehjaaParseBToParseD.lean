/-
  The parser: what a step's outcome is; fail; a state in a later world.
  The parser: escape.
  The parser: whole.
-/
import Derived.Test.YtfgghbideoehjaaMemToParseA
import Derived.Test.YtfgghbideoehjaaSetAToSetC
import Derived.Deep.RegionLaw
namespace Go.Proofs.Ytfgghbideoehjaa
open Go.ChangeShapes Go.WideShapes Go.ChangeAt Go.RowKit
set_option linter.unusedVariables false
set_option maxRecDepth 100000

/-- Byte k of a string; 0 behind its end. -/
def byte (s : ByteArray) (k : Nat) : Nat := if h : k < s.size then (s[k]'h).toNat else 0
theorem get_byte (s : ByteArray) : ∀ (n : Nat) (h : n < s.size), ((s[n]'h).toNat : Int) = (byte s n : Int) := fun n h => by unfold byte; rw [dif_pos h]
theorem byte_lt (s : ByteArray) (k : Nat) : byte s k < 256 := by
  unfold byte; split
  · exact (s[k]).toNat_lt
  · decide

/-- A step's outcome: a state, or the place at which a pattern is wrong. -/
inductive PR where
  | ok (st : PSt)
  | bad (k : Nat)

def wrongAt (k : Nat) : Ending := .panicked [{ v := .iface 115 (.int .i64 (k : Int)), recovered := false }]

def PPost (base : Nat) (g : Tags) (w : World) (bp : Nat) (r : PR) (e : Ending) (w' : World) : Prop :=
  match r with
  | .ok st' => e = .returned (.tuple #[]) ∧ ∃ g', PInv base g' w' bp st' ∧ Keeps base g w g' w'
  | .bad k => e = wrongAt k ∧ Below base w w'

theorem PAt.ext {base : Nat} {g : Tags} {w w1 : World} {bp : Nat} {st : PSt} {x : PV} (h : PAt base g w bp st x) (hb : Below w.heap.size w w1) : PAt base g w1 bp st x := by
  have ag : ∀ b t, g b = some t → w1.heap[b]? = w.heap[b]? := fun b t ht => hb.block b (h.tags b t ht).2
  exact {
    tags := fun b t ht => by have := h.tags b t ht; have := hb.size; omega
    gp := h.gp
    blk := (ag _ _ h.gp).trans h.blk
    gob := h.gob
    opn := (ag _ _ h.gob).trans h.opn
    cap1 := h.cap1
    cap2 := h.cap2
    cap3 := h.cap3
    refs := ownsRow_agree h.refs fun j hj => ag _ _ (h.grefs j hj)
    grefs := h.grefs
    low := h.low.agree 0 _ _ fun b hb => ⟨by rcases hb with hb | ⟨j, _, _, hb | hb⟩ <;> exact ag _ _ hb, rfl⟩
    top := h.top.agree fun b hb => ⟨by rcases hb with hb | hb | hb <;> exact ag _ _ hb, rfl⟩ }

theorem PInv.ext {base : Nat} {g : Tags} {w w1 : World} {bp : Nat} {st : PSt} (h : PInv base g w bp st) (hb : Below w.heap.size w w1) : PInv base g w1 bp st :=
  let ⟨x, h⟩ := h; ⟨x, h.ext hb⟩

theorem Keeps.ext {base : Nat} {g g' : Tags} {w w1 w' : World} {bp : Nat} {st : PSt} (h : PInv base g w bp st) (hbase : base ≤ w.heap.size) (hb : Below w.heap.size w w1) (k : Keeps base g w1 g' w') : Keeps base g w g' w' :=
  let ⟨x, h⟩ := h
  ⟨fun b hg => ⟨(k.tree b hg).1, (k.tree b hg).2.trans (hb.block b (h.tags b _ hg).2)⟩, (hb.mono hbase).trans k.below⟩

set_option maxHeartbeats 400000 in
theorem fail_any (p : Value) (k : Int) (w : World) : Calls Try.prog 61 #[p, .int .i64 k] w fun e w' => e = .panicked [{ v := .iface 115 (.int .i64 k), recovered := false }] ∧ w = w' := by
  go_enter Try.func61, Try.ntmps61
  go_wp2
  exact ⟨rfl, rfl, rfl⟩

end Go.Proofs.Ytfgghbideoehjaa

namespace Go.Proofs.Ytfgghbideoehjaa
open Go.ChangeShapes Go.WideShapes Go.ChangeAt Go.RowKit
set_option linter.unusedVariables false
set_option maxRecDepth 100000

def PSt.esc (st : PSt) : PR :=
  if st.pos + 1 = st.s.size then .bad st.s.size else
  match classOf (byte st.s (st.pos + 1)) with
  | some s => .ok (st.put (.one s .zero) true 2)
  | none =>
    match (if 65 ≤ byte st.s (st.pos + 1) ∧ byte st.s (st.pos + 1) ≤ 90 then classOf (byte st.s (st.pos + 1) + 32) else none) with
    | some s => .ok (st.put (.one .zero s.not) true 2)
    | none =>
      if (plainOf (byte st.s (st.pos + 1))).2 then
        .ok (st.put (.one (BSet.zero.range (plainOf (byte st.s (st.pos + 1))).1 (plainOf (byte st.s (st.pos + 1))).1) .zero) true 2)
      else if byte st.s (st.pos + 1) = 121 then .ok (st.put (.place 121) false 2)
      else if 49 ≤ byte st.s (st.pos + 1) ∧ byte st.s (st.pos + 1) ≤ 57 ∧ byte st.s (st.pos + 1) - 48 ≤ st.begun ∧ st.looks = 0 then
        .ok (({ st with refs := st.refs.set (byte st.s (st.pos + 1) - 48) true } : PSt).put (.back (byte st.s (st.pos + 1) - 48)) true 2)
      else .bad st.pos

theorem below_drewN {B : Nat} {w w1 : World} (h : Below B w w1) (n : Nat) : Below B w (w1.drewN n) := ⟨h.os, h.tape, h.output, h.size, h.block⟩
theorem below_undrewN {B : Nat} {w w1 : World} {n : Nat} (h : Below B (w.drewN n) w1) : Below B w w1 := ⟨h.os, h.tape, h.output, h.size, h.block⟩

set_option maxHeartbeats 400000 in
theorem esc_end {base : Nat} {g : Tags} {w : World} {bp : Nat} {st : PSt} (h : PInv base g w bp st) (hs : st.Small) (hbase : base ≤ w.heap.size) (hp : st.pos < st.s.size) (h1 : st.pos + 1 = st.s.size) :
    Calls Try.prog 52 #[.pointer (some ⟨bp, 0, none⟩)] w fun e w' => e = wrongAt st.s.size ∧ Below base w w' := by
  obtain ⟨x, hx⟩ := h
  have c0 : w.cell? ⟨bp, 0, none⟩ = some (.string st.s) := by rw [cell_of_blk hx.blk]; rfl
  have c1 : w.cell? ⟨bp, 1, none⟩ = some (.int .i64 (st.pos : Int)) := by rw [cell_of_blk hx.blk]; rfl
  have hsm := hs.pos
  have t1 : ((st.pos : Int) + 1 == (st.s.size : Int)) = true := by simp; omega
  clear h1
  go_enter Try.func52, Try.ntmps52
  go_wp2
  go_quiet (fail)
  go_wp2_with (go_at_call 61; refine (fail_any _ _ _).mono ?_; rintro e w' ⟨rfl, rfl⟩)
  exact ⟨rfl, rfl, below_drewN (Below.refl _ _) _⟩

theorem put_int {base : Nat} {g : Tags} {w w0 : World} {bp : Nat} {st : PSt} (h : PInv base g w bp st) (hb : Below w.heap.size w w0) (hs : st.Small) (hbase : base ≤ w.heap.size) {nd : Nd} {v : Value} (hv : NodeAt (isTree g) w0 nd v) {single : Bool} {k : Int} (h0 : 0 ≤ k) (hk : k ≤ 100000) :
    Calls Try.prog 58 #[.pointer (some ⟨bp, 0, none⟩), v, .bool single, .int .i64 k] w0 (PPost base g w bp (.ok (st.put nd single k.toNat))) := by
  obtain ⟨n, rfl⟩ := Int.eq_ofNat_of_zero_le h0
  refine (put_calls (h.ext hb) hs (by have := hb.size; omega) hv single n (by omega)).mono ?_
  rintro e w' ⟨rfl, g', hi, hk⟩
  exact ⟨rfl, g', hi, hk.ext h hbase hb⟩

theorem PPost.ret {base : Nat} {g : Tags} {w w' : World} {bp : Nat} {st : PSt} {e : Ending} (h : PPost base g w bp (.ok st) e w') : e = .returned (.tuple #[]) := h.1

theorem class_hit {c : Nat} {s : BSet} (h : classOf c = some s) (w : World) : Calls Try.prog 73 #[.int .u8 (c : Int)] w fun e w' => e = .returned (.tuple #[.agg #[.int .u64 (s.a : Int), .int .u64 (s.b : Int), .int .u64 (s.c : Int), .int .u64 (s.d : Int)], .bool true]) ∧ Below w.heap.size w w' := (class_some c s h w).2
theorem class_miss {c : Nat} (hc : c < 256) (h : classOf c = none) (w : World) : Calls Try.prog 73 #[.int .u8 (c : Int)] w fun e w' => e = .returned (.tuple #[.agg #[.int .u64 0, .int .u64 0, .int .u64 0, .int .u64 0], .bool false]) ∧ Below w.heap.size w w' := class_none c hc h w

set_option maxHeartbeats 400000 in
theorem esc_class {base : Nat} {g : Tags} {w : World} {bp : Nat} {st : PSt} (h : PInv base g w bp st) (hs : st.Small) (hbase : base ≤ w.heap.size) (hp : st.pos < st.s.size) (h1 : st.pos + 1 < st.s.size) {s : BSet} (hc : classOf (byte st.s (st.pos + 1)) = some s) :
    Calls Try.prog 52 #[.pointer (some ⟨bp, 0, none⟩)] w (PPost base g w bp (.ok (st.put (.one s .zero) true 2))) := by
  obtain ⟨x, hx⟩ := id h
  have c0 : w.cell? ⟨bp, 0, none⟩ = some (.string st.s) := by rw [cell_of_blk hx.blk]; rfl
  have c1 : w.cell? ⟨bp, 1, none⟩ = some (.int .i64 (st.pos : Int)) := by rw [cell_of_blk hx.blk]; rfl
  have hsm := hs.pos
  have t1 : ((st.pos : Int) + 1 == (st.s.size : Int)) = false := by simp; omega
  have hby := get_byte st.s
  have HX := Lib.hid hx
  have HC := Lib.hid hc
  clear hx hc
  go_enter Try.func52, Try.ntmps52
  go_wp2
  go_quiet (fail)
  go_wp2
  go_quiet (fail)
  go_wp2_with (fail)
  refine (class_hit HC.out _).mono ?_
  rintro e w1 ⟨rfl, hb1⟩
  go_wp2_with (fail)
  have B1 : Below w.heap.size w w1 := below_undrewN hb1
  refine (put_int h (B1.alloc B1.size _) hs hbase (nd := .one s .zero) rfl (by decide) (by decide)).mono ?_
  rintro e w2 ⟨rfl, hq⟩
  have HQ := Lib.hid hq
  clear hq
  go_wp2
  go_end0
  exact ⟨rfl, HQ.out⟩

theorem plain_yes {c p : Nat} (hc : c < 256) (h : plainOf c = (p, true)) (w : World) : Calls Try.prog 74 #[.int .u8 (c : Int)] w fun e w' => e = .returned (.tuple #[.int .u8 (p : Int), .bool true]) ∧ w = w' := by
  have := plain_any c hc w; rw [h] at this; exact this
theorem plain_no {c p : Nat} (hc : c < 256) (h : plainOf c = (p, false)) (w : World) : Calls Try.prog 74 #[.int .u8 (c : Int)] w fun e w' => e = .returned (.tuple #[.int .u8 (p : Int), .bool false]) ∧ w = w' := by
  have := plain_any c hc w; rw [h] at this; exact this
theorem plain_lt {c : Nat} (hc : c < 256) : (plainOf c).1 < 256 := by
  unfold plainOf; repeat' split
  all_goals first | decide | exact hc
theorem plain_upper {c : Nat} (h1 : 65 ≤ c) (h2 : c ≤ 90) : plainOf c = (c, false) := by
  have a : ¬ c = 116 := by omega
  have b : ¬ c = 114 := by omega
  have d : ¬ c = 110 := by omega
  have e : isLetter c = true := by simp [isLetter]; omega
  simp [plainOf, a, b, d, e]

set_option maxHeartbeats 1000000 in
theorem esc_plain {base : Nat} {g : Tags} {w : World} {bp : Nat} {st : PSt} (h : PInv base g w bp st) (hs : st.Small) (hbase : base ≤ w.heap.size) (hp : st.pos < st.s.size) (h1 : st.pos + 1 < st.s.size)
    (hc : classOf (byte st.s (st.pos + 1)) = none) {p : Nat} (hpl : plainOf (byte st.s (st.pos + 1)) = (p, true)) :
    Calls Try.prog 52 #[.pointer (some ⟨bp, 0, none⟩)] w (PPost base g w bp (.ok (st.put (.one (BSet.zero.range p p) .zero) true 2))) := by
  obtain ⟨x, hx⟩ := id h
  have c0 : w.cell? ⟨bp, 0, none⟩ = some (.string st.s) := by rw [cell_of_blk hx.blk]; rfl
  have c1 : w.cell? ⟨bp, 1, none⟩ = some (.int .i64 (st.pos : Int)) := by rw [cell_of_blk hx.blk]; rfl
  have hsm := hs.pos
  have t1 : ((st.pos : Int) + 1 == (st.s.size : Int)) = false := by simp; omega
  have hby := get_byte st.s
  have hbl := byte_lt st.s (st.pos + 1)
  have HX := Lib.hid hx
  have HC := Lib.hid hc
  clear hx hc
  have hp256 : p < 256 := by have := plain_lt hbl; rw [hpl] at this; exact this
  have hup : byte st.s (st.pos + 1) < 65 ∨ 90 < byte st.s (st.pos + 1) := by
    rcases Nat.lt_or_ge (byte st.s (st.pos + 1)) 65 with a | a
    · exact .inl a
    · rcases Nat.lt_or_ge 90 (byte st.s (st.pos + 1)) with b | b
      · exact .inr b
      · rw [plain_upper a b] at hpl; cases hpl
  have HP := Lib.hid hpl
  clear hpl
  rcases hup with u | u
  · have u1 : ¬ (65 : Int) ≤ (byte st.s (st.pos + 1) : Int) := by omega
    go_enter Try.func52, Try.ntmps52
    go_wp2
    go_quiet (fail)
    go_wp2
    go_quiet (fail)
    go_wp2_with (fail)
    refine (class_miss hbl HC.out _).mono ?_
    rintro e w1 ⟨rfl, hb1⟩
    have B1 : Below w.heap.size w w1 := below_undrewN hb1
    have HB1 := Lib.hid B1
    have hbe := Lib.hid (bcell B1)
    clear hb1 B1
    go_wp2_with (fail)
    refine (plain_yes hbl HP.out _).mono ?_
    rintro e w2 ⟨rfl, rfl⟩
    go_wp2_with (fail)
    refine (with_open zero_val BSet.zero_wf (by omega) (by omega) (by omega) (by omega) _).mono ?_
    rintro e w3 ⟨t, ht, htw, rfl, hb3⟩
    have HT := Lib.hid ht
    have B3 : Below w.heap.size w w3 := (HB1.out.alloc HB1.out.size _).trans (hb3.mono (by have := HB1.out.size; simp; omega))
    clear ht hb3
    go_wp2_with (fail)
    refine (put_int h B3 hs hbase (nd := .one t .zero) rfl (by decide) (by decide)).mono ?_
    rintro e w4 ⟨rfl, hq⟩
    have HQ := Lib.hid hq
    clear hq
    go_wp2
    go_end0
    exact ⟨rfl, by have h1 := HQ.out; rw [HT.out] at h1; exact h1⟩
  · have u1 : (65 : Int) ≤ (byte st.s (st.pos + 1) : Int) := by omega
    have u2 : ¬ (byte st.s (st.pos + 1) : Int) ≤ 90 := by omega
    go_enter Try.func52, Try.ntmps52
    go_wp2
    go_quiet (fail)
    go_wp2
    go_quiet (fail)
    go_wp2_with (fail)
    refine (class_miss hbl HC.out _).mono ?_
    rintro e w1 ⟨rfl, hb1⟩
    have B1 : Below w.heap.size w w1 := below_undrewN hb1
    have HB1 := Lib.hid B1
    have hbe := Lib.hid (bcell B1)
    clear hb1 B1
    go_wp2_with (fail)
    refine (plain_yes hbl HP.out _).mono ?_
    rintro e w2 ⟨rfl, rfl⟩
    go_wp2_with (fail)
    refine (with_open zero_val BSet.zero_wf (by omega) (by omega) (by omega) (by omega) _).mono ?_
    rintro e w3 ⟨t, ht, htw, rfl, hb3⟩
    have HT := Lib.hid ht
    have B3 : Below w.heap.size w w3 := (HB1.out.alloc HB1.out.size _).trans (hb3.mono (by have := HB1.out.size; simp; omega))
    clear ht hb3
    go_wp2_with (fail)
    refine (put_int h B3 hs hbase (nd := .one t .zero) rfl (by decide) (by decide)).mono ?_
    rintro e w4 ⟨rfl, hq⟩
    have HQ := Lib.hid hq
    clear hq
    go_wp2
    go_end0
    exact ⟨rfl, by have h1 := HQ.out; rw [HT.out] at h1; exact h1⟩

end Go.Proofs.Ytfgghbideoehjaa

namespace Go.Proofs.Ytfgghbideoehjaa
open Go.ChangeShapes Go.WideShapes Go.ChangeAt Go.RowKit
set_option linter.unusedVariables false
set_option maxRecDepth 100000

theorem one_new (w : World) (v : Value) (T : TypeId) : ∀ j u, [v][j]? = some u → (w.alloc (.cells #[v] T)).cell? ((⟨w.heap.size, 0, none⟩ : Addr).add j) = some u := by
  intro j u hj
  rcases j with _ | j
  · simp at hj; subst hj; exact cell_of_row _ _ _ _ _ _ (heap_alloc_new w _)
  · simp at hj
theorem one_cell (t : TypeId) (u : Value) : ∀ x ∈ [Value.iface t u], x.oneCell' = true := by
  intro x hx; simp at hx; subst hx; rfl

theorem grown_past {w w1 : World} {o : Obj} {row : Option Nat} (h : (w.alloc o).grownBy w1 row) : w.grownBy w1 row :=
  ⟨h.os, h.tape, h.output, by have := h.size; simp at this; omega, fun j hj hne => (h.block j (by simp; omega) hne).trans (heap_alloc_old w o hj)⟩
theorem tag_past {w : World} {o : Obj} {v v' : Value} (h : SameOrNew (w.alloc o) v v') : SameOrNew w v v' := by
  rcases h with h | h
  · exact .inl h
  · exact .inr fun k hk => by have := h k hk; simp at this; omega

theorem grown_undrew {w w1 : World} {row : Option Nat} (h : w.drew.grownBy w1 row) : w.grownBy w1 row := ⟨h.os, h.tape, h.output, h.size, h.block⟩

/-- append, as one step of a region that draws. -/
theorem step_append_tag {P : Program} {ops : Array Oper} {o : Oper} {a : Act} {w : World} {K : Act → World → Prop} {Q : Exit → Act → World → Prop} {E : Prop}
    (hg : o.guard = none) (s x : Operand) (t : TypeId) (hop : o.op = Op.call { callee := Callee.builtin Builtin.append, args := #[s, x], argTypes := #[t, t] })
    (base : Nat) (e : TypeId) (i : TypeInfo) (z : Value) (size bytes : Nat) (ht : P.underlying t = some (.slice e)) (hi : P.info? e = some i) (hz : i.zero = some z)
    (hsize : i.size = size) (hby : i.bytes = bytes) (hzs : z.cells.size = size) (hsz : 0 < size)
    (v : Value) (n : Nat) (xs : List Value) (hs : a.eval s = v) (hown : w.ownsRow base e size v n xs)
    (ad : Addr) (m c : Nat) (news : List Value) (hx : a.eval x = .slice (some ad) m c) (hl : news.length = m * size) (hnews : ∀ j u, news[j]? = some u → w.cell? (ad.add j) = some u) (h1 : ∀ u ∈ news, u.oneCell' = true)
    (h63 : n + m ≤ maxLen) (hbytes : (n + m) * bytes ≤ 140737488355328) (hbase : base ≤ w.heap.size)
    (hK : ∀ v' w', w'.ownsRow base e size v' (n + m) (xs ++ news) → w.grownBy w' v.ownBlock → SameOrNew w v v' → K (a.put o.dst v') w') :
    if Region.wanted o (yielded ops a.tmps) = true then Oper.wp P o a w K Q else E := by
  have hw : Region.wanted o (yielded ops a.tmps) = true := by simp [Region.wanted, hg]
  rw [if_pos hw]
  exact wp_append_tag s x t hop base e i z size bytes ht hi hz hsize hby hzs hsz v n xs hs hown ad m c news hx hl hnews h1 h63 hbytes hbase hK

set_option maxHeartbeats 1000000 in
theorem whole_walk (w : World) (b off : Nat) (bv pv : Value) (bvs : List Value) (h2 : w.cell? ⟨b, off + 2, none⟩ = some bv) (h3 : w.cell? ⟨b, off + 3, none⟩ = some pv)
    (hb : w.ownsRow 0 62 1 bv bvs.length bvs) (hl : bvs.length ≤ 100000) :
    Calls Try.prog 62 #[.pointer (some ⟨b, off, none⟩)] w fun e w' => ∃ bv', e = .returned (.iface 108 bv') ∧ w'.ownsRow 0 62 1 bv' (bvs.length + 1) (bvs ++ [.iface 109 pv]) ∧ w.grownBy w' bv.ownBlock ∧ SameOrNew w bv bv' := by
  obtain ⟨i0, hi, hz0, hz1, hz2⟩ := info_parts info62
  have hlt : b < w.heap.size := World.block_lt_of_cell? w _ h2
  go_enter Try.func62, Try.ntmps62
  go_wp2
  go_region_law (refine step_append_tag rfl (.tmp 6) (.tmp 12) 108 rfl 0 62 i0 .nilIface 1 16 Try.underlying108 hi hz0 hz1 hz2 rfl (by decide) bv bvs.length bvs rfl (by exact World.ownsRow.alloc (w := w.drew) hb _) ⟨w.heap.size, 0, none⟩ 1 1 [.iface 109 pv] rfl rfl (by exact one_new w.drew _ _) (by exact one_cell _ _) (by simp only [maxLen]; omega) (by omega) (Nat.zero_le _) ?_; intro v' w1 ho hg ht; obtain ⟨g', cap', rfl⟩ := ownsRow_succ' ho)
  all_goals
    go_wp2
    go_ret
    exact ⟨_, rfl, ho, grown_undrew (grown_past (w := w.drew) hg), tag_past (w := w.drew) ht⟩

end Go.Proofs.Ytfgghbideoehjaa
