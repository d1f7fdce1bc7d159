/-
  Lemmas on memory: append with 'the same block or a new one', blocks that are known whole, what a store leaves.
  The parser of patterns as a plain state machine: nodes, frames, states. No Go and no program in sight.
  How nodes, frames and a parser's state lie in memory.
  The parser's state in memory (PAt), and the contracts of top and put.
-/
import Derived.Test.YtfgghbideoehjaaRows
import Derived.WalkKit
import Derived.ProofKit
import Derived.OpenShut
import Derived.Deep.QuietTactic
import Derived.BigQuiet
import Derived.Laws.OwnMore
import Derived.OneCell
import Derived.Lib.Hide
import Init
namespace Go.Proofs.Ytfgghbideoehjaa
open Go.ChangeShapes Go.WideShapes Go.ChangeAt Go.RowKit

section
variable {P : Program} {w : World}

/-- The block of a slice is the elder one, or a new one. -/
def SameOrNew (w : World) (v v' : Value) : Prop := v'.ownBlock = v.ownBlock ∨ ∀ k, v'.ownBlock = some k → w.heap.size ≤ k

theorem run_append_tag (base : Nat) (t ty e : TypeId) (i : TypeInfo) (z : Value) (size bytes : Nat) (ht : P.underlying t = some (.slice e)) (hi : P.info? e = some i) (hz : i.zero = some z)
    (hsize : i.size = size) (hby : i.bytes = bytes) (hzs : z.cells.size = size) (hsz : 0 < size)
    (v : Value) (n : Nat) (xs : List Value) (hown : w.ownsRow base e size v n xs)
    (a : Addr) (m c : Nat) (news : List Value) (hl : news.length = m * size) (hnews : ∀ j u, news[j]? = some u → w.cell? (a.add j) = some u) (h1 : ∀ u ∈ news, u.oneCell' = true)
    (h63 : n + m ≤ maxLen) (hbytes : (n + m) * bytes ≤ 140737488355328) (hbase : base ≤ w.heap.size) :
    ∃ v' w', (Builtin.append_ #[t, t] ty #[v, .slice (some a) m c]).run P w = .ok v' w' ∧ w'.ownsRow base e size v' (n + m) (xs ++ news) ∧ w.grownBy w' v.ownBlock ∧ SameOrNew w v v' := by
  obtain ⟨v', w', hr, h2, h3, h4⟩ := run_append_own (P := P) w base t ty e i z size bytes ht hi hz hsize hby hzs hsz v n xs hown a m c news hl hnews h1 h63 hbytes hbase
  refine ⟨v', w', hr, h2, h3, ?_⟩
  subst hsize
  rcases hown.2 with ⟨rfl, rfl⟩ | ⟨g, cap, cur, rfl, hbg, hg, hnc, hcm, hcs, htake⟩
  · -- nil: with the base at the heap's end
    have hx : xs = [] := List.eq_nil_of_length_eq_zero (by simpa using hown.1)
    subst hx
    obtain ⟨v2, w2, hr2, g2, g3, g4⟩ := run_append_own (P := P) w w.heap.size t ty e i z i.size bytes ht hi hz rfl hby hzs hsz (.slice none 0 0) 0 [] (World.ownsRow_nil w _ e i.size) a m c news hl hnews h1 h63 hbytes (Nat.le_refl _)
    rw [hr] at hr2
    cases hr2
    exact .inr fun k hk => (g2.lt k hk).1
  · by_cases hroom : n + m ≤ cap
    · have hfit : n * i.size + news.length ≤ cur.size := by rw [hl, hcs, ← Nat.add_mul]; exact Nat.mul_le_mul_right _ hroom
      have hr2 := run_append_room (P := P) w t ty e i ht hi g n cap cur hg a m c news hl hnews h1 hroom hfit
      rw [hr] at hr2
      cases hr2
      exact .inl rfl
    · have holds : ∀ j u, xs[j]? = some u → w.cell? ((⟨g, 0, none⟩ : Addr).add j) = some u := hown.cells (g := g) rfl
      have hm' : n + m ≤ 9223372036854775807 := by simp only [maxLen] at h63; omega
      have hr2 := run_append_grow (P := P) w t ty e i z ht hi hz ⟨g, 0, none⟩ n cap xs hown.1 holds a m c news hl hnews (by omega) (by omega) (growslice_fits (by omega) (by rw [hby]; exact hbytes))
      rw [hr] at hr2
      cases hr2
      exact .inr fun k hk => by simp [Value.ownBlock] at hk; omega

theorem wp_append_tag {o : Oper} {a : Act} {K : Act → World → Prop} {Q : Exit → Act → World → Prop} (s x : Operand) (t : TypeId)
    (ho : o.op = .call { callee := .builtin .append, args := #[s, x], argTypes := #[t, t] })
    (base : Nat) (e : TypeId) (i : TypeInfo) (z : Value) (size bytes : Nat) (ht : P.underlying t = some (.slice e)) (hi : P.info? e = some i) (hz : i.zero = some z)
    (hsize : i.size = size) (hby : i.bytes = bytes) (hzs : z.cells.size = size) (hsz : 0 < size)
    (v : Value) (n : Nat) (xs : List Value) (hs : a.eval s = v) (hown : w.ownsRow base e size v n xs)
    (ad : Addr) (m c : Nat) (news : List Value) (hx : a.eval x = .slice (some ad) m c) (hl : news.length = m * size) (hnews : ∀ j u, news[j]? = some u → w.cell? (ad.add j) = some u) (h1 : ∀ u ∈ news, u.oneCell' = true)
    (h63 : n + m ≤ maxLen) (hbytes : (n + m) * bytes ≤ 140737488355328) (hbase : base ≤ w.heap.size)
    (h : ∀ v' w', w'.ownsRow base e size v' (n + m) (xs ++ news) → w.grownBy w' v.ownBlock → SameOrNew w v v' → K (a.put o.dst v') w') : o.wp P a w K Q := by
  obtain ⟨v', w', hr, h2, h3, h4⟩ := run_append_tag (P := P) (w := w) base t o.type e i z size bytes ht hi hz hsize hby hzs hsz v n xs hown ad m c news hl hnews h1 h63 hbytes hbase
  unfold Oper.wp execOp
  simp only [ho, resolve, invoke, builtin, Sem.run_bind, Sem.run_pure, Result.andThen_ok, List.map_toArray, List.map_cons, List.map_nil, hs, hx, hr]
  exact h v' w' h2 h3 h4

theorem wpList_append_tag {ops : Array Oper} {rest : List Oper} {o : Oper} {a : Act} {Q : Exit → Act → World → Prop} (hgd : o.guard = none) (s x : Operand) (t : TypeId)
    (ho : o.op = .call { callee := .builtin .append, args := #[s, x], argTypes := #[t, t] })
    (base : Nat) (e : TypeId) (i : TypeInfo) (z : Value) (size bytes : Nat) (ht : P.underlying t = some (.slice e)) (hi : P.info? e = some i) (hz : i.zero = some z)
    (hsize : i.size = size) (hby : i.bytes = bytes) (hzs : z.cells.size = size) (hsz : 0 < size)
    (v : Value) (n : Nat) (xs : List Value) (hs : a.eval s = v) (hown : w.ownsRow base e size v n xs)
    (ad : Addr) (m c : Nat) (news : List Value) (hx : a.eval x = .slice (some ad) m c) (hl : news.length = m * size) (hnews : ∀ j u, news[j]? = some u → w.cell? (ad.add j) = some u) (h1 : ∀ u ∈ news, u.oneCell' = true)
    (h63 : n + m ≤ maxLen) (hbytes : (n + m) * bytes ≤ 140737488355328) (hbase : base ≤ w.heap.size)
    (h : ∀ v' w', w'.ownsRow base e size v' (n + m) (xs ++ news) → w.grownBy w' v.ownBlock → SameOrNew w v v' → wpList P ops Q rest (a.put o.dst v') w') : wpList P ops Q (o :: rest) a w :=
  wpList_plain hgd fun _ hK => wp_append_tag s x t ho base e i z size bytes ht hi hz hsize hby hzs hsz v n xs hs hown ad m c news hx hl hnews h1 h63 hbytes hbase fun v' w' h2 h3 h4 => hK _ _ (h v' w' h2 h3 h4)
end
end Go.Proofs.Ytfgghbideoehjaa

namespace Go.Proofs.Ytfgghbideoehjaa

/-- A set of bytes as four words. -/
structure BSet where
  a : Nat
  b : Nat
  c : Nat
  d : Nat
  deriving DecidableEq

/-- A part of a pattern. -/
inductive Nd where
  | one (set neg : BSet)
  | place (kind : UInt8)
  | look (i : Nd) (neg : Bool)
  | pieces (l : List Nd)
  | branches (l : List Nd)
  | times (i : Nd) (lo hi : Int) (lz : Bool)
  | group (n : Nat) (i : Nd)
  | back (n : Nat)

/-- A parenthesis that is open. -/
structure Fr where
  kind : UInt8
  num : Nat
  brs : List Nd
  pcs : List Nd
  single : Bool

/-- A parser's state: the frames below, the frame that is open. -/
structure PSt where
  s : ByteArray
  pos : Nat
  low : List Fr
  top : Fr
  groups : Nat
  begun : Nat
  looks : Nat
  refs : List Bool

def PSt.put (st : PSt) (x : Nd) (single : Bool) (n : Nat) : PSt :=
  { st with pos := st.pos + n, top := { st.top with pcs := st.top.pcs ++ [x], single := single } }

def Fr.whole (f : Fr) : Nd := .branches (f.brs ++ [.pieces f.pcs])

end Go.Proofs.Ytfgghbideoehjaa

namespace Go.Proofs.Ytfgghbideoehjaa
open Go.ChangeShapes Go.WideShapes Go.ChangeAt Go.RowKit

/-- What a block is for. -/
inductive Tag where
  | parser
  | opn
  | refs
  | br (i : Nat)
  | pc (i : Nat)
  | tree
  deriving DecidableEq

abbrev Tags := Nat → Option Tag

def Agree (w w' : World) (S : Nat → Prop) : Prop := ∀ b, S b → w'.heap[b]? = w.heap[b]?

def BSet.vals (s : BSet) : List Value := [.int .u64 (s.a : Int), .int .u64 (s.b : Int), .int .u64 (s.c : Int), .int .u64 (s.d : Int)]

/-- A slice of nodes whose block is of a kind. -/
def RowAt (G : Nat → Prop) (w : World) (sv : Value) (vs : List Value) : Prop :=
  w.ownsRow 0 62 1 sv vs.length vs ∧ ∀ k, sv.ownBlock = some k → G k

mutual
def NodeAt (G : Nat → Prop) (w : World) : Nd → Value → Prop
  | .one s n, v => v = .iface 124 (.agg (s.vals ++ n.vals).toArray)
  | .place k, v => v = .iface 121 (.agg #[.int .u8 (k.toNat : Int)])
  | .look i ng, v => ∃ x, v = .iface 135 (.agg #[x, .bool ng]) ∧ NodeAt G w i x
  | .pieces l, v => ∃ sv vs, v = .iface 109 sv ∧ RowAt G w sv vs ∧ NodesAt G w l vs
  | .branches l, v => ∃ sv vs, v = .iface 108 sv ∧ RowAt G w sv vs ∧ NodesAt G w l vs
  | .times i lo hi lz, v => ∃ x, v = .iface 139 (.agg #[x, .int .i64 lo, .int .i64 hi, .bool lz]) ∧ NodeAt G w i x
  | .group n i, v => ∃ x, v = .iface 141 (.agg #[.int .i64 (n : Int), x]) ∧ NodeAt G w i x
  | .back n, v => v = .iface 133 (.agg #[.int .i64 (n : Int)])
def NodesAt (G : Nat → Prop) (w : World) : List Nd → List Value → Prop
  | [], vs => vs = []
  | t :: l, vs => ∃ v vs', vs = v :: vs' ∧ NodeAt G w t v ∧ NodesAt G w l vs'
end

theorem ownsRow_agree {w w' : World} {base e size : Nat} {v : Value} {n : Nat} {xs : List Value} (h : w.ownsRow base e size v n xs)
    (ha : ∀ k, v.ownBlock = some k → w'.heap[k]? = w.heap[k]?) : w'.ownsRow base e size v n xs := by
  refine ⟨h.1, ?_⟩
  rcases h.2 with hn | ⟨g, cap, cur, rfl, hb, hgg, rest⟩
  · exact .inl hn
  · exact .inr ⟨g, cap, cur, rfl, hb, by rw [ha g rfl]; exact hgg, rest⟩

theorem RowAt.agree {G G' : Nat → Prop} {w w' : World} {sv : Value} {vs : List Value} (h : RowAt G w sv vs) (ha : Agree w w' G) (hm : ∀ b, G b → G' b) : RowAt G' w' sv vs :=
  ⟨ownsRow_agree h.1 fun k hk => ha k (h.2 k hk), fun k hk => hm k (h.2 k hk)⟩

mutual
theorem NodeAt.agree {G G' : Nat → Prop} {w w' : World} (ha : Agree w w' G) (hm : ∀ b, G b → G' b) : ∀ (t : Nd) (v : Value), NodeAt G w t v → NodeAt G' w' t v
  | .one _ _, _, h => h
  | .place _, _, h => h
  | .look i _, _, ⟨x, e, h⟩ => ⟨x, e, NodeAt.agree ha hm i x h⟩
  | .pieces l, _, ⟨sv, vs, e, hr, h⟩ => ⟨sv, vs, e, hr.agree ha hm, NodesAt.agree ha hm l vs h⟩
  | .branches l, _, ⟨sv, vs, e, hr, h⟩ => ⟨sv, vs, e, hr.agree ha hm, NodesAt.agree ha hm l vs h⟩
  | .times i _ _ _, _, ⟨x, e, h⟩ => ⟨x, e, NodeAt.agree ha hm i x h⟩
  | .group _ i, _, ⟨x, e, h⟩ => ⟨x, e, NodeAt.agree ha hm i x h⟩
  | .back _, _, h => h
theorem NodesAt.agree {G G' : Nat → Prop} {w w' : World} (ha : Agree w w' G) (hm : ∀ b, G b → G' b) : ∀ (l : List Nd) (vs : List Value), NodesAt G w l vs → NodesAt G' w' l vs
  | [], _, h => h
  | t :: l, _, ⟨v, vs', e, h1, h2⟩ => ⟨v, vs', e, NodeAt.agree ha hm t v h1, NodesAt.agree ha hm l vs' h2⟩
end

theorem NodesAt.length {G : Nat → Prop} {w : World} : ∀ (l : List Nd) (vs : List Value), NodesAt G w l vs → vs.length = l.length
  | [], _, h => by simp only [NodesAt] at h; simp [h]
  | _ :: l, _, h => by
    simp only [NodesAt] at h
    obtain ⟨v, vs', rfl, _, h2⟩ := h
    simp [NodesAt.length l vs' h2]

theorem NodesAt.snoc {G : Nat → Prop} {w : World} {t : Nd} {v : Value} (hv : NodeAt G w t v) : ∀ (l : List Nd) (vs : List Value), NodesAt G w l vs → NodesAt G w (l ++ [t]) (vs ++ [v])
  | [], _, h => by simp only [NodesAt] at h; subst h; exact ⟨v, [], rfl, hv, rfl⟩
  | _ :: l, _, h => by
    simp only [NodesAt] at h
    obtain ⟨u, vs', rfl, h1, h2⟩ := h
    exact ⟨u, vs' ++ [v], rfl, h1, NodesAt.snoc hv l vs' h2⟩

/-- A node's value takes one cell. -/
theorem NodeAt.oneCell {G : Nat → Prop} {w : World} : ∀ (t : Nd) (v : Value), NodeAt G w t v → v.oneCell' = true := by
  intro t v h
  cases t <;> simp only [NodeAt] at h
  · subst h; rfl
  · subst h; rfl
  · obtain ⟨x, rfl, _⟩ := h; rfl
  · obtain ⟨x, y, rfl, _⟩ := h; rfl
  · obtain ⟨x, y, rfl, _⟩ := h; rfl
  · obtain ⟨x, rfl, _⟩ := h; rfl
  · obtain ⟨x, rfl, _⟩ := h; rfl
  · subst h; rfl

abbrev isTree (g : Tags) : Nat → Prop := fun b => g b = some .tree

/-- A frame's slices. -/
def FrAt (g : Tags) (w : World) (i : Nat) (f : Fr) (bv pv : Value) : Prop :=
  (∃ bvs, RowAt (fun b => g b = some (.br i)) w bv bvs ∧ NodesAt (isTree g) w f.brs bvs) ∧
  (∃ pvs, RowAt (fun b => g b = some (.pc i)) w pv pvs ∧ NodesAt (isTree g) w f.pcs pvs)

def frCells (f : Fr) (bv pv : Value) : List Value := [.int .u8 (f.kind.toNat : Int), .int .i64 (f.num : Int), bv, pv, .bool f.single]

def FrsAt (g : Tags) (w : World) : Nat → List Fr → List Value → Prop
  | _, [], cs => cs = []
  | i, f :: l, cs => ∃ bv pv cs', cs = frCells f bv pv ++ cs' ∧ FrAt g w i f bv pv ∧ FrsAt g w (i + 1) l cs'

theorem FrsAt.length {g : Tags} {w : World} : ∀ (i : Nat) (l : List Fr) (cs : List Value), FrsAt g w i l cs → cs.length = 5 * l.length
  | _, [], _, h => by simp only [FrsAt] at h; simp [h]
  | i, _ :: l, _, h => by
    simp only [FrsAt] at h
    obtain ⟨bv, pv, cs', rfl, _, h2⟩ := h
    simp [FrsAt.length (i + 1) l cs' h2, frCells]; omega

theorem FrsAt.snoc {g : Tags} {w : World} : ∀ (i : Nat) (l : List Fr) (f : Fr) (cs : List Value),
    FrsAt g w i (l ++ [f]) cs ↔ ∃ cs1 bv pv, cs = cs1 ++ frCells f bv pv ∧ FrsAt g w i l cs1 ∧ FrAt g w (i + l.length) f bv pv
  | i, [], f, cs => by
    simp only [List.nil_append, FrsAt]
    constructor
    · rintro ⟨bv, pv, cs', rfl, h, rfl⟩; exact ⟨[], bv, pv, by simp, rfl, by simpa using h⟩
    · rintro ⟨cs1, bv, pv, rfl, rfl, h⟩; exact ⟨bv, pv, [], by simp, by simpa using h, rfl⟩
  | i, a :: l, f, cs => by
    simp only [List.cons_append, FrsAt]
    constructor
    · rintro ⟨bv, pv, cs', rfl, h, h2⟩
      obtain ⟨cs1, bv2, pv2, rfl, h3, h4⟩ := (FrsAt.snoc (i + 1) l f cs').1 h2
      exact ⟨frCells a bv pv ++ cs1, bv2, pv2, by simp, ⟨bv, pv, cs1, rfl, h, h3⟩, by simpa [Nat.add_assoc, Nat.add_comm 1] using h4⟩
    · rintro ⟨cs1, bv2, pv2, rfl, ⟨bv, pv, cs', rfl, h, h3⟩, h4⟩
      exact ⟨bv, pv, cs' ++ frCells f bv2 pv2, by simp, h, (FrsAt.snoc (i + 1) l f _).2 ⟨cs', bv2, pv2, rfl, h3, by simpa [Nat.add_assoc, Nat.add_comm 1] using h4⟩⟩

theorem FrAt.agree {g g' : Tags} {w w' : World} {i : Nat} {f : Fr} {bv pv : Value} (h : FrAt g w i f bv pv)
    (ha : ∀ b, g b = some .tree ∨ g b = some (.br i) ∨ g b = some (.pc i) → w'.heap[b]? = w.heap[b]? ∧ g' b = g b) : FrAt g' w' i f bv pv := by
  obtain ⟨⟨bvs, h1, h2⟩, ⟨pvs, h3, h4⟩⟩ := h
  refine ⟨⟨bvs, h1.agree (fun b hb => (ha b (.inr (.inl hb))).1) (fun b hb => by rw [(ha b (.inr (.inl hb))).2]; exact hb), ?_⟩, ⟨pvs, h3.agree (fun b hb => (ha b (.inr (.inr hb))).1) (fun b hb => by rw [(ha b (.inr (.inr hb))).2]; exact hb), ?_⟩⟩
  · exact NodesAt.agree (fun b hb => (ha b (.inl hb)).1) (fun b hb => by show g' b = _; rw [(ha b (.inl hb)).2]; exact hb) _ _ h2
  · exact NodesAt.agree (fun b hb => (ha b (.inl hb)).1) (fun b hb => by show g' b = _; rw [(ha b (.inl hb)).2]; exact hb) _ _ h4

theorem FrsAt.agree {g g' : Tags} {w w' : World} : ∀ (i : Nat) (l : List Fr) (cs : List Value), FrsAt g w i l cs →
    (∀ b, g b = some .tree ∨ (∃ j, i ≤ j ∧ j < i + l.length ∧ (g b = some (.br j) ∨ g b = some (.pc j))) → w'.heap[b]? = w.heap[b]? ∧ g' b = g b) → FrsAt g' w' i l cs
  | _, [], _, h, _ => h
  | i, _ :: l, _, ⟨bv, pv, cs', e, h1, h2⟩, ha => ⟨bv, pv, cs', e,
      h1.agree (fun b hb => ha b (hb.elim .inl fun hb => .inr ⟨i, Nat.le_refl _, by simp, hb⟩)),
      FrsAt.agree (i + 1) l cs' h2 (fun b hb => ha b (hb.elim .inl fun ⟨j, h3, h4, h5⟩ => .inr ⟨j, by omega, by simp at h4 ⊢; omega, h5⟩))⟩

end Go.Proofs.Ytfgghbideoehjaa

namespace Go.Proofs.Ytfgghbideoehjaa
open Go.ChangeShapes Go.WideShapes Go.ChangeAt Go.RowKit
set_option linter.unusedVariables false

structure PV where
  bo : Nat
  ocap : Nat
  spare : List Value
  refsv : Value
  lowc : List Value
  bv : Value
  pv : Value

structure PAt (base : Nat) (g : Tags) (w : World) (bp : Nat) (st : PSt) (x : PV) : Prop where
  tags : ∀ b t, g b = some t → base ≤ b ∧ b < w.heap.size
  gp : g bp = some .parser
  blk : w.heap[bp]? = some (.cells #[.string st.s, .int .i64 (st.pos : Int), .slice (some ⟨x.bo, 0, none⟩) (st.low.length + 1) x.ocap, .int .i64 (st.groups : Int), .int .i64 (st.begun : Int), .int .i64 (st.looks : Int), x.refsv] 114 (0, 0))
  gob : g x.bo = some .opn
  opn : w.heap[x.bo]? = some (.cells (x.lowc ++ (frCells st.top x.bv x.pv ++ x.spare)).toArray 111 (0, 0))
  cap1 : st.low.length + 1 ≤ x.ocap
  cap2 : x.ocap ≤ maxLen
  cap3 : (x.lowc ++ (frCells st.top x.bv x.pv ++ x.spare)).length = x.ocap * 5
  refs : w.ownsRow 0 4 1 x.refsv st.refs.length (st.refs.map Value.bool)
  grefs : ∀ k, x.refsv.ownBlock = some k → g k = some .refs
  low : FrsAt g w 0 st.low x.lowc
  top : FrAt g w st.low.length st.top x.bv x.pv

set_option maxHeartbeats 400000 in
theorem top_any (w : World) (bp bo cap n : Nat) (hn : n + 1 ≤ 1000000) (h2 : w.cell? ⟨bp, 2, none⟩ = some (.slice (some ⟨bo, 0, none⟩) (n + 1) cap)) :
    Calls Try.prog 56 #[.pointer (some ⟨bp, 0, none⟩)] w fun e w' => e = .returned (.pointer (some ⟨bo, n * 5, none⟩)) ∧ ∃ k, w' = w.drewN k := by
  go_enter Try.func56, Try.ntmps56
  go_wp2
  go_quiet (fail)
  go_wp2
  go_ret
  exact ⟨rfl, nq, rfl⟩

theorem grown_cell {w w1 : World} {nq : Nat} {o : Obj} {row : Option Nat} {a : Addr} {v : Value} (h : ((w.drewN nq).alloc o).grownBy w1 row) (hc : w.cell? a = some v) (hne : row ≠ some a.block) : w1.cell? a = some v :=
  h.cell ((World.cell?_alloc_lt (w.drewN nq) o a (World.block_lt_of_cell? w a hc)).trans hc) (fun e => hne e.symm)
theorem grown_frozen {w w1 : World} {nq : Nat} {o : Obj} {row : Option Nat} {a : Addr} {v : Value} {c : Bool} (h : ((w.drewN nq).alloc o).grownBy w1 row) (hc : w.cell? a = some v) (hf : w.frozen? a = c) (hne : row ≠ some a.block) : w1.frozen? a = c := by
  have hlt := World.block_lt_of_cell? w a hc
  rw [World.frozen?_of_block (h.block a.block (by simp; omega) (fun e => hne e.symm)), World.frozen?_alloc_old (w.drewN nq) o a (by simp; omega)]
  exact hf

theorem ownsRow_succ' {w : World} {base e size : Nat} {v : Value} {n : Nat} {xs : List Value} (h : w.ownsRow base e size v (n + 1) xs) : ∃ g cap, v = .slice (some ⟨g, 0, none⟩) (n + 1) cap := by
  rcases h.2 with ⟨_, h0⟩ | ⟨g, cap, cur, rfl, _⟩
  · omega
  · exact ⟨g, cap, rfl⟩

theorem info62 : (Try.prog.info? 62).map (fun i => (i.zero, i.size, i.bytes)) = some (some .nilIface, 1, 16) := by kernel_rfl

set_option maxHeartbeats 400000 in
set_option maxRecDepth 100000 in
theorem put_walk (w : World) (bp bo cap n : Nat) (t : TypeId) (u pv bs : Value) (single : Bool) (k pos : Nat) (hn : n + 1 ≤ 1000000) (hk : k ≤ 1000000) (hpos : pos ≤ 1000000)
    (h2 : w.cell? ⟨bp, 2, none⟩ = some (.slice (some ⟨bo, 0, none⟩) (n + 1) cap)) (hbb : bp ≠ bo)
    (h1 : w.cell? ⟨bp, 1, none⟩ = some (.int .i64 (pos : Int))) (h3 : w.cell? ⟨bo, n * 5 + 3, none⟩ = some pv) (h4 : w.cell? ⟨bo, n * 5 + 4, none⟩ = some bs)
    (f1 : w.frozen? ⟨bp, 1, none⟩ = false) (f3 : w.frozen? ⟨bo, n * 5 + 3, none⟩ = false) (f4 : w.frozen? ⟨bo, n * 5 + 4, none⟩ = false)
    (pvs : List Value) (hp : w.ownsRow 0 62 1 pv pvs.length pvs) (hl : pvs.length ≤ 1000000) (hpb : pv.ownBlock ≠ some bp) (hpo : pv.ownBlock ≠ some bo) :
    Calls Try.prog 58 #[.pointer (some ⟨bp, 0, none⟩), .iface t u, .bool single, .int .i64 (k : Int)] w fun e w' => e = .returned (.tuple #[]) ∧ 
      ∃ pv' w1, w' = ((w1.setCell ⟨bo, n * 5 + 3, none⟩ pv').setCell ⟨bo, n * 5 + 4, none⟩ (.bool single)).setCell ⟨bp, 1, none⟩ (.int .i64 ((pos + k : Nat) : Int)) ∧
        w1.ownsRow 0 62 1 pv' (pvs.length + 1) (pvs ++ [.iface t u]) ∧ w.grownBy w1 pv.ownBlock ∧ SameOrNew w pv pv' := by
  obtain ⟨i0, hi, hz0, hz1, hz2⟩ := info_parts info62
  go_enter Try.func58, Try.ntmps58
  go_wp2_with (first 
    | (go_at_call 56; refine (top_any _ _ _ _ _ hn h2).mono ?_; rintro e w' ⟨rfl, nq, rfl⟩)
    | (at_builtin; refine wpList_append_tag rfl (.tmp 16) (.tmp 18) 109 rfl 0 62 i0 .nilIface 1 16 Try.underlying109 hi hz0 hz1 hz2 rfl (by decide) pv pvs.length pvs rfl (World.ownsRow.alloc (w := w.drewN nq) hp _) ⟨w.heap.size, 0, none⟩ 1 1 [.iface t u] rfl rfl ?c1 ?c2 ?c3 ?c4 ?c5 ?_; rotate_left 5; intro v' w1 hown' hgrow htag;
        obtain ⟨g', cap', rfl⟩ := ownsRow_succ' hown';
        have e1 := grown_cell hgrow h1 hpb; have e3 := grown_cell hgrow h3 hpo; have e4 := grown_cell hgrow h4 hpo;
        have d1 := grown_frozen hgrow h1 f1 hpb; have d3 := grown_frozen hgrow h3 f3 hpo; have d4 := grown_frozen hgrow h4 f4 hpo))
  · go_end0
    refine ⟨rfl, _, w1, by push_cast; rfl, hown', ⟨hgrow.os, hgrow.tape, hgrow.output, by have := hgrow.size; simp at this; omega, fun j hj hne => ?_⟩, ?_⟩
    · rw [hgrow.block j (by simp; omega) hne]; exact heap_alloc_old (w.drewN nq) _ hj
    · rcases htag with h | h
      · exact .inl h
      · exact .inr fun k hk => by have := h k hk; simp at this; omega
  case c1 =>
    intro j u1 hj
    rcases j with _ | j
    · simp at hj; subst hj; exact cell_of_row _ _ _ _ _ _ (heap_alloc_new (w.drewN nq) _)
    · simp at hj
  case c2 => intro u1 hu; simp at hu; subst hu; rfl
  case c3 => simp only [maxLen]; omega
  case c4 => omega
  case c5 => exact Nat.zero_le _

def PInv (base : Nat) (g : Tags) (w : World) (bp : Nat) (st : PSt) : Prop := ∃ x, PAt base g w bp st x

/-- What a call of a parser's method keeps: nodes that were read, and whatever lay below. -/
structure Keeps (base : Nat) (g : Tags) (w : World) (g' : Tags) (w' : World) : Prop where
  tree : ∀ b, g b = some .tree → g' b = some .tree ∧ w'.heap[b]? = w.heap[b]?
  below : Below base w w'

theorem Keeps.trans {base : Nat} {g g1 g2 : Tags} {w w1 w2 : World} (h : Keeps base g w g1 w1) (k : Keeps base g1 w1 g2 w2) : Keeps base g w g2 w2 :=
  ⟨fun b hb => ⟨(k.tree b (h.tree b hb).1).1, (k.tree b (h.tree b hb).1).2.trans (h.tree b hb).2⟩, h.below.trans k.below⟩
theorem Keeps.refl (base : Nat) (g : Tags) (w : World) : Keeps base g w g w := ⟨fun b hb => ⟨hb, rfl⟩, Below.refl _ _⟩
theorem Keeps.node {base : Nat} {g g' : Tags} {w w' : World} (h : Keeps base g w g' w') {t : Nd} {v : Value} (hv : NodeAt (isTree g) w t v) : NodeAt (isTree g') w' t v :=
  NodeAt.agree (fun b hb => (h.tree b hb).2) (fun b hb => (h.tree b hb).1) t v hv

def upd (g : Tags) (v' : Value) (t : Tag) : Tags := fun b => if v'.ownBlock = some b then some t else g b

theorem upd_keeps {base : Nat} {g : Tags} {w : World} (tags : ∀ b t, g b = some t → base ≤ b ∧ b < w.heap.size) {v v' : Value} {t : Tag}
    (hv : ∀ k, v.ownBlock = some k → g k = some t) (hs : SameOrNew w v v') : ∀ b t', g b = some t' → upd g v' t b = some t' := by
  intro b t' hb
  unfold upd
  split
  · rename_i h
    rcases hs with hs | hs
    · rw [hs] at h
      rw [← hv b h, hb]
    · have := hs b h
      have := (tags b t' hb).2
      omega
  · exact hb

theorem upd_new {g : Tags} {v' : Value} {t : Tag} : ∀ k, v'.ownBlock = some k → upd g v' t k = some t := by
  intro k hk; unfold upd; rw [if_pos hk]

theorem upd_tags {base : Nat} {g : Tags} {w w1 : World} (tags : ∀ b t, g b = some t → base ≤ b ∧ b < w.heap.size) {v v' : Value} {t : Tag} {e sz n : Nat} {xs : List Value}
    (hb : base ≤ w.heap.size) (hv : ∀ k, v.ownBlock = some k → g k = some t) (hs : SameOrNew w v v') (ho : w1.ownsRow 0 e sz v' n xs) (hsz : w.heap.size ≤ w1.heap.size) :
    ∀ b t', upd g v' t b = some t' → base ≤ b ∧ b < w1.heap.size := by
  intro b t' h
  unfold upd at h
  split at h
  · rename_i hk
    refine ⟨?_, (ho.lt b hk).2⟩
    rcases hs with hs | hs
    · rw [hs] at hk; exact (tags b t (hv b hk)).1
    · exact Nat.le_trans hb (hs b hk)
  · have := tags b t' h; omega

theorem cell_of_blk {w : World} {b : Nat} {cs : Array Value} {T : TypeId} (h : w.heap[b]? = some (.cells cs T (0, 0))) (j : Nat) : w.cell? ⟨b, j, none⟩ = cs[j]? := cell_of_row w b j cs T (0, 0) h
theorem free_of_blk {w : World} {b : Nat} {cs : Array Value} {T : TypeId} (h : w.heap[b]? = some (.cells cs T (0, 0))) (j : Nat) : w.frozen? ⟨b, j, none⟩ = false := frozen_of_row w b j cs T h

theorem NodeAt.iface {G : Nat → Prop} {w : World} : ∀ (t : Nd) (v : Value), NodeAt G w t v → ∃ T u, v = .iface T u := by
  intro t v h
  cases t <;> simp only [NodeAt] at h
  · exact ⟨_, _, h⟩
  · exact ⟨_, _, h⟩
  · obtain ⟨x, h, _⟩ := h; exact ⟨_, _, h⟩
  · obtain ⟨x, y, h, _⟩ := h; exact ⟨_, _, h⟩
  · obtain ⟨x, y, h, _⟩ := h; exact ⟨_, _, h⟩
  · obtain ⟨x, h, _⟩ := h; exact ⟨_, _, h⟩
  · obtain ⟨x, h, _⟩ := h; exact ⟨_, _, h⟩
  · exact ⟨_, _, h⟩

/-- What a state's numbers are at most, so that no counter wraps. -/
structure PSt.Small (st : PSt) : Prop where
  pos : st.pos ≤ 100000
  low : st.low.length ≤ 100000
  brs : st.top.brs.length ≤ 100000
  pcs : st.top.pcs.length ≤ 100000
  groups : st.groups ≤ 100000
  begun : st.begun ≤ 100000
  looks : st.looks ≤ 100000
  refs : st.refs.length ≤ 100000

theorem tag_ne {g : Tags} {b b' : Nat} {t t' : Tag} (h : g b = some t) (h' : g b' = some t') (hn : t ≠ t') : b ≠ b' := by
  rintro rfl; rw [h] at h'; cases h'; exact hn rfl

theorem top_cell {l f r : List Value} {n : Nat} (j : Nat) (hl : l.length = 5 * n) (hj : j < f.length) : (l ++ (f ++ r)).toArray[n * 5 + j]? = f[j]? := by
  have e : n * 5 + j = l.length + j := by omega
  rw [List.getElem?_toArray, e, List.getElem?_append_right (by omega)]
  simp only [Nat.add_sub_cancel_left]
  rw [List.getElem?_append_left hj]

theorem top_set {l f r : List Value} {n : Nat} (j : Nat) (v : Value) (hl : l.length = 5 * n) (hj : j < f.length) : (l ++ (f ++ r)).toArray.setIfInBounds (n * 5 + j) v = (l ++ (f.set j v ++ r)).toArray := by
  have e : n * 5 + j = l.length + j := by omega
  rw [List.setIfInBounds_toArray, e, List.set_append_right _ _ (by omega)]
  simp only [Nat.add_sub_cancel_left]
  rw [List.set_append_left _ _ hj]

set_option maxHeartbeats 400000 in
theorem put_calls {base : Nat} {g : Tags} {w : World} {bp : Nat} {st : PSt} (h : PInv base g w bp st) (hs : st.Small) (hbase : base ≤ w.heap.size) {nd : Nd} {v : Value} (hv : NodeAt (isTree g) w nd v) (single : Bool) (k : Nat) (hk : k ≤ 100000) :
    Calls Try.prog 58 #[.pointer (some ⟨bp, 0, none⟩), v, .bool single, .int .i64 (k : Int)] w fun e w' => e = .returned (.tuple #[]) ∧
      ∃ g', PInv base g' w' bp (st.put nd single k) ∧ Keeps base g w g' w' := by
  obtain ⟨x, h⟩ := h
  obtain ⟨T, u, rfl⟩ := hv.iface
  obtain ⟨hbr, ⟨pvs, hp1, hp2⟩⟩ := h.top
  have hlow := h.low.length
  have hpl := hp2.length
  have hpt : ∀ k, x.pv.ownBlock = some k → g k = some (.pc st.low.length) := hp1.2
  have hpb : x.pv.ownBlock ≠ some bp := fun e => tag_ne (hpt _ e) h.gp (by simp) rfl
  have hpo : x.pv.ownBlock ≠ some x.bo := fun e => tag_ne (hpt _ e) h.gob (by simp) rfl
  have hbb : bp ≠ x.bo := tag_ne h.gp h.gob (by simp)
  refine (put_walk w bp x.bo x.ocap st.low.length T u x.pv (.bool st.top.single) single k st.pos (by have := hs.low; omega) (by omega) (by have := hs.pos; omega)
    (by rw [cell_of_blk h.blk]; rfl) hbb (by rw [cell_of_blk h.blk]; rfl)
    (by rw [cell_of_blk h.opn, top_cell 3 hlow (by simp [frCells])]; rfl) (by rw [cell_of_blk h.opn, top_cell 4 hlow (by simp [frCells])]; rfl)
    (free_of_blk h.blk 1) (free_of_blk h.opn _) (free_of_blk h.opn _) pvs hp1.1 (by have := hs.pcs; omega) hpb hpo).mono ?_
  rintro e w' ⟨rfl, pv', w1, rfl, ho, hg, ht⟩
  have lbp := (h.tags bp _ h.gp).2
  have lbo := (h.tags x.bo _ h.gob).2
  have b1 : w1.heap[bp]? = w.heap[bp]? := hg.block bp lbp (fun e => hpb e.symm)
  have o1 : w1.heap[x.bo]? = w.heap[x.bo]? := hg.block x.bo lbo (fun e => hpo e.symm)
  rw [h.blk] at b1
  rw [h.opn] at o1
  have o2 := heap_setCell_same _ _ (st.low.length * 5 + 3) _ _ pv' o1
  rw [top_set 3 pv' hlow (by simp [frCells])] at o2
  have o3 := heap_setCell_same _ _ (st.low.length * 5 + 4) _ _ (.bool single) o2
  rw [top_set 4 _ hlow (by simp [frCells])] at o3
  have o4 := (heap_setCell_other _ ⟨bp, 1, none⟩ x.bo (.int .i64 ((st.pos + k : Nat) : Int)) (by exact fun e => hbb e.symm)).trans o3
  have b3 : (((w1.setCell ⟨x.bo, st.low.length * 5 + 3, none⟩ pv').setCell ⟨x.bo, st.low.length * 5 + 4, none⟩ (.bool single))).heap[bp]? = _ :=
    (heap_setCell_other _ _ bp _ (by exact hbb)).trans ((heap_setCell_other _ _ bp _ (by exact hbb)).trans b1)
  have b4 := heap_setCell_same _ _ 1 _ _ (.int .i64 ((st.pos + k : Nat) : Int)) b3
  -- all other blocks
  have rest : ∀ b, b ≠ bp → b ≠ x.bo → ((((w1.setCell ⟨x.bo, st.low.length * 5 + 3, none⟩ pv').setCell ⟨x.bo, st.low.length * 5 + 4, none⟩ (.bool single)).setCell ⟨bp, 1, none⟩ (.int .i64 ((st.pos + k : Nat) : Int)))).heap[b]? = w1.heap[b]? := by
    intro b hb1 hb2
    exact (heap_setCell_other _ _ b _ (by exact hb1)).trans ((heap_setCell_other _ _ b _ (by exact hb2)).trans (heap_setCell_other _ _ b _ (by exact hb2)))
  generalize hW : (((w1.setCell ⟨x.bo, st.low.length * 5 + 3, none⟩ pv').setCell ⟨x.bo, st.low.length * 5 + 4, none⟩ (.bool single)).setCell ⟨bp, 1, none⟩ (.int .i64 ((st.pos + k : Nat) : Int))) = W at *
  have hsz : w1.heap.size = W.heap.size := by rw [← hW]; simp
  have keep := upd_keeps h.tags hpt ht
  have other : ∀ b t, g b = some t → t ≠ .parser → t ≠ .opn → t ≠ .pc st.low.length → W.heap[b]? = w.heap[b]? ∧ upd g pv' (.pc st.low.length) b = g b := by
    intro b t hb n1 n2 n3
    refine ⟨(rest b (tag_ne hb h.gp n1) (tag_ne hb h.gob n2)).trans (hg.block b (h.tags b t hb).2 fun e => tag_ne hb (hpt b e.symm) n3 rfl), ?_⟩
    rw [keep b t hb, hb]
  refine ⟨rfl, upd g pv' (.pc st.low.length), ⟨{ x with pv := pv' }, ?_⟩, ?_⟩
  · have otree : ∀ b, isTree g b → W.heap[b]? = w.heap[b]? ∧ upd g pv' (.pc st.low.length) b = g b := fun b hb => other b .tree hb (by simp) (by simp) (by simp)
    have agT : Agree w W (isTree g) := fun b hb => (otree b hb).1
    have moT : ∀ b, isTree g b → isTree (upd g pv' (.pc st.low.length)) b := fun b hb => keep b _ hb
    exact {
      tags := by rw [← hsz]; exact upd_tags h.tags hbase hpt ht ho hg.size
      gp := keep _ _ h.gp
      blk := b4
      gob := keep _ _ h.gob
      opn := o4
      cap1 := h.cap1
      cap2 := h.cap2
      cap3 := by have := h.cap3; simpa [frCells] using this
      refs := ownsRow_agree h.refs fun j hj => (other j .refs (h.grefs j hj) (by simp) (by simp) (by simp)).1
      grefs := fun j hj => keep _ _ (h.grefs j hj)
      low := h.low.agree 0 _ _ fun b hb => by
        rcases hb with hb | ⟨j, _, h2, hb | hb⟩
        · exact otree b hb
        · exact other b _ hb (by simp) (by simp) (by simp)
        · exact other b _ hb (by simp) (by simp) (by simp at h2 ⊢; omega)
      top := by
        refine ⟨?_, pvs ++ [.iface T u], ⟨?_, upd_new⟩, ?_⟩
        · obtain ⟨bvs, h1, h2⟩ := hbr
          exact ⟨bvs, h1.agree (fun b hb => (other b _ hb (by simp) (by simp) (by simp)).1) (fun b hb => keep b _ hb), NodesAt.agree agT moT _ _ h2⟩
        · rw [List.length_append]
          exact ownsRow_agree ho fun j hj => rest j (tag_ne (upd_new j hj) (keep _ _ h.gp) (by simp)) (tag_ne (upd_new j hj) (keep _ _ h.gob) (by simp))
        · exact NodesAt.snoc (NodeAt.agree agT moT _ _ hv) _ _ (NodesAt.agree agT moT _ _ hp2) }
  · refine ⟨fun b hb => ⟨keep b _ hb, (other b .tree hb (by simp) (by simp) (by simp)).1⟩, ?_⟩
    have B1 : Below base w w1 := (Below.refl base w).grown hg hbase fun j hj => (h.tags j _ (hpt j hj)).1
    rw [← hW]
    exact ((B1.setCell (h.tags _ _ h.gob).1 _).setCell (h.tags _ _ h.gob).1 _).setCell (h.tags _ _ h.gp).1 _

end Go.Proofs.Ytfgghbideoehjaa
