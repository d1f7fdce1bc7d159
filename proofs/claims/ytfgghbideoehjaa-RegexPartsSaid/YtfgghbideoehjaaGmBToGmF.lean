/-
  The machine at any program always ends, and what it answers lies in the text.
  The compiled program of any node as a part that is never left.
  Repetitions and branches as parts that are never left; the compiled program of any node.
  The machine of any compiled program: looks ahead answer, from ends, found ends.
-/
import Derived.Test.YtfgghbideoehjaaGmA
namespace Go.Proofs.Ytfgghbideoehjaa
open Go.ChangeShapes Go.WideShapes Go.ChangeAt Go.RowKit
set_option linter.unusedVariables false
set_option linter.unusedSimpArgs false
set_option maxRecDepth 100000

/-- The numbers that a group may have. -/
def valsZ (z : Nat) : List Int := (List.range (z + 2)).map fun (k : Nat) => (k : Int) - 1
theorem mem_valsZ {z : Nat} {v : Int} (h : -1 ≤ v ∧ v ≤ z) : v ∈ valsZ z := by
  unfold valsZ
  rw [List.mem_map]
  exact ⟨(v + 1).toNat, by simp; omega, by omega⟩
/-- All texts of groups that are referred to. -/
def textsZ (z : Nat) : List Bool → List (List UInt8)
  | [] => [[]]
  | b :: r => (textsZ z r).flatMap fun u => (valsZ z).flatMap fun a => (valsZ z).map fun c => (if b = true then [lowB a, highB a, lowB c, highB c] else []) ++ u

def ValsIn (z : Nat) (gs : List Int) : Prop := ∀ v ∈ gs, -1 ≤ v ∧ v ≤ (z : Int)

theorem mem_textsZ {z : Nat} : ∀ (r : List Bool) (gs : List Int), 2 * r.length ≤ gs.length → ValsIn z gs → refText r gs ∈ textsZ z r
  | [], gs, _, _ => by simp [refText, textsZ]
  | b :: r, [], h, _ => by simp at h
  | b :: r, [_], h, _ => by simp only [List.length_cons, List.length_nil] at h; omega
  | b :: r, a :: c :: gs, h, hv => by
    simp only [refText, textsZ, List.mem_flatMap, List.mem_map]
    refine ⟨refText r gs, mem_textsZ r gs (by simp at h; omega) (fun v hm => hv v (by simp [hm])), a, mem_valsZ (hv a (by simp)), c, mem_valsZ (hv c (by simp)), rfl⟩

/-- All keys. -/
def keysZ (n z : Nat) (r : List Bool) : List Key := (List.range n).flatMap fun p => (List.range (z + 1)).flatMap fun q => (textsZ z r).map fun u => (p, q, u)
structure KsOk (n z : Nat) (r : List Bool) (tr : List Key) : Prop where
  nd : tr.Nodup
  mem : ∀ x ∈ tr, x ∈ keysZ n z r
theorem mem_keysZ {n z p q : Nat} {r : List Bool} {gs : List Int} (hp : p < n) (hq : q ≤ z) (hl : 2 * r.length ≤ gs.length) (hv : ValsIn z gs) : (p, q, refText r gs) ∈ keysZ n z r := by
  simp only [keysZ, List.mem_flatMap, List.mem_map, List.mem_range]
  exact ⟨p, hp, q, by omega, _, mem_textsZ r gs hl hv, rfl⟩
theorem ks_len {n z : Nat} {r : List Bool} {tr : List Key} (h : KsOk n z r tr) : tr.length ≤ (keysZ n z r).length := nodup_len _ _ h.nd h.mem
theorem ks_add {n z : Nat} {r : List Bool} {tr : List Key} (h : KsOk n z r tr) {k : Key} (hc : tr.contains k ≠ true) (hk : k ∈ keysZ n z r) : KsOk n z r (tr ++ [k]) := by
  have hm : k ∉ tr := fun hm => hc (by simpa using hm)
  refine ⟨?_, ?_⟩
  · rw [List.nodup_append]
    refine ⟨h.nd, by simp, ?_⟩
    intro a ha b hb
    simp at hb
    subst hb
    exact fun e => hm (by rw [← e]; exact ha)
  · intro x hx
    rcases List.mem_append.1 hx with hx | hx
    · exact h.mem x hx
    · simp at hx; subst hx; exact hk

/-- How many of the groups that are referred to begin or end at a place. -/
def cntEq : List Bool → List Int → Int → Nat
  | [], _, _ => 0
  | b :: r, a :: c :: gs, p => (if b = true then (if a = p then 1 else 0) + (if c = p then 1 else 0) else 0) + cntEq r gs p
  | _ :: _, _, _ => 0
theorem cntEq_le (p : Int) : ∀ (r : List Bool) (gs : List Int), cntEq r gs p ≤ 2 * r.length
  | [], gs => by simp [cntEq]
  | b :: r, [] => by simp [cntEq]
  | b :: r, [_] => by simp [cntEq]
  | b :: r, a :: c :: gs => by
    have := cntEq_le p r gs
    simp only [cntEq, List.length_cons]
    split <;> (try split) <;> (try split) <;> omega
theorem cntEq_set (p : Int) : ∀ (r : List Bool) (gs : List Int) (i : Nat), cntEq r gs p ≤ cntEq r (gs.set i p) p ∧ (cntEq r gs p = cntEq r (gs.set i p) p → refText r (gs.set i p) = refText r gs)
  | [], gs, i => by simp [cntEq, refText]
  | b :: r, [], i => by simp [cntEq, refText]
  | b :: r, [x], i => by cases i <;> simp [cntEq, refText]
  | b :: r, a :: c :: gs, 0 => by
    simp only [List.set_cons_zero, cntEq, refText]
    cases b
    · simp
    · simp only [if_true]
      by_cases ha : a = p
      · simp [ha]
      · rw [if_neg ha]
        refine ⟨by omega, fun h => by omega⟩
  | b :: r, a :: c :: gs, 1 => by
    simp only [List.set_cons_succ, List.set_cons_zero, cntEq, refText]
    cases b
    · simp
    · simp only [if_true]
      by_cases ha : c = p
      · simp [ha]
      · rw [if_neg ha]
        refine ⟨by omega, fun h => by omega⟩
  | b :: r, a :: c :: gs, i + 2 => by
    obtain ⟨h1, h2⟩ := cntEq_set p r gs i
    simp only [List.set_cons_succ, cntEq, refText]
    refine ⟨by omega, fun h => ?_⟩
    rw [h2 (by omega)]

/-- How far a state has come. -/
def rankG (r : List Bool) (t : Gt) : Nat := t.pos * (2 * r.length + 1) + cntEq r t.gs t.pos
theorem rank_le {r : List Bool} {t : Gt} {z : Nat} (h : t.pos ≤ z) : rankG r t ≤ z * (2 * r.length + 1) + 2 * r.length := by
  have h1 := cntEq_le t.pos r t.gs
  have h2 := Nat.mul_le_mul_right (2 * r.length + 1) h
  unfold rankG
  omega

/-- A state comes from another one. -/
def Grew (r : List Bool) (t t' : Gt) : Prop := rankG r t ≤ rankG r t' ∧ (rankG r t = rankG r t' → t.pos = t'.pos ∧ refText r t.gs = refText r t'.gs)
theorem Grew.same {r : List Bool} {t t' : Gt} (h1 : t'.pos = t.pos) (h2 : t'.gs = t.gs) : Grew r t t' := by
  have : rankG r t = rankG r t' := by unfold rankG; rw [h1, h2]
  exact ⟨by omega, fun _ => ⟨h1.symm, by rw [h2]⟩⟩
theorem Grew.further {r : List Bool} {t t' : Gt} (h1 : t.pos < t'.pos) : Grew r t t' := by
  have h2 := cntEq_le t.pos r t.gs
  have h3 := Nat.mul_le_mul_right (2 * r.length + 1) (show t.pos + 1 ≤ t'.pos by omega)
  have h4 : (t.pos + 1) * (2 * r.length + 1) = t.pos * (2 * r.length + 1) + (2 * r.length + 1) := by rw [Nat.add_mul, Nat.one_mul]
  have : rankG r t < rankG r t' := by unfold rankG; omega
  exact ⟨by omega, fun e => by omega⟩
theorem Grew.save {r : List Bool} {t t' : Gt} (i : Nat) (h1 : t'.pos = t.pos) (h2 : t'.gs = t.gs.set i t.pos) : Grew r t t' := by
  obtain ⟨h3, h4⟩ := cntEq_set t.pos r t.gs i
  unfold Grew rankG
  rw [h1, h2]
  exact ⟨by omega, fun e => ⟨rfl, (h4 (by omega)).symm⟩⟩

/-- d choices were made on the way to a state. -/
def DeepG (prog : List Ins) (r : List Bool) (tr : List Key) (t : Gt) (d : Nat) : Prop :=
  ∃ L : List (Nat × Nat), L.Nodup ∧ d ≤ L.length ∧ ∀ x ∈ L, isSplit prog x.1 = true ∧ x.2 ≤ rankG r t ∧ (x.2 = rankG r t → (x.1, t.pos, refText r t.gs) ∈ tr)

theorem DeepG.mono {prog : List Ins} {r : List Bool} {tr tr' : List Key} {t : Gt} {d d' : Nat} (h : DeepG prog r tr t d) (hs : ∀ x ∈ tr, x ∈ tr') (hd : d' ≤ d) : DeepG prog r tr' t d' := by
  obtain ⟨L, h1, h2, h3⟩ := h
  exact ⟨L, h1, by omega, fun x hx => ⟨(h3 x hx).1, (h3 x hx).2.1, fun e => hs _ ((h3 x hx).2.2 e)⟩⟩
theorem DeepG.zero (prog : List Ins) (r : List Bool) (tr : List Key) (t : Gt) : DeepG prog r tr t 0 := ⟨[], List.nodup_nil, Nat.le_refl _, fun x hx => by cases hx⟩
theorem DeepG.step {prog : List Ins} {r : List Bool} {tr : List Key} {t t' : Gt} {d : Nat} (h : DeepG prog r tr t d) (hg : Grew r t t') : DeepG prog r tr t' d := by
  obtain ⟨L, h1, h2, h3⟩ := h
  refine ⟨L, h1, h2, fun x hx => ⟨(h3 x hx).1, Nat.le_trans (h3 x hx).2.1 hg.1, fun e => ?_⟩⟩
  have h4 := (h3 x hx).2.1
  have h5 := hg.1
  obtain ⟨e1, e2⟩ := hg.2 (by omega)
  rw [← e1, ← e2]
  exact (h3 x hx).2.2 (by omega)
theorem DeepG.split {prog : List Ins} {r : List Bool} {tr : List Key} {t : Gt} {d : Nat} (h : DeepG prog r tr t d) (hs : isSplit prog t.pc = true) (hc : tr.contains (t.pc, t.pos, refText r t.gs) ≠ true) : DeepG prog r (tr ++ [(t.pc, t.pos, refText r t.gs)]) t (d + 1) := by
  obtain ⟨L, h1, h2, h3⟩ := h
  have hm : (t.pc, t.pos, refText r t.gs) ∉ tr := fun hm => hc (by simpa using hm)
  refine ⟨(t.pc, rankG r t) :: L, List.nodup_cons.2 ⟨fun hm2 => hm ((h3 _ hm2).2.2 rfl), h1⟩, by simp; omega, fun x hx => ?_⟩
  rcases List.mem_cons.1 hx with rfl | hx
  · exact ⟨hs, Nat.le_refl _, fun _ => by simp⟩
  · exact ⟨(h3 x hx).1, (h3 x hx).2.1, fun e => List.mem_append.2 (.inl ((h3 x hx).2.2 e))⟩
theorem DeepG.bound {prog : List Ins} {r : List Bool} {tr : List Key} {t : Gt} {d z : Nat} (h : DeepG prog r tr t d) (hz : t.pos ≤ z) : d ≤ splits prog * (z * (2 * r.length + 1) + 2 * r.length + 1) := by
  obtain ⟨L, h1, h2, h3⟩ := h
  have hr := rank_le (r := r) hz
  have := nodup_len L (((List.range prog.length).filter (isSplit prog)).flatMap fun p => (List.range (z * (2 * r.length + 1) + 2 * r.length + 1)).map fun q => (p, q)) h1 fun x hx => by
    obtain ⟨h4, h5, _⟩ := h3 x hx
    have hlt : x.1 < prog.length := by
      rcases Nat.lt_or_ge x.1 prog.length with h6 | h6
      · exact h6
      · simp [isSplit, List.getElem?_eq_none h6] at h4
    simp only [List.mem_flatMap, List.mem_filter, List.mem_range, List.mem_map]
    exact ⟨x.1, ⟨hlt, h4⟩, x.2, by omega, rfl⟩
  rw [flat_len _ (z * (2 * r.length + 1) + 2 * r.length + 1) (fun x => by simp), splits_range] at this
  omega

/-- The stack. -/
def StD (prog : List Ins) (r : List Bool) (tr : List Key) : List Gt → Prop
  | [] => True
  | t :: l => DeepG prog r tr t (l.length + 1) ∧ StD prog r tr l
theorem StD.mono {prog : List Ins} {r : List Bool} {tr tr' : List Key} (hs : ∀ x ∈ tr, x ∈ tr') : ∀ {l : List Gt}, StD prog r tr l → StD prog r tr' l
  | [], _ => trivial
  | _ :: _, h => ⟨h.1.mono hs (Nat.le_refl _), StD.mono hs h.2⟩

/-- A part of a program that is never left: from lo to hi; lab tells which groups have begun. -/
structure Rg (M : Mc) (lk : Nat → Nat → Option Bool) (G lo hi : Nat) (lab : Nat → Nat → Prop) : Prop where
  lohi : lo ≤ hi
  start : ∀ n, ¬ lab lo n
  ins : ∀ k, lo ≤ k → k ≤ hi → ∃ x, M.prog[k]? = some x ∧ x.op ≤ 9 ∧ (∀ j ∈ succs k x, lo ≤ j ∧ j ≤ hi) ∧ (x.op = 5 → 2 ≤ x.a ∧ x.a < G ∧ ∀ n, x.a = 2 * n + 1 → lab k n) ∧
    (x.op = 6 ∨ x.op = 7 → x.a < M.marks) ∧ (x.op = 8 → 2 * x.a + 1 < G) ∧ (x.op = 2 → ∀ p, p ≤ M.s.size → ∃ b, lk x.a p = some b) ∧ ∀ j ∈ succs k x, ∀ n, lab j n → lab k n ∨ (x.op = 5 ∧ x.a = 2 * n)

structure GtOk (M : Mc) (G lo hi : Nat) (lab : Nat → Nat → Prop) (at0 : Nat) (t : Gt) : Prop where
  lo : lo ≤ t.pc
  hi : t.pc ≤ hi
  pos : t.pos ≤ M.s.size
  from_ : at0 ≤ t.pos
  gs : t.gs.length = G
  ms : t.ms.length = M.marks
  vals : ValsIn M.s.size t.gs
  lab : ∀ n, lab t.pc n → ∃ u, t.gs[2 * n]? = some u ∧ 0 ≤ u
  par : ∀ n v, t.gs[2 * n + 1]? = some v → 0 ≤ v → ∃ u, t.gs[2 * n]? = some u ∧ 0 ≤ u
  g0 : t.gs[0]? = some (at0 : Int)

/-- What a run answers. -/
structure EndG (M : Mc) (n G at0 : Nat) (res : Option (List Int) × List Key) : Prop where
  trk : KsOk n M.s.size M.refs res.2
  gs : ∀ gs, res.1 = some gs → gs.length = G ∧ gs[0]? = some (at0 : Int) ∧ ∃ e : Nat, gs[1]? = some (e : Int) ∧ at0 ≤ e ∧ e ≤ M.s.size

def stWG : Option Gt → Nat
  | some _ => 1
  | none => 0
def stRG (n : Nat) : Option Gt → Nat
  | some t => n - t.pc
  | none => 0

structure VG (M : Mc) (G lo hi : Nat) (lab : Nat → Nat → Prop) (at0 : Nat) (st : Option Gt) (l : List Gt) (tr : List Key) : Prop where
  th : ∀ t, st = some t → GtOk M G lo hi lab at0 t ∧ DeepG M.prog M.refs tr t l.length
  st : ∀ t ∈ l, GtOk M G lo hi lab at0 t
  sd : StD M.prog M.refs tr l
  trk : KsOk M.prog.length M.s.size M.refs tr

theorem vals_set {z : Nat} {gs : List Int} (h : ValsIn z gs) {i p : Nat} (hp : p ≤ z) : ValsIn z (gs.set i (p : Int)) := by
  intro v hv
  rcases List.mem_or_eq_of_mem_set hv with h1 | rfl
  · exact h v h1
  · omega

theorem GtOk.next {M : Mc} {lk : Nat → Nat → Option Bool} {G lo hi : Nat} {lab : Nat → Nat → Prop} {at0 : Nat} {t t' : Gt} (hR : Rg M lk G lo hi lab) (h : GtOk M G lo hi lab at0 t) {x : Ins} (hx : M.prog[t.pc]? = some x) (h5 : x.op ≠ 5) (hs : t'.pc ∈ succs t.pc x)
    (hp : t.pos ≤ t'.pos) (hz : t'.pos ≤ M.s.size) (hg : t'.gs = t.gs) (hm : t'.ms.length = M.marks) : GtOk M G lo hi lab at0 t' := by
  obtain ⟨y, hy, _, h1, _, _, _, _, h2⟩ := hR.ins t.pc h.lo h.hi
  rw [hx] at hy
  cases hy
  exact {
    lo := (h1 _ hs).1
    hi := (h1 _ hs).2
    pos := hz
    from_ := by have := h.from_; omega
    gs := by rw [hg]; exact h.gs
    ms := hm
    vals := by rw [hg]; exact h.vals
    lab := fun n hn => by
      rw [hg]
      rcases h2 _ hs n hn with h3 | h3
      · exact h.lab n h3
      · exact absurd h3.1 h5
    par := by rw [hg]; exact h.par
    g0 := by rw [hg]; exact h.g0 }

theorem GtOk.save {M : Mc} {lk : Nat → Nat → Option Bool} {G lo hi : Nat} {lab : Nat → Nat → Prop} {at0 : Nat} {t : Gt} (hR : Rg M lk G lo hi lab) (h : GtOk M G lo hi lab at0 t) {x : Ins} (hx : M.prog[t.pc]? = some x) (h5 : x.op = 5) :
    GtOk M G lo hi lab at0 { t with pc := t.pc + 1, gs := t.gs.set x.a t.pos } := by
  obtain ⟨y, hy, _, h1, h3, _, _, _, h2⟩ := hR.ins t.pc h.lo h.hi
  rw [hx] at hy
  cases hy
  have hs : t.pc + 1 ∈ succs t.pc x := by simp [succs, h5]
  obtain ⟨h6, h7, h8⟩ := h3 h5
  have hl := h.gs
  have up : ∀ (i : Nat) (u : Int), t.gs[i]? = some u → 0 ≤ u → ∃ v, (t.gs.set x.a (t.pos : Int))[i]? = some v ∧ 0 ≤ v := by
    intro i u hu h0
    by_cases he : x.a = i
    · subst he
      exact ⟨t.pos, List.getElem?_set_self (by omega), by omega⟩
    · exact ⟨u, by rw [List.getElem?_set_ne he]; exact hu, h0⟩
  exact {
    lo := (h1 _ hs).1
    hi := (h1 _ hs).2
    pos := h.pos
    from_ := h.from_
    gs := by simp [hl]
    ms := h.ms
    vals := vals_set h.vals h.pos
    lab := fun n hn => by
      rcases h2 _ hs n hn with h9 | h9
      · obtain ⟨u, e1, e2⟩ := h.lab n h9
        exact up _ u e1 e2
      · exact ⟨t.pos, by rw [← h9.2]; exact List.getElem?_set_self (by omega), by omega⟩
    par := fun n v hv h0 => by
      by_cases he : x.a = 2 * n + 1
      · obtain ⟨u, e1, e2⟩ := h.lab n (h8 n he)
        exact up _ u e1 e2
      · rw [List.getElem?_set_ne he] at hv
        obtain ⟨u, e1, e2⟩ := h.par n v hv h0
        exact up _ u e1 e2
    g0 := by rw [List.getElem?_set_ne (by omega)]; exact h.g0 }

set_option maxHeartbeats 2000000 in
theorem grun_ends {M : Mc} {lk : Nat → Nat → Option Bool} {G lo hi : Nat} {lab : Nat → Nat → Prop} {at0 : Nat} (whole : Bool) (hR : Rg M lk G lo hi lab) (hG : 1 < G) (hrl : 2 * M.refs.length ≤ G) (hz6 : M.s.size ≤ 60000) (hS : splits M.prog * (M.s.size * (2 * M.refs.length + 1) + 2 * M.refs.length + 1) < 200000000) :
    ∀ (a b c : Nat) (st : Option Gt) (l : List Gt) (tr : List Key), (keysZ M.prog.length M.s.size M.refs).length - tr.length = a → 2 * l.length + stWG st = b → stRG M.prog.length st = c → VG M G lo hi lab at0 st l tr →
      ∃ k res, grun M lk whole k st l tr = some res ∧ EndG M M.prog.length G at0 res := by
  intro a
  induction a using Nat.strongRecOn with
  | ind a iha =>
  intro b
  induction b using Nat.strongRecOn with
  | ind b ihb =>
  intro c
  induction c using Nat.strongRecOn with
  | ind c ihc =>
  intro st l tr ha hb hc h
  have htl := ks_len h.trk
  cases st with
  | none =>
    cases l with
    | nil => exact ⟨1, (none, tr), rfl, h.trk, (fun gs e => by cases e)⟩
    | cons t l =>
      obtain ⟨k, res, hr, he⟩ := ihb (2 * l.length + 1) (by simp [stWG] at hb; omega) _ (some t) l tr ha rfl rfl ⟨fun t' e => by cases e; exact ⟨h.st t (by simp), h.sd.1.mono (fun _ h => h) (by omega)⟩, fun t' ht => h.st t' (by simp [ht]), h.sd.2, h.trk⟩
      exact ⟨k + 1, res, hr, he⟩
  | some t =>
    obtain ⟨ht, hd⟩ := h.th t rfl
    obtain ⟨x, hx, h9, hsu, hin5, hin6, hin8, hin2, hlab⟩ := hR.ins t.pc ht.lo ht.hi
    have hpl := get_lt hx
    have hgl := ht.gs
    have hml := ht.ms
    -- the ways on
    have same : ∀ t' : Gt, t'.pc = t.pc + 1 → GtOk M G lo hi lab at0 t' → Grew M.refs t t' → ∃ k res, grun M lk whole k (some t') l tr = some res ∧ EndG M M.prog.length G at0 res := fun t' hp hk hg =>
      ihc (M.prog.length - t'.pc) (by simp only [stRG] at hc; omega) (some t') l tr ha hb rfl ⟨fun t'' e => by cases e; exact ⟨hk, hd.step hg⟩, h.st, h.sd, h.trk⟩
    have off : ∃ k res, grun M lk whole k none l tr = some res ∧ EndG M M.prog.length G at0 res :=
      ihb (2 * l.length) (by simp only [stWG] at hb; omega) _ none l tr ha rfl rfl ⟨(fun t' e => by cases e), h.st, h.sd, h.trk⟩
    have goOn : ∀ (t' : Gt) (l' : List Gt) (tr' : List Key), t.step M lk whole l tr = .on t' l' tr' → (∃ k res, grun M lk whole k (some t') l' tr' = some res ∧ EndG M M.prog.length G at0 res) → ∃ k res, grun M lk whole k (some t) l tr = some res ∧ EndG M M.prog.length G at0 res := by
      rintro t' l' tr' hv ⟨k, res, hr, he⟩
      exact ⟨k + 1, res, by simp only [grun, hv]; exact hr, he⟩
    have goOff : t.step M lk whole l tr = .off l tr → ∃ k res, grun M lk whole k (some t) l tr = some res ∧ EndG M M.prog.length G at0 res := by
      intro hv
      obtain ⟨k, res, hr, he⟩ := off
      exact ⟨k + 1, res, by simp only [grun, hv]; exact hr, he⟩
    have hkey : (t.pc, t.pos, refText M.refs t.gs) ∈ keysZ M.prog.length M.s.size M.refs := mem_keysZ hpl ht.pos (by omega) ht.vals
    have hdb := hd.bound ht.pos
    have hkk : ¬ keyOk M.refs t.gs = false := by
      have h1 : keyOk M.refs t.gs = true := by
        unfold keyOk
        rw [Bool.and_eq_true, List.all_eq_true]
        refine ⟨by simp; omega, fun v hv => ?_⟩
        have := ht.vals v hv
        simp
        omega
      rw [h1]; decide
    have hop : x.op = 0 ∨ x.op = 3 ∨ x.op = 4 ∨ x.op = 5 ∨ x.op = 6 ∨ x.op = 7 ∨ x.op = 9 ∨ x.op = 1 ∨ x.op = 2 ∨ x.op = 8 := by omega
    rcases hop with h0 | h3 | h4 | h5 | h6 | h7 | h9' | h1 | h2 | h8
    · by_cases hc0 : t.pos < M.s.size ∧ x.set.has (byte M.s t.pos) = true
      · refine goOn { t with pc := t.pc + 1, pos := t.pos + 1 } l tr (by unfold Gt.step; rw [hx]; dsimp only; rw [if_pos h0, if_pos hc0]) ?_
        exact same _ rfl (ht.next (t' := { t with pc := t.pc + 1, pos := t.pos + 1 }) hR hx (by omega) (by simp [succs, h0]) (by simp) (by show t.pos + 1 ≤ _; omega) rfl ht.ms) (Grew.further (by simp))
      · exact goOff (by unfold Gt.step; rw [hx]; dsimp only; rw [if_pos h0, if_neg hc0])
    · by_cases hcon : tr.contains (t.pc, t.pos, refText M.refs t.gs) = true
      · exact goOff (by unfold Gt.step; rw [hx]; dsimp only; rw [if_neg (by omega), if_pos h3, if_neg hkk, if_pos hcon])
      · refine goOn { t with pc := x.a } ({ t with pc := x.b } :: l) (tr ++ [(t.pc, t.pos, refText M.refs t.gs)]) (by unfold Gt.step; rw [hx]; dsimp only; rw [if_neg (by omega), if_pos h3, if_neg hkk, if_neg hcon, if_pos (by omega)]) ?_
        have htr := ks_add h.trk hcon hkey
        have hsplit : isSplit M.prog t.pc = true := by simp [isSplit, hx, h3]
        have hlen := ks_len htr
        have hda := (hd.split hsplit hcon).step (Grew.same (t' := { t with pc := x.a }) rfl rfl)
        have hdb2 := (hd.split hsplit hcon).step (Grew.same (t' := { t with pc := x.b }) rfl rfl)
        have oka := ht.next (t' := { t with pc := x.a }) hR hx (by omega) (by simp [succs, h3]) (by simp) ht.pos rfl ht.ms
        have okb := ht.next (t' := { t with pc := x.b }) hR hx (by omega) (by simp [succs, h3]) (by simp) ht.pos rfl ht.ms
        refine iha ((keysZ M.prog.length M.s.size M.refs).length - (tr ++ [(t.pc, t.pos, refText M.refs t.gs)]).length) (by simp at hlen ⊢; omega) _ _ _ _ _ rfl rfl rfl ⟨fun t'' e => ?_, fun t'' hm => ?_, ?_, htr⟩
        · cases e
          exact ⟨oka, hda⟩
        · rcases List.mem_cons.1 hm with rfl | hm
          · exact okb
          · exact h.st _ hm
        · exact ⟨hdb2, StD.mono (fun _ hx => List.mem_append.2 (.inl hx)) h.sd⟩
    · by_cases hcon : tr.contains (t.pc, t.pos, refText M.refs t.gs) = true
      · exact goOff (by unfold Gt.step; rw [hx]; dsimp only; rw [if_neg (by omega), if_neg (by omega), if_pos h4, if_neg hkk, if_pos hcon])
      · refine goOn { t with pc := x.a } l (tr ++ [(t.pc, t.pos, refText M.refs t.gs)]) (by unfold Gt.step; rw [hx]; dsimp only; rw [if_neg (by omega), if_neg (by omega), if_pos h4, if_neg hkk, if_neg hcon]) ?_
        have htr := ks_add h.trk hcon hkey
        have hlen := ks_len htr
        have oka := ht.next (t' := { t with pc := x.a }) hR hx (by omega) (by simp [succs, h4]) (by simp) ht.pos rfl ht.ms
        exact iha ((keysZ M.prog.length M.s.size M.refs).length - (tr ++ [(t.pc, t.pos, refText M.refs t.gs)]).length) (by simp at hlen ⊢; omega) _ _ _ _ _ rfl rfl rfl ⟨fun t'' e => by cases e; exact ⟨oka, (hd.mono (fun _ hx => List.mem_append.2 (.inl hx)) (Nat.le_refl _)).step (Grew.same rfl rfl)⟩, h.st, StD.mono (fun _ hx => List.mem_append.2 (.inl hx)) h.sd, htr⟩
    · have hin := (hin5 h5).2.1
      refine goOn { t with pc := t.pc + 1, gs := t.gs.set x.a t.pos } l tr (by unfold Gt.step; rw [hx]; dsimp only; rw [if_neg (by omega), if_neg (by omega), if_neg (by omega), if_pos h5, if_pos (by omega)]) ?_
      exact same _ rfl (ht.save hR hx h5) (Grew.save x.a rfl rfl)
    · have hin := hin6 (.inl h6)
      refine goOn { t with pc := t.pc + 1, ms := t.ms.set x.a t.pos } l tr (by unfold Gt.step; rw [hx]; dsimp only; rw [if_neg (by omega), if_neg (by omega), if_neg (by omega), if_neg (by omega), if_pos h6, if_pos (by omega)]) ?_
      exact same _ rfl (ht.next (t' := { t with pc := t.pc + 1, ms := t.ms.set x.a t.pos }) hR hx (by omega) (by simp [succs, h6]) (by simp) ht.pos rfl (by simp [hml])) (Grew.same rfl rfl)
    · have hin := hin6 (.inr h7)
      obtain ⟨m, hm⟩ : ∃ m, t.ms[x.a]? = some m := ⟨_, List.getElem?_eq_getElem (by omega)⟩
      by_cases hlt : m < t.pos
      · refine goOn { t with pc := t.pc + 1 } l tr (by unfold Gt.step; rw [hx]; dsimp only; rw [if_neg (by omega), if_neg (by omega), if_neg (by omega), if_neg (by omega), if_neg (by omega), if_pos h7, hm]; dsimp only; rw [if_pos hlt]) ?_
        exact same _ rfl (ht.next (t' := { t with pc := t.pc + 1 }) hR hx (by omega) (by simp [succs, h7]) (by simp) ht.pos rfl ht.ms) (Grew.same rfl rfl)
      · exact goOff (by unfold Gt.step; rw [hx]; dsimp only; rw [if_neg (by omega), if_neg (by omega), if_neg (by omega), if_neg (by omega), if_neg (by omega), if_pos h7, hm]; dsimp only; rw [if_neg hlt])
    · by_cases hw : whole = false ∨ t.pos = M.s.size
      · have hv : t.step M lk whole l tr = .hit (t.gs.set 1 t.pos) tr := by unfold Gt.step; rw [hx]; dsimp only; rw [if_neg (by omega), if_neg (by omega), if_neg (by omega), if_neg (by omega), if_neg (by omega), if_neg (by omega), if_pos h9', if_pos hw, if_pos (by omega)]
        refine ⟨1, (some (t.gs.set 1 (t.pos : Int)), tr), by simp only [grun, hv], h.trk, (fun g e => ?_)⟩
        cases e
        exact ⟨by simp [hgl], by rw [List.getElem?_set_ne (by omega)]; exact ht.g0, t.pos, List.getElem?_set_self (by omega), ht.from_, ht.pos⟩
      · exact goOff (by unfold Gt.step; rw [hx]; dsimp only; rw [if_neg (by omega), if_neg (by omega), if_neg (by omega), if_neg (by omega), if_neg (by omega), if_neg (by omega), if_pos h9', if_neg hw])
    · by_cases hc0 : placeP M.lines M.s x.kind t.pos = true
      · refine goOn { t with pc := t.pc + 1 } l tr (by unfold Gt.step; rw [hx]; dsimp only; rw [if_neg (by omega), if_neg (by omega), if_neg (by omega), if_neg (by omega), if_neg (by omega), if_neg (by omega), if_neg (by omega), if_pos h1, if_pos hc0]) ?_
        exact same _ rfl (ht.next (t' := { t with pc := t.pc + 1 }) hR hx (by omega) (by simp [succs, h1]) (by simp) ht.pos rfl ht.ms) (Grew.same rfl rfl)
      · exact goOff (by unfold Gt.step; rw [hx]; dsimp only; rw [if_neg (by omega), if_neg (by omega), if_neg (by omega), if_neg (by omega), if_neg (by omega), if_neg (by omega), if_neg (by omega), if_pos h1, if_neg hc0])
    · obtain ⟨b, hb2⟩ := hin2 h2 t.pos ht.pos
      by_cases hc0 : b = decide (x.b = 0)
      · refine goOn { t with pc := t.pc + 1 } l tr (by unfold Gt.step; rw [hx]; dsimp only; rw [if_neg (by omega), if_neg (by omega), if_neg (by omega), if_neg (by omega), if_neg (by omega), if_neg (by omega), if_neg (by omega), if_neg (by omega), if_pos h2, hb2]; dsimp only; rw [if_pos hc0]) ?_
        exact same _ rfl (ht.next (t' := { t with pc := t.pc + 1 }) hR hx (by omega) (by simp [succs, h2]) (by simp) ht.pos rfl ht.ms) (Grew.same rfl rfl)
      · exact goOff (by unfold Gt.step; rw [hx]; dsimp only; rw [if_neg (by omega), if_neg (by omega), if_neg (by omega), if_neg (by omega), if_neg (by omega), if_neg (by omega), if_neg (by omega), if_neg (by omega), if_pos h2, hb2]; dsimp only; rw [if_neg hc0])
    · have hin := hin8 h8
      obtain ⟨f, hf⟩ : ∃ m, t.gs[2 * x.a]? = some m := ⟨_, List.getElem?_eq_getElem (by omega)⟩
      obtain ⟨v, hv⟩ : ∃ m, t.gs[2 * x.a + 1]? = some m := ⟨_, List.getElem?_eq_getElem (by omega)⟩
      have hst : t.step M lk whole l tr = (if 0 ≤ v ∧ f ≤ v ∧ (t.pos : Int) + v - f ≤ M.s.size then (if f < 0 ∨ (M.s.size : Int) < v then .bad else if alikeT M.fold (M.s.extract f.toNat v.toNat) (M.s.extract t.pos (t.pos + (v.toNat - f.toNat))) = true then .on { t with pc := t.pc + 1, pos := t.pos + (v.toNat - f.toNat) } l tr else .off l tr) else .off l tr) := by
        unfold Gt.step; rw [hx]; dsimp only
        rw [if_neg (by omega), if_neg (by omega), if_neg (by omega), if_neg (by omega), if_neg (by omega), if_neg (by omega), if_neg (by omega), if_neg (by omega), if_neg (by omega), if_pos h8, if_neg hkk, hf, hv]
      by_cases hc0 : 0 ≤ v ∧ f ≤ v ∧ (t.pos : Int) + v - f ≤ M.s.size
      · obtain ⟨u, e1, e2⟩ := ht.par x.a v hv hc0.1
        rw [hf] at e1
        cases e1
        have hvv := ht.vals v (List.mem_of_getElem? hv)
        rw [if_pos hc0, if_neg (by omega)] at hst
        by_cases hc1 : alikeT M.fold (M.s.extract f.toNat v.toNat) (M.s.extract t.pos (t.pos + (v.toNat - f.toNat))) = true
        · rw [if_pos hc1] at hst
          refine goOn _ _ _ hst ?_
          refine same _ rfl (ht.next (t' := { t with pc := t.pc + 1, pos := t.pos + (v.toNat - f.toNat) }) hR hx (by omega) (by simp [succs, h8]) (by simp) (by show t.pos + (v.toNat - f.toNat) ≤ _; omega) rfl ht.ms) ?_
          rcases Nat.eq_zero_or_pos (v.toNat - f.toNat) with h10 | h10
          · exact Grew.same (by show t.pos + (v.toNat - f.toNat) = _; omega) rfl
          · exact Grew.further (by show t.pos < t.pos + (v.toNat - f.toNat); omega)
        · rw [if_neg hc1] at hst
          exact goOff hst
      · rw [if_neg hc0] at hst
        exact goOff hst

end Go.Proofs.Ytfgghbideoehjaa

namespace Go.Proofs.Ytfgghbideoehjaa
open Go.ChangeShapes Go.WideShapes Go.ChangeAt Go.RowKit
set_option linter.unusedVariables false
set_option linter.unusedSimpArgs false
set_option maxRecDepth 100000

def shG (k : Nat) (i : Ins) : Ins := if i.op = 3 then { i with a := i.a + k, b := i.b + k } else if i.op = 4 ∨ i.op = 2 then { i with a := i.a + k } else i
def shL (k : Nat) (l : List Ins) : List Ins := l.map (shG k)
@[simp] theorem shL_len (k : Nat) (l : List Ins) : (shL k l).length = l.length := by simp [shL]
@[simp] theorem shG_op (k : Nat) (i : Ins) : (shG k i).op = i.op := by unfold shG; split <;> (try split) <;> rfl
@[simp] theorem shG_b {k : Nat} {i : Ins} (h : i.op ≠ 3) : (shG k i).b = i.b := by unfold shG; rw [if_neg h]; split <;> rfl
theorem shG_a {k : Nat} {x : Ins} (h3 : x.op ≠ 3) (h4 : x.op ≠ 4) (h2 : x.op ≠ 2) : (shG k x).a = x.a := by unfold shG; rw [if_neg h3, if_neg (by omega)]
theorem shG_look {k : Nat} {x : Ins} (h2 : x.op = 2) : (shG k x).a = x.a + k := by unfold shG; rw [if_neg (by omega), if_pos (.inr h2)]
theorem shG_add (j k : Nat) (i : Ins) : shG k (shG j i) = shG (j + k) i := by
  obtain ⟨op, a, b, s, kd⟩ := i
  unfold shG
  by_cases h3 : op = 3
  · simp [h3]; omega
  · by_cases h4 : op = 4 ∨ op = 2
    · simp [h3, h4]; omega
    · simp [h3, h4]
theorem shL_add (j k : Nat) (l : List Ins) : shL k (shL j l) = shL (j + k) l := by
  simp only [shL, List.map_map]
  congr 1
  funext i
  exact shG_add j k i
theorem shL_app (k : Nat) (l m : List Ins) : shL k (l ++ m) = shL k l ++ shL k m := by simp [shL]
theorem shG_zero (i : Ins) : shG 0 i = i := by obtain ⟨op, a, b, s, kd⟩ := i; unfold shG; by_cases h3 : op = 3 <;> by_cases h4 : op = 4 ∨ op = 2 <;> simp [h3, h4]
theorem shL_zero (l : List Ins) : shL 0 l = l := by
  have : shG 0 = id := by funext i; exact shG_zero i
  simp [shL, this]
theorem shL_get (k : Nat) (seg : List Ins) (i : Nat) : (shL k seg)[i]? = (seg[i]?).map (shG k) := by simp [shL]
theorem shL_get' {k i : Nat} {seg : List Ins} {x : Ins} (h : (shL k seg)[i]? = some x) : ∃ y, seg[i]? = some y ∧ x = shG k y := by
  rw [shL_get] at h
  cases hs : seg[i]? with
  | none => rw [hs] at h; cases h
  | some y => rw [hs] at h; cases h; exact ⟨y, rfl, rfl⟩
theorem succs_shG (o k : Nat) (x : Ins) (j : Nat) : j ∈ succs (k + o) (shG o x) ↔ ∃ i, i ∈ succs k x ∧ j = i + o := by
  obtain ⟨op, a, b, s, kd⟩ := x
  unfold succs shG
  by_cases h3 : op = 3
  · subst h3; simp
  · by_cases h4 : op = 4
    · subst h4; simp
    · by_cases h2 : op = 2
      · subst h2; simp; omega
      · by_cases h9 : op = 9
        · subst h9; simp
        · simp [h3, h4, h9, h2]; omega

/-- The body of a look ahead, from lo on: d of them lie in one another at most. -/
def LkReg (prog : List Ins) (mk : Nat) : Nat → Nat → Prop
  | 0, _ => False
  | d + 1, lo => ∃ hi, lo ≤ hi ∧ ∀ k, lo ≤ k → k ≤ hi → ∃ x, prog[k]? = some x ∧ x.op ≤ 9 ∧ x.op ≠ 5 ∧ x.op ≠ 8 ∧ (∀ j ∈ succs k x, lo ≤ j ∧ j ≤ hi) ∧ (x.op = 6 ∨ x.op = 7 → x.a < mk) ∧ (x.op = 2 → LkReg prog mk d x.a)

theorem LkReg.mono {prog : List Ins} {mk : Nat} : ∀ {d d' lo : Nat}, LkReg prog mk d lo → d ≤ d' → LkReg prog mk d' lo
  | 0, d', lo, h, _ => h.elim
  | d + 1, 0, lo, h, hd => by omega
  | d + 1, d' + 1, lo, ⟨hi, h1, h2⟩, hd => ⟨hi, h1, fun k a b => by
      obtain ⟨x, c1, c2, c3, c4, c5, c6, c7⟩ := h2 k a b
      exact ⟨x, c1, c2, c3, c4, c5, c6, fun e => (c7 e).mono (by omega)⟩⟩

theorem LkReg.place {seg prog : List Ins} {mk mk' b : Nat} (hp : ∀ (k : Nat) (x : Ins), seg[k]? = some x → prog[b + k]? = some (shG b x)) (hm : mk ≤ mk') : ∀ {d lo : Nat}, LkReg seg mk d lo → LkReg prog mk' d (lo + b)
  | 0, lo, h => h.elim
  | d + 1, lo, ⟨hi, h1, h2⟩ => ⟨hi + b, by omega, fun k a c => by
      obtain ⟨k', rfl⟩ : ∃ k', k = k' + b := ⟨k - b, by omega⟩
      obtain ⟨x, c1, c2, c3, c4, c5, c6, c7⟩ := h2 k' (by omega) (by omega)
      refine ⟨shG b x, by rw [Nat.add_comm]; exact hp k' x c1, by rw [shG_op]; exact c2, by rw [shG_op]; exact c3, by rw [shG_op]; exact c4, fun j hj => ?_, fun e => ?_, fun e => ?_⟩
      · obtain ⟨i, hi2, rfl⟩ := (succs_shG _ _ _ _).1 hj
        have := c5 i hi2
        omega
      · rw [shG_op] at e
        rw [shG_a (by omega) (by omega) (by omega)]
        have := c6 e
        omega
      · rw [shG_op] at e
        rw [shG_look e]
        exact (c7 e).place hp hm⟩

/-- One depth for all. -/
theorem one_depth (P : Nat → Nat → Prop) (hm : ∀ d d' k, P d k → d ≤ d' → P d' k) : ∀ n, (∀ k, k < n → ∃ d, P d k) → ∃ D, ∀ k, k < n → P D k
  | 0, _ => ⟨0, fun k h => by omega⟩
  | n + 1, h => by
    obtain ⟨D, hD⟩ := one_depth P hm n fun k hk => h k (by omega)
    obtain ⟨d, hd⟩ := h n (by omega)
    refine ⟨max D d, fun k hk => ?_⟩
    rcases Nat.lt_or_ge k n with h1 | h1
    · exact hm _ _ _ (hD k h1) (by omega)
    · obtain rfl : k = n := (by omega)
      exact hm _ _ _ hd (by omega)

/-- A segment: G places for groups, the marks from m on and below m'. -/
structure SegR (G m m' : Nat) (flat : Prop) (seg : List Ins) (lab : Nat → Nat → Prop) : Prop where
  mm : m ≤ m'
  ins : ∀ (k : Nat) (x : Ins), seg[k]? = some x → x.op ≤ 9 ∧ (∀ j ∈ succs k x, j ≤ seg.length) ∧ (x.op = 5 → 2 ≤ x.a ∧ x.a < G ∧ ∀ n, x.a = 2 * n + 1 → lab k n) ∧ (x.op = 6 ∨ x.op = 7 → m ≤ x.a ∧ x.a < m') ∧ (x.op = 8 → 2 * x.a + 1 < G) ∧
    (∀ j ∈ succs k x, ∀ n, lab j n → lab k n ∨ (x.op = 5 ∧ x.a = 2 * n))
  l0 : ∀ n, ¬ lab 0 n
  l1 : ∀ n, ¬ lab seg.length n
  lk : ∀ (k : Nat) (x : Ins), seg[k]? = some x → x.op = 2 → ∃ d, LkReg seg m' d x.a
  flat : flat → ∀ x ∈ seg, x.op ≠ 5 ∧ x.op ≠ 8

/-- A piece of the compiler that adds a segment. -/
def IsReg (G : Nat) (flat : Prop) (f : PM → PM) : Prop := ∀ m, ∃ seg m' lab, SegR G m m' flat seg lab ∧ ∀ pre, f (pre, m) = (pre ++ shL pre.length seg, m')

theorem IsReg.eqf {G : Nat} {F : Prop} {f g : PM → PM} (h : IsReg G F f) (e : ∀ p, g p = f p) : IsReg G F g := fun m => by
  obtain ⟨seg, m', lab, h1, e1⟩ := h m
  exact ⟨seg, m', lab, h1, fun pre => (e _).trans (e1 pre)⟩
theorem SegR.weak {G m m' : Nat} {F F' : Prop} {seg : List Ins} {lab : Nat → Nat → Prop} (h : SegR G m m' F seg lab) (hf : F' → F) : SegR G m m' F' seg lab := { h with flat := fun h' => h.flat (hf h') }
theorem IsReg.weak {G : Nat} {F F' : Prop} {f : PM → PM} (h : IsReg G F f) (hf : F' → F) : IsReg G F' f := fun m => by
  obtain ⟨seg, m', lab, h1, e1⟩ := h m
  exact ⟨seg, m', lab, h1.weak hf, e1⟩

theorem SegR.nil (G m : Nat) (F : Prop) : SegR G m m F [] (fun _ _ => False) where
  mm := Nat.le_refl _
  ins := fun k x h => by simp at h
  l0 := fun _ h => h
  l1 := fun _ h => h
  lk := fun k x h => by simp at h
  flat := fun _ x h => by cases h
theorem IsReg.id {G : Nat} {F : Prop} : IsReg G F fun p => p := fun m => ⟨[], m, _, SegR.nil G m F, fun pre => by simp [shL]⟩

/-- Labels of one segment behind another one. -/
def labApp (n : Nat) (l1 l2 : Nat → Nat → Prop) (k g : Nat) : Prop := (k < n ∧ l1 k g) ∨ (n ≤ k ∧ l2 (k - n) g)

theorem place_right {s1 s2 : List Ins} : ∀ (k : Nat) (x : Ins), s2[k]? = some x → (s1 ++ shL s1.length s2)[s1.length + k]? = some (shG s1.length x) := fun k x hx => by
  rw [List.getElem?_append_right (by omega), show s1.length + k - s1.length = k by omega, shL_get, hx]
  rfl
theorem place_left {s1 s2 : List Ins} : ∀ (k : Nat) (x : Ins), s1[k]? = some x → (s1 ++ s2)[0 + k]? = some (shG 0 x) := fun k x hx => by
  rw [Nat.zero_add, List.getElem?_append_left (get_lt hx), shG_zero]
  exact hx

theorem SegR.app {G m m1 m2 : Nat} {F : Prop} {s1 s2 : List Ins} {l1 l2 : Nat → Nat → Prop} (h1 : SegR G m m1 F s1 l1) (h2 : SegR G m1 m2 F s2 l2) : SegR G m m2 F (s1 ++ shL s1.length s2) (labApp s1.length l1 l2) where
  mm := Nat.le_trans h1.mm h2.mm
  ins := by
    intro k x hx
    rw [List.length_append, shL_len]
    replace hx := app_get hx
    rcases hx with ⟨hk, hx⟩ | ⟨j, rfl, hx⟩
    · obtain ⟨c1, c2, c3, c4, c5, c6⟩ := h1.ins k x hx
      refine ⟨c1, fun j hj => by have := c2 j hj; omega, fun e => ?_, fun e => ?_, c5, fun j hj n hl => ?_⟩
      · obtain ⟨d1, d2, d3⟩ := c3 e
        exact ⟨d1, d2, fun n hn => .inl ⟨hk, d3 n hn⟩⟩
      · have := c4 e; have := h2.mm; omega
      · have hj2 := c2 j hj
        rcases hl with ⟨a1, a2⟩ | ⟨a1, a2⟩
        · rcases c6 j hj n a2 with b | b
          · exact .inl (.inl ⟨hk, b⟩)
          · exact .inr b
        · have e : j = s1.length := by omega
          subst e
          rw [Nat.sub_self] at a2
          exact absurd a2 (h2.l0 n)
    · obtain ⟨y, hy, rfl⟩ := shL_get' hx
      obtain ⟨c1, c2, c3, c4, c5, c6⟩ := h2.ins j y hy
      simp only [shG_op]
      refine ⟨c1, fun i hi => ?_, fun e => ?_, fun e => ?_, fun e => ?_, fun i hi n hl => ?_⟩
      · rw [Nat.add_comm] at hi
        obtain ⟨q, hq, rfl⟩ := (succs_shG _ _ _ _).1 hi
        have := c2 q hq
        omega
      · rw [shG_a (by omega) (by omega) (by omega)]
        obtain ⟨d1, d2, d3⟩ := c3 e
        exact ⟨d1, d2, fun n hn => .inr ⟨by omega, by rw [show s1.length + j - s1.length = j by omega]; exact d3 n hn⟩⟩
      · rw [shG_a (by omega) (by omega) (by omega)]
        have := c4 e; have := h1.mm; omega
      · rw [shG_a (by omega) (by omega) (by omega)]
        exact c5 e
      · rw [Nat.add_comm] at hi
        obtain ⟨q, hq, rfl⟩ := (succs_shG _ _ _ _).1 hi
        rcases hl with ⟨a1, a2⟩ | ⟨a1, a2⟩
        · omega
        · rw [show q + s1.length - s1.length = q by omega] at a2
          rcases c6 q hq n a2 with b | b
          · exact .inl (.inr ⟨by omega, by rw [show s1.length + j - s1.length = j by omega]; exact b⟩)
          · rw [shG_a (by omega) (by omega) (by omega)]
            exact .inr b
  l0 := by
    rintro n (⟨a1, a2⟩ | ⟨a1, a2⟩)
    · exact h1.l0 n a2
    · rw [Nat.zero_sub] at a2; exact h2.l0 n a2
  l1 := by
    rw [List.length_append, shL_len]
    rintro n (⟨a1, a2⟩ | ⟨a1, a2⟩)
    · omega
    · rw [show s1.length + s2.length - s1.length = s2.length by omega] at a2; exact h2.l1 n a2
  lk := by
    intro k x hx e
    replace hx := app_get hx
    rcases hx with ⟨hk, hx⟩ | ⟨j, rfl, hx⟩
    · obtain ⟨d, hd⟩ := h1.lk k x hx e
      exact ⟨d, LkReg.place (b := 0) place_left h2.mm hd⟩
    · obtain ⟨y, hy, rfl⟩ := shL_get' hx
      rw [shG_op] at e
      obtain ⟨d, hd⟩ := h2.lk j y hy e
      rw [shG_look e]
      exact ⟨d, LkReg.place place_right (Nat.le_refl _) hd⟩
  flat := by
    intro hf x hx
    rcases List.mem_append.1 hx with hx | hx
    · exact h1.flat hf x hx
    · obtain ⟨y, hy, rfl⟩ := List.mem_map.1 hx
      rw [shG_op]
      exact h2.flat hf y hy

theorem IsReg.comp {G : Nat} {F : Prop} {f g : PM → PM} (hf : IsReg G F f) (hg : IsReg G F g) : IsReg G F fun p => g (f p) := by
  intro m
  obtain ⟨s1, m1, l1, h1, e1⟩ := hf m
  obtain ⟨s2, m2, l2, h2, e2⟩ := hg m1
  refine ⟨_, m2, _, h1.app h2, fun pre => ?_⟩
  show g (f (pre, m)) = _
  rw [e1, e2, shL_app, shL_add]
  simp [Nat.add_comm, List.append_assoc]

/-- One instruction that only goes on. -/
theorem SegR.one {G m : Nat} {F : Prop} {i : Ins} (h : i.op = 0 ∨ i.op = 1 ∨ (i.op = 8 ∧ 2 * i.a + 1 < G ∧ ¬ F)) : SegR G m m F [i] (fun _ _ => False) where
  mm := Nat.le_refl _
  ins := by
    intro k x hx
    have hk := get_lt hx
    simp at hk
    subst hk
    simp at hx
    subst hx
    refine ⟨by omega, fun j hj => ?_, by omega, by omega, by omega, fun j _ n hl => hl.elim⟩
    unfold succs at hj
    rw [if_neg (by omega), if_neg (by omega), if_neg (by omega)] at hj
    simp at hj
    simp [hj]
  l0 := fun _ h => h
  l1 := fun _ h => h
  lk := by
    intro k x hx e
    have hk := get_lt hx
    simp at hk
    subst hk
    simp at hx
    subst hx
    omega
  flat := by
    intro hf x hx
    simp at hx
    subst hx
    rcases h with h | h | h
    · omega
    · omega
    · exact absurd hf h.2.2
theorem IsReg.one {G : Nat} {F : Prop} {i : Ins} (h : i.op = 0 ∨ i.op = 1 ∨ (i.op = 8 ∧ 2 * i.a + 1 < G ∧ ¬ F)) : IsReg G F fun p => (p.1 ++ [i], p.2) := fun m =>
  ⟨[i], m, _, SegR.one h, fun pre => by
    have h3 : i.op ≠ 3 := by omega
    have h4 : ¬ (i.op = 4 ∨ i.op = 2) := by omega
    simp [shL, shG, h3, h4]⟩

theorem IsReg.iter {G : Nat} {F : Prop} {f : PM → PM} (hf : IsReg G F f) : ∀ n, IsReg G F (Proofs.Ytfgghbideoehjaa.iter f n)
  | 0 => IsReg.id
  | n + 1 => (IsReg.iter hf n).comp hf

/-- A group: what is between its two ends has it begun. -/
def grSeg (n : Nat) (seg : List Ins) : List Ins := .mk1 5 (2 * n) :: (shL 1 seg ++ [.mk1 5 (2 * n + 1)])
def labGr (n len : Nat) (l : Nat → Nat → Prop) (k g : Nat) : Prop := 1 ≤ k ∧ k ≤ len + 1 ∧ (g = n ∨ l (k - 1) g)
theorem gr_get {n : Nat} {seg : List Ins} {k : Nat} {x : Ins} (h : (grSeg n seg)[k]? = some x) : (k = 0 ∧ x = .mk1 5 (2 * n)) ∨ (∃ j y, k = 1 + j ∧ j < seg.length ∧ seg[j]? = some y ∧ x = shG 1 y) ∨ (k = seg.length + 1 ∧ x = .mk1 5 (2 * n + 1)) := by
  unfold grSeg at h
  rcases k with _ | k
  · simp at h; exact .inl ⟨rfl, h.symm⟩
  · simp only [List.getElem?_cons_succ] at h
    rcases app_get h with ⟨h1, h2⟩ | ⟨j, h1, h2⟩
    · obtain ⟨y, h3, rfl⟩ := shL_get' h2
      rw [shL_len] at h1
      exact .inr (.inl ⟨k, y, by omega, h1, h3, rfl⟩)
    · rw [shL_len] at h1
      rcases j with _ | j
      · simp at h2; exact .inr (.inr ⟨by omega, h2.symm⟩)
      · simp at h2
theorem gr_body {n : Nat} {seg : List Ins} : ∀ (k : Nat) (x : Ins), seg[k]? = some x → (grSeg n seg)[1 + k]? = some (shG 1 x) := fun k x hx => by
  unfold grSeg
  rw [Nat.add_comm 1 k]
  simp only [List.getElem?_cons_succ]
  rw [List.getElem?_append_left (by rw [shL_len]; exact get_lt hx), shL_get, hx]
  rfl
theorem gr_len (n : Nat) (seg : List Ins) : (grSeg n seg).length = seg.length + 2 := by simp [grSeg]

theorem SegR.gr {G m m' n : Nat} {F : Prop} {seg : List Ins} {l : Nat → Nat → Prop} (h : SegR G m m' F seg l) (hn : 1 ≤ n) (hG : 2 * n + 1 < G) (hF : ¬ F) : SegR G m m' F (grSeg n seg) (labGr n seg.length l) where
  mm := h.mm
  ins := by
    intro k x hx
    rw [gr_len]
    rcases gr_get hx with ⟨rfl, rfl⟩ | ⟨j, y, rfl, hj, hy, rfl⟩ | ⟨rfl, rfl⟩
    · refine ⟨show (5 : Nat) ≤ 9 by decide, fun j hj => ?_, fun _ => ⟨by show 2 ≤ 2 * n; omega, by show 2 * n < G; omega, fun q hq => ?_⟩, fun e => ?_, fun e => ?_, fun j hj q hl => ?_⟩
      · simp [succs, Ins.mk1] at hj; omega
      · have hq : 2 * n = 2 * q + 1 := hq; omega
      · rcases e with e | e <;> cases e
      · cases e
      · simp [succs, Ins.mk1] at hj
        subst hj
        obtain ⟨_, _, e | e⟩ := hl
        · exact .inr ⟨rfl, by show 2 * n = 2 * q; omega⟩
        · exact absurd e (h.l0 q)
    · obtain ⟨c1, c2, c3, c4, c5, c6⟩ := h.ins j y hy
      simp only [shG_op]
      refine ⟨c1, fun i hi => ?_, fun e => ?_, fun e => ?_, fun e => ?_, fun i hi q hl => ?_⟩
      · rw [Nat.add_comm] at hi
        obtain ⟨p, hp, rfl⟩ := (succs_shG _ _ _ _).1 hi
        have := c2 p hp
        omega
      · rw [shG_a (by omega) (by omega) (by omega)]
        obtain ⟨d1, d2, d3⟩ := c3 e
        exact ⟨d1, d2, fun q hq => ⟨by omega, by omega, .inr (by rw [show 1 + j - 1 = j by omega]; exact d3 q hq)⟩⟩
      · rw [shG_a (by omega) (by omega) (by omega)]; exact c4 e
      · rw [shG_a (by omega) (by omega) (by omega)]; exact c5 e
      · rw [Nat.add_comm] at hi
        obtain ⟨p, hp, rfl⟩ := (succs_shG _ _ _ _).1 hi
        obtain ⟨_, _, e | e⟩ := hl
        · exact .inl ⟨by omega, by omega, .inl e⟩
        · rw [show p + 1 - 1 = p by omega] at e
          rcases c6 p hp q e with b | b
          · exact .inl ⟨by omega, by omega, .inr (by rw [show 1 + j - 1 = j by omega]; exact b)⟩
          · rw [shG_a (by omega) (by omega) (by omega)]; exact .inr b
    · refine ⟨show (5 : Nat) ≤ 9 by decide, fun j hj => ?_, fun _ => ⟨by show 2 ≤ 2 * n + 1; omega, hG, fun q hq => ?_⟩, fun e => ?_, fun e => ?_, fun j hj q hl => ?_⟩
      · simp [succs, Ins.mk1] at hj; omega
      · have hq : 2 * n + 1 = 2 * q + 1 := hq
        exact ⟨by omega, by omega, .inl (by omega)⟩
      · rcases e with e | e <;> cases e
      · cases e
      · simp [succs, Ins.mk1] at hj
        obtain ⟨_, a, _⟩ := hl
        omega
  l0 := fun q hl => by have := hl.1; omega
  l1 := fun q hl => by have := hl.2.1; rw [gr_len] at this; omega
  lk := by
    intro k x hx e
    rcases gr_get hx with ⟨rfl, rfl⟩ | ⟨j, y, rfl, hj, hy, rfl⟩ | ⟨rfl, rfl⟩
    · cases e
    · rw [shG_op] at e
      obtain ⟨d, hd⟩ := h.lk j y hy e
      rw [shG_look e]
      exact ⟨d, LkReg.place gr_body (Nat.le_refl _) hd⟩
    · cases e
  flat := fun hf => absurd hf hF

/-- A look ahead. -/
def lkSeg (ng : Nat) (seg : List Ins) : List Ins := ⟨2, 2, ng, .zero, 0⟩ :: .mk1 4 (seg.length + 3) :: (shL 2 seg ++ [.mk1 9 0])
theorem lk_get {ng : Nat} {seg : List Ins} {k : Nat} {x : Ins} (h : (lkSeg ng seg)[k]? = some x) : (k = 0 ∧ x = ⟨2, 2, ng, .zero, 0⟩) ∨ (k = 1 ∧ x = .mk1 4 (seg.length + 3)) ∨ (∃ j y, k = 2 + j ∧ j < seg.length ∧ seg[j]? = some y ∧ x = shG 2 y) ∨ (k = seg.length + 2 ∧ x = .mk1 9 0) := by
  unfold lkSeg at h
  rcases k with _ | _ | k
  · simp at h; exact .inl ⟨rfl, h.symm⟩
  · simp at h; exact .inr (.inl ⟨rfl, h.symm⟩)
  · simp only [List.getElem?_cons_succ] at h
    rcases app_get h with ⟨h1, h2⟩ | ⟨j, h1, h2⟩
    · obtain ⟨y, h3, rfl⟩ := shL_get' h2
      rw [shL_len] at h1
      exact .inr (.inr (.inl ⟨k, y, by omega, h1, h3, rfl⟩))
    · rw [shL_len] at h1
      rcases j with _ | j
      · simp at h2; exact .inr (.inr (.inr ⟨by omega, h2.symm⟩))
      · simp at h2
theorem lk_body {ng : Nat} {seg : List Ins} : ∀ (k : Nat) (x : Ins), seg[k]? = some x → (lkSeg ng seg)[2 + k]? = some (shG 2 x) := fun k x hx => by
  unfold lkSeg
  rw [Nat.add_comm 2 k]
  simp only [List.getElem?_cons_succ]
  rw [List.getElem?_append_left (by rw [shL_len]; exact get_lt hx), shL_get, hx]
  rfl
theorem lk_end {ng : Nat} {seg : List Ins} : (lkSeg ng seg)[seg.length + 2]? = some (.mk1 9 0) := by
  unfold lkSeg
  simp only [List.getElem?_cons_succ]
  rw [List.getElem?_append_right (by simp)]
  simp
theorem lk_len (ng : Nat) (seg : List Ins) : (lkSeg ng seg).length = seg.length + 3 := by simp [lkSeg]

theorem SegR.look {G m m' ng : Nat} {F : Prop} {seg : List Ins} {l : Nat → Nat → Prop} (h : SegR G m m' True seg l) : SegR G m m' F (lkSeg ng seg) (fun _ _ => False) where
  mm := h.mm
  ins := by
    intro k x hx
    rw [lk_len]
    rcases lk_get hx with ⟨rfl, rfl⟩ | ⟨rfl, rfl⟩ | ⟨j, y, rfl, hj, hy, rfl⟩ | ⟨rfl, rfl⟩
    · refine ⟨show (2 : Nat) ≤ 9 by decide, fun j hj => ?_, (fun e => by cases e), (fun e => by rcases e with e | e <;> cases e), (fun e => by cases e), fun j _ n hl => hl.elim⟩
      simp [succs] at hj; omega
    · refine ⟨show (4 : Nat) ≤ 9 by decide, fun j hj => ?_, (fun e => by cases e), (fun e => by rcases e with e | e <;> cases e), (fun e => by cases e), fun j _ n hl => hl.elim⟩
      simp [succs, Ins.mk1] at hj; omega
    · obtain ⟨c1, c2, c3, c4, c5, c6⟩ := h.ins j y hy
      have hfl := h.flat trivial y (List.mem_of_getElem? hy)
      simp only [shG_op]
      refine ⟨c1, fun i hi => ?_, fun e => absurd e hfl.1, fun e => ?_, fun e => absurd e hfl.2, fun i _ n hl => hl.elim⟩
      · rw [Nat.add_comm] at hi
        obtain ⟨p, hp, rfl⟩ := (succs_shG _ _ _ _).1 hi
        have := c2 p hp
        omega
      · rw [shG_a (by omega) (by omega) (by omega)]; exact c4 e
    · refine ⟨show (9 : Nat) ≤ 9 by decide, fun j hj => ?_, (fun e => by cases e), (fun e => by rcases e with e | e <;> cases e), (fun e => by cases e), fun j _ n hl => hl.elim⟩
      simp [succs, Ins.mk1] at hj
  l0 := fun _ h => h
  l1 := fun _ h => h
  lk := by
    intro k x hx e
    rcases lk_get hx with ⟨rfl, rfl⟩ | ⟨rfl, rfl⟩ | ⟨j, y, rfl, hj, hy, rfl⟩ | ⟨rfl, rfl⟩
    · -- the body itself
      obtain ⟨D, hD⟩ := one_depth (fun d k => ∀ x, seg[k]? = some x → x.op = 2 → LkReg seg m' d x.a) (fun d d' k h1 h2 x hx e => (h1 x hx e).mono h2) seg.length (fun k hk => by
        obtain ⟨x, hx⟩ : ∃ x, seg[k]? = some x := ⟨_, List.getElem?_eq_getElem hk⟩
        by_cases e : x.op = 2
        · obtain ⟨d, hd⟩ := h.lk k x hx e
          exact ⟨d, fun y hy _ => by rw [hx] at hy; cases hy; exact hd⟩
        · exact ⟨0, fun y hy e2 => by rw [hx] at hy; cases hy; exact absurd e2 e⟩)
      refine ⟨D + 1, seg.length + 2, by show 2 ≤ _; omega, fun k hk1 hk2 => ?_⟩
      have hk1 : 2 ≤ k := hk1
      obtain ⟨j, rfl⟩ : ∃ j, k = 2 + j := ⟨k - 2, by omega⟩
      by_cases hj : j < seg.length
      · obtain ⟨y, hy⟩ : ∃ x, seg[j]? = some x := ⟨_, List.getElem?_eq_getElem hj⟩
        obtain ⟨c1, c2, c3, c4, c5, c6⟩ := h.ins j y hy
        have hfl := h.flat trivial y (List.mem_of_getElem? hy)
        refine ⟨shG 2 y, lk_body j y hy, by rw [shG_op]; exact c1, by rw [shG_op]; exact hfl.1, by rw [shG_op]; exact hfl.2, fun i hi => ?_, fun e => ?_, fun e => ?_⟩
        · rw [Nat.add_comm] at hi
          obtain ⟨p, hp, rfl⟩ := (succs_shG _ _ _ _).1 hi
          have := c2 p hp
          exact ⟨by show 2 ≤ _; omega, by omega⟩
        · rw [shG_op] at e
          rw [shG_a (by omega) (by omega) (by omega)]; exact (c4 e).2
        · rw [shG_op] at e
          rw [shG_look e]
          exact LkReg.place lk_body (Nat.le_refl _) (hD j hj y hy e)
      · have hj2 : 2 + j = seg.length + 2 := by omega
        rw [hj2]
        refine ⟨_, lk_end, show (9 : Nat) ≤ 9 by decide, show (9 : Nat) ≠ 5 by decide, show (9 : Nat) ≠ 8 by decide, fun i hi => ?_, (fun e => by rcases e with e | e <;> cases e), (fun e => by cases e)⟩
        simp [succs, Ins.mk1] at hi
    · cases e
    · rw [shG_op] at e
      obtain ⟨d, hd⟩ := h.lk j y hy e
      rw [shG_look e]
      exact ⟨d, LkReg.place lk_body (Nat.le_refl _) hd⟩
    · cases e
  flat := by
    intro _ x hx
    obtain ⟨k, hk⟩ := List.getElem?_of_mem hx
    rcases lk_get hk with ⟨rfl, rfl⟩ | ⟨rfl, rfl⟩ | ⟨j, y, rfl, hj, hy, rfl⟩ | ⟨rfl, rfl⟩
    · exact ⟨(by decide : (2 : Nat) ≠ 5), (by decide : (2 : Nat) ≠ 8)⟩
    · exact ⟨(by decide : (4 : Nat) ≠ 5), (by decide : (4 : Nat) ≠ 8)⟩
    · rw [shG_op]; exact h.flat trivial y (List.mem_of_getElem? hy)
    · exact ⟨(by decide : (9 : Nat) ≠ 5), (by decide : (9 : Nat) ≠ 8)⟩

end Go.Proofs.Ytfgghbideoehjaa

namespace Go.Proofs.Ytfgghbideoehjaa
open Go.ChangeShapes Go.WideShapes Go.ChangeAt Go.RowKit
set_option linter.unusedVariables false
set_option linter.unusedSimpArgs false
set_option maxRecDepth 100000

theorem splitI_shG (lz : Bool) (x y k : Nat) : shG k (splitI lz x y) = splitI lz (x + k) (y + k) := by
  unfold splitI shG; split <;> simp
theorem shG_mark (k m : Nat) : shG k (.mk1 6 m) = .mk1 6 m := rfl
theorem shG_past (k m : Nat) : shG k (.mk1 7 m) = .mk1 7 m := rfl

def loopG (lz : Bool) (m out : Nat) (seg rest : List Ins) : List Ins := splitI lz 1 out :: .mk1 6 m :: (shL 2 seg ++ .mk1 7 m :: rest)
theorem loopG_len (lz : Bool) (m out : Nat) (seg rest : List Ins) : (loopG lz m out seg rest).length = seg.length + 3 + rest.length := by
  simp [loopG]; omega
theorem onceG {f : PM → PM} {m m' : Nat} {seg : List Ins} (he : ∀ pre, f (pre, m + 1) = (pre ++ shL pre.length seg, m')) (pre : List Ins) :
    onceP f (pre, m) = (pre ++ .mk1 3 0 :: .mk1 6 m :: (shL (pre.length + 2) seg ++ [.mk1 7 m]), m') := by
  unfold onceP
  simp only [he]
  simp

theorem loopG_get {lz : Bool} {m out : Nat} {seg rest : List Ins} {k : Nat} {x : Ins} (h : (loopG lz m out seg rest)[k]? = some x) :
    (k = 0 ∧ x = splitI lz 1 out) ∨ (k = 1 ∧ x = .mk1 6 m) ∨ (∃ j y, k = 2 + j ∧ j < seg.length ∧ seg[j]? = some y ∧ x = shG 2 y) ∨ (k = seg.length + 2 ∧ x = .mk1 7 m) ∨ ∃ j, k = seg.length + 3 + j ∧ rest[j]? = some x := by
  unfold loopG at h
  rcases k with _ | _ | k
  · simp at h; exact .inl ⟨rfl, h.symm⟩
  · simp at h; exact .inr (.inl ⟨rfl, h.symm⟩)
  · simp only [List.getElem?_cons_succ] at h
    rcases app_get h with ⟨h1, h2⟩ | ⟨j, h1, h2⟩
    · obtain ⟨y, h3, rfl⟩ := shL_get' h2
      rw [shL_len] at h1
      exact .inr (.inr (.inl ⟨k, y, by omega, h1, h3, rfl⟩))
    · rw [shL_len] at h1
      rcases j with _ | j
      · simp at h2; exact .inr (.inr (.inr (.inl ⟨by omega, h2.symm⟩)))
      · simp at h2; exact .inr (.inr (.inr (.inr ⟨j, by omega, h2⟩)))
theorem loopG_body {lz : Bool} {m out : Nat} {seg rest : List Ins} : ∀ (j : Nat) (y : Ins), seg[j]? = some y → (loopG lz m out seg rest)[2 + j]? = some (shG 2 y) := fun j y h => by
  unfold loopG
  rw [Nat.add_comm 2 j]
  simp only [List.getElem?_cons_succ]
  rw [List.getElem?_append_left (by rw [shL_len]; exact get_lt h), shL_get, h]
  rfl
theorem loopG_rest {lz : Bool} {m out : Nat} {seg rest : List Ins} (j : Nat) : (loopG lz m out seg rest)[seg.length + 3 + j]? = rest[j]? := by
  unfold loopG
  rw [show seg.length + 3 + j = (seg.length + 1 + j) + 1 + 1 by omega]
  simp only [List.getElem?_cons_succ]
  rw [List.getElem?_append_right (by simp; omega)]
  rw [shL_len, show seg.length + 1 + j - seg.length = j + 1 by omega]
  rfl

def labLoop (n : Nat) (l1 l2 : Nat → Nat → Prop) (k g : Nat) : Prop := (2 ≤ k ∧ k < 2 + n ∧ l1 (k - 2) g) ∨ (n + 3 ≤ k ∧ l2 (k - (n + 3)) g)

/-- What stands behind a loop's test: counted from o on. -/
structure RestR (G m m' : Nat) (flat : Prop) (o : Nat) (rest : List Ins) (lab : Nat → Nat → Prop) : Prop where
  mm : m ≤ m'
  ins : ∀ (k : Nat) (x : Ins), rest[k]? = some x → x.op ≤ 9 ∧ (∀ j ∈ succs (o + k) x, j = 0 ∨ (o ≤ j ∧ j ≤ o + rest.length)) ∧ (x.op = 5 → 2 ≤ x.a ∧ x.a < G ∧ ∀ n, x.a = 2 * n + 1 → lab k n) ∧ (x.op = 6 ∨ x.op = 7 → m ≤ x.a ∧ x.a < m') ∧ (x.op = 8 → 2 * x.a + 1 < G) ∧
    (∀ j ∈ succs (o + k) x, o ≤ j → ∀ n, lab (j - o) n → lab k n ∨ (x.op = 5 ∧ x.a = 2 * n))
  l0 : ∀ n, ¬ lab 0 n
  l1 : ∀ n, ¬ lab rest.length n
  lk : ∀ (prog : List Ins), (∀ (k : Nat) (x : Ins), rest[k]? = some x → prog[o + k]? = some x) → ∀ (k : Nat) (x : Ins), rest[k]? = some x → x.op = 2 → ∃ d, LkReg prog m' d x.a
  flat : flat → ∀ x ∈ rest, x.op ≠ 5 ∧ x.op ≠ 8

theorem RestR.jump {G m o : Nat} {F : Prop} : RestR G m m F o [.mk1 4 0] (fun _ _ => False) where
  mm := Nat.le_refl _
  ins := by
    intro k x hx
    have hk := get_lt hx
    simp at hk
    subst hk
    simp at hx
    subst hx
    refine ⟨show (4 : Nat) ≤ 9 by decide, fun j hj => ?_, (fun e => by cases e), (fun e => by rcases e with e | e <;> cases e), (fun e => by cases e), fun j _ _ n hl => hl.elim⟩
    simp [succs, Ins.mk1] at hj
    exact .inl hj
  l0 := fun _ h => h
  l1 := fun _ h => h
  lk := by
    intro prog _ k x hx e
    have hk := get_lt hx
    simp at hk
    subst hk
    simp at hx
    subst hx
    cases e
  flat := by
    intro _ x hx
    simp at hx
    subst hx
    exact ⟨(by decide : (4 : Nat) ≠ 5), (by decide : (4 : Nat) ≠ 8)⟩

theorem SegR.rest {G m m' o : Nat} {F : Prop} {seg : List Ins} {l : Nat → Nat → Prop} (h : SegR G m m' F seg l) : RestR G m m' F o (shL o seg) l where
  mm := h.mm
  ins := by
    intro k x hx
    obtain ⟨y, hy, rfl⟩ := shL_get' hx
    obtain ⟨c1, c2, c3, c4, c5, c6⟩ := h.ins k y hy
    rw [Nat.add_comm o k]
    simp only [shG_op, shL_len]
    refine ⟨c1, fun j hj => ?_, fun e => ?_, fun e => ?_, fun e => ?_, fun j hj hoj n hl => ?_⟩
    · obtain ⟨p, hp, rfl⟩ := (succs_shG _ _ _ _).1 hj
      have := c2 p hp
      exact .inr (by omega)
    · rw [shG_a (by omega) (by omega) (by omega)]; exact c3 e
    · rw [shG_a (by omega) (by omega) (by omega)]; exact c4 e
    · rw [shG_a (by omega) (by omega) (by omega)]; exact c5 e
    · obtain ⟨p, hp, rfl⟩ := (succs_shG _ _ _ _).1 hj
      rw [show p + o - o = p by omega] at hl
      rcases c6 p hp n hl with b | b
      · exact .inl b
      · rw [shG_a (by omega) (by omega) (by omega)]; exact .inr b
  l0 := h.l0
  l1 := by rw [shL_len]; exact h.l1
  lk := by
    intro prog hp k x hx e
    obtain ⟨y, hy, rfl⟩ := shL_get' hx
    rw [shG_op] at e
    obtain ⟨d, hd⟩ := h.lk k y hy e
    rw [shG_look e]
    exact ⟨d, LkReg.place (fun k x hx => hp k _ (by rw [shL_get, hx]; rfl)) (Nat.le_refl _) hd⟩
  flat := by
    intro hf x hx
    obtain ⟨y, hy, rfl⟩ := List.mem_map.1 hx
    rw [shG_op]
    exact h.flat hf y hy

theorem SegR.loop {lz : Bool} {G m m1 m2 out : Nat} {F : Prop} {seg rest : List Ins} {l1 l2 : Nat → Nat → Prop} (h : SegR G (m + 1) m1 F seg l1) (hr : RestR G m1 m2 F (seg.length + 3) rest l2) (ho : out = seg.length + 3 + rest.length) : SegR G m m2 F (loopG lz m out seg rest) (labLoop seg.length l1 l2) where
  mm := by have := h.mm; have := hr.mm; omega
  ins := by
    intro k x hx
    have hmm := h.mm
    have hmr := hr.mm
    rw [loopG_len]
    rcases loopG_get hx with ⟨rfl, rfl⟩ | ⟨rfl, rfl⟩ | ⟨j, y, rfl, hj, hy, rfl⟩ | ⟨rfl, rfl⟩ | ⟨j, rfl, hy⟩
    · have e3 := splitI_op lz 1 out
      refine ⟨by omega, fun j hj => ?_, fun e => by omega, fun e => by omega, fun e => by omega, fun j hj n hl => ?_⟩
      · rcases splitI_succs.1 hj with rfl | rfl <;> omega
      · exfalso
        rcases hl with ⟨a, b, c⟩ | ⟨a, b⟩
        · rcases splitI_succs.1 hj with rfl | rfl <;> omega
        · rcases splitI_succs.1 hj with rfl | rfl
          · omega
          · rw [ho, show seg.length + 3 + rest.length - (seg.length + 3) = rest.length by omega] at b
            exact hr.l1 n b
    · refine ⟨show (6 : Nat) ≤ 9 by decide, fun j hj => ?_, (fun e => by cases e), (fun _ => ⟨by show m ≤ m; omega, by show m < m2; omega⟩), (fun e => by cases e), fun j hj n hl => ?_⟩
      · simp [succs, Ins.mk1] at hj; omega
      · simp [succs, Ins.mk1] at hj
        subst hj
        rcases hl with ⟨a, b, c⟩ | ⟨a, b⟩
        · exact absurd c (h.l0 n)
        · omega
    · obtain ⟨c1, c2, c3, c4, c5, c6⟩ := h.ins j y hy
      simp only [shG_op]
      refine ⟨c1, fun i hi => ?_, fun e => ?_, fun e => ?_, fun e => ?_, fun i hi n hl => ?_⟩
      · rw [Nat.add_comm] at hi
        obtain ⟨p, hp, rfl⟩ := (succs_shG _ _ _ _).1 hi
        have := c2 p hp
        omega
      · rw [shG_a (by omega) (by omega) (by omega)]
        obtain ⟨d1, d2, d3⟩ := c3 e
        exact ⟨d1, d2, fun n hn => .inl ⟨by omega, by omega, by rw [show 2 + j - 2 = j by omega]; exact d3 n hn⟩⟩
      · rw [shG_a (by omega) (by omega) (by omega)]
        have := c4 e; omega
      · rw [shG_a (by omega) (by omega) (by omega)]; exact c5 e
      · rw [Nat.add_comm] at hi
        obtain ⟨p, hp, rfl⟩ := (succs_shG _ _ _ _).1 hi
        have hp2 := c2 p hp
        rcases hl with ⟨a, b, c⟩ | ⟨a, b⟩
        · rw [show p + 2 - 2 = p by omega] at c
          rcases c6 p hp n c with d | d
          · exact .inl (.inl ⟨by omega, by omega, by rw [show 2 + j - 2 = j by omega]; exact d⟩)
          · rw [shG_a (by omega) (by omega) (by omega)]; exact .inr d
        · omega
    · refine ⟨show (7 : Nat) ≤ 9 by decide, fun j hj => ?_, (fun e => by cases e), (fun _ => ⟨by show m ≤ m; omega, by show m < m2; omega⟩), (fun e => by cases e), fun j hj n hl => ?_⟩
      · simp [succs, Ins.mk1] at hj; omega
      · simp [succs, Ins.mk1] at hj
        subst hj
        rcases hl with ⟨a, b, c⟩ | ⟨a, b⟩
        · omega
        · rw [show seg.length + 2 + 1 - (seg.length + 3) = 0 by omega] at b
          exact absurd b (hr.l0 n)
    · obtain ⟨c1, c2, c3, c4, c5, c6⟩ := hr.ins j x hy
      refine ⟨c1, fun i hi => by have := c2 i hi; omega, fun e => ?_, fun e => ?_, c5, fun i hi n hl => ?_⟩
      · obtain ⟨d1, d2, d3⟩ := c3 e
        exact ⟨d1, d2, fun n hn => .inr ⟨by omega, by rw [show seg.length + 3 + j - (seg.length + 3) = j by omega]; exact d3 n hn⟩⟩
      · have := c4 e; omega
      · have hi2 := c2 i hi
        rcases hl with ⟨a, b, c⟩ | ⟨a, b⟩
        · omega
        · rcases c6 i hi a n b with d | d
          · exact .inl (.inr ⟨by omega, by rw [show seg.length + 3 + j - (seg.length + 3) = j by omega]; exact d⟩)
          · exact .inr d
  l0 := by
    rintro n (⟨a, _, _⟩ | ⟨a, _⟩) <;> omega
  l1 := by
    rw [loopG_len]
    rintro n (⟨_, a, _⟩ | ⟨a, b⟩)
    · omega
    · rw [show seg.length + 3 + rest.length - (seg.length + 3) = rest.length by omega] at b
      exact hr.l1 n b
  lk := by
    intro k x hx e
    rcases loopG_get hx with ⟨rfl, rfl⟩ | ⟨rfl, rfl⟩ | ⟨j, y, rfl, hj, hy, rfl⟩ | ⟨rfl, rfl⟩ | ⟨j, rfl, hy⟩
    · rw [splitI_op] at e; cases e
    · cases e
    · rw [shG_op] at e
      obtain ⟨d, hd⟩ := h.lk j y hy e
      rw [shG_look e]
      exact ⟨d, LkReg.place loopG_body hr.mm hd⟩
    · cases e
    · exact hr.lk _ (fun k x hx => (loopG_rest k).trans hx) j x hy e
  flat := by
    intro hf x hx
    obtain ⟨k, hk⟩ := List.getElem?_of_mem hx
    rcases loopG_get hk with ⟨rfl, rfl⟩ | ⟨rfl, rfl⟩ | ⟨j, y, rfl, hj, hy, rfl⟩ | ⟨rfl, rfl⟩ | ⟨j, rfl, hy⟩
    · rw [splitI_op]; exact ⟨(by decide), (by decide)⟩
    · exact ⟨(by decide : (6 : Nat) ≠ 5), (by decide : (6 : Nat) ≠ 8)⟩
    · rw [shG_op]; exact h.flat hf y (List.mem_of_getElem? hy)
    · exact ⟨(by decide : (7 : Nat) ≠ 5), (by decide : (7 : Nat) ≠ 8)⟩
    · exact hr.flat hf x (List.mem_of_getElem? hy)

theorem shL_shL (j k : Nat) (l : List Ins) : List.map (shG k) (List.map (shG j) l) = List.map (shG (k + j)) l := by
  have := shL_add j k l
  simp only [shL] at this
  rw [this, Nat.add_comm]

theorem star_reg {G : Nat} {F : Prop} {f : PM → PM} (hf : IsReg G F f) (lz : Bool) :
    IsReg G F (fun p => (chooseP lz ((onceP f p).1.length + 1) p.1.length ((onceP f p).1 ++ [.mk1 4 p.1.length]), (onceP f p).2)) := by
  intro m
  obtain ⟨seg, m', l, hs, he⟩ := hf (m + 1)
  refine ⟨loopG lz m (seg.length + 4) seg [.mk1 4 0], m', _, hs.loop RestR.jump (by simp), fun pre => ?_⟩
  simp only [onceG he]
  have e1 : ∀ L : Nat, chooseP lz L pre.length (pre ++ .mk1 3 0 :: .mk1 6 m :: (shL (pre.length + 2) seg ++ [.mk1 7 m]) ++ [.mk1 4 pre.length]) = pre ++ splitI lz (pre.length + 1) L :: (.mk1 6 m :: (shL (pre.length + 2) seg ++ [.mk1 7 m]) ++ [.mk1 4 pre.length]) := by
    intro L
    rw [List.append_assoc]
    exact choose_mid pre _ lz 0 0 L
  rw [e1]
  simp only [loopG, shL, List.map_cons, List.map_append, splitI_shG, shG_mark, shG_past, List.map_nil]
  rw [shL_shL]
  simp [shG, Ins.mk1]
  congr 1 <;> omega

theorem opts_reg {G : Nat} {F : Prop} {f : PM → PM} (hf : IsReg G F f) (lz : Bool) : ∀ (n m : Nat), ∃ (U : Nat → List Ins) (ks : Nat → List Nat) (seg : List Ins) (m' : Nat) (l : Nat → Nat → Prop), SegR G m m' F seg l ∧ (∀ k, (U k).length = seg.length) ∧
    (∀ pre : List Ins, Proofs.Ytfgghbideoehjaa.iter (optP f) n ([], (pre, m)) = (ks pre.length, (pre ++ U pre.length, m'))) ∧
    (∀ pre : List Ins, (ks pre.length).foldl (fun pr k => chooseP lz (pre.length + seg.length) k pr) (pre ++ U pre.length) = pre ++ shL pre.length seg)
  | 0, m => ⟨fun _ => [], fun _ => [], [], m, _, SegR.nil _ _ _, fun _ => rfl, fun pre => by simp [Proofs.Ytfgghbideoehjaa.iter], fun pre => by simp [shL]⟩
  | n + 1, m => by
    obtain ⟨s1, m1, l1, h1, e1⟩ := hf (m + 1)
    obtain ⟨U, ks, s2, m2, l2, h2, hU, hit, hch⟩ := opts_reg hf lz n m1
    have hone : ∀ pre : List Ins, onceP f (pre, m) = (pre ++ .mk1 3 0 :: .mk1 6 m :: (shL (pre.length + 2) s1 ++ [.mk1 7 m]), m1) := fun pre => onceG e1 pre
    have hbl : ∀ pre : List Ins, (pre ++ Ins.mk1 3 0 :: Ins.mk1 6 m :: (shL (pre.length + 2) s1 ++ [Ins.mk1 7 m])).length = pre.length + (s1.length + 3) := fun pre => by simp
    refine ⟨fun k => .mk1 3 0 :: .mk1 6 m :: (shL (k + 2) s1 ++ .mk1 7 m :: U (k + (s1.length + 3))), fun k => k :: ks (k + (s1.length + 3)), loopG lz m (s1.length + 3 + s2.length) s1 (shL (s1.length + 3) s2), m2, _, h1.loop h2.rest (by simp), ?_, ?_, ?_⟩
    · intro k
      rw [loopG_len]
      simp [hU]
      omega
    · intro pre
      rw [iter_front]
      simp only [optP, hone]
      rw [opt_ends, hit, hbl]
      simp
    · intro pre
      have hL : pre.length + (loopG lz m (s1.length + 3 + s2.length) s1 (shL (s1.length + 3) s2)).length = pre.length + (s1.length + 3) + s2.length := by rw [loopG_len, shL_len]; omega
      rw [hL]
      simp only [List.foldl_cons]
      have e0 : pre ++ (.mk1 3 0 :: .mk1 6 m :: (shL (pre.length + 2) s1 ++ .mk1 7 m :: U (pre.length + (s1.length + 3)))) = pre ++ ⟨3, 0, 0, .zero, 0⟩ :: (.mk1 6 m :: (shL (pre.length + 2) s1 ++ .mk1 7 m :: U (pre.length + (s1.length + 3)))) := rfl
      rw [e0, choose_mid]
      have hp2 := hch (pre ++ splitI lz (pre.length + 1) (pre.length + (s1.length + 3) + s2.length) :: (.mk1 6 m :: (shL (pre.length + 2) s1 ++ [.mk1 7 m])))
      have hlen : (pre ++ splitI lz (pre.length + 1) (pre.length + (s1.length + 3) + s2.length) :: (.mk1 6 m :: (shL (pre.length + 2) s1 ++ [.mk1 7 m]))).length = pre.length + (s1.length + 3) := by simp
      rw [hlen] at hp2
      have e1 : pre ++ splitI lz (pre.length + 1) (pre.length + (s1.length + 3) + s2.length) :: (.mk1 6 m :: (shL (pre.length + 2) s1 ++ .mk1 7 m :: U (pre.length + (s1.length + 3)))) = (pre ++ splitI lz (pre.length + 1) (pre.length + (s1.length + 3) + s2.length) :: (.mk1 6 m :: (shL (pre.length + 2) s1 ++ [.mk1 7 m]))) ++ U (pre.length + (s1.length + 3)) := by simp
      rw [e1, hp2]
      simp only [loopG, shL, List.map_cons, List.map_append, splitI_shG, shG_mark, shG_past]
      rw [shL_shL, shL_shL]
      simp
      congr 1 <;> omega

theorem times_reg {G : Nat} {F : Prop} {f : PM → PM} (hf : IsReg G F f) {lo hi : Int} (hlo : 0 ≤ lo) (hhi : hi = -1 ∨ lo ≤ hi) (lz : Bool) : IsReg G F (timesP f lo hi lz) := by
  obtain ⟨l, rfl⟩ : ∃ l : Nat, lo = (l : Int) := ⟨lo.toNat, by omega⟩
  rcases hhi with rfl | hh
  · refine ((IsReg.iter hf l).comp (star_reg hf lz)).eqf fun p => ?_
    unfold timesP
    simp
  · by_cases hne : hi = -1
    · omega
    intro m
    obtain ⟨s1, m1, l1, h1, e1⟩ := (IsReg.iter hf l) m
    obtain ⟨U, ks, s2, m2, l2, h2, hU, hit, hch⟩ := opts_reg hf lz (hi - l).toNat m1
    refine ⟨_, m2, _, h1.app h2, fun pre => ?_⟩
    unfold timesP
    rw [if_neg hne]
    simp only [Int.toNat_natCast, e1, hit]
    have := hch (pre ++ shL pre.length s1)
    simp only [List.length_append, shL_len] at this ⊢
    rw [hU, this]
    rw [shL_app, shL_add]
    simp [Nat.add_comm]

/-- Branches. -/
def brG (s1 s2 : List Ins) : List Ins := ⟨3, 1, s1.length + 2, .zero, 0⟩ :: (shL 1 s1 ++ .mk1 4 (s1.length + 2 + s2.length) :: shL (s1.length + 2) s2)
theorem brG_len (s1 s2 : List Ins) : (brG s1 s2).length = s1.length + 2 + s2.length := by simp [brG]; omega
theorem brG_get {s1 s2 : List Ins} {k : Nat} {x : Ins} (h : (brG s1 s2)[k]? = some x) :
    (k = 0 ∧ x = ⟨3, 1, s1.length + 2, .zero, 0⟩) ∨ (∃ j y, k = 1 + j ∧ j < s1.length ∧ s1[j]? = some y ∧ x = shG 1 y) ∨ (k = s1.length + 1 ∧ x = .mk1 4 (s1.length + 2 + s2.length)) ∨ ∃ j y, k = s1.length + 2 + j ∧ s2[j]? = some y ∧ x = shG (s1.length + 2) y := by
  unfold brG at h
  rcases k with _ | k
  · simp at h; exact .inl ⟨rfl, h.symm⟩
  · simp only [List.getElem?_cons_succ] at h
    rcases app_get h with ⟨h1, h2⟩ | ⟨j, h1, h2⟩
    · obtain ⟨y, h3, rfl⟩ := shL_get' h2
      rw [shL_len] at h1
      exact .inr (.inl ⟨k, y, by omega, h1, h3, rfl⟩)
    · rw [shL_len] at h1
      rcases j with _ | j
      · simp at h2; exact .inr (.inr (.inl ⟨by omega, h2.symm⟩))
      · simp at h2
        obtain ⟨y, h3, rfl⟩ := shL_get' h2
        exact .inr (.inr (.inr ⟨j, y, by omega, h3, rfl⟩))
theorem brG_one {s1 s2 : List Ins} : ∀ (j : Nat) (y : Ins), s1[j]? = some y → (brG s1 s2)[1 + j]? = some (shG 1 y) := fun j y h => by
  unfold brG
  rw [Nat.add_comm 1 j]
  simp only [List.getElem?_cons_succ]
  rw [List.getElem?_append_left (by rw [shL_len]; exact get_lt h), shL_get, h]
  rfl
theorem brG_two {s1 s2 : List Ins} : ∀ (j : Nat) (y : Ins), s2[j]? = some y → (brG s1 s2)[s1.length + 2 + j]? = some (shG (s1.length + 2) y) := fun j y h => by
  unfold brG
  rw [show s1.length + 2 + j = (s1.length + 1 + j) + 1 by omega]
  simp only [List.getElem?_cons_succ]
  rw [List.getElem?_append_right (by simp; omega)]
  rw [shL_len, show s1.length + 1 + j - s1.length = j + 1 by omega]
  show (shL (s1.length + 2) s2)[j]? = _
  rw [shL_get, h]
  rfl
def labBr (n : Nat) (l1 l2 : Nat → Nat → Prop) (k g : Nat) : Prop := (1 ≤ k ∧ k < 1 + n ∧ l1 (k - 1) g) ∨ (n + 2 ≤ k ∧ l2 (k - (n + 2)) g)

theorem SegR.br {G m m1 m2 : Nat} {F : Prop} {s1 s2 : List Ins} {l1 l2 : Nat → Nat → Prop} (h1 : SegR G m m1 F s1 l1) (h2 : SegR G m1 m2 F s2 l2) : SegR G m m2 F (brG s1 s2) (labBr s1.length l1 l2) where
  mm := Nat.le_trans h1.mm h2.mm
  ins := by
    intro k x hx
    rw [brG_len]
    have hm1 := h1.mm
    have hm2 := h2.mm
    rcases brG_get hx with ⟨rfl, rfl⟩ | ⟨j, y, rfl, hj, hy, rfl⟩ | ⟨rfl, rfl⟩ | ⟨j, y, rfl, hy, rfl⟩
    · refine ⟨show (3 : Nat) ≤ 9 by decide, fun j hj => ?_, (fun e => by cases e), (fun e => by rcases e with e | e <;> cases e), (fun e => by cases e), fun j hj n hl => ?_⟩
      · simp [succs] at hj; omega
      · simp [succs] at hj
        exfalso
        rcases hl with ⟨a, b, c⟩ | ⟨a, b⟩
        · rcases hj with rfl | rfl
          · exact h1.l0 n c
          · omega
        · rcases hj with rfl | rfl
          · omega
          · rw [Nat.sub_self] at b; exact h2.l0 n b
    · obtain ⟨c1, c2, c3, c4, c5, c6⟩ := h1.ins j y hy
      simp only [shG_op]
      refine ⟨c1, fun i hi => ?_, fun e => ?_, fun e => ?_, fun e => ?_, fun i hi n hl => ?_⟩
      · rw [Nat.add_comm] at hi
        obtain ⟨p, hp, rfl⟩ := (succs_shG _ _ _ _).1 hi
        have := c2 p hp
        omega
      · rw [shG_a (by omega) (by omega) (by omega)]
        obtain ⟨d1, d2, d3⟩ := c3 e
        exact ⟨d1, d2, fun n hn => .inl ⟨by omega, by omega, by rw [show 1 + j - 1 = j by omega]; exact d3 n hn⟩⟩
      · rw [shG_a (by omega) (by omega) (by omega)]
        have := c4 e; omega
      · rw [shG_a (by omega) (by omega) (by omega)]; exact c5 e
      · rw [Nat.add_comm] at hi
        obtain ⟨p, hp, rfl⟩ := (succs_shG _ _ _ _).1 hi
        have hp2 := c2 p hp
        rcases hl with ⟨a, b, c⟩ | ⟨a, b⟩
        · rw [show p + 1 - 1 = p by omega] at c
          rcases c6 p hp n c with d | d
          · exact .inl (.inl ⟨by omega, by omega, by rw [show 1 + j - 1 = j by omega]; exact d⟩)
          · rw [shG_a (by omega) (by omega) (by omega)]; exact .inr d
        · omega
    · refine ⟨show (4 : Nat) ≤ 9 by decide, fun j hj => ?_, (fun e => by cases e), (fun e => by rcases e with e | e <;> cases e), (fun e => by cases e), fun j hj n hl => ?_⟩
      · simp [succs, Ins.mk1] at hj; omega
      · simp [succs, Ins.mk1] at hj
        subst hj
        exfalso
        rcases hl with ⟨a, b, c⟩ | ⟨a, b⟩
        · omega
        · rw [show s1.length + 2 + s2.length - (s1.length + 2) = s2.length by omega] at b; exact h2.l1 n b
    · obtain ⟨c1, c2, c3, c4, c5, c6⟩ := h2.ins j y hy
      simp only [shG_op]
      refine ⟨c1, fun i hi => ?_, fun e => ?_, fun e => ?_, fun e => ?_, fun i hi n hl => ?_⟩
      · rw [Nat.add_comm] at hi
        obtain ⟨p, hp, rfl⟩ := (succs_shG _ _ _ _).1 hi
        have := c2 p hp
        omega
      · rw [shG_a (by omega) (by omega) (by omega)]
        obtain ⟨d1, d2, d3⟩ := c3 e
        exact ⟨d1, d2, fun n hn => .inr ⟨by omega, by rw [show s1.length + 2 + j - (s1.length + 2) = j by omega]; exact d3 n hn⟩⟩
      · rw [shG_a (by omega) (by omega) (by omega)]
        have := c4 e; omega
      · rw [shG_a (by omega) (by omega) (by omega)]; exact c5 e
      · rw [Nat.add_comm] at hi
        obtain ⟨p, hp, rfl⟩ := (succs_shG _ _ _ _).1 hi
        rcases hl with ⟨a, b, c⟩ | ⟨a, b⟩
        · omega
        · rw [show p + (s1.length + 2) - (s1.length + 2) = p by omega] at b
          rcases c6 p hp n b with d | d
          · exact .inl (.inr ⟨by omega, by rw [show s1.length + 2 + j - (s1.length + 2) = j by omega]; exact d⟩)
          · rw [shG_a (by omega) (by omega) (by omega)]; exact .inr d
  l0 := by
    rintro n (⟨a, _, _⟩ | ⟨a, _⟩) <;> omega
  l1 := by
    rw [brG_len]
    rintro n (⟨_, a, _⟩ | ⟨a, b⟩)
    · omega
    · rw [show s1.length + 2 + s2.length - (s1.length + 2) = s2.length by omega] at b; exact h2.l1 n b
  lk := by
    intro k x hx e
    rcases brG_get hx with ⟨rfl, rfl⟩ | ⟨j, y, rfl, hj, hy, rfl⟩ | ⟨rfl, rfl⟩ | ⟨j, y, rfl, hy, rfl⟩
    · cases e
    · rw [shG_op] at e
      obtain ⟨d, hd⟩ := h1.lk j y hy e
      rw [shG_look e]
      exact ⟨d, LkReg.place brG_one h2.mm hd⟩
    · cases e
    · rw [shG_op] at e
      obtain ⟨d, hd⟩ := h2.lk j y hy e
      rw [shG_look e]
      exact ⟨d, LkReg.place brG_two (Nat.le_refl _) hd⟩
  flat := by
    intro hf x hx
    obtain ⟨k, hk⟩ := List.getElem?_of_mem hx
    rcases brG_get hk with ⟨rfl, rfl⟩ | ⟨j, y, rfl, hj, hy, rfl⟩ | ⟨rfl, rfl⟩ | ⟨j, y, rfl, hy, rfl⟩
    · exact ⟨(by decide : (3 : Nat) ≠ 5), (by decide : (3 : Nat) ≠ 8)⟩
    · rw [shG_op]; exact h1.flat hf y (List.mem_of_getElem? hy)
    · exact ⟨(by decide : (4 : Nat) ≠ 5), (by decide : (4 : Nat) ≠ 8)⟩
    · rw [shG_op]; exact h2.flat hf y (List.mem_of_getElem? hy)

mutual
/-- No numbered group and no back reference within. -/
def Nd.flat : Nd → Prop
  | .one _ _ => True
  | .place _ => True
  | .look i _ => i.flat
  | .back _ => False
  | .pieces l => Nd.flats l
  | .branches l => Nd.flats l
  | .times i _ _ _ => i.flat
  | .group n i => n = 0 ∧ i.flat
def Nd.flats : List Nd → Prop
  | [] => True
  | t :: l => t.flat ∧ Nd.flats l
end
mutual
/-- A tree whose groups lie within G places, and whose looks ahead are flat. -/
def Nd.okG (G : Nat) : Nd → Prop
  | .one _ _ => True
  | .place _ => True
  | .look i _ => i.flat ∧ i.okG G
  | .back n => 2 * n + 1 < G
  | .pieces l => Nd.okGs G l
  | .branches l => 0 < l.length ∧ Nd.okGs G l
  | .times i lo hi _ => 0 ≤ lo ∧ (hi = -1 ∨ lo ≤ hi) ∧ i.okG G
  | .group n i => 2 * n + 1 < G ∧ i.okG G
def Nd.okGs (G : Nat) : List Nd → Prop
  | [] => True
  | t :: l => t.okG G ∧ Nd.okGs G l
end

mutual
theorem cmp_reg (fl ln : Bool) (G : Nat) : ∀ t : Nd, t.okG G → IsReg G t.flat (cmp fl ln t)
  | .one st n, h => (IsReg.one (F := True) (.inl rfl)).weak (fun _ => trivial)
  | .place k, h => (IsReg.one (F := True) (.inr (.inl rfl))).weak (fun _ => trivial)
  | .back n, h => by
    simp only [Nd.okG] at h
    exact IsReg.one (.inr (.inr ⟨rfl, h, by simp [Nd.flat]⟩))
  | .look i ng, h => by
    simp only [Nd.okG] at h
    intro m
    obtain ⟨seg, m', l, h1, e⟩ := cmp_reg fl ln G i h.2 m
    refine ⟨lkSeg (if ng = true then 1 else 0) seg, m', _, (h1.weak (fun _ => h.1)).look, fun pre => ?_⟩
    have e0 : setA (pre ++ [Ins.mk1 2 0] ++ [Ins.mk1 4 0]) pre.length (pre.length + 2) = pre ++ [⟨2, pre.length + 2, 0, .zero, 0⟩, .mk1 4 0] := by
      have := setA_mid pre [.mk1 4 0] (.mk1 2 0) (pre.length + 2)
      simpa using this
    have e1 : (if ng = true then setB (pre ++ [⟨2, pre.length + 2, 0, .zero, 0⟩, Ins.mk1 4 0]) pre.length 1 else (pre ++ [⟨2, pre.length + 2, 0, .zero, 0⟩, Ins.mk1 4 0])) = pre ++ [⟨2, pre.length + 2, (if ng = true then 1 else 0), .zero, 0⟩, .mk1 4 0] := by
      cases ng
      · simp
      · have := setB_mid pre [.mk1 4 0] ⟨2, pre.length + 2, 0, .zero, 0⟩ 1
        simpa using this
    simp only [cmp, e0, e1]
    have hl : (pre ++ [⟨2, pre.length + 2, (if ng = true then 1 else 0), BSet.zero, 0⟩, Ins.mk1 4 0]).length = pre.length + 2 := by simp
    rw [e, hl]
    simp only [List.length_append, List.length_cons, List.length_nil, shL_len]
    have e2 : ∀ v, setA (pre ++ [⟨2, pre.length + 2, (if ng = true then 1 else 0), BSet.zero, 0⟩, Ins.mk1 4 0] ++ shL (pre.length + 2) seg ++ [Ins.mk1 9 0]) (pre.length + 1) v = pre ++ [⟨2, pre.length + 2, (if ng = true then 1 else 0), BSet.zero, 0⟩, Ins.mk1 4 v] ++ shL (pre.length + 2) seg ++ [Ins.mk1 9 0] := by
      intro v
      have := setA_mid (pre ++ [⟨2, pre.length + 2, (if ng = true then 1 else 0), BSet.zero, 0⟩]) (shL (pre.length + 2) seg ++ [Ins.mk1 9 0]) (.mk1 4 0) v
      simp only [List.length_append, List.length_cons, List.length_nil] at this
      simpa [List.append_assoc] using this
    rw [e2]
    simp only [lkSeg, shL, List.map_cons, List.map_append, List.map_nil]
    rw [shL_shL]
    simp [shG, Ins.mk1]
    omega
  | .pieces l, h => by
    simp only [Nd.okG] at h
    exact cmpL_reg fl ln G l h
  | .branches l, h => by
    simp only [Nd.okG] at h
    intro m
    obtain ⟨seg, m', lb, h1, h2⟩ := cmpB_reg fl ln G l (by intro e; rw [e] at h; exact absurd h.1 (by simp)) h.2 m
    refine ⟨seg, m', lb, h1, fun pre => ?_⟩
    exact h2 pre [] (fun e he => by cases he)
  | .times i lo hi lz, h => by
    simp only [Nd.okG] at h
    exact times_reg (cmp_reg fl ln G i h.2.2) h.1 h.2.1 lz
  | .group n i, h => by
    simp only [Nd.okG] at h
    have hi := cmp_reg fl ln G i h.2
    by_cases hn : n > 0
    · intro m
      obtain ⟨seg, m', l, h1, e⟩ := hi m
      refine ⟨grSeg n seg, m', _, (h1.weak (F' := Nd.flat (.group n i)) (fun hf => by simp only [Nd.flat] at hf; omega)).gr hn h.1 (fun hf => by simp only [Nd.flat] at hf; omega), fun pre => ?_⟩
      simp only [cmp, if_pos hn]
      rw [e]
      simp only [grSeg, shL, List.map_cons, List.map_append, List.map_nil, List.length_append, List.length_cons, List.length_nil]
      rw [shL_shL]
      simp [shG, Ins.mk1]
    · refine (hi.weak (fun hf => by simp only [Nd.flat] at hf; exact hf.2)).eqf fun p => ?_
      simp [cmp, hn]
theorem cmpL_reg (fl ln : Bool) (G : Nat) : ∀ l : List Nd, Nd.okGs G l → IsReg G (Nd.flats l) (cmpL fl ln l)
  | [], h => (IsReg.id (G := G)).eqf fun p => by simp [cmpL]
  | t :: l, h => by
    simp only [Nd.okGs] at h
    refine (((cmp_reg fl ln G t h.1).weak (F' := Nd.flats (t :: l)) (fun hf => by simp only [Nd.flats] at hf; exact hf.1)).comp ((cmpL_reg fl ln G l h.2).weak (fun hf => by simp only [Nd.flats] at hf; exact hf.2))).eqf fun p => by simp [cmpL]
theorem cmpB_reg (fl ln : Bool) (G : Nat) : ∀ (l : List Nd), l ≠ [] → Nd.okGs G l → ∀ m, ∃ seg m' lab, SegR G m m' (Nd.flats l) seg lab ∧ (∀ (pre : List Ins) (ends : List Nat), (∀ e ∈ ends, e < pre.length) → cmpB fl ln l ends (pre, m) = (patchTo (pre.length + seg.length) ends pre ++ shL pre.length seg, m'))
  | [], h0, h, m => absurd rfl h0
  | [t], h0, h, m => by
    simp only [Nd.okGs] at h
    obtain ⟨seg, m', l, h3, h4⟩ := cmp_reg fl ln G t h.1 m
    refine ⟨seg, m', l, h3.weak (fun hf => by simp only [Nd.flats] at hf; exact hf.1), fun pre ends he => ?_⟩
    simp only [cmpB, h4, patch_eq, List.length_append, shL_len]
    rw [patchTo_left _ _ _ _ he]
  | t :: u :: l, h0, h, m => by
    simp only [Nd.okGs] at h
    obtain ⟨s1, m1, l1, h3, h4⟩ := cmp_reg fl ln G t h.1 m
    obtain ⟨s2, m2, l2, h5, h6⟩ := cmpB_reg fl ln G (u :: l) (by simp) (by simpa only [Nd.okGs] using h.2) m1
    refine ⟨brG s1 s2, m2, _, (h3.weak (F' := Nd.flats (t :: u :: l)) (fun hf => by simp only [Nd.flats] at hf; exact hf.1)).br (h5.weak (fun hf => by simp only [Nd.flats] at hf ⊢; exact hf.2)), fun pre ends he => ?_⟩
    simp only [cmpB]
    have e0 : setA (pre ++ [Ins.mk1 3 0]) pre.length (pre.length + 1) = pre ++ [⟨3, pre.length + 1, 0, .zero, 0⟩] := setA_mid pre [] (.mk1 3 0) _
    rw [e0, h4]
    simp only [List.length_append, List.length_cons, List.length_nil, shL_len]
    have e1 : setB (pre ++ [⟨3, pre.length + 1, 0, .zero, 0⟩] ++ shL (pre.length + (0 + 1)) s1 ++ [Ins.mk1 4 0]) pre.length (pre.length + (0 + 1) + s1.length + 1) = pre ++ ⟨3, pre.length + 1, pre.length + (0 + 1) + s1.length + 1, .zero, 0⟩ :: (shL (pre.length + 1) s1 ++ [Ins.mk1 4 0]) := by
      have := setB_mid pre (shL (pre.length + 1) s1 ++ [Ins.mk1 4 0]) ⟨3, pre.length + 1, 0, .zero, 0⟩ (pre.length + (0 + 1) + s1.length + 1)
      simpa using this
    rw [e1]
    rw [h6 _ _ (by
      intro e hm
      simp only [List.mem_append, List.mem_singleton] at hm
      simp
      rcases hm with hm | hm
      · have := he e hm; omega
      · omega)]
    have hlen : (pre ++ ⟨3, pre.length + 1, pre.length + (0 + 1) + s1.length + 1, BSet.zero, 0⟩ :: (shL (pre.length + 1) s1 ++ [Ins.mk1 4 0])).length = pre.length + (s1.length + 2) := by simp
    rw [hlen]
    have hout : pre.length + (s1.length + 2) + s2.length = pre.length + (brG s1 s2).length := by rw [brG_len]; omega
    rw [hout]
    generalize hO : pre.length + (brG s1 s2).length = O
    have e2 : patchTo O (ends ++ [pre.length + (0 + 1) + s1.length]) (pre ++ ⟨3, pre.length + 1, pre.length + (0 + 1) + s1.length + 1, BSet.zero, 0⟩ :: (shL (pre.length + 1) s1 ++ [Ins.mk1 4 0])) = patchTo O ends pre ++ ⟨3, pre.length + 1, pre.length + (0 + 1) + s1.length + 1, BSet.zero, 0⟩ :: (shL (pre.length + 1) s1 ++ [Ins.mk1 4 O]) := by
      have h7 := patchTo_left O ends pre (⟨3, pre.length + 1, pre.length + (0 + 1) + s1.length + 1, BSet.zero, 0⟩ :: (shL (pre.length + 1) s1 ++ [Ins.mk1 4 0])) he
      simp only [patchTo, List.foldl_append, List.foldl_cons, List.foldl_nil] at h7 ⊢
      rw [h7]
      have hpl := patchTo_len O ends pre
      simp only [patchTo] at hpl
      have h8 := setA_mid (List.foldl (fun p e => setA p e O) pre ends ++ ⟨3, pre.length + 1, pre.length + (0 + 1) + s1.length + 1, BSet.zero, 0⟩ :: shL (pre.length + 1) s1) [] (.mk1 4 0) O
      simp only [List.length_append, List.length_cons, shL_len, hpl] at h8
      have e3 : pre.length + (s1.length + 1) = pre.length + (0 + 1) + s1.length := by omega
      rw [e3] at h8
      simpa using h8
    rw [e2]
    simp only [brG, shL, List.map_cons, List.map_append]
    rw [shL_shL, shL_shL]
    rw [brG_len] at hO
    simp [shG]
    refine ⟨⟨by omega, by omega⟩, by omega⟩
end

end Go.Proofs.Ytfgghbideoehjaa

namespace Go.Proofs.Ytfgghbideoehjaa
open Go.ChangeShapes Go.WideShapes Go.ChangeAt Go.RowKit
set_option linter.unusedVariables false
set_option linter.unusedSimpArgs false
set_option maxRecDepth 100000

theorem first_ok {M : Mc} {groups lo hi at_ : Nat} {lab : Nat → Nat → Prop} (hl : lo ≤ hi) (h0 : ∀ n, ¬ lab lo n) (hz : at_ ≤ M.s.size) : GtOk M (2 * groups + 2) lo hi lab at_ (Gt.first groups M.marks lo at_) := by
  have e : (Gt.first groups M.marks lo at_).gs = (at_ : Int) :: List.replicate (2 * groups + 1) (-1) := by
    simp [Gt.first, fillG, List.replicate_succ]
  refine ⟨Nat.le_refl _, hl, hz, Nat.le_refl _, by rw [e]; simp, by simp [Gt.first], ?_, fun n hn => absurd hn (h0 n), ?_, by rw [e]; rfl⟩
  · rw [e]
    intro v hv
    rcases List.mem_cons.1 hv with rfl | hv
    · omega
    · have := List.eq_of_mem_replicate hv; omega
  · intro n v hv hp
    rw [e] at hv
    rw [List.getElem?_cons_succ, List.getElem?_replicate] at hv
    split at hv
    · cases hv; omega
    · cases hv

theorem from_ends {M : Mc} {lk : Nat → Nat → Option Bool} {groups lo hi at_ : Nat} {lab : Nat → Nat → Prop} (whole : Bool) (hR : Rg M lk (2 * groups + 2) lo hi lab) (hrl : M.refs.length ≤ groups + 1) (hz6 : M.s.size ≤ 60000) (hS : splits M.prog * (M.s.size * (2 * M.refs.length + 1) + 2 * M.refs.length + 1) < 200000000) (hz : at_ ≤ M.s.size)
    {tr : List Key} (ht : KsOk M.prog.length M.s.size M.refs tr) : ∃ k res, grun M lk whole k none [Gt.first groups M.marks lo at_] tr = some res ∧ EndG M M.prog.length (2 * groups + 2) at_ res := by
  obtain ⟨k, res, hr, he⟩ := grun_ends (M := M) (at0 := at_) whole hR (by omega) (by omega) hz6 hS _ _ _ (some (Gt.first groups M.marks lo at_)) [] tr rfl rfl rfl ⟨(fun t e => by
    cases e; exact ⟨first_ok hR.lohi hR.start hz, DeepG.zero _ _ _ _⟩), (fun t ht => by cases ht), trivial, ht⟩
  exact ⟨k + 1, res, hr, he⟩

theorem lk_total {M : Mc} (hz6 : M.s.size ≤ 60000) (hS : splits M.prog * (M.s.size + 1) < 200000000) : ∀ d lo, LkReg M.prog M.marks d lo → ∀ p, p ≤ M.s.size → ∃ b, lkD M d lo p = some b
  | 0, lo, h, p, hp => h.elim
  | d + 1, lo, ⟨hi, h1, h2⟩, p, hp => by
    have hR : Rg M.sub (lkD M d) 2 lo hi (fun _ _ => False) := ⟨h1, fun _ h => h, fun k a b => by
      obtain ⟨x, c1, c2, c3, c4, c5, c6, c7⟩ := h2 k a b
      exact ⟨x, c1, c2, c5, fun e => absurd e c3, c6, fun e => absurd e c4, fun e => lk_total hz6 hS d x.a (c7 e), fun j hj n hl => hl.elim⟩⟩
    obtain ⟨k, res, hr, _⟩ := from_ends (M := M.sub) (groups := 0) (at_ := p) false hR (by simp [Mc.sub]) hz6 (by simpa [Mc.sub] using hS) hp (tr := []) ⟨List.nodup_nil, fun x hx => by cases hx⟩
    exact lkD_ends ⟨k, res, hr⟩

/-- The whole program is a part that is never left. -/
theorem prog_region {seg : List Ins} {M : Mc} {groups : Nat} {F : Prop} {lab : Nat → Nat → Prop} (h : SegR (2 * groups + 2) 0 M.marks F seg lab) (hp : M.prog = seg ++ [.mk1 9 0]) (hz6 : M.s.size ≤ 60000) (hS : splits M.prog * (M.s.size + 1) < 200000000) : ∃ D, Rg M (lkD M D) (2 * groups + 2) 0 seg.length lab := by
  have up : ∀ (k : Nat) (x : Ins), seg[k]? = some x → M.prog[0 + k]? = some (shG 0 x) := fun k x hx => by rw [hp]; exact place_left k x hx
  obtain ⟨D, hD⟩ := one_depth (fun d k => ∀ x, seg[k]? = some x → x.op = 2 → LkReg M.prog M.marks d x.a) (fun d d' k h1 h2 x hx e => (h1 x hx e).mono h2) seg.length (fun k hk => by
    obtain ⟨x, hx⟩ : ∃ x, seg[k]? = some x := ⟨_, List.getElem?_eq_getElem hk⟩
    by_cases e : x.op = 2
    · obtain ⟨d, hd⟩ := h.lk k x hx e
      exact ⟨d, fun y hy _ => by rw [hx] at hy; cases hy; exact LkReg.place (b := 0) up (Nat.le_refl _) hd⟩
    · exact ⟨0, fun y hy e2 => by rw [hx] at hy; cases hy; exact absurd e2 e⟩)
  refine ⟨D, Nat.zero_le _, h.l0, fun k _ hk => ?_⟩
  by_cases hlt : k < seg.length
  · obtain ⟨x, hx⟩ : ∃ x, seg[k]? = some x := ⟨_, List.getElem?_eq_getElem hlt⟩
    obtain ⟨c1, c2, c3, c4, c5, c6⟩ := h.ins k x hx
    have hx2 := up k x hx
    rw [Nat.zero_add, shG_zero] at hx2
    exact ⟨x, hx2, c1, fun j hj => ⟨Nat.zero_le _, c2 j hj⟩, c3, fun e => (c4 e).2, c5, fun e => lk_total hz6 hS D x.a (hD k hlt x hx e), c6⟩
  · obtain rfl : k = seg.length := (by omega)
    refine ⟨.mk1 9 0, by rw [hp, List.getElem?_append_right (Nat.le_refl _)]; simp, show (9 : Nat) ≤ 9 by decide, fun j hj => ?_, (fun e => by cases e), (fun e => by rcases e with e | e <;> cases e), (fun e => by cases e), (fun e => by cases e), fun j hj => ?_⟩
    · simp [succs, Ins.mk1] at hj
    · simp [succs, Ins.mk1] at hj

/-- What a match is: its ends lie in the text, behind where it was looked for. -/
def MatchOk (groups z a : Nat) (gs : List Int) : Prop := gs.length = 2 * groups + 2 ∧ ∃ i e : Nat, gs[0]? = some (i : Int) ∧ gs[1]? = some (e : Int) ∧ a ≤ i ∧ i ≤ e ∧ e ≤ z

theorem gfound_ends {M : Mc} {lk : Nat → Nat → Option Bool} {groups hi : Nat} {lab : Nat → Nat → Prop} (hR : Rg M lk (2 * groups + 2) 0 hi lab) (hrl : M.refs.length ≤ groups + 1) (hz6 : M.s.size ≤ 60000) (hS : splits M.prog * (M.s.size * (2 * M.refs.length + 1) + 2 * M.refs.length + 1) < 200000000) :
    ∀ (n a : Nat) (tr : List Key), M.s.size + 1 - a = n → KsOk M.prog.length M.s.size M.refs tr → ∃ res, GFound M lk groups a tr res ∧ ∀ gs, res = some gs → MatchOk groups M.s.size a gs
  | 0, a, tr, hn, ht => ⟨none, .stop (by omega), (fun gs e => by cases e)⟩
  | n + 1, a, tr, hn, ht => by
    obtain ⟨k, res, hr, he⟩ := from_ends (M := M) (at_ := a) false hR hrl hz6 hS (by omega) ht
    obtain ⟨r, tr'⟩ := res
    cases r with
    | some gs =>
      obtain ⟨h1, h2, e, h3, h4, h5⟩ := he.gs gs rfl
      exact ⟨some gs, .hit (by omega) hr h1, (fun g e2 => by cases e2; exact ⟨h1, a, e, h2, h3, Nat.le_refl _, h4, h5⟩)⟩
    | none =>
      obtain ⟨res, hf, hg⟩ := gfound_ends hR hrl hz6 hS n (a + 1) tr' (by omega) he.trk
      refine ⟨res, .miss (by omega) hr hf, fun gs e => ?_⟩
      obtain ⟨h1, i, e2, h2, h3, h4, h5, h6⟩ := hg gs e
      exact ⟨h1, i, e2, h2, h3, by omega, h5, h6⟩

end Go.Proofs.Ytfgghbideoehjaa
