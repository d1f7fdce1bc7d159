/-
  A plain text within a joined one: what the parser reads ahead.
  A plain text within a joined one: its sets.
  A plain text within a joined one: the parser's states.
  A plain text within a joined one: one step of the parser.
  A plain text within a joined one: the parser's run over it.
  What read answers at a joined text.
-/
import Derived.Test.YtfgghbideoehjaaEndA
import Derived.Test.YtfgghbideoehjaaReadCToReadE
import Derived.Test.YtfgghbideoehjaaCovAToSegB
import Derived.Test.YtfgghbideoehjaaReadD
namespace Go.Proofs.Ytfgghbideoehjaa
open Go.ChangeShapes Go.WideShapes Go.ChangeAt Go.RowKit
set_option linter.unusedVariables false
set_option linter.unusedSimpArgs false
set_option maxRecDepth 100000

/-- A plain text stands in another one, a parenthesis behind it. -/
structure Within (J : ByteArray) (o : Nat) (p : ByteArray) : Prop where
  same : ∀ k, k < p.size → byte J (k + o) = byte p k
  size : p.size + o < J.size
  stop : byte J (p.size + o) = 41

theorem Within.at_ {J p : ByteArray} {o : Nat} (h : Within J o p) {k c : Nat} (hk : k ≤ p.size) (hc : c ≠ 41) : (k + o < J.size ∧ byte J (k + o) = c) ↔ (k < p.size ∧ byte p k = c) := by
  by_cases hlt : k < p.size
  · rw [h.same k hlt]
    have := h.size
    exact ⟨fun h => ⟨hlt, h.2⟩, fun h => ⟨by omega, h.2⟩⟩
  · obtain rfl : k = p.size := (by omega)
    rw [h.stop]
    exact ⟨fun h => absurd h.2.symm hc, fun h => absurd h.1 hlt⟩

theorem Within.dig {J p : ByteArray} {o : Nat} (h : Within J o p) {k : Nat} (hk : k ≤ p.size) : digAt J (k + o) = digAt p k := by
  unfold digAt
  by_cases hlt : k < p.size
  · have := h.size
    rw [h.same k hlt, decide_eq_true hlt, decide_eq_true (show k + o < J.size by omega)]
  · obtain rfl : k = p.size := (by omega)
    rw [h.stop, decide_eq_false (Nat.lt_irrefl _)]
    have : isDigit 41 = false := by decide
    rw [this]; simp
theorem Within.len {J p : ByteArray} {o : Nat} (h : Within J o p) {k : Nat} (hk : k ≤ p.size) : numLen J (k + o) = numLen p k := by
  unfold numLen
  rw [h.dig hk]
  split
  · rename_i hd
    have := digAt_lt hd
    rw [show k + o + 1 = (k + 1) + o by omega, h.dig (by omega)]
  · rfl
theorem numLen_le {p : ByteArray} {k : Nat} (hk : k ≤ p.size) : k + numLen p k ≤ p.size := by
  unfold numLen
  split
  · rename_i hd
    have := digAt_lt hd
    split
    · rename_i hd
      have := digAt_lt hd
      omega
    · omega
  · omega
theorem Within.val {J p : ByteArray} {o : Nat} (h : Within J o p) {k : Nat} : ∀ j, k + j ≤ p.size → numVal J (k + o) j = numVal p k j
  | 0, _ => rfl
  | j + 1, hj => by
    simp only [numVal]
    rw [h.val j (by omega), show k + o + j = (k + j) + o by omega, h.same _ (by omega)]
theorem Within.num {J p : ByteArray} {o : Nat} (h : Within J o p) {k : Nat} (hk : k ≤ p.size) : numAt J (k + o) = ((numAt p k).1, (numAt p k).2 + o) := by
  unfold numAt
  rw [h.len hk, h.val _ (numLen_le hk)]
  refine Prod.ext rfl ?_
  show k + o + _ = k + _ + o
  omega
theorem numAt_le {p : ByteArray} {k : Nat} (hk : k ≤ p.size) : (numAt p k).2 ≤ p.size := numLen_le hk

theorem Within.close {J p : ByteArray} {o : Nat} (h : Within J o p) {f t : Int} {e : Nat} (he : e ≤ p.size) : closeAt J f t (e + o) = ⟨f, t, e + 1 + o, (closeAt p f t e).ok⟩ := by
  unfold closeAt
  have h1 := h.at_ (k := e) (c := 125) he (by decide)
  have h2 : (decide (e + o < J.size) && decide (byte J (e + o) = 125)) = (decide (e < p.size) && decide (byte p e = 125)) := by
    rw [Bool.eq_iff_iff]; simpa using h1
  simp only [Bool.and_assoc, h2]
  congr 1
  omega

theorem Within.brace {J p : ByteArray} {o : Nat} (h : Within J o p) {k : Nat} (hk : k < p.size) (hok : (braceAt p k).ok = true) : braceAt J (k + o) = ⟨(braceAt p k).lo, (braceAt p k).hi, (braceAt p k).fin + o, true⟩ := by
  have hn := h.num (k := k + 1) (by omega)
  have hl := numAt_le (p := p) (k := k + 1) (by omega)
  rw [show k + 1 + o = k + o + 1 by omega] at hn
  unfold braceAt at hok ⊢
  rw [hn]
  dsimp only
  have h44 := h.at_ (k := (numAt p (k + 1)).2) (c := 44) hl (by decide)
  by_cases hc : 0 ≤ (numAt p (k + 1)).1 ∧ (numAt p (k + 1)).2 < p.size ∧ byte p (numAt p (k + 1)).2 = 44
  · rw [if_pos hc] at hok ⊢
    rw [if_pos ⟨hc.1, h44.2 hc.2⟩]
    have h125 := h.at_ (k := (numAt p (k + 1)).2 + 1) (c := 125) (by omega) (by decide)
    rw [show (numAt p (k + 1)).2 + 1 + o = (numAt p (k + 1)).2 + o + 1 by omega] at h125
    by_cases hd : (numAt p (k + 1)).2 + 1 < p.size ∧ byte p ((numAt p (k + 1)).2 + 1) = 125
    · rw [if_pos hd] at hok ⊢
      rw [if_pos (h125.2 hd)]
      rw [show (numAt p (k + 1)).2 + o + 1 = (numAt p (k + 1)).2 + 1 + o by omega, h.close (by omega), hok]
      rfl
    · rw [if_neg hd] at hok ⊢
      rw [if_neg (fun x => hd (h125.1 x))]
      have hn2 := h.num (k := (numAt p (k + 1)).2 + 1) (by omega)
      have hl2 := numAt_le (p := p) (k := (numAt p (k + 1)).2 + 1) (by omega)
      rw [show (numAt p (k + 1)).2 + o + 1 = (numAt p (k + 1)).2 + 1 + o by omega, hn2]
      dsimp only
      by_cases ht : (numAt p ((numAt p (k + 1)).2 + 1)).1 < (numAt p (k + 1)).1
      · rw [if_pos ht] at hok; cases hok
      · rw [if_neg ht] at hok ⊢
        rw [if_neg ht, h.close hl2, hok]
        rfl
  · rw [if_neg hc] at hok ⊢
    rw [if_neg (fun x => hc ⟨x.1, h44.1 x.2⟩), h.close hl, hok]
    rfl

theorem Within.rep {J p : ByteArray} {o : Nat} (h : Within J o p) {k : Nat} (hk : k < p.size) (hok : (repAt p k).ok = true) : repAt J (k + o) = ⟨(repAt p k).lo, (repAt p k).hi, (repAt p k).fin + o, true⟩ := by
  unfold repAt at hok ⊢
  rw [h.same k hk]
  by_cases h1 : byte p k = 42
  · simp only [if_pos h1]; congr 1; omega
  by_cases h2 : byte p k = 43
  · simp only [if_neg h1, if_pos h2]; congr 1; omega
  by_cases h3 : byte p k = 63
  · simp only [if_neg h1, if_neg h2, if_pos h3]; congr 1; omega
  · simp only [if_neg h1, if_neg h2, if_neg h3] at hok ⊢
    exact h.brace hk hok

theorem Within.lazy {J p : ByteArray} {o : Nat} (h : Within J o p) {k : Nat} (hk : k ≤ p.size) : lazyAt J (k + o) = lazyAt p k := by
  unfold lazyAt
  rw [Bool.eq_iff_iff]
  simpa using h.at_ (k := k) (c := 63) hk (by decide)
theorem Within.neg {J p : ByteArray} {o : Nat} (h : Within J o p) {k : Nat} (hk : k < p.size) : negAt J (k + o) = negAt p k := by
  unfold negAt
  rw [Bool.eq_iff_iff, show k + o + 1 = k + 1 + o by omega]
  simpa using h.at_ (k := k + 1) (c := 94) hk (by decide)
theorem Within.last {J p : ByteArray} {o : Nat} (h : Within J o p) {k : Nat} (hk : k < p.size) : lastAt J (k + o) = lastAt p k := by
  unfold lastAt
  rw [Bool.eq_iff_iff, show k + o + 1 = k + 1 + o by omega]
  simpa using h.at_ (k := k + 1) (c := 93) hk (by decide)

end Go.Proofs.Ytfgghbideoehjaa

namespace Go.Proofs.Ytfgghbideoehjaa
open Go.ChangeShapes Go.WideShapes Go.ChangeAt Go.RowKit
set_option linter.unusedVariables false
set_option linter.unusedSimpArgs false
set_option maxRecDepth 100000

theorem memAt_plain {p : ByteArray} {k : Nat} (h : byte p k ≠ 92) : memAt p k = .item (byte p k) .zero true 1 := by
  unfold memAt; rw [if_pos h]

theorem brkN_more (s : ByteArray) : ∀ (n k : Nat) (f : Bool) (all : BSet) (k' : Nat) (a' : BSet), brkN s n k f all = .fin k' a' → ∀ d, brkN s (n + d) k f all = .fin k' a'
  | 0, k, f, all, k', a', h, d => by simp [brkN] at h
  | n + 1, k, f, all, k', a', h, d => by
    rw [show n + 1 + d = (n + d) + 1 by omega]
    rw [brkN] at h ⊢
    cases hs : brkStep s k f all with
    | fin a b => rw [hs] at h; exact h
    | bad j => rw [hs] at h; cases h
    | on a b => rw [hs] at h; exact brkN_more s n _ _ _ _ _ h d

set_option maxHeartbeats 1000000 in
theorem Within.brkN {J p : ByteArray} {o : Nat} (h : Within J o p) (hp : ∀ k, k < p.size → byte p k ≠ 92) : ∀ (n k : Nat) (f : Bool) (all : BSet) (k' : Nat) (a' : BSet), brkN p n k f all = .fin k' a' → Go.Proofs.Ytfgghbideoehjaa.brkN J n (k + o) f all = .fin (k' + o) a' ∧ k' < p.size
  | 0, k, f, all, k', a', hr => by simp [Go.Proofs.Ytfgghbideoehjaa.brkN] at hr
  | n + 1, k, f, all, k', a', hr => by
    rw [Go.Proofs.Ytfgghbideoehjaa.brkN] at hr ⊢
    by_cases hk : p.size ≤ k
    · have : brkStep p k f all = .bad p.size := by unfold brkStep; rw [if_pos hk]
      rw [this] at hr; cases hr
    have hkl : k < p.size := by omega
    have hsz := h.size
    have hb := h.same k hkl
    by_cases h93 : byte p k = 93 ∧ f = false
    · have e1 : brkStep p k f all = .fin k all := by unfold brkStep; rw [if_neg hk, if_pos h93]
      have e2 : brkStep J (k + o) f all = .fin (k + o) all := by unfold brkStep; rw [if_neg (by omega), if_pos (by rw [hb]; exact h93)]
      rw [e1] at hr
      rw [e2]
      cases hr
      exact ⟨rfl, hkl⟩
    have hm := memAt_plain (hp k hkl)
    have hmJ : memAt J (k + o) = .item (byte p k) .zero true 1 := by rw [memAt_plain (by rw [hb]; exact hp k hkl), hb]
    by_cases h45 : byte p k = 45 ∧ f = false ∧ lastAt p k = false
    · have e1 : brkStep p k f all = .bad k := by unfold brkStep; rw [if_neg hk, if_neg h93, hm]; simp only; rw [if_pos h45]
      rw [e1] at hr; cases hr
    by_cases hd : dashAt p (k + 1) = true
    · have hdl : k + 1 + 1 < p.size ∧ byte p (k + 1) = 45 ∧ byte p (k + 1 + 1) ≠ 93 := by simpa [dashAt, and_assoc] using hd
      have hdJ : dashAt J (k + o + 1) = true := by
        have a1 := h.same (k + 1) (by omega)
        have a2 := h.same (k + 1 + 1) (by omega)
        rw [show k + 1 + o = k + o + 1 by omega] at a1
        rw [show k + 1 + 1 + o = k + o + 1 + 1 by omega] at a2
        simp only [dashAt, a1, a2, hdl.2.1]
        simp
        exact ⟨by omega, hdl.2.2⟩
      have a2 := h.same (k + 1 + 1) (by omega)
      rw [show k + 1 + 1 + o = k + o + 1 + 1 by omega] at a2
      have hm2 := memAt_plain (hp (k + 1 + 1) hdl.1)
      have hm2J : memAt J (k + o + 1 + 1) = .item (byte p (k + 1 + 1)) .zero true 1 := by rw [memAt_plain (by rw [a2]; exact hp _ hdl.1), a2]
      have e1 : brkStep p k f all = brkRange p k all (byte p k) true (k + 1) := by unfold brkStep; rw [if_neg hk, if_neg h93, hm]; simp only; rw [if_neg h45, if_pos hd]
      have e2 : brkStep J (k + o) f all = brkRange J (k + o) all (byte p k) true (k + o + 1) := by
        unfold brkStep; rw [if_neg (by omega), if_neg (by rw [hb]; exact h93), hmJ]; simp only; rw [if_neg (by rw [hb, h.last hkl]; exact h45), if_pos hdJ]
      rw [e1] at hr
      rw [e2]
      unfold brkRange at hr ⊢
      rw [hm2] at hr
      rw [hm2J]
      simp only [if_neg (show ¬ true = false by decide)] at hr ⊢
      by_cases hlt : byte p (k + 1 + 1) < byte p k
      · rw [if_pos hlt] at hr; cases hr
      · rw [if_neg hlt] at hr ⊢
        simp only at hr ⊢
        have := h.brkN hp n _ _ _ _ _ hr
        rw [show k + o + 1 + 1 + 1 = k + 1 + 1 + 1 + o by omega]
        exact this
    · have e1 : brkStep p k f all = .on (k + 1) (all.union (BSet.zero.range (byte p k) (byte p k))) := by unfold brkStep; rw [if_neg hk, if_neg h93, hm]; simp only; rw [if_neg h45, if_neg hd]; rfl
      rw [e1] at hr
      simp only at hr
      by_cases hdJ : dashAt J (k + o + 1) = true
      · exfalso
        have hdl : k + o + 1 + 1 < J.size ∧ byte J (k + o + 1) = 45 ∧ byte J (k + o + 1 + 1) ≠ 93 := by simpa [dashAt, and_assoc] using hdJ
        have hk1 : k + 1 < p.size := by
          rcases Nat.lt_or_ge (k + 1) p.size with h9 | h9
          · exact h9
          · have : k + 1 = p.size := by omega
            have hst := h.stop
            rw [← this, show k + 1 + o = k + o + 1 by omega, hdl.2.1] at hst
            exact absurd hst (by decide)
        have a1 := h.same (k + 1) hk1
        rw [show k + 1 + o = k + o + 1 by omega, hdl.2.1] at a1
        have hlast : lastAt p (k + 1) = false := by
          rw [← h.last hk1]
          simp only [lastAt, show k + 1 + o + 1 = k + o + 1 + 1 by omega]
          simp [hdl.2.2]
        have e9 : brkStep p (k + 1) false (all.union (BSet.zero.range (byte p k) (byte p k))) = .bad (k + 1) := by
          unfold brkStep
          rw [if_neg (by omega), if_neg (by rw [← a1]; decide), memAt_plain (by rw [← a1]; decide)]
          simp only
          rw [if_pos ⟨a1.symm, trivial, hlast⟩]
        cases n with
        | zero => simp [Go.Proofs.Ytfgghbideoehjaa.brkN] at hr
        | succ n => rw [Go.Proofs.Ytfgghbideoehjaa.brkN, e9] at hr; cases hr
      · have e2 : brkStep J (k + o) f all = .on (k + o + 1) (all.union (BSet.zero.range (byte p k) (byte p k))) := by
          unfold brkStep; rw [if_neg (by omega), if_neg (by rw [hb]; exact h93), hmJ]; simp only; rw [if_neg (by rw [hb, h.last hkl]; exact h45), if_neg hdJ]; rfl
        rw [e2]
        simp only
        have := h.brkN hp n _ _ _ _ _ hr
        rw [show k + o + 1 = k + 1 + o by omega]
        exact this

theorem Within.brkOf {J p : ByteArray} {o : Nat} (h : Within J o p) (hp : ∀ k, k < p.size → byte p k ≠ 92) {k k' : Nat} {a' : BSet} (hk : k < p.size) (hr : brkOf p k = .fin k' a') : Go.Proofs.Ytfgghbideoehjaa.brkOf J (k + o) = .fin (k' + o) a' ∧ k' < p.size := by
  unfold Go.Proofs.Ytfgghbideoehjaa.brkOf at hr ⊢
  have hs := h.size
  have h1 := h.brkN hp _ _ _ _ _ _ hr
  have h2 := brkN_more J _ _ _ _ _ _ h1.1 (J.size - p.size)
  rw [show p.size + 2 + (J.size - p.size) = J.size + 2 by omega] at h2
  have h3 : brkFrom J (k + o) = brkFrom p k + o := by
    unfold brkFrom
    rw [h.neg hk]
    split <;> omega
  rw [h3]
  exact ⟨h2, h1.2⟩

end Go.Proofs.Ytfgghbideoehjaa

namespace Go.Proofs.Ytfgghbideoehjaa
open Go.ChangeShapes Go.WideShapes Go.ChangeAt Go.RowKit
set_option linter.unusedVariables false
set_option linter.unusedSimpArgs false
set_option maxRecDepth 100000

mutual
/-- A tree whose groups have later numbers. -/
def Nd.up (g : Nat) : Nd → Nd
  | .one s n => .one s n
  | .place k => .place k
  | .look i n => .look (i.up g) n
  | .back n => .back n
  | .pieces l => .pieces (Nd.ups g l)
  | .branches l => .branches (Nd.ups g l)
  | .times i lo hi lz => .times (i.up g) lo hi lz
  | .group n i => .group (n + g) (i.up g)
def Nd.ups (g : Nat) : List Nd → List Nd
  | [] => []
  | t :: l => t.up g :: Nd.ups g l
end
theorem ups_app (g : Nat) (m : List Nd) : ∀ l : List Nd, Nd.ups g (l ++ m) = Nd.ups g l ++ Nd.ups g m
  | [] => rfl
  | t :: l => by simp [Nd.ups, ups_app g m l]

def Fr.up (g : Nat) (f : Fr) : Fr := ⟨f.kind, f.num + g, Nd.ups g f.brs, Nd.ups g f.pcs, f.single⟩
def Fr.bot (g : Nat) (f : Fr) : Fr := ⟨58, 0, Nd.ups g f.brs, Nd.ups g f.pcs, f.single⟩
def lowJ (g : Nat) (L0 : List Fr) : List Fr → List Fr
  | [] => L0
  | f :: fs => L0 ++ f.bot g :: fs.map (Fr.up g)
def topJ (g : Nat) : List Fr → Fr → Fr
  | [], t => t.bot g
  | _ :: _, t => t.up g
theorem lowJ_snoc (g : Nat) (L0 : List Fr) (l : List Fr) (t : Fr) : lowJ g L0 (l ++ [t]) = lowJ g L0 l ++ [topJ g l t] := by
  cases l with
  | nil => simp [lowJ, topJ]
  | cons f fs => simp [lowJ, topJ]
theorem topJ_snoc (g : Nat) (l : List Fr) (t x : Fr) : topJ g (l ++ [t]) x = x.up g := by
  cases l <;> rfl
theorem topJ_pcs (g : Nat) (l : List Fr) (t : Fr) : (topJ g l t).pcs = Nd.ups g t.pcs := by cases l <;> rfl
theorem topJ_brs (g : Nat) (l : List Fr) (t : Fr) : (topJ g l t).brs = Nd.ups g t.brs := by cases l <;> rfl
theorem topJ_single (g : Nat) (l : List Fr) (t : Fr) : (topJ g l t).single = t.single := by cases l <;> rfl
theorem topJ_with (g : Nat) (l : List Fr) (t : Fr) (b p : List Nd) (s : Bool) : topJ g l { t with brs := b, pcs := p, single := s } = { topJ g l t with brs := Nd.ups g b, pcs := Nd.ups g p, single := s } := by cases l <;> rfl
theorem topJ_whole (g : Nat) (l : List Fr) (t : Fr) : (topJ g l t).whole = t.whole.up g := by
  simp [Fr.whole, topJ_pcs, topJ_brs, Nd.up, ups_app, Nd.ups]

/-- A state of the parser within a joined text. -/
def PSt.inJ (J : ByteArray) (o g : Nat) (L0 : List Fr) (R0 : List Bool) (st : PSt) : PSt :=
  ⟨J, st.pos + o, lowJ g L0 st.low, topJ g st.low st.top, st.groups + g, st.begun + g, st.looks, R0 ++ st.refs.tail⟩

theorem inJ_put (J : ByteArray) (o g : Nat) (L0 : List Fr) (R0 : List Bool) (st : PSt) (x : Nd) (single : Bool) (n : Nat) : (st.inJ J o g L0 R0).put (x.up g) single n = (st.put x single n).inJ J o g L0 R0 := by
  unfold PSt.put PSt.inJ
  dsimp only
  have h := topJ_with g st.low st.top st.top.brs (st.top.pcs ++ [x]) single
  rw [ups_app] at h
  have h' : topJ g st.low { st.top with pcs := st.top.pcs ++ [x], single := single } = { topJ g st.low st.top with pcs := (topJ g st.low st.top).pcs ++ [x.up g], single := single } := by
    rw [topJ_pcs]
    refine h.trans ?_
    rw [← topJ_brs g st.low]
    rfl
  rw [h', show st.pos + n + o = st.pos + o + n by omega]

structure K40 (st : PSt) : Prop where
  top : st.low ≠ [] → st.top.kind = 40
  low : ∀ f ∈ st.low.tail, f.kind = 40

/-- No place, no backslash, no '(?'. -/
structure Plain (s : ByteArray) : Prop where
  nob : ∀ k, k < s.size → byte s k ≠ 92
  nop : ∀ k, k < s.size → byte s k ≠ 94 ∧ byte s k ≠ 36
  nol : ∀ k, k + 1 < s.size → byte s k = 40 → byte s (k + 1) ≠ 63

theorem Plain.pre {s : ByteArray} (h : Plain s) {k : Nat} (hb : byte s k = 40) : pre2 s k = false := by
  unfold pre2
  by_cases hk : k + 1 < s.size
  · have := h.nol k hk hb
    simp [this]
  · simp [hk]
theorem Within.pre {J p : ByteArray} {o : Nat} (h : Within J o p) {k : Nat} (hk : k < p.size) : pre2 J (k + o) = pre2 p k := by
  unfold pre2
  rw [Bool.eq_iff_iff, show k + o + 1 = k + 1 + o by omega]
  simpa using h.at_ (k := k + 1) (c := 63) hk (by decide)

end Go.Proofs.Ytfgghbideoehjaa

namespace Go.Proofs.Ytfgghbideoehjaa
open Go.ChangeShapes Go.WideShapes Go.ChangeAt Go.RowKit
set_option linter.unusedVariables false
set_option linter.unusedSimpArgs false
set_option maxRecDepth 100000

theorem ups_snoc (g : Nat) (l : List Nd) (x : Nd) : Nd.ups g (l ++ [x]) = Nd.ups g l ++ [x.up g] := by rw [ups_app]; rfl
theorem ups_last (g : Nat) {l : List Nd} {y : Nd} (h : l.getLast? = some y) : (Nd.ups g l).getLast? = some (y.up g) ∧ (Nd.ups g l).dropLast = Nd.ups g l.dropLast := by
  have := last_snoc h
  rw [this, ups_snoc]
  simp
theorem lazy_in {J p : ByteArray} {o : Nat} (h : Within J o p) {k : Nat} (hk : k ≤ p.size) : lazyEnd J (k + o) = lazyEnd p k + o := by
  unfold lazyEnd
  rw [h.lazy hk]
  split <;> omega

set_option maxHeartbeats 4000000 in
theorem step_in {J : ByteArray} {o g : Nat} {L0 : List Fr} {R0 : List Bool} {st st' : PSt} (hg : st.Good) (hW : Within J o st.s) (hP : Plain st.s) (hK : K40 st) (hp : st.pos < st.s.size) (hs : st.stepP = .ok st') :
    (st.inJ J o g L0 R0).stepP = .ok (st'.inJ J o g L0 R0) ∧ K40 st' := by
  have hby := hW.same st.pos hp
  have hrefs : st.refs ≠ [] := by intro e; have := hg.refs; rw [e] at this; simp at this
  have eb : byte (st.inJ J o g L0 R0).s (st.inJ J o g L0 R0).pos = byte st.s st.pos := hby
  have hput : ∀ (x : Nd) (single : Bool) (n : Nat), K40 (st.put x single n) := fun x single n => ⟨fun h => hK.top h, hK.low⟩
  unfold PSt.stepP at hs ⊢
  rw [eb]
  rw [if_neg (hP.nob _ hp)] at hs
  rw [if_neg (hP.nob _ hp)]
  by_cases h91 : byte st.s st.pos = 91
  · rw [if_pos h91] at hs ⊢
    cases hr : brkOf st.s st.pos with
    | fin k a =>
      rw [hr] at hs
      simp only [PSt.brk, PR.ok.injEq] at hs
      subst hs
      obtain ⟨b1, b2⟩ := hW.brkOf hP.nob hp hr
      refine ⟨?_, hput _ _ _⟩
      show PSt.brk _ (negAt J (st.pos + o)) (brkOf J (st.pos + o)) = _
      rw [b1, hW.neg hp]
      simp only [PSt.brk]
      rw [← inJ_put]
      have e1 : k + o + 1 - (st.inJ J o g L0 R0).pos = k + 1 - st.pos := by show k + o + 1 - (st.pos + o) = _; omega
      rw [e1]
      congr 2
      split <;> rfl
    | bad k => rw [hr] at hs; cases hs
    | on k a => rw [hr] at hs; cases hs
  rw [if_neg h91] at hs ⊢
  by_cases h40 : byte st.s st.pos = 40
  · rw [if_pos h40] at hs ⊢
    rw [if_pos (hP.pre h40)] at hs
    have e1 : pre2 (st.inJ J o g L0 R0).s (st.inJ J o g L0 R0).pos = false := (hW.pre hp).trans (hP.pre h40)
    rw [if_pos e1]
    by_cases hl : st.looks = 0
    · rw [if_pos hl] at hs
      rw [if_pos (show (st.inJ J o g L0 R0).looks = 0 from hl)]
      cases hs
      refine ⟨?_, fun _ => rfl, fun f hf => ?_⟩
      · simp only [PSt.enter, PSt.inJ, lowJ_snoc, topJ_snoc, Fr.up, Nd.ups]
        congr 2
        · omega
        · congr 1; omega
        · omega
        · omega
        · rw [List.append_assoc, List.tail_append_of_ne_nil hrefs]
      · simp only [PSt.enter] at hf
        cases hlo : st.low with
        | nil => rw [hlo] at hf; simp at hf
        | cons a l =>
          rw [hlo] at hf
          simp only [List.cons_append, List.tail_cons, List.mem_append, List.mem_singleton] at hf
          rcases hf with hf | rfl
          · exact hK.low f (by rw [hlo]; exact hf)
          · exact hK.top (by rw [hlo]; simp)
    · rw [if_neg hl] at hs; cases hs
  rw [if_neg h40] at hs ⊢
  by_cases h41 : byte st.s st.pos = 41
  · rw [if_pos h41] at hs ⊢
    cases hf : st.low.getLast? with
    | none => rw [hf] at hs; cases hs
    | some f =>
      have hl := last_snoc hf
      have hne : st.low ≠ [] := by intro e; rw [e] at hf; cases hf
      have hk := hK.top hne
      rw [hf] at hs
      simp only at hs
      rw [if_pos (by rw [hk])] at hs
      cases hs
      have elow : (st.inJ J o g L0 R0).low = lowJ g L0 st.low.dropLast ++ [topJ g st.low.dropLast f] := by
        show lowJ g L0 st.low = _
        rw [← lowJ_snoc, ← hl]
      have etop : (st.inJ J o g L0 R0).top = st.top.up g := by
        show topJ g st.low st.top = _
        rw [hl, topJ_snoc]
      refine ⟨?_, ?_⟩
      · rw [elow]
        simp only [List.getLast?_concat, List.dropLast_concat]
        rw [if_pos (by rw [etop]; show st.top.kind = 40; rw [hk])]
        have hw : (st.top.up g).whole = st.top.whole.up g := by simp [Fr.whole, Fr.up, Nd.up, ups_app, Nd.ups]
        rw [etop, hw]
        rw [← inJ_put]
        rfl
      · refine ⟨fun h => ?_, fun x hx => ?_⟩
        · show f.kind = 40
          have h' : st.low.dropLast ≠ [] := h
          refine hK.low f ?_
          rw [hl]
          cases hd : st.low.dropLast with
          | nil => exact absurd hd h'
          | cons a l => simp
        · have hx' : x ∈ st.low.dropLast.tail := hx
          refine hK.low x ?_
          rw [hl]
          cases hd : st.low.dropLast with
          | nil => rw [hd] at hx'; simp at hx'
          | cons a l => rw [hd] at hx'; simp at hx' ⊢; exact .inl hx'
  rw [if_neg h41] at hs ⊢
  by_cases h124 : byte st.s st.pos = 124
  · rw [if_pos h124] at hs ⊢
    cases hs
    refine ⟨?_, ⟨fun h => hK.top h, hK.low⟩⟩
    have h := topJ_with g st.low st.top (st.top.brs ++ [.pieces st.top.pcs]) [] false
    rw [ups_snoc, ← topJ_brs g st.low] at h
    simp only [Nd.up, Nd.ups] at h
    rw [← topJ_pcs g st.low] at h
    simp only [PSt.bar, PSt.inJ, h]
    congr 2
    omega
  rw [if_neg h124] at hs ⊢
  by_cases hrp : byte st.s st.pos = 42 ∨ byte st.s st.pos = 43 ∨ byte st.s st.pos = 63 ∨ byte st.s st.pos = 123
  · rw [if_pos hrp] at hs ⊢
    cases hy : st.top.pcs.getLast? with
    | none => rw [hy] at hs; cases hs
    | some y =>
      rw [hy] at hs
      simp only at hs
      by_cases hk : (repAt st.s st.pos).ok = true ∧ st.top.single = true
      · rw [if_pos hk] at hs
        cases hs
        refine ⟨?_, ⟨fun h => hK.top h, hK.low⟩⟩
        have hrj := hW.rep hp hk.1
        obtain ⟨r1, r2, r3, r4, r5⟩ := repAt_ok hp hk.1
        have ey : (st.inJ J o g L0 R0).top.pcs.getLast? = some (y.up g) ∧ (st.inJ J o g L0 R0).top.pcs.dropLast = Nd.ups g st.top.pcs.dropLast := by
          show (topJ g st.low st.top).pcs.getLast? = _ ∧ (topJ g st.low st.top).pcs.dropLast = _
          rw [topJ_pcs]; exact ups_last g hy
        have es : (st.inJ J o g L0 R0).top.single = true := (topJ_single g _ _).trans hk.2
        have er : repAt (st.inJ J o g L0 R0).s (st.inJ J o g L0 R0).pos = _ := hrj
        rw [ey.1, er]
        simp only [es, ey.2]
        rw [if_pos ⟨trivial, trivial⟩]
        have hfin : (repAt st.s st.pos).fin ≤ st.s.size := by omega
        have h := topJ_with g st.low st.top st.top.brs (st.top.pcs.dropLast ++ [.times y (repAt st.s st.pos).lo (repAt st.s st.pos).hi (lazyAt st.s (repAt st.s st.pos).fin)]) false
        rw [ups_snoc, ← topJ_brs g st.low] at h
        simp only [PSt.rep, PSt.inJ, lazy_in hW hfin, hW.lazy hfin]
        congr 2
        exact h.symm
      · rw [if_neg hk] at hs; cases hs
  rw [if_neg hrp] at hs ⊢
  have hn := hP.nop _ hp
  rw [if_neg (by omega)] at hs ⊢
  by_cases h46 : byte st.s st.pos = 46
  · rw [if_pos h46] at hs ⊢
    cases hs
    exact ⟨by rw [← inJ_put]; rfl, hput _ _ _⟩
  · rw [if_neg h46] at hs ⊢
    cases hs
    exact ⟨by rw [← inJ_put]; rfl, hput _ _ _⟩

end Go.Proofs.Ytfgghbideoehjaa

namespace Go.Proofs.Ytfgghbideoehjaa
open Go.ChangeShapes Go.WideShapes Go.ChangeAt Go.RowKit
set_option linter.unusedVariables false
set_option linter.unusedSimpArgs false
set_option maxRecDepth 100000

theorem Plain.bare {s : ByteArray} (h : Plain s) : Bare s where
  nob := h.nob
  nol := fun k hk h40 h63 => absurd h63 (h.nol k (by omega) h40)

theorem run_in {J : ByteArray} {o g : Nat} {L0 : List Fr} {R0 : List Bool} : ∀ (n : Nat) (st : PSt) (d : Nat) (fin : PSt) (deep : Nat), st.Good → Within J o st.s → Plain st.s → K40 st → runP n st d = .fin fin deep →
    ∃ j, st.pos + j ≤ st.s.size ∧ fin.pos = st.s.size ∧ ∀ m dB, ∃ dB', runP (j + m) (st.inJ J o g L0 R0) dB = runP m (fin.inJ J o g L0 R0) dB'
  | 0, st, d, fin, deep, _, _, _, _, h => by simp [runP] at h
  | n + 1, st, d, fin, deep, hg, hW, hP, hK, h => by
    unfold runP at h
    by_cases hp : st.pos < st.s.size
    · rw [if_pos hp] at h
      cases hs : st.stepP with
      | bad k => rw [hs] at h; cases h
      | ok st' =>
        rw [hs] at h
        simp only at h
        obtain ⟨g1, g2, g3⟩ := good_step hg hp hs
        obtain ⟨s1, s2⟩ := step_in (J := J) (o := o) (g := g) (L0 := L0) (R0 := R0) hg hW hP hK hp hs
        obtain ⟨j, h1, h2, h3⟩ := run_in n st' _ fin deep g1 (by rw [g3]; exact hW) (by rw [g3]; exact hP) s2 h
        rw [g3] at h1 h2
        refine ⟨j + 1, by omega, h2, fun m dB => ?_⟩
        rw [show j + 1 + m = (j + m) + 1 by omega, runP]
        have hsz := hW.size
        rw [if_pos (show (st.inJ J o g L0 R0).pos < (st.inJ J o g L0 R0).s.size from by show st.pos + o < J.size; omega), s1]
        exact h3 m _
    · rw [if_neg hp] at h
      cases h
      have := hg.pos
      exact ⟨0, by omega, by omega, fun m dB => ⟨dB, by rw [Nat.zero_add]⟩⟩

mutual
theorem up_zero : ∀ t : Nd, t.up 0 = t
  | .one _ _ => rfl
  | .place _ => rfl
  | .look i _ => by simp [Nd.up, up_zero i]
  | .back _ => rfl
  | .pieces l => by simp [Nd.up, ups_zero l]
  | .branches l => by simp [Nd.up, ups_zero l]
  | .times i _ _ _ => by simp [Nd.up, up_zero i]
  | .group n i => by simp [Nd.up, up_zero i]
theorem ups_zero : ∀ l : List Nd, Nd.ups 0 l = l
  | [] => rfl
  | t :: l => by simp [Nd.ups, up_zero t, ups_zero l]
end

structure Joins (J p q : ByteArray) : Prop where
  size : J.size = p.size + q.size + 9
  b0 : byte J 0 = 40
  b1 : byte J 1 = 63
  b2 : byte J 2 = 58
  inp : Within J 3 p
  b4 : byte J (p.size + 4) = 124
  b5 : byte J (p.size + 5) = 40
  b6 : byte J (p.size + 6) = 63
  b7 : byte J (p.size + 7) = 58
  inq : Within J (p.size + 8) q

theorem step_open {st : PSt} (hp : st.pos + 2 < st.s.size) (h0 : byte st.s st.pos = 40) (h1 : byte st.s (st.pos + 1) = 63) (h2 : byte st.s (st.pos + 2) = 58) : st.stepP = .ok (st.enterK 58) := by
  unfold PSt.stepP
  rw [h0, if_neg (by decide), if_neg (by decide), if_pos rfl, if_neg (by simp [pre2, h1]; omega), if_pos ⟨hp, .inl h2⟩, h2]
  rfl
theorem step_bar {st : PSt} (h0 : byte st.s st.pos = 124) : st.stepP = .ok st.bar := by
  unfold PSt.stepP
  rw [h0, if_neg (by decide), if_neg (by decide), if_neg (by decide), if_neg (by decide), if_pos rfl]
theorem step_shut {st : PSt} {l : List Fr} {f : Fr} (h0 : byte st.s st.pos = 41) (hl : st.low = l ++ [f]) (hk : st.top.kind = 58) : st.stepP = .ok ((st.pop l f).put (.group 0 st.top.whole) true 1) := by
  unfold PSt.stepP
  rw [h0, if_neg (by decide), if_neg (by decide), if_neg (by decide), if_pos rfl, hl]
  simp only [List.getLast?_concat, List.dropLast_concat]
  rw [if_neg (by rw [hk]; decide), if_pos (by rw [hk])]
theorem run_step {n d : Nat} {st st' : PSt} (hp : st.pos < st.s.size) (hs : st.stepP = .ok st') : ∃ d', runP (n + 1) st d = runP n st' d' := by
  refine ⟨deeper st st' d, ?_⟩
  rw [runP, if_pos hp, hs]

end Go.Proofs.Ytfgghbideoehjaa

namespace Go.Proofs.Ytfgghbideoehjaa
open Go.ChangeShapes Go.WideShapes Go.ChangeAt Go.RowKit
set_option linter.unusedVariables false
set_option linter.unusedSimpArgs false
set_option maxRecDepth 100000

theorem k40_start (s : ByteArray) : K40 (PSt.start s) := ⟨fun h => absurd rfl h, fun f hf => by simp [PSt.start] at hf⟩

theorem read_run {s : ByteArray} {fin : PSt} {deep : Nat} (h : readOf s = .ok fin deep) : runP (s.size + 1) (PSt.start s) 0 = .fin fin deep := by
  unfold readOf readFin at h
  split at h
  · cases h
  · rename_i st d hr
    split at h
    · cases h
    split at h
    · cases h
    · cases h; exact hr

theorem looks_zero {fin : PSt} (hg : fin.Good) (hc : fin.Cov) : fin.looks = 0 := by
  rw [hg.looks, List.countP_eq_zero]
  intro f hf
  have := hc.frs f (by simp at hf ⊢; rcases hf with h | h <;> simp [h])
  simp [this.2.2.1, this.2.2.2]

set_option maxHeartbeats 2000000 in
theorem read_join {J p q : ByteArray} (hJ : Joins J p q) (hs : J.size ≤ 50000) (hPp : Plain p) (hPq : Plain q) {fp fq : PSt} {dp dq : Nat} (hp : readOf p = .ok fp dp) (hq : readOf q = .ok fq dq) :
    (∃ fin d, readOf J = .ok fin d ∧ fin.top.whole = .branches [.pieces [.group 0 fp.top.whole], .pieces [.group 0 (fq.top.whole.up fp.groups)]] ∧ fin.groups = fq.groups + fp.groups) ∨ ∃ k, readOf J = .err k 4 := by
  have hz := hJ.size
  obtain ⟨gp, cp, ep, lp, _⟩ := read_cov (by omega) hPp.bare hp
  obtain ⟨gq, cq, eq, lq, _⟩ := read_cov (by omega) hPq.bare hq
  have zp := looks_zero gp cp
  have bp := gp.begun
  let base : Fr := ⟨0, 0, [], [], false⟩
  let base' : Fr := ⟨0, 0, [.pieces [.group 0 (fp.top.whole.up 0)]], [], false⟩
  let R : List Bool := [false] ++ fp.refs.tail
  obtain ⟨jp, a1, a2, a3⟩ := run_in (J := J) (o := 3) (g := 0) (L0 := [base]) (R0 := [false]) _ _ _ _ _ (good_start p (by omega)) hJ.inp hPp (k40_start p) (read_run hp)
  obtain ⟨jq, c1, c2, c3⟩ := run_in (J := J) (o := p.size + 8) (g := fp.groups) (L0 := [base']) (R0 := R) _ _ _ _ _ (good_start q (by omega)) hJ.inq hPq (k40_start q) (read_run hq)
  have a2' : fp.pos = p.size := a2
  have c2' : fq.pos = q.size := c2
  have a1' : jp ≤ p.size := by have : 0 + jp ≤ p.size := a1; omega
  have c1' : jq ≤ q.size := by have : 0 + jq ≤ q.size := c1; omega
  -- the states
  have s0 : (PSt.start J).stepP = .ok ((PSt.start p).inJ J 3 0 [base] [false]) := (step_open (by show 0 + 2 < J.size; omega) hJ.b0 hJ.b1 hJ.b2).trans rfl
  have s2 := step_shut (st := fp.inJ J 3 0 [base] [false]) (l := []) (f := base) (by show byte J (fp.pos + 3) = 41; rw [a2']; exact hJ.inp.stop) (by show lowJ 0 [base] fp.low = _; rw [lp]; rfl) (by show (topJ 0 fp.low fp.top).kind = 58; rw [lp]; rfl)
  have e2 : (fp.inJ J 3 0 [base] [false]).top.whole = fp.top.whole.up 0 := topJ_whole _ _ _
  rw [e2] at s2
  generalize hS3 : ((fp.inJ J 3 0 [base] [false]).pop [] base).put (.group 0 (fp.top.whole.up 0)) true 1 = S3 at s2
  have S3e : S3 = ⟨J, p.size + 4, [], ⟨0, 0, [], [.group 0 (fp.top.whole.up 0)], true⟩, fp.groups, fp.groups, 0, R⟩ := by
    rw [← hS3]
    simp only [PSt.put, PSt.pop, PSt.inJ, zp, bp, a2', base, R]
    rfl
  have s3 : S3.stepP = .ok S3.bar := step_bar (by rw [S3e]; exact hJ.b4)
  have s4 : S3.bar.stepP = .ok (S3.bar.enterK 58) := by
    rw [S3e]
    exact step_open (by show p.size + 4 + 1 + 2 < J.size; omega) hJ.b5 hJ.b6 hJ.b7
  have e4 : S3.bar.enterK 58 = (PSt.start q).inJ J (p.size + 8) fp.groups [base'] R := by
    rw [S3e]
    simp only [PSt.bar, PSt.enterK, PSt.inJ, PSt.start, Nat.zero_add, base']
    congr 1
    simp
  rw [e4] at s4
  have s6 := step_shut (st := fq.inJ J (p.size + 8) fp.groups [base'] R) (l := []) (f := base') (by show byte J (fq.pos + (p.size + 8)) = 41; rw [c2']; exact hJ.inq.stop) (by show lowJ _ [base'] fq.low = _; rw [lq]; rfl) (by show (topJ _ fq.low fq.top).kind = 58; rw [lq]; rfl)
  have e6 : (fq.inJ J (p.size + 8) fp.groups [base'] R).top.whole = fq.top.whole.up fp.groups := topJ_whole _ _ _
  rw [e6] at s6
  generalize hS7 : ((fq.inJ J (p.size + 8) fp.groups [base'] R).pop [] base').put (.group 0 (fq.top.whole.up fp.groups)) true 1 = S7 at s6
  have p7 : S7.pos = J.size := by rw [← hS7]; show fq.pos + (p.size + 8) + 1 = _; omega
  have t7 : S7.s = J := by rw [← hS7]; rfl
  have l7 : S7.low = [] := by rw [← hS7]; rfl
  have g7 : S7.groups = fq.groups + fp.groups := by rw [← hS7]; rfl
  have w7 : S7.top.whole = .branches [.pieces [.group 0 fp.top.whole], .pieces [.group 0 (fq.top.whole.up fp.groups)]] := by
    rw [← hS7]
    show Fr.whole ⟨0, 0, [.pieces [.group 0 (fp.top.whole.up 0)]], [] ++ [.group 0 (fq.top.whole.up fp.groups)], true⟩ = _
    rw [up_zero]
    rfl
  -- the run
  obtain ⟨m, hm⟩ : ∃ m, J.size + 1 = (jp + ((((jq + (m + 1 + 1)) + 1) + 1) + 1)) + 1 := ⟨J.size - jp - jq - 5, by omega⟩
  have hrun : ∃ d, runP (J.size + 1) (PSt.start J) 0 = .fin S7 d := by
    rw [hm]
    obtain ⟨d1, r1⟩ := run_step (n := jp + ((((jq + (m + 1 + 1)) + 1) + 1) + 1)) (d := 0) (by show 0 < J.size; omega) s0
    obtain ⟨d2, r2⟩ := a3 ((((jq + (m + 1 + 1)) + 1) + 1) + 1) d1
    obtain ⟨d3, r3⟩ := run_step (n := ((jq + (m + 1 + 1)) + 1) + 1) (d := d2) (by show fp.pos + 3 < J.size; omega) s2
    obtain ⟨d4, r4⟩ := run_step (n := (jq + (m + 1 + 1)) + 1) (d := d3) (by rw [S3e]; show p.size + 4 < J.size; omega) s3
    obtain ⟨d5, r5⟩ := run_step (n := jq + (m + 1 + 1)) (d := d4) (by rw [S3e]; show p.size + 4 + 1 < J.size; omega) s4
    obtain ⟨d6, r6⟩ := c3 (m + 1 + 1) d5
    obtain ⟨d7, r7⟩ := run_step (n := m + 1) (d := d6) (by show fq.pos + (p.size + 8) < J.size; omega) s6
    refine ⟨d7, ?_⟩
    rw [r1, r2, r3, r4, r5, r6, r7, runP, if_neg (by rw [p7, t7]; omega)]
  obtain ⟨d, hd⟩ := hrun
  unfold readOf
  rw [hd]
  simp only [readFin]
  rw [if_neg (by rw [l7]; simp)]
  by_cases hlim : S7.groups > 20 ∨ d > 100 ∨ S7.top.whole.size > 5000
  · rw [if_pos hlim]; exact .inr ⟨0, rfl⟩
  · rw [if_neg hlim]; exact .inl ⟨S7, d, rfl, w7, g7⟩

end Go.Proofs.Ytfgghbideoehjaa
