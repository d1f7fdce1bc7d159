/-
  The tree that the parser builds of a text without looks ahead and back references: what is known of its nodes.
  How long a compiled pattern is.
  The compiled program of a node as a segment that may stand anywhere.
  The compiled program of any plain node as a segment that may stand anywhere.
-/
import Derived.Test.YtfgghbideoehjaaReadD
import Derived.Test.YtfgghbideoehjaaCxEToCxF
namespace Go.Proofs.Ytfgghbideoehjaa
open Go.ChangeShapes Go.WideShapes Go.ChangeAt Go.RowKit
set_option linter.unusedVariables false
set_option linter.unusedSimpArgs false
set_option maxRecDepth 100000

/-- No backslash, no look ahead. -/
structure Bare (s : ByteArray) : Prop where
  nob : ∀ k, k < s.size → byte s k ≠ 92
  nol : ∀ k, k + 2 < s.size → byte s k = 40 → byte s (k + 1) = 63 → byte s (k + 2) ≠ 61 ∧ byte s (k + 2) ≠ 33

theorem covs_snoc (x : Nd) : ∀ l : List Nd, Nd.covsX (l ++ [x]) ↔ Nd.covsX l ∧ x.covX
  | [] => by simp [Nd.covsX]
  | a :: l => by simp [Nd.covsX, covs_snoc x l, and_assoc]

/-- What is known of a state of a bare text. -/
structure PSt.Cov (st : PSt) : Prop where
  frs : ∀ f ∈ st.top :: st.low, Nd.covsX f.brs ∧ Nd.covsX f.pcs ∧ f.kind ≠ 61 ∧ f.kind ≠ 33
  refs : ∀ b ∈ st.refs, b = false
  single : st.top.single = true → ∀ pre y, st.top.pcs = pre ++ [y] → y.loose = false

theorem whole_cov {st : PSt} (hg : st.Good) (hc : st.Cov) {f : Fr} (hf : f ∈ st.top :: st.low) : f.whole.covX := by
  obtain ⟨h1, h2, h3, _⟩ := hg.frs f hf
  obtain ⟨c1, c2, _⟩ := hc.frs f hf
  have := hg.pos
  have := hg.size
  simp only [Fr.whole, Nd.covX, covs_snoc, List.length_append, List.length_cons, List.length_nil]
  exact ⟨by omega, by omega, c1, by omega, c2⟩

theorem cov_put {st : PSt} (h : st.Cov) {x : Nd} {single : Bool} {n : Nat} (hx : x.covX) (ht : single = true → x.loose = false) : (st.put x single n).Cov where
  frs := by
    intro f hf
    simp only [PSt.put, List.mem_cons] at hf
    rcases hf with rfl | hf
    · obtain ⟨h1, h2, h3⟩ := h.frs st.top (by simp)
      exact ⟨h1, (covs_snoc _ _).2 ⟨h2, hx⟩, h3⟩
    · exact h.frs f (by simp [hf])
  refs := h.refs
  single := by
    intro hs pre y hp
    simp only [PSt.put] at hs hp
    have := (List.append_inj' hp rfl).2
    simp at this
    rw [← this]
    exact ht hs

theorem cov_push {st st' : PSt} (h : st.Cov) {k : UInt8} {num : Nat} (hk : k ≠ 61 ∧ k ≠ 33) (e3 : st'.low = st.low ++ [st.top]) (e4 : st'.top = ⟨k, num, [], [], false⟩) (e7 : ∀ b ∈ st'.refs, b = false) : st'.Cov where
  frs := by
    intro f hf
    rw [e3, e4] at hf
    simp only [List.mem_cons, List.mem_append, List.not_mem_nil, or_false] at hf
    rcases hf with rfl | hf | rfl
    · exact ⟨trivial, trivial, hk⟩
    · exact h.frs f (by simp [hf])
    · exact h.frs _ (by simp)
  refs := e7
  single := by rw [e4]; intro h; cases h

theorem cov_pop {st st' : PSt} (h : st.Cov) {l : List Fr} {f : Fr} (hl : st.low = l ++ [f]) (e3 : st'.low = l) (e4 : st'.top = f) (e7 : st'.refs = st.refs) {x : Nd} (hx : x.covX) (ht : x.loose = false) : (st'.put x true 1).Cov where
  frs := by
    intro y hy
    simp only [PSt.put, List.mem_cons] at hy
    rw [e3, e4] at hy
    rcases hy with rfl | hy
    · obtain ⟨h1, h2, h3⟩ := h.frs f (by simp [hl])
      exact ⟨h1, (covs_snoc _ _).2 ⟨h2, hx⟩, h3⟩
    · exact h.frs y (by simp [hl, hy])
  refs := by show ∀ b ∈ st'.refs, b = false; rw [e7]; exact h.refs
  single := by
    intro _ pre y hp
    simp only [PSt.put] at hp
    have := (List.append_inj' hp rfl).2
    simp at this
    rw [← this]
    exact ht

theorem brk_wf {s : ByteArray} {k : Nat} {f : Bool} {all : BSet} {r : BS} (h : Brk s k f all r) : all.WF → ∀ k' a', r = .fin k' a' → a'.WF := by
  induction h with
  | fin h =>
    intro hw k' a' e
    cases e
    unfold brkStep at h
    split at h
    · cases h
    split at h
    · cases h; exact hw
    split at h
    · cases h
    · split at h
      · cases h
      split at h
      · unfold brkRange at h
        split at h
        · cases h
        split at h
        · cases h
        · split at h
          · cases h
          split at h <;> cases h
      · cases h
  | bad h => intro hw k' a' e; cases e
  | on h t ih =>
    intro hw k' a' e
    refine ih ?_ k' a' e
    unfold brkStep at h
    split at h
    · cases h
    rename_i hk
    split at h
    · cases h
    split at h
    · cases h
    · rename_i c cs single n hm
      obtain ⟨h1, h2, _⟩ := memAt_item (by omega) hm
      split at h
      · cases h
      split at h
      · rename_i hd
        have hdl := dashAt_lt hd
        unfold brkRange at h
        split at h
        · cases h
        split at h
        · cases h
        · rename_i d ds too m hm2
          obtain ⟨g1, g2, _⟩ := memAt_item hdl hm2
          split at h
          · cases h
          split at h
          · cases h
          · cases h; exact hw.range h1 g1
      · cases h
        refine hw.union ?_
        split
        · exact BSet.zero_wf.range h1 h1
        · exact h2

theorem cov_step {st st' : PSt} (hb : Bare st.s) (hg : st.Good) (h : st.Cov) (hp : st.pos < st.s.size) (hs : st.stepP = .ok st') : st'.Cov := by
  have hby := byte_lt st.s st.pos
  unfold PSt.stepP at hs
  rw [if_neg (hb.nob _ hp)] at hs
  split at hs
  · cases hr : brkOf st.s st.pos with
    | fin k a =>
      rw [hr] at hs
      simp only [PSt.brk, PR.ok.injEq] at hs
      subst hs
      have hw := brk_wf (brkOf_brk hp) BSet.zero_wf k a hr
      refine cov_put h ?_ (fun _ => by split <;> rfl)
      split
      · exact ⟨BSet.zero_wf, hw.not⟩
      · exact ⟨hw, BSet.zero_wf⟩
    | bad k => rw [hr] at hs; cases hs
    | on k a => rw [hr] at hs; cases hs
  split at hs
  · rename_i h40
    split at hs
    · split at hs
      · cases hs
        refine cov_push (st' := st.enter) h (k := 40) (num := st.groups + 1) (by decide) rfl rfl ?_
        intro b hbm
        simp only [PSt.enter, List.mem_append, List.mem_singleton] at hbm
        rcases hbm with hbm | hbm
        · exact h.refs b hbm
        · exact hbm
      · cases hs
    · rename_i hpre
      split at hs
      · rename_i hl
        cases hs
        obtain ⟨h2, hk⟩ := hl
        have h63 : byte st.s (st.pos + 1) = 63 := by
          have : pre2 st.s st.pos = true := by cases e : pre2 st.s st.pos with | true => rfl | false => exact absurd e hpre
          simp [pre2] at this
          exact this.2
        have hn := hb.nol st.pos h2 h40 h63
        have e58 : byte st.s (st.pos + 2) = 58 := by omega
        refine cov_push (st' := st.enterK (byte st.s (st.pos + 2)).toUInt8) h (k := (byte st.s (st.pos + 2)).toUInt8) (num := 0) ?_ rfl rfl h.refs
        rw [e58]; decide
      · cases hs
  split at hs
  · split at hs
    · cases hs
    · rename_i f hf
      have hl := last_snoc hf
      have hw := whole_cov hg h (f := st.top) (by simp)
      have hne : st.low ≠ [] := by intro e; rw [e] at hf; cases hf
      have hkd := hg.kinds hne
      have hnum := hg.frs st.top (by simp)
      have hpo := hg.pos
      have hsz := hg.size
      split at hs
      · cases hs
        exact cov_pop (st' := st.pop st.low.dropLast f) h hl rfl rfl rfl (by simp only [Nd.covX]; exact ⟨by omega, hw⟩) rfl
      split at hs
      · cases hs
        exact cov_pop (st' := st.pop st.low.dropLast f) h hl rfl rfl rfl (by simp only [Nd.covX]; exact ⟨by omega, hw⟩) rfl
      · rename_i k1 k2
        obtain ⟨_, _, n1, n2⟩ := h.frs st.top (by simp)
        rcases hkd with e | e | e | e
        · exact absurd e k1
        · exact absurd e k2
        · exact absurd e n1
        · exact absurd e n2
  split at hs
  · cases hs
    refine ⟨?_, h.refs, by intro h; cases h⟩
    intro f hf
    simp only [PSt.bar, List.mem_cons] at hf
    rcases hf with rfl | hf
    · obtain ⟨h1, h2, h3⟩ := h.frs st.top (by simp)
      have hgf := hg.frs st.top (by simp)
      have hpo := hg.pos
      have hsz := hg.size
      refine ⟨(covs_snoc _ _).2 ⟨h1, ?_⟩, trivial, h3⟩
      simp only [Nd.covX]
      exact ⟨by omega, h2⟩
    · exact h.frs f (by simp [hf])
  split at hs
  · split at hs
    · rename_i y hy
      split at hs
      · rename_i hk
        cases hs
        obtain ⟨r1, r2, r3, r4, r5⟩ := repAt_ok hp hk.1
        have hpc := last_snoc hy
        refine ⟨?_, h.refs, by intro h; cases h⟩
        intro f hf
        simp only [PSt.rep, List.mem_cons] at hf
        rcases hf with rfl | hf
        · obtain ⟨h1, h2, h3⟩ := h.frs st.top (by simp)
          rw [hpc, covs_snoc] at h2
          refine ⟨h1, (covs_snoc _ _).2 ⟨h2.1, ?_⟩, h3⟩
          simp only [Nd.covX]
          exact ⟨by omega, by omega, h.single hk.2 _ _ hpc, h2.2⟩
        · exact h.frs f (by simp [hf])
      · cases hs
    · cases hs
  split at hs
  · cases hs; exact cov_put h trivial (fun _ => rfl)
  split at hs
  · cases hs; exact cov_put h ⟨BSet.zero_wf, BSet.zero_wf.not⟩ (fun _ => rfl)
  · cases hs; exact cov_put h ⟨BSet.zero_wf.range hby hby, BSet.zero_wf⟩ (fun _ => rfl)

theorem cov_start (s : ByteArray) : (PSt.start s).Cov where
  frs := by
    intro f hf
    simp [PSt.start] at hf
    subst hf
    exact ⟨trivial, trivial, by decide, by decide⟩
  refs := by intro b hb; simp [PSt.start] at hb; exact hb
  single := by intro h; cases h

theorem run_good : ∀ (n : Nat) (st : PSt) (d : Nat) (fin : PSt) (deep : Nat), Bare st.s → st.Good → st.Cov → runP n st d = .fin fin deep → fin.Good ∧ fin.Cov ∧ fin.s = st.s
  | 0, st, d, fin, deep, hb, hg, hc, h => by simp [runP] at h
  | n + 1, st, d, fin, deep, hb, hg, hc, h => by
    unfold runP at h
    split at h
    · rename_i hp
      cases hs : st.stepP with
      | ok st' =>
        rw [hs] at h
        have hg' := good_step hg hp hs
        have := run_good n st' _ fin deep (by rw [hg'.2.2]; exact hb) hg'.1 (cov_step hb hg hc hp hs) h
        exact ⟨this.1, this.2.1, this.2.2.trans hg'.2.2⟩
      | bad k => rw [hs] at h; cases h
    · cases h; exact ⟨hg, hc, rfl⟩

theorem read_cov {s : ByteArray} (hs : s.size ≤ 50000) (hb : Bare s) {fin : PSt} {deep : Nat} (h : readOf s = .ok fin deep) :
    fin.Good ∧ fin.Cov ∧ fin.s = s ∧ fin.low = [] ∧ fin.groups ≤ 20 ∧ deep ≤ 100 ∧ fin.top.whole.size ≤ 5000 ∧ fin.top.whole.covX := by
  unfold readOf readFin at h
  split at h
  · cases h
  · rename_i st d hr
    split at h
    · cases h
    split at h
    · cases h
    · rename_i h1 h2
      cases h
      obtain ⟨g1, g2, g3⟩ := run_good _ _ _ _ _ (by exact hb) (good_start s hs) (cov_start s) hr
      have hl : fin.low = [] := Classical.not_not.1 h1
      exact ⟨g1, g2, g3, hl, by omega, by omega, by omega, whole_cov g1 g2 (by simp)⟩

end Go.Proofs.Ytfgghbideoehjaa

namespace Go.Proofs.Ytfgghbideoehjaa
open Go.ChangeShapes Go.WideShapes Go.ChangeAt Go.RowKit
set_option linter.unusedVariables false
set_option linter.unusedSimpArgs false
set_option maxRecDepth 100000

theorem cap_full (l : List Nat) : l.foldl (fun n x => min (n + x) 10000) 10000 = 10000 := by
  induction l with
  | nil => rfl
  | cons a l ih => simp only [List.foldl_cons]; rw [show min (10000 + a) 10000 = 10000 by omega]; exact ih
theorem cap_sum : ∀ (l : List Nat) (n : Nat), l.foldl (fun n x => min (n + x) 10000) n < 10000 → l.foldl (fun n x => min (n + x) 10000) n = n + l.sum
  | [], n, h => by simp
  | a :: l, n, h => by
    simp only [List.foldl_cons, List.sum_cons] at h ⊢
    by_cases hc : n + a < 10000
    · rw [show min (n + a) 10000 = n + a by omega] at h ⊢
      rw [cap_sum l _ h]; omega
    · rw [show min (n + a) 10000 = 10000 by omega, cap_full] at h
      omega
theorem capSum_eq {l : List Nat} (h : capSum l < 10000) : capSum l = l.sum := by
  have := cap_sum l 0 h
  unfold capSum; omega

theorem mem_le_sum {x : Nat} : ∀ {l : List Nat}, x ∈ l → x ≤ l.sum
  | a :: l, h => by
    simp only [List.sum_cons]
    rcases List.mem_cons.1 h with rfl | h
    · omega
    · have := mem_le_sum h; omega

theorem iter_len {f : PM → PM} {c : Nat} (h : ∀ p, (f p).1.length ≤ p.1.length + c) : ∀ (n : Nat) (p : PM), (iter f n p).1.length ≤ p.1.length + n * c
  | 0, p => by simp [iter]
  | n + 1, p => by
    have h1 := iter_len h n p
    have h2 := h (iter f n p)
    simp only [iter, Nat.add_mul, Nat.one_mul]
    omega
theorem once_len {f : PM → PM} {c : Nat} (h : ∀ p, (f p).1.length ≤ p.1.length + c) (p : PM) : (onceP f p).1.length ≤ p.1.length + (c + 3) := by
  have := h (p.1 ++ [.mk1 3 0] ++ [.mk1 6 p.2], p.2 + 1)
  simp only [onceP, List.length_append, List.length_cons, List.length_nil] at this ⊢
  omega
theorem opts_len {f : PM → PM} {c : Nat} (h : ∀ p, (f p).1.length ≤ p.1.length + c) : ∀ (n : Nat) (q : List Nat × PM), (iter (optP f) n q).2.1.length ≤ q.2.1.length + n * (c + 3)
  | 0, q => by simp [iter]
  | n + 1, q => by
    have h1 := opts_len h n q
    have h2 := once_len h (iter (optP f) n q).2
    simp only [iter, optP, Nat.add_mul, Nat.one_mul]
    omega

mutual
theorem cmp_len (fl ln : Bool) : ∀ (t : Nd) (p : PM), t.covX → t.size < 10000 → (cmp fl ln t p).1.length + (if t.loose = true then 0 else 4) ≤ p.1.length + 8 * t.size
  | .one s n, p, hc, hs => by simp [cmp, Nd.size, Nd.loose]
  | .place _, p, hc, hs => by simp [cmp, Nd.size, Nd.loose]
  | .back _, p, hc, hs => by simp [cmp, Nd.size, Nd.loose]
  | .look _ _, p, hc, hs => by simp [Nd.covX] at hc
  | .pieces l, p, hc, hs => by
    simp only [Nd.covX] at hc
    simp only [Nd.size] at hs ⊢
    simp only [cmp, Nd.loose]
    have hb := cmpL_len fl ln l p hc.2 (fun x hx => by
      have := mem_le_sum hx
      rw [capSum_eq hs] at hs
      omega)
    rw [capSum_eq hs]
    simp
    omega
  | .branches l, p, hc, hs => by
    simp only [Nd.covX] at hc
    simp only [Nd.size] at hs ⊢
    simp only [cmp, Nd.loose]
    have hcap : capSum (Nd.sizes l) < 10000 := by omega
    have hb := cmpB_len fl ln l [] p hc.2.2 (fun x hx => by
      have := mem_le_sum hx
      rw [capSum_eq hcap] at hcap
      omega)
    rw [capSum_eq hcap] at hs ⊢
    simp
    omega
  | .times i lo hi lz, p, hc, hs => by
    simp only [Nd.covX] at hc
    obtain ⟨h1, h2, h3, h4⟩ := hc
    simp only [Nd.size] at hs ⊢
    simp only [cmp, Nd.loose, if_true, Nat.add_zero]
    have hms : i.size * mostOf lo hi < 10000 := by omega
    rw [show max 1 (min (i.size * mostOf lo hi) 10000) = max 1 (i.size * mostOf lo hi) by omega]
    by_cases hm0 : mostOf lo hi = 0
    · have hz : lo = 0 ∧ hi = 0 := by
        unfold mostOf at hm0
        split at hm0 <;> omega
      obtain ⟨rfl, rfl⟩ := hz
      simp [timesP, iter]
    · have hi1 : i.size < 10000 := by
        have : i.size * 1 ≤ i.size * mostOf lo hi := Nat.mul_le_mul_left _ (by omega)
        omega
      have hf : ∀ q : PM, (cmp fl ln i q).1.length ≤ q.1.length + (8 * i.size - 4) := fun q => by
        have := cmp_len fl ln i q h4 hi1
        rw [h3] at this
        simp at this
        omega
      have h44 : 4 ≤ 8 * i.size := by
        have := cmp_len fl ln i ([], 0) h4 hi1
        rw [h3] at this
        simp at this
        omega
      have hit := iter_len hf lo.toNat p
      have h8 : 8 * (i.size * mostOf lo hi) = (8 * i.size) * mostOf lo hi := by rw [Nat.mul_assoc]
      generalize hD : 8 * i.size = D at *
      generalize i.size * mostOf lo hi = X at *
      unfold timesP
      split
      · rename_i hhi
        have ho := once_len hf (iter (cmp fl ln i) lo.toNat p)
        simp only [choose_len, List.length_append, List.length_cons, List.length_nil]
        have hmo : mostOf lo hi = lo.toNat + 1 := by unfold mostOf; rw [if_pos hhi]
        rw [hmo, Nat.mul_add, Nat.mul_one] at h8
        have hsub : lo.toNat * (D - 4) + 4 * lo.toNat = D * lo.toNat := by
          rw [Nat.mul_comm 4, ← Nat.mul_add, Nat.mul_comm]
          congr 1
          omega
        omega
      · rename_i hhi
        have ho := opts_len hf (hi - lo).toNat ([], iter (cmp fl ln i) lo.toNat p)
        simp only [chooses_len] at ho ⊢
        have hmo : mostOf lo hi = hi.toNat := by unfold mostOf; rw [if_neg hhi]
        have e1 : hi.toNat = lo.toNat + (hi - lo).toNat := by omega
        rw [hmo, e1, Nat.mul_add] at h8
        have hsub : lo.toNat * (D - 4) + 4 * lo.toNat = D * lo.toNat := by
          rw [Nat.mul_comm 4, ← Nat.mul_add, Nat.mul_comm]
          congr 1
          omega
        have hsub2 : (hi - lo).toNat * (D - 4 + 3) + (hi - lo).toNat = D * (hi - lo).toNat := by
          rw [← Nat.mul_succ, Nat.mul_comm]
          congr 1
          omega
        omega
  | .group n i, p, hc, hs => by
    simp only [Nd.covX] at hc
    simp only [Nd.size] at hs ⊢
    simp only [cmp, Nd.loose]
    have hi : i.size < 10000 := by omega
    split
    · have := cmp_len fl ln i (p.1 ++ [.mk1 5 (2 * n)], p.2) hc.2 hi
      simp at this ⊢
      omega
    · have := cmp_len fl ln i p hc.2 hi
      simp at this ⊢
      omega
theorem cmpL_len (fl ln : Bool) : ∀ (l : List Nd) (p : PM), Nd.covsX l → (∀ x ∈ Nd.sizes l, x < 10000) → (cmpL fl ln l p).1.length ≤ p.1.length + 8 * (Nd.sizes l).sum
  | [], p, hc, hs => by simp [cmpL, Nd.sizes]
  | t :: l, p, hc, hs => by
    simp only [Nd.covsX] at hc
    simp only [Nd.sizes, List.mem_cons, forall_eq_or_imp] at hs
    simp only [cmpL, Nd.sizes, List.sum_cons]
    have h1 := cmp_len fl ln t p hc.1 hs.1
    have h2 := cmpL_len fl ln l (cmp fl ln t p) hc.2 hs.2
    omega
theorem cmpB_len (fl ln : Bool) : ∀ (l : List Nd) (ends : List Nat) (p : PM), Nd.covsX l → (∀ x ∈ Nd.sizes l, x < 10000) → (cmpB fl ln l ends p).1.length ≤ p.1.length + 8 * (Nd.sizes l).sum + 2 * l.length
  | [], ends, p, hc, hs => by simp [cmpB, patch_len]
  | [t], ends, p, hc, hs => by
    simp only [Nd.covsX] at hc
    simp only [Nd.sizes, List.mem_cons, forall_eq_or_imp] at hs
    simp only [cmpB, patch_len, Nd.sizes, List.sum_cons, List.sum_nil]
    have h1 := cmp_len fl ln t p hc.1 hs.1
    omega
  | t :: u :: l, ends, p, hc, hs => by
    simp only [Nd.covsX] at hc
    rw [Nd.sizes] at hs ⊢
    simp only [List.mem_cons, forall_eq_or_imp] at hs
    simp only [cmpB, List.sum_cons]
    have h1 := cmp_len fl ln t (setA (p.1 ++ [.mk1 3 0]) p.1.length (p.1.length + 1), p.2) hc.1 hs.1
    generalize cmp fl ln t (setA (p.1 ++ [.mk1 3 0]) p.1.length (p.1.length + 1), p.2) = r at *
    have h2 := cmpB_len fl ln (u :: l) (ends ++ [r.1.length]) (setB (r.1 ++ [.mk1 4 0]) p.1.length (r.1.length + 1), r.2) hc.2 hs.2
    simp at h1 h2 ⊢
    omega
end

/-- No more marks than instructions. -/
def Spare (f : PM → PM) : Prop := ∀ p, (f p).2 + p.1.length ≤ p.2 + (f p).1.length

theorem iter_marks {f : PM → PM} (h : Spare f) : ∀ n, Spare (iter f n)
  | 0, p => Nat.le_refl _
  | n + 1, p => by
    have h1 := iter_marks h n p
    have h2 := h (iter f n p)
    simp only [iter]
    omega
theorem once_marks {f : PM → PM} (h : Spare f) : Spare (onceP f) := by
  intro p
  have := h (p.1 ++ [.mk1 3 0] ++ [.mk1 6 p.2], p.2 + 1)
  simp only [onceP, List.length_append, List.length_cons, List.length_nil] at this ⊢
  omega
theorem opt_marks {f : PM → PM} (h : Spare f) (n : Nat) (q : List Nat × PM) : (iter (optP f) n q).2.2 + q.2.1.length ≤ q.2.2 + (iter (optP f) n q).2.1.length := by
  induction n with
  | zero => exact Nat.le_refl _
  | succ n ih =>
    have := once_marks h (iter (optP f) n q).2
    simp only [iter, optP]
    omega
theorem times_marks {f : PM → PM} (h : Spare f) (lo hi : Int) (lz : Bool) : Spare (timesP f lo hi lz) := by
  intro p
  have h1 := iter_marks h lo.toNat p
  unfold timesP
  split
  · have h2 := once_marks h (iter f lo.toNat p)
    simp only [choose_len, List.length_append, List.length_cons, List.length_nil]
    omega
  · have h2 := opt_marks h (hi - lo).toNat ([], iter f lo.toNat p)
    simp only [chooses_len] at h2 ⊢
    omega

mutual
theorem cmp_marks (fl ln : Bool) : ∀ (t : Nd) (p : PM), (cmp fl ln t p).2 + p.1.length ≤ p.2 + (cmp fl ln t p).1.length
  | .one s n, p => by simp [cmp]; try omega
  | .place _, p => by simp [cmp]; try omega
  | .back _, p => by simp [cmp]; try omega
  | .look i ng, p => by
    simp only [cmp]
    have := cmp_marks fl ln i (if ng = true then setB (setA (p.1 ++ [.mk1 2 0] ++ [.mk1 4 0]) p.1.length (p.1.length + 2)) p.1.length 1 else setA (p.1 ++ [.mk1 2 0] ++ [.mk1 4 0]) p.1.length (p.1.length + 2), p.2)
    have hl : (if ng = true then setB (setA (p.1 ++ [.mk1 2 0] ++ [.mk1 4 0]) p.1.length (p.1.length + 2)) p.1.length 1 else setA (p.1 ++ [.mk1 2 0] ++ [.mk1 4 0]) p.1.length (p.1.length + 2)).length = p.1.length + 2 := by split <;> simp
    simp only [hl] at this
    simp only [setA_len, List.length_append, List.length_cons, List.length_nil]
    omega
  | .pieces l, p => by simp only [cmp]; exact cmpL_marks fl ln l p
  | .branches l, p => by simp only [cmp]; exact cmpB_marks fl ln l [] p
  | .times i lo hi lz, p => by
    simp only [cmp]
    exact times_marks (fun q => cmp_marks fl ln i q) lo hi lz p
  | .group n i, p => by
    simp only [cmp]
    split
    · have := cmp_marks fl ln i (p.1 ++ [.mk1 5 (2 * n)], p.2)
      simp at this ⊢
      omega
    · exact cmp_marks fl ln i p
theorem cmpL_marks (fl ln : Bool) : ∀ (l : List Nd) (p : PM), (cmpL fl ln l p).2 + p.1.length ≤ p.2 + (cmpL fl ln l p).1.length
  | [], p => by simp [cmpL]
  | t :: l, p => by
    simp only [cmpL]
    have h1 := cmp_marks fl ln t p
    have h2 := cmpL_marks fl ln l (cmp fl ln t p)
    omega
theorem cmpB_marks (fl ln : Bool) : ∀ (l : List Nd) (ends : List Nat) (p : PM), (cmpB fl ln l ends p).2 + p.1.length ≤ p.2 + (cmpB fl ln l ends p).1.length
  | [], ends, p => by simp [cmpB, patch_len]
  | [t], ends, p => by
    simp only [cmpB, patch_len]
    exact cmp_marks fl ln t p
  | t :: u :: l, ends, p => by
    simp only [cmpB]
    have h1 := cmp_marks fl ln t (setA (p.1 ++ [.mk1 3 0]) p.1.length (p.1.length + 1), p.2)
    generalize cmp fl ln t (setA (p.1 ++ [.mk1 3 0]) p.1.length (p.1.length + 1), p.2) = r at *
    have h2 := cmpB_marks fl ln (u :: l) (ends ++ [r.1.length]) (setB (r.1 ++ [.mk1 4 0]) p.1.length (r.1.length + 1), r.2)
    simp at h1 h2
    omega
end

def WFs (p : PM) : Prop := ∀ i ∈ p.1, i.set.WF
theorem wf_snoc {p : List Ins} {m n : Nat} {i : Ins} (h : WFs (p, m)) (hi : i.set.WF) : WFs (p ++ [i], n) := by
  intro x hx
  rcases List.mem_append.1 hx with h1 | h1
  · exact h x h1
  · simp at h1; subst h1; exact hi
theorem wf_any {p : List Ins} {m n : Nat} (h : WFs (p, m)) : WFs (p, n) := h
theorem wf_setA {p : List Ins} {m : Nat} (h : WFs (p, m)) (k v n : Nat) : WFs (setA p k v, n) := by
  intro x hx
  simp only [setA] at hx
  obtain ⟨j, hj⟩ := List.mem_iff_getElem?.1 hx
  rw [List.getElem?_modify] at hj
  cases e : p[j]? with
  | none => rw [e] at hj; simp at hj
  | some y =>
    rw [e] at hj
    simp at hj
    have hy := h y (List.mem_of_getElem? e)
    split at hj <;> (subst hj; exact hy)
theorem wf_setB {p : List Ins} {m : Nat} (h : WFs (p, m)) (k v n : Nat) : WFs (setB p k v, n) := by
  intro x hx
  simp only [setB] at hx
  obtain ⟨j, hj⟩ := List.mem_iff_getElem?.1 hx
  rw [List.getElem?_modify] at hj
  cases e : p[j]? with
  | none => rw [e] at hj; simp at hj
  | some y =>
    rw [e] at hj
    simp at hj
    have hy := h y (List.mem_of_getElem? e)
    split at hj <;> (subst hj; exact hy)
theorem wf_choose {p : List Ins} {m : Nat} (h : WFs (p, m)) (lz : Bool) (out k n : Nat) : WFs (chooseP lz out k p, n) := by
  unfold chooseP
  split
  · exact wf_setB (m := 0) (wf_setA h k out 0) k (k + 1) n
  · exact wf_setB (m := 0) (wf_setA h k (k + 1) 0) k out n
theorem wf_patch (ends : List Nat) : ∀ {p : List Ins} {m : Nat}, WFs (p, m) → ∀ n, WFs (patch ends p, n) := by
  induction ends with
  | nil => intro p m h n; exact h
  | cons e l ih => intro p m h n; simp only [patch, List.foldl_cons] at ih ⊢; exact ih (wf_setA h e p.length m) n
theorem iter_wf {f : PM → PM} (h : ∀ p, WFs p → WFs (f p)) : ∀ (n : Nat) (p : PM), WFs p → WFs (iter f n p)
  | 0, p, hp => hp
  | n + 1, p, hp => h _ (iter_wf h n p hp)
theorem once_wf {f : PM → PM} (h : ∀ p, WFs p → WFs (f p)) (p : PM) (hp : WFs p) : WFs (onceP f p) := by
  have := h (p.1 ++ [.mk1 3 0] ++ [.mk1 6 p.2], p.2 + 1) (wf_snoc (m := 0) (wf_snoc (m := 0) hp BSet.zero_wf) BSet.zero_wf)
  exact wf_snoc (m := 0) this BSet.zero_wf
theorem opt_wf {f : PM → PM} (h : ∀ p, WFs p → WFs (f p)) (n : Nat) (q : List Nat × PM) (hq : WFs q.2) : WFs (iter (optP f) n q).2 := by
  induction n with
  | zero => exact hq
  | succ n ih => exact once_wf h _ ih
theorem chooses_wf (lz : Bool) (out : Nat) (ks : List Nat) : ∀ {p : List Ins} {m : Nat}, WFs (p, m) → ∀ n, WFs (ks.foldl (fun pr k => chooseP lz out k pr) p, n) := by
  induction ks with
  | nil => intro p m h n; exact h
  | cons k l ih => intro p m h n; simp only [List.foldl_cons]; exact ih (wf_choose h lz out k m) n
theorem times_wf {f : PM → PM} (h : ∀ p, WFs p → WFs (f p)) (lo hi : Int) (lz : Bool) (p : PM) (hp : WFs p) : WFs (timesP f lo hi lz p) := by
  have h1 := iter_wf h lo.toNat p hp
  unfold timesP
  split
  · exact wf_choose (m := 0) (wf_snoc (m := 0) (once_wf h _ h1) BSet.zero_wf) lz _ _ _
  · exact chooses_wf lz _ _ (m := 0) (opt_wf h (hi - lo).toNat ([], iter f lo.toNat p) h1) _

mutual
theorem cmp_wf (fl ln : Bool) : ∀ (t : Nd) (p : PM), t.covX → WFs p → WFs (cmp fl ln t p)
  | .one s n, p, hc, hp => by
    simp only [Nd.covX] at hc
    simp only [cmp]
    exact wf_snoc (m := 0) hp (bytesOf_wf hc.1 hc.2 fl ln)
  | .place _, p, hc, hp => by simp only [cmp]; exact wf_snoc (m := 0) hp BSet.zero_wf
  | .back _, p, hc, hp => by simp only [cmp]; exact wf_snoc (m := 0) hp BSet.zero_wf
  | .look i ng, p, hc, hp => by simp [Nd.covX] at hc
  | .pieces l, p, hc, hp => by simp only [Nd.covX] at hc; simp only [cmp]; exact cmpL_wf fl ln l p hc.2 hp
  | .branches l, p, hc, hp => by simp only [Nd.covX] at hc; simp only [cmp]; exact cmpB_wf fl ln l [] p hc.2.2 hp
  | .times i lo hi lz, p, hc, hp => by
    simp only [Nd.covX] at hc
    simp only [cmp]
    exact times_wf (fun q hq => cmp_wf fl ln i q hc.2.2.2 hq) lo hi lz p hp
  | .group n i, p, hc, hp => by
    simp only [Nd.covX] at hc
    simp only [cmp]
    split
    · exact wf_snoc (m := 0) (cmp_wf fl ln i _ hc.2 (wf_snoc (m := 0) hp BSet.zero_wf)) BSet.zero_wf
    · exact cmp_wf fl ln i p hc.2 hp
theorem cmpL_wf (fl ln : Bool) : ∀ (l : List Nd) (p : PM), Nd.covsX l → WFs p → WFs (cmpL fl ln l p)
  | [], p, hc, hp => by simp only [cmpL]; exact hp
  | t :: l, p, hc, hp => by
    simp only [Nd.covsX] at hc
    simp only [cmpL]
    exact cmpL_wf fl ln l _ hc.2 (cmp_wf fl ln t p hc.1 hp)
theorem cmpB_wf (fl ln : Bool) : ∀ (l : List Nd) (ends : List Nat) (p : PM), Nd.covsX l → WFs p → WFs (cmpB fl ln l ends p)
  | [], ends, p, hc, hp => by simp only [cmpB]; exact wf_patch ends (m := 0) hp _
  | [t], ends, p, hc, hp => by
    simp only [Nd.covsX] at hc
    simp only [cmpB]
    exact wf_patch ends (m := 0) (cmp_wf fl ln t p hc.1 hp) _
  | t :: u :: l, ends, p, hc, hp => by
    simp only [Nd.covsX] at hc
    simp only [cmpB]
    refine cmpB_wf fl ln (u :: l) _ _ hc.2 (wf_setB (m := 0) (wf_snoc (m := 0) (cmp_wf fl ln t _ hc.1 ?_) BSet.zero_wf) _ _ _)
    exact wf_setA (m := 0) (wf_snoc (m := 0) hp BSet.zero_wf) _ _ _
end

end Go.Proofs.Ytfgghbideoehjaa

namespace Go.Proofs.Ytfgghbideoehjaa
open Go.ChangeShapes Go.WideShapes Go.ChangeAt Go.RowKit
set_option linter.unusedVariables false
set_option linter.unusedSimpArgs false
set_option maxRecDepth 100000

def shiftI (k : Nat) (i : Ins) : Ins := if i.op = 3 then { i with a := i.a + k, b := i.b + k } else if i.op = 4 then { i with a := i.a + k } else i
def shiftL (k : Nat) (l : List Ins) : List Ins := l.map (shiftI k)
@[simp] theorem shiftL_len (k : Nat) (l : List Ins) : (shiftL k l).length = l.length := by simp [shiftL]
@[simp] theorem shiftI_op (k : Nat) (i : Ins) : (shiftI k i).op = i.op := by unfold shiftI; split <;> (try split) <;> rfl
theorem shiftI_add (j k : Nat) (i : Ins) : shiftI k (shiftI j i) = shiftI (j + k) i := by
  obtain ⟨op, a, b, s, kd⟩ := i
  unfold shiftI
  by_cases h3 : op = 3
  · simp [h3]; omega
  · by_cases h4 : op = 4
    · simp [h4]; omega
    · simp [h3, h4]
theorem shiftL_add (j k : Nat) (l : List Ins) : shiftL k (shiftL j l) = shiftL (j + k) l := by
  simp only [shiftL, List.map_map]
  congr 1
  funext i
  exact shiftI_add j k i
theorem shiftL_app (k : Nat) (l m : List Ins) : shiftL k (l ++ m) = shiftL k l ++ shiftL k m := by simp [shiftL]
theorem shiftL_zero (l : List Ins) : shiftL 0 l = l := by
  have : shiftI 0 = id := by funext i; obtain ⟨op, a, b, s, kd⟩ := i; unfold shiftI; by_cases h3 : op = 3 <;> by_cases h4 : op = 4 <;> simp [h3, h4]
  simp [shiftL, this]

/-- An instruction of a segment of n instructions: G places for groups, the marks from m on and below m'. -/
def InsOk (G m m' n : Nat) (i : Ins) : Prop :=
  i.op = 0 ∨ (i.op = 3 ∧ i.a ≤ n ∧ i.b ≤ n) ∨ (i.op = 4 ∧ i.a ≤ n) ∨ (i.op = 5 ∧ 2 ≤ i.a ∧ i.a < G) ∨ ((i.op = 6 ∨ i.op = 7) ∧ m ≤ i.a ∧ i.a < m')

theorem InsOk.mono {G m m' n m0 m1 n1 : Nat} {i : Ins} (h : InsOk G m m' n i) (h0 : m0 ≤ m) (h1 : m' ≤ m1) (h2 : n ≤ n1) : InsOk G m0 m1 n1 i := by
  unfold InsOk at *; omega
theorem InsOk.shift {G m m' n k : Nat} {i : Ins} (h : InsOk G m m' n i) : InsOk G m m' (n + k) (shiftI k i) := by
  obtain ⟨op, a, b, s, kd⟩ := i
  unfold InsOk at *
  unfold shiftI
  simp only at h ⊢
  by_cases h3 : op = 3
  · subst h3; simp at h ⊢; omega
  · by_cases h4 : op = 4
    · subst h4; simp at h ⊢; omega
    · rw [if_neg h3, if_neg h4]; simp only; omega

def splits (l : List Ins) : Nat := l.countP fun i => decide (i.op = 3)
@[simp] theorem splits_app (l m : List Ins) : splits (l ++ m) = splits l + splits m := by simp [splits, List.countP_append]
@[simp] theorem splits_shift (k : Nat) (l : List Ins) : splits (shiftL k l) = splits l := by
  simp [splits, shiftL, List.countP_map, Function.comp_def]

structure SegOk (G m m' S : Nat) (seg : List Ins) : Prop where
  mm : m ≤ m'
  ok : ∀ i ∈ seg, InsOk G m m' seg.length i
  sp : splits seg ≤ S

/-- A piece of the compiler that adds a segment. -/
def IsSeg (G S : Nat) (f : PM → PM) : Prop := ∀ m, ∃ seg m', SegOk G m m' S seg ∧ ∀ pre, f (pre, m) = (pre ++ shiftL pre.length seg, m')

theorem SegOk.app {G m m1 m2 S1 S2 : Nat} {s1 s2 : List Ins} (h1 : SegOk G m m1 S1 s1) (h2 : SegOk G m1 m2 S2 s2) : SegOk G m m2 (S1 + S2) (s1 ++ shiftL s1.length s2) where
  mm := Nat.le_trans h1.mm h2.mm
  ok := by
    intro i hi
    rw [List.length_append, shiftL_len]
    rcases List.mem_append.1 hi with hi | hi
    · exact (h1.ok i hi).mono (Nat.le_refl _) h2.mm (by omega)
    · obtain ⟨j, hj, rfl⟩ := List.mem_map.1 hi
      exact (h2.ok j hj).shift.mono h1.mm (Nat.le_refl _) (by omega)
  sp := by have := h1.sp; have := h2.sp; simp; omega

theorem SegOk.nil (G m S : Nat) : SegOk G m m S [] := ⟨Nat.le_refl _, (fun i hi => by cases hi), Nat.zero_le _⟩

theorem IsSeg.id {G : Nat} : IsSeg G 0 fun p => p := fun m => ⟨[], m, SegOk.nil G m 0, fun pre => by simp [shiftL]⟩

theorem IsSeg.comp {G S1 S2 : Nat} {f g : PM → PM} (hf : IsSeg G S1 f) (hg : IsSeg G S2 g) : IsSeg G (S1 + S2) fun p => g (f p) := by
  intro m
  obtain ⟨s1, m1, h1, e1⟩ := hf m
  obtain ⟨s2, m2, h2, e2⟩ := hg m1
  refine ⟨_, m2, h1.app h2, fun pre => ?_⟩
  show g (f (pre, m)) = _
  rw [e1, e2, shiftL_app, shiftL_add]
  simp [Nat.add_comm, List.append_assoc]

theorem IsSeg.mono {G S S' : Nat} {f : PM → PM} (h : IsSeg G S f) (hS : S ≤ S') : IsSeg G S' f := fun m => by
  obtain ⟨s, m', h1, e⟩ := h m
  exact ⟨s, m', ⟨h1.mm, h1.ok, Nat.le_trans h1.sp hS⟩, e⟩

theorem IsSeg.emit {G : Nat} {i : Ins} (hi : i.op = 0 ∨ i.op = 5 ∧ 2 ≤ i.a ∧ i.a < G) : IsSeg G 0 fun p => (p.1 ++ [i], p.2) := by
  intro m
  refine ⟨[i], m, ⟨Nat.le_refl _, ?_, ?_⟩, fun pre => ?_⟩
  · intro x hx
    simp at hx
    subst hx
    unfold InsOk
    omega
  · have : i.op ≠ 3 := by omega
    simp [splits, this]
  · have h3 : i.op ≠ 3 := by omega
    have h4 : i.op ≠ 4 := by omega
    simp [shiftL, shiftI, h3, h4]

theorem IsSeg.iter {G S : Nat} {f : PM → PM} (hf : IsSeg G S f) : ∀ n, IsSeg G (n * S) (iter f n)
  | 0 => by rw [Nat.zero_mul]; exact IsSeg.id
  | n + 1 => by rw [Nat.add_mul, Nat.one_mul]; exact (IsSeg.iter hf n).comp hf

theorem modify_mid (f : Ins → Ins) (q : List Ins) (i : Ins) : ∀ p : List Ins, (p ++ i :: q).modify p.length f = p ++ f i :: q
  | [] => by simp
  | a :: p => by simp [List.modify_succ_cons, modify_mid f q i p]
theorem modify_left (f : Ins → Ins) (q : List Ins) : ∀ (p : List Ins) (k : Nat), k < p.length → (p ++ q).modify k f = p.modify k f ++ q
  | [], k, h => by simp at h
  | a :: p, 0, h => by simp
  | a :: p, k + 1, h => by
    simp only [List.length_cons, Nat.add_lt_add_iff_right] at h
    simp [List.modify_succ_cons, modify_left f q p k h]
theorem setA_mid (p q : List Ins) (i : Ins) (v : Nat) : setA (p ++ i :: q) p.length v = p ++ { i with a := v } :: q := by
  exact modify_mid _ q i p
theorem setB_mid (p q : List Ins) (i : Ins) (v : Nat) : setB (p ++ i :: q) p.length v = p ++ { i with b := v } :: q := by
  exact modify_mid _ q i p

/-- A choice whose two ways are told. -/
def splitI (lz : Bool) (x y : Nat) : Ins := if lz = true then ⟨3, y, x, .zero, 0⟩ else ⟨3, x, y, .zero, 0⟩
theorem choose_mid (p q : List Ins) (lz : Bool) (a b out : Nat) : chooseP lz out p.length (p ++ ⟨3, a, b, .zero, 0⟩ :: q) = p ++ splitI lz (p.length + 1) out :: q := by
  unfold chooseP splitI
  split
  · rw [setA_mid, setB_mid]
  · rw [setA_mid, setB_mid]
theorem splitI_shift (lz : Bool) (x y k : Nat) : shiftI k (splitI lz x y) = splitI lz (x + k) (y + k) := by
  unfold splitI shiftI; split <;> simp

/-- The segment of one time more with its choice, and what stands behind. -/
def loopSeg (lz : Bool) (m out : Nat) (seg rest : List Ins) : List Ins := splitI lz 1 out :: .mk1 6 m :: (shiftL 2 seg ++ .mk1 7 m :: rest)
theorem loopSeg_len (lz : Bool) (m out : Nat) (seg rest : List Ins) : (loopSeg lz m out seg rest).length = seg.length + 3 + rest.length := by
  simp [loopSeg]; omega

theorem shift_mark (k m : Nat) : shiftI k (.mk1 6 m) = .mk1 6 m := rfl
theorem shift_past (k m : Nat) : shiftI k (.mk1 7 m) = .mk1 7 m := rfl

theorem once_seg {f : PM → PM} {m m' : Nat} {seg : List Ins} (he : ∀ pre, f (pre, m + 1) = (pre ++ shiftL pre.length seg, m')) (pre : List Ins) :
    onceP f (pre, m) = (pre ++ .mk1 3 0 :: .mk1 6 m :: (shiftL (pre.length + 2) seg ++ [.mk1 7 m]), m') := by
  unfold onceP
  simp only [he]
  simp

theorem loop_ok {G S m m2 n out : Nat} {lz : Bool} {seg rest : List Ins} (h : SegOk G (m + 1) m2 S seg) (hn : n = seg.length + 3 + rest.length) (ho : out ≤ n) (hr : ∀ i ∈ rest, InsOk G m m2 n i) {S' : Nat} (hs : splits rest ≤ S') {S'' : Nat} (hS : S + 1 + S' ≤ S'') : SegOk G m m2 S'' (loopSeg lz m out seg rest) := by
  have hmm := h.mm
  refine ⟨by omega, ?_, ?_⟩
  · rw [loopSeg_len, ← hn]
    intro i hi
    simp only [loopSeg, List.mem_cons, List.mem_append] at hi
    rcases hi with rfl | rfl | hi | rfl | hi
    · unfold InsOk splitI; split <;> simp <;> omega
    · unfold InsOk; simp; omega
    · obtain ⟨j, hj, rfl⟩ := List.mem_map.1 hi
      exact (h.ok j hj).shift.mono (by omega) (Nat.le_refl _) (by omega)
    · unfold InsOk; simp; omega
    · exact hr i hi
  · have := h.sp
    have h3 : (splitI lz 1 out).op = 3 := by unfold splitI; split <;> rfl
    have e : splits (loopSeg lz m out seg rest) = 1 + (splits seg + splits rest) := by
      simp only [loopSeg]
      have := splits_shift 2 seg
      simp only [splits] at this ⊢
      simp [List.countP_cons, h3, List.countP_append, this]
      omega
    rw [e]; omega

/-- x*, x+, x{n,}. -/
theorem star_seg {G S : Nat} {f : PM → PM} (hf : IsSeg G S f) (lo : Nat) (lz : Bool) : IsSeg G (lo * S + (S + 1)) (timesP f (lo : Int) (-1) lz) := by
  have h : IsSeg G (S + 1) fun p => (chooseP lz ((onceP f p).1.length + 1) p.1.length ((onceP f p).1 ++ [.mk1 4 p.1.length]), (onceP f p).2) := by
    intro m
    obtain ⟨seg, m', hs, he⟩ := hf (m + 1)
    refine ⟨loopSeg lz m (seg.length + 4) seg [.mk1 4 0], m', loop_ok (S' := 0) hs rfl (by simp) ?_ (by simp [splits]) (by omega), fun pre => ?_⟩
    · intro i hi
      simp at hi
      subst hi
      unfold InsOk
      simp
    · simp only [once_seg he]
      have e1 : ∀ L : Nat, chooseP lz L pre.length (pre ++ .mk1 3 0 :: .mk1 6 m :: (shiftL (pre.length + 2) seg ++ [.mk1 7 m]) ++ [.mk1 4 pre.length]) = pre ++ splitI lz (pre.length + 1) L :: (.mk1 6 m :: (shiftL (pre.length + 2) seg ++ [.mk1 7 m]) ++ [.mk1 4 pre.length]) := by
        intro L
        rw [List.append_assoc]
        exact choose_mid pre _ lz 0 0 L
      rw [e1]
      simp only [loopSeg, shiftL, List.map_cons, List.map_append, splitI_shift, shift_mark, shift_past, List.map_nil]
      have e2 : ∀ k, List.map (shiftI k) (List.map (shiftI 2) seg) = List.map (shiftI (k + 2)) seg := fun k => by
        have := shiftL_add 2 k seg
        simp only [shiftL] at this
        rw [this, Nat.add_comm]
      rw [e2]
      simp [shiftI, Ins.mk1]
      congr 1 <;> omega
  have hi := (IsSeg.iter hf lo).comp h
  intro m
  obtain ⟨seg, m', h1, h2⟩ := hi m
  refine ⟨seg, m', h1, fun pre => ?_⟩
  rw [← h2]
  unfold timesP
  simp

theorem iter_front {α : Type} (f : α → α) : ∀ (n : Nat) (p : α), iter f (n + 1) p = iter f n (f p)
  | 0, p => rfl
  | n + 1, p => by
    show f (iter f (n + 1) p) = f (iter f n (f p))
    rw [iter_front f n p]

theorem opt_ends {f : PM → PM} : ∀ (n : Nat) (e0 : List Nat) (p : PM), iter (optP f) n (e0, p) = (e0 ++ (iter (optP f) n ([], p)).1, (iter (optP f) n ([], p)).2)
  | 0, e0, p => by simp [iter]
  | n + 1, e0, p => by
    rw [iter_front, iter_front]
    simp only [optP]
    rw [opt_ends n (e0 ++ [p.1.length]), opt_ends n ([] ++ [p.1.length])]
    simp [List.append_assoc]

theorem choose_left (p q : List Ins) (lz : Bool) (out k : Nat) (hk : k < p.length) : chooseP lz out k (p ++ q) = chooseP lz out k p ++ q := by
  unfold chooseP setA setB
  split
  · rw [modify_left _ _ _ _ hk, modify_left _ _ _ _ (by simpa using hk)]
  · rw [modify_left _ _ _ _ hk, modify_left _ _ _ _ (by simpa using hk)]

/-- x?, x{n,m} behind what must be: n times, each of them may be the last. -/
theorem opts_seg {G S : Nat} {f : PM → PM} (hf : IsSeg G S f) (lz : Bool) : ∀ (n m : Nat), ∃ (U : Nat → List Ins) (ks : Nat → List Nat) (seg : List Ins) (m' : Nat), SegOk G m m' (n * (S + 1)) seg ∧ (∀ k, (U k).length = seg.length) ∧
    (∀ pre : List Ins, iter (optP f) n ([], (pre, m)) = (ks pre.length, (pre ++ U pre.length, m'))) ∧
    (∀ pre : List Ins, (ks pre.length).foldl (fun pr k => chooseP lz (pre.length + seg.length) k pr) (pre ++ U pre.length) = pre ++ shiftL pre.length seg)
  | 0, m => ⟨fun _ => [], fun _ => [], [], m, SegOk.nil _ _ _, fun _ => rfl, fun pre => by simp [iter], fun pre => by simp [shiftL]⟩
  | n + 1, m => by
    obtain ⟨s1, m1, h1, e1⟩ := hf (m + 1)
    obtain ⟨U, ks, s2, m2, h2, hU, hit, hch⟩ := opts_seg hf lz n m1
    have hone : ∀ pre : List Ins, onceP f (pre, m) = (pre ++ .mk1 3 0 :: .mk1 6 m :: (shiftL (pre.length + 2) s1 ++ [.mk1 7 m]), m1) := fun pre => once_seg e1 pre
    have hbl : ∀ pre : List Ins, (pre ++ Ins.mk1 3 0 :: Ins.mk1 6 m :: (shiftL (pre.length + 2) s1 ++ [Ins.mk1 7 m])).length = pre.length + (s1.length + 3) := fun pre => by simp
    refine ⟨fun k => .mk1 3 0 :: .mk1 6 m :: (shiftL (k + 2) s1 ++ .mk1 7 m :: U (k + (s1.length + 3))), fun k => k :: ks (k + (s1.length + 3)), loopSeg lz m (s1.length + 3 + s2.length) s1 (shiftL (s1.length + 3) s2), m2, ?_, ?_, ?_, ?_⟩
    · have hmm := h2.mm
      have hle := h2.sp
      refine loop_ok (S := S) (S' := n * (S + 1)) ⟨by have := h1.mm; omega, fun i hi => (h1.ok i hi).mono (Nat.le_refl _) h2.mm (Nat.le_refl _), h1.sp⟩ (by rw [shiftL_len]) (by omega) ?_ (by simpa using hle) (by rw [Nat.add_mul, Nat.one_mul]; omega)
      intro i hi
      obtain ⟨j, hj, rfl⟩ := List.mem_map.1 hi
      exact (h2.ok j hj).shift.mono (by have := h1.mm; omega) (Nat.le_refl _) (by omega)
    · intro k
      rw [loopSeg_len]
      simp [hU]
      omega
    · intro pre
      rw [iter_front]
      simp only [optP, hone]
      rw [opt_ends, hit, hbl]
      simp
    · intro pre
      have hL : pre.length + (loopSeg lz m (s1.length + 3 + s2.length) s1 (shiftL (s1.length + 3) s2)).length = pre.length + (s1.length + 3) + s2.length := by rw [loopSeg_len, shiftL_len]; omega
      rw [hL]
      simp only [List.foldl_cons]
      have e0 : pre ++ (.mk1 3 0 :: .mk1 6 m :: (shiftL (pre.length + 2) s1 ++ .mk1 7 m :: U (pre.length + (s1.length + 3)))) = pre ++ ⟨3, 0, 0, .zero, 0⟩ :: (.mk1 6 m :: (shiftL (pre.length + 2) s1 ++ .mk1 7 m :: U (pre.length + (s1.length + 3)))) := rfl
      rw [e0, choose_mid]
      have hp2 := hch (pre ++ splitI lz (pre.length + 1) (pre.length + (s1.length + 3) + s2.length) :: (.mk1 6 m :: (shiftL (pre.length + 2) s1 ++ [.mk1 7 m])))
      have hlen : (pre ++ splitI lz (pre.length + 1) (pre.length + (s1.length + 3) + s2.length) :: (.mk1 6 m :: (shiftL (pre.length + 2) s1 ++ [.mk1 7 m]))).length = pre.length + (s1.length + 3) := by simp
      rw [hlen] at hp2
      have e1 : pre ++ splitI lz (pre.length + 1) (pre.length + (s1.length + 3) + s2.length) :: (.mk1 6 m :: (shiftL (pre.length + 2) s1 ++ .mk1 7 m :: U (pre.length + (s1.length + 3)))) = (pre ++ splitI lz (pre.length + 1) (pre.length + (s1.length + 3) + s2.length) :: (.mk1 6 m :: (shiftL (pre.length + 2) s1 ++ [.mk1 7 m]))) ++ U (pre.length + (s1.length + 3)) := by simp
      rw [e1, hp2]
      simp only [loopSeg, shiftL, List.map_cons, List.map_append, splitI_shift, shift_mark, shift_past]
      have e2 : ∀ j k l, List.map (shiftI k) (List.map (shiftI j) l) = List.map (shiftI (k + j)) l := fun j k l => by
        have := shiftL_add j k l
        simp only [shiftL] at this
        rw [this, Nat.add_comm]
      rw [e2, e2]
      simp
      congr 1 <;> omega

theorem times_seg {G S : Nat} {f : PM → PM} (hf : IsSeg G S f) {lo hi : Int} (hlo : 0 ≤ lo) (hhi : hi = -1 ∨ lo ≤ hi) (lz : Bool) : IsSeg G (mostOf lo hi * (S + 1)) (timesP f lo hi lz) := by
  obtain ⟨l, rfl⟩ : ∃ l : Nat, lo = (l : Int) := ⟨lo.toNat, by omega⟩
  rcases hhi with rfl | hh
  · refine (star_seg hf l lz).mono ?_
    simp only [mostOf, if_true, Int.toNat_natCast]
    rw [Nat.add_mul, Nat.one_mul, Nat.mul_add]
    omega
  · by_cases hne : hi = -1
    · omega
    have hm : mostOf (l : Int) hi = l + (hi - l).toNat := by unfold mostOf; rw [if_neg hne]; omega
    intro m
    obtain ⟨s1, m1, h1, e1⟩ := (IsSeg.iter hf l) m
    obtain ⟨U, ks, s2, m2, h2, hU, hit, hch⟩ := opts_seg hf lz (hi - l).toNat m1
    have h12 := h1.app h2
    refine ⟨_, m2, ⟨h12.mm, h12.ok, ?_⟩, fun pre => ?_⟩
    · have := h12.sp
      rw [hm, Nat.add_mul, Nat.mul_add l]
      omega
    · unfold timesP
      rw [if_neg hne]
      simp only [Int.toNat_natCast, e1, hit]
      have := hch (pre ++ shiftL pre.length s1)
      simp only [List.length_append, shiftL_len] at this ⊢
      rw [hU, this]
      rw [shiftL_app, shiftL_add]
      simp [Nat.add_comm]

end Go.Proofs.Ytfgghbideoehjaa

namespace Go.Proofs.Ytfgghbideoehjaa
open Go.ChangeShapes Go.WideShapes Go.ChangeAt Go.RowKit
set_option linter.unusedVariables false
set_option linter.unusedSimpArgs false
set_option maxRecDepth 100000

mutual
/-- No place, look ahead or back reference; its groups lie within G places. -/
def Nd.pln (G : Nat) : Nd → Prop
  | .one _ _ => True
  | .place _ => False
  | .look _ _ => False
  | .back _ => False
  | .pieces l => Nd.plns G l
  | .branches l => 0 < l.length ∧ Nd.plns G l
  | .times i lo hi _ => 0 ≤ lo ∧ (hi = -1 ∨ lo ≤ hi) ∧ i.pln G
  | .group n i => 2 * n + 1 < G ∧ i.pln G
def Nd.plns (G : Nat) : List Nd → Prop
  | [] => True
  | t :: l => t.pln G ∧ Nd.plns G l
end

mutual
/-- No more choices than this. -/
def Nd.cnt : Nd → Nat
  | .one _ _ => 0
  | .place _ => 0
  | .look i _ => 0
  | .back _ => 0
  | .pieces l => Nd.cnts l
  | .branches l => Nd.cnts l + l.length
  | .times i lo hi _ => mostOf lo hi * (i.cnt + 1)
  | .group _ i => i.cnt
def Nd.cnts : List Nd → Nat
  | [] => 0
  | t :: l => t.cnt + Nd.cnts l
end

/-- The jumps of earlier branches, told where all of them end. -/
def patchTo (out : Nat) (ends : List Nat) (p : List Ins) : List Ins := ends.foldl (fun p e => setA p e out) p
theorem patchTo_len (out : Nat) (ends : List Nat) : ∀ p, (patchTo out ends p).length = p.length := by
  induction ends with
  | nil => intro p; rfl
  | cons e l ih => intro p; simp only [patchTo, List.foldl_cons] at ih ⊢; rw [ih]; simp
theorem patch_eq (ends : List Nat) : ∀ p : List Ins, patch ends p = patchTo p.length ends p := by
  have h : ∀ (ends : List Nat) (p : List Ins) (n : Nat), p.length = n → ends.foldl (fun p e => setA p e p.length) p = ends.foldl (fun p e => setA p e n) p := by
    intro ends
    induction ends with
    | nil => intro p n _; rfl
    | cons e l ih => intro p n hn; simp only [List.foldl_cons]; rw [hn]; exact ih _ n (by simp [hn])
  exact fun p => h ends p _ rfl
theorem patchTo_left (out : Nat) (ends : List Nat) : ∀ (p q : List Ins), (∀ e ∈ ends, e < p.length) → patchTo out ends (p ++ q) = patchTo out ends p ++ q := by
  induction ends with
  | nil => intro p q h; rfl
  | cons e l ih =>
    intro p q h
    simp only [patchTo, List.foldl_cons] at ih ⊢
    have h1 : setA (p ++ q) e out = setA p e out ++ q := modify_left _ _ _ _ (h e (by simp))
    rw [h1]
    exact ih _ q (fun x hx => by simp; exact h x (by simp [hx]))

def brSeg (s1 s2 : List Ins) : List Ins := ⟨3, 1, s1.length + 2, .zero, 0⟩ :: (shiftL 1 s1 ++ .mk1 4 (s1.length + 2 + s2.length) :: shiftL (s1.length + 2) s2)
theorem brSeg_len (s1 s2 : List Ins) : (brSeg s1 s2).length = s1.length + 2 + s2.length := by simp [brSeg]; omega

theorem brSeg_ok {G m m1 m2 S1 S2 : Nat} {s1 s2 : List Ins} (h1 : SegOk G m m1 S1 s1) (h2 : SegOk G m1 m2 S2 s2) : SegOk G m m2 (S1 + S2 + 1) (brSeg s1 s2) where
  mm := Nat.le_trans h1.mm h2.mm
  ok := by
    rw [brSeg_len]
    intro i hi
    simp only [brSeg, List.mem_cons, List.mem_append] at hi
    rcases hi with rfl | hi | rfl | hi
    · unfold InsOk; simp; omega
    · obtain ⟨j, hj, rfl⟩ := List.mem_map.1 hi
      exact (h1.ok j hj).shift.mono (Nat.le_refl _) h2.mm (by omega)
    · unfold InsOk; simp
    · obtain ⟨j, hj, rfl⟩ := List.mem_map.1 hi
      exact (h2.ok j hj).shift.mono h1.mm (Nat.le_refl _) (by omega)
  sp := by
    have := h1.sp
    have := h2.sp
    have e1 := splits_shift 1 s1
    have e2 := splits_shift (s1.length + 2) s2
    simp only [splits] at *
    simp [brSeg, List.countP_cons, List.countP_append, e1, e2]
    omega

mutual
theorem cmp_seg (fl ln : Bool) (G : Nat) : ∀ t : Nd, t.pln G → IsSeg G t.cnt (cmp fl ln t)
  | .one s n, h => by
    have := IsSeg.emit (G := G) (i := ⟨0, 0, 0, bytesOf fl ln s n, 0⟩) (.inl rfl)
    simp only [Nd.cnt]
    exact this
  | .place _, h => by simp [Nd.pln] at h
  | .look _ _, h => by simp [Nd.pln] at h
  | .back _, h => by simp [Nd.pln] at h
  | .pieces l, h => by
    simp only [Nd.pln] at h
    simp only [Nd.cnt]
    exact cmpL_seg fl ln G l h
  | .branches l, h => by
    simp only [Nd.pln] at h
    simp only [Nd.cnt]
    intro m
    obtain ⟨seg, m', h1, h2⟩ := cmpB_seg fl ln G l h.2 m
    refine ⟨seg, m', h1, fun pre => ?_⟩
    have := h2 pre [] (fun e he => by cases he)
    exact this
  | .times i lo hi lz, h => by
    simp only [Nd.pln] at h
    simp only [Nd.cnt]
    exact times_seg (cmp_seg fl ln G i h.2.2) h.1 h.2.1 lz
  | .group n i, h => by
    simp only [Nd.pln] at h
    simp only [Nd.cnt]
    have hi := cmp_seg fl ln G i h.2
    by_cases hn : n > 0
    · have h1 := (IsSeg.emit (G := G) (i := .mk1 5 (2 * n)) (.inr ⟨rfl, by show 2 ≤ 2 * n; omega, by show 2 * n < G; omega⟩)).comp hi
      have h2 := h1.comp (IsSeg.emit (G := G) (i := .mk1 5 (2 * n + 1)) (.inr ⟨rfl, by show 2 ≤ 2 * n + 1; omega, by show 2 * n + 1 < G; omega⟩))
      intro m
      obtain ⟨seg, m', h3, h4⟩ := h2 m
      refine ⟨seg, m', ⟨h3.mm, h3.ok, by have := h3.sp; omega⟩, fun pre => ?_⟩
      rw [← h4]
      simp [cmp, hn]
    · intro m
      obtain ⟨seg, m', h3, h4⟩ := hi m
      refine ⟨seg, m', h3, fun pre => ?_⟩
      rw [← h4]
      simp [cmp, hn]
theorem cmpL_seg (fl ln : Bool) (G : Nat) : ∀ l : List Nd, Nd.plns G l → IsSeg G (Nd.cnts l) (cmpL fl ln l)
  | [], h => by
    simp only [Nd.cnts]
    intro m
    exact ⟨[], m, SegOk.nil _ _ _, fun pre => by simp [cmpL, shiftL]⟩
  | t :: l, h => by
    simp only [Nd.plns] at h
    simp only [Nd.cnts]
    have := (cmp_seg fl ln G t h.1).comp (cmpL_seg fl ln G l h.2)
    intro m
    obtain ⟨seg, m', h3, h4⟩ := this m
    refine ⟨seg, m', h3, fun pre => ?_⟩
    rw [← h4]
    simp [cmpL]
theorem cmpB_seg (fl ln : Bool) (G : Nat) : ∀ (l : List Nd), Nd.plns G l → ∀ m, ∃ seg m', SegOk G m m' (Nd.cnts l + l.length) seg ∧ ∀ (pre : List Ins) (ends : List Nat), (∀ e ∈ ends, e < pre.length) → cmpB fl ln l ends (pre, m) = (patchTo (pre.length + seg.length) ends pre ++ shiftL pre.length seg, m')
  | [], h, m => ⟨[], m, SegOk.nil _ _ _, fun pre ends he => by simp [cmpB, patch_eq, shiftL]⟩
  | [t], h, m => by
    simp only [Nd.plns] at h
    obtain ⟨seg, m', h3, h4⟩ := cmp_seg fl ln G t h.1 m
    refine ⟨seg, m', ⟨h3.mm, h3.ok, by have := h3.sp; simp [Nd.cnts]; omega⟩, fun pre ends he => ?_⟩
    simp only [cmpB, h4, patch_eq, List.length_append, shiftL_len]
    rw [patchTo_left _ _ _ _ he]
  | t :: u :: l, h, m => by
    simp only [Nd.plns] at h
    obtain ⟨s1, m1, h3, h4⟩ := cmp_seg fl ln G t h.1 m
    obtain ⟨s2, m2, h5, h6⟩ := cmpB_seg fl ln G (u :: l) (by simpa only [Nd.plns] using h.2) m1
    have hok := brSeg_ok h3 h5
    refine ⟨brSeg s1 s2, m2, ⟨hok.mm, hok.ok, by have := hok.sp; simp only [Nd.cnts, List.length_cons] at this ⊢; omega⟩, fun pre ends he => ?_⟩
    simp only [cmpB]
    have e0 : setA (pre ++ [Ins.mk1 3 0]) pre.length (pre.length + 1) = pre ++ [⟨3, pre.length + 1, 0, .zero, 0⟩] := setA_mid pre [] (.mk1 3 0) _
    rw [e0, h4]
    simp only [List.length_append, List.length_cons, List.length_nil, shiftL_len]
    have e1 : setB (pre ++ [⟨3, pre.length + 1, 0, .zero, 0⟩] ++ shiftL (pre.length + (0 + 1)) s1 ++ [Ins.mk1 4 0]) pre.length (pre.length + (0 + 1) + s1.length + 1) = pre ++ ⟨3, pre.length + 1, pre.length + (0 + 1) + s1.length + 1, .zero, 0⟩ :: (shiftL (pre.length + 1) s1 ++ [Ins.mk1 4 0]) := by
      have := setB_mid pre (shiftL (pre.length + 1) s1 ++ [Ins.mk1 4 0]) ⟨3, pre.length + 1, 0, .zero, 0⟩ (pre.length + (0 + 1) + s1.length + 1)
      simpa using this
    rw [e1]
    rw [h6 _ _ (by
      intro e hm
      simp only [List.mem_append, List.mem_singleton] at hm
      simp
      rcases hm with hm | hm
      · have := he e hm; omega
      · omega)]
    have hlen : (pre ++ ⟨3, pre.length + 1, pre.length + (0 + 1) + s1.length + 1, BSet.zero, 0⟩ :: (shiftL (pre.length + 1) s1 ++ [Ins.mk1 4 0])).length = pre.length + (s1.length + 2) := by simp
    rw [hlen]
    have hout : pre.length + (s1.length + 2) + s2.length = pre.length + (brSeg s1 s2).length := by rw [brSeg_len]; omega
    rw [hout]
    generalize hO : pre.length + (brSeg s1 s2).length = O
    have e2 : patchTo O (ends ++ [pre.length + (0 + 1) + s1.length]) (pre ++ ⟨3, pre.length + 1, pre.length + (0 + 1) + s1.length + 1, BSet.zero, 0⟩ :: (shiftL (pre.length + 1) s1 ++ [Ins.mk1 4 0])) = patchTo O ends pre ++ ⟨3, pre.length + 1, pre.length + (0 + 1) + s1.length + 1, BSet.zero, 0⟩ :: (shiftL (pre.length + 1) s1 ++ [Ins.mk1 4 O]) := by
      have h7 := patchTo_left O ends pre (⟨3, pre.length + 1, pre.length + (0 + 1) + s1.length + 1, BSet.zero, 0⟩ :: (shiftL (pre.length + 1) s1 ++ [Ins.mk1 4 0])) he
      simp only [patchTo, List.foldl_append, List.foldl_cons, List.foldl_nil] at h7 ⊢
      rw [h7]
      have hpl := patchTo_len O ends pre
      simp only [patchTo] at hpl
      have h8 := setA_mid (List.foldl (fun p e => setA p e O) pre ends ++ ⟨3, pre.length + 1, pre.length + (0 + 1) + s1.length + 1, BSet.zero, 0⟩ :: shiftL (pre.length + 1) s1) [] (.mk1 4 0) O
      simp only [List.length_append, List.length_cons, shiftL_len, hpl] at h8
      have e3 : pre.length + (s1.length + 1) = pre.length + (0 + 1) + s1.length := by omega
      rw [e3] at h8
      simpa using h8
    rw [e2]
    simp only [brSeg, shiftL, List.map_cons, List.map_append]
    have e4 : ∀ j k l, List.map (shiftI k) (List.map (shiftI j) l) = List.map (shiftI (k + j)) l := fun j k l => by
      have := shiftL_add j k l
      simp only [shiftL] at this
      rw [this, Nat.add_comm]
    rw [e4, e4]
    rw [brSeg_len] at hO
    simp [shiftI]
    refine ⟨⟨by omega, by omega⟩, by omega⟩
end

end Go.Proofs.Ytfgghbideoehjaa
