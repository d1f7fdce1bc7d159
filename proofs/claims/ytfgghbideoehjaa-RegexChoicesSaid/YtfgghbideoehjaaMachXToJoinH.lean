/-
  The machine of a bare pattern and a text, over both switches.
  The tree of a plain text: no places; its groups' numbers; how many choices its program has.
  Find at a plain pattern, over both switches.
  A joined text is bare; a tree with later numbers.
  What is found at a joined text, against what is found at its first part.
-/
import Derived.Test.YtfgghbideoehjaaVmSToVmT
import Derived.Test.YtfgghbideoehjaaCovAToSegB
import Derived.Test.YtfgghbideoehjaaEndA
import Derived.Test.YtfgghbideoehjaaJoinAToJoinF
namespace Go.Proofs.Ytfgghbideoehjaa
open Go.ChangeShapes Go.WideShapes Go.ChangeAt Go.RowKit
set_option linter.unusedVariables false
set_option linter.unusedSimpArgs false
set_option maxRecDepth 100000

/-- The program of a pattern. -/
abbrev PSt.progX (fin : PSt) (fl ln : Bool) : List Ins := (cmp fl ln fin.top.whole ([], 0)).1 ++ [.mk1 9 0]
abbrev PSt.marksX (fin : PSt) (fl ln : Bool) : Nat := (cmp fl ln fin.top.whole ([], 0)).2

/-- What is known of a pattern that was read. -/
structure PatX (p : ByteArray) (fin : PSt) (deep : Nat) : Prop where
  read : readOf p = .ok fin deep
  size : p.size ≤ 50000
  groups : fin.groups ≤ 20
  cov : fin.top.whole.covX
  norefs : ∀ b ∈ fin.refs, b = false
  rlen : fin.refs.length ≤ 1000000
  clen : ∀ fl ln, (cmp fl ln fin.top.whole ([], 0)).1.length ≤ 50000
  cmarks : ∀ fl ln, (cmp fl ln fin.top.whole ([], 0)).2 ≤ 50000
  wf : ∀ fl ln, ∀ i ∈ (cmp fl ln fin.top.whole ([], 0)).1, i.set.WF

theorem pat_of {p : ByteArray} (hs : p.size ≤ 50000) (hb : Bare p) {fin : PSt} {deep : Nat} (h : readOf p = .ok fin deep) : PatX p fin deep := by
  obtain ⟨h1, h2, h3, h4, h5, h6, h7, h8⟩ := read_cov hs hb h
  have hl : ∀ fl ln, (cmp fl ln fin.top.whole ([], 0)).1.length ≤ 50000 := fun fl ln => by
    have := cmp_len fl ln fin.top.whole ([], 0) h8 (by omega)
    simp at this
    omega
  refine ⟨h, hs, h5, h8, h2.refs, by have := h1.refs; omega, hl, fun fl ln => ?_, fun fl ln i hi => ?_⟩
  · have := cmp_marks fl ln fin.top.whole ([], 0)
    have := hl fl ln
    simp at *
    omega
  · exact cmp_wf fl ln fin.top.whole ([], 0) h8 (fun i hi => by simp at hi) i hi

theorem read_err {s : ByteArray} {k c : Nat} (h : readOf s = .err k c) : c = 2 ∨ c = 4 := by
  unfold readOf readFin at h
  split at h
  · cases h; exact .inl rfl
  · split at h
    · cases h; exact .inl rfl
    split at h
    · cases h; exact .inr rfl
    · cases h

def MachO (w : World) (fl ln : Bool) (fin : PSt) (s : ByteArray) (e : Ending) (w' : World) : Prop :=
  ∃ mp tp pg pcap ra rc, e = .returned (.tuple #[.pointer (some ⟨mp, 0, none⟩), .int .i64 0]) ∧ MAt w' mp tp (fin.progX fl ln) (fin.marksX fl ln) fin.groups fin.refs s pg pcap ra rc ∧ MapAt w' tp [] ∧ Below w.heap.size w w' ∧ w.heap.size ≤ tp

set_option maxHeartbeats 1000000 in
theorem machined_err (w : World) (p s : ByteArray) (fl ln : Bool) (hp : p.size ≤ 50000) {k c : Nat} (h : readOf p = .err k c) :
    Calls Try.prog 25 #[.string p, .string s, .bool fl, .bool ln] w fun e w' => e = .returned (.tuple #[.pointer none, .int .i64 (c : Int)]) ∧ Below w.heap.size w w' := by
  have hread := read_any w p hp
  rw [h] at hread
  have hc := read_err h
  have t1 : ((c : Int) == 0) = false := by simp; omega
  have HREAD := Lib.hid hread
  clear hread h hc
  go_enter Try.func25, Try.ntmps25
  go_wp2_with (fail)
  refine HREAD.out.mono ?_
  rintro e w1 ⟨rfl, hbel⟩
  dsimp only
  have HBEL := Lib.hid hbel
  clear hbel
  go_wp2
  go_ret2
  exact ⟨rfl, HBEL.out.alloc HBEL.out.size _⟩

set_option maxHeartbeats 1000000 in
theorem machined_ok (w : World) (p s : ByteArray) (fl ln : Bool) (fin : PSt) (deep : Nat) (hP : PatX p fin deep) (hs : s.size ≤ 200) :
    Calls Try.prog 25 #[.string p, .string s, .bool fl, .bool ln] w (MachO w fl ln fin s) := by
  have hread := read_any w p hP.size
  rw [hP.read] at hread
  have HREAD := Lib.hid hread
  have HP := Lib.hid hP
  have t1 : ¬ ((s.size : Int) > 65536) := by omega
  have t2 : ¬ ((s.size : Int) > 200) := by omega
  clear hread hP
  go_enter Try.func25, Try.ntmps25
  go_wp2_with (fail)
  refine HREAD.out.mono ?_
  rintro e w1 ⟨G, root, refsv, rfl, hN, hG, hrefs, hrb, hbel⟩
  dsimp only
  obtain ⟨T, u, rfl⟩ := hN.iface
  obtain ⟨ra, rn, rc, rfl⟩ := ownsRow_shape hrefs
  obtain ⟨A, hA, sA, aN, aO, bA⟩ := alloc_pack w1 #[.iface T u, .int .i64 (fin.groups : Int), .slice ra rn rc, .int .i64 (deep : Int)] 65
  have hcall := compiledX (fl := fl) (ln := ln) A s fin.top.whole T u (fin.groups : Int) (deep : Int) ra rn rc (fun b hb => by have := (hG b hb).2; omega) (NodeAt.agree (fun b hb => aO b (hG b hb).2) (fun b hb => hb) _ _ hN) HP.out.cov (by have := HP.out.clen fl ln; omega) (by have := HP.out.cmarks fl ln; omega)
  have x0 : A.cell? ⟨w1.heap.size, 0, none⟩ = some (.iface T u) := (cell_of_blk aN 0).trans rfl
  have x1 : A.cell? ⟨w1.heap.size, 1, none⟩ = some (.int .i64 (fin.groups : Int)) := (cell_of_blk aN 1).trans rfl
  have x2 : A.cell? ⟨w1.heap.size, 2, none⟩ = some (.slice ra rn rc) := (cell_of_blk aN 2).trans rfl
  have x3 : A.cell? ⟨w1.heap.size, 3, none⟩ = some (.int .i64 (deep : Int)) := (cell_of_blk aN 3).trans rfl
  have HA := Lib.hid hA
  have HCALL := Lib.hid hcall
  have HREFS := Lib.hid hrefs
  have HRB := Lib.hid hrb
  have HBEL := Lib.hid hbel
  have HBA := Lib.hid bA
  have HSA := Lib.hid sA
  clear hA sA aN aO bA hcall hrefs hrb hbel hN hG
  go_wp2_with (fail)
  rw [HA.out]
  go_wp2_with (fail)
  refine HCALL.out.mono ?_
  rintro e w2 ⟨mp, tp, pv, rfl, hmade⟩
  dsimp only
  have HMADE := Lib.hid hmade
  clear hmade
  go_wp2
  go_ret2
  have hrn : rn = fin.refs.length := by
    rcases HREFS.out.2 with ⟨h, h0⟩ | ⟨g, cap, cur, h, _⟩
    · cases h; exact h0.symm
    · cases h; rfl
  subst hrn
  have hm := HMADE.out
  obtain ⟨pg, pcap, rfl⟩ := ownsRow_succ' (n := (cmp fl ln fin.top.whole ([], 0)).1.length) (by have := hm.row; simpa using this)
  have hb12 : Below w1.heap.size w1 w2 := HBA.out.trans (hm.below.mono (by rw [HSA.out]; omega))
  have hsA := HSA.out
  refine ⟨mp, tp, pg, pcap, ra, rc, rfl, ?_, ⟨_, _, hm.tried, rfl⟩, HBEL.out.trans (hb12.mono HBEL.out.size), by have := HBEL.out.size; have := hm.lt; omega⟩
  have hlen : ((cmp fl ln fin.top.whole ([], 0)).1 ++ [Ins.mk1 9 0]).length = (cmp fl ln fin.top.whole ([], 0)).1.length + 1 := by simp
  exact {
    blk := ⟨_, (_, .bool fl, .bool ln), by rw [hlen]; exact hm.blk⟩
    row := by rw [hlen]; have := ownsRow_mono hm.row (Nat.zero_le _); rw [hlen] at this; exact this
    refsr := ownsRow_agree HREFS.out fun j hj => hb12.block j (HREFS.out.lt j hj).2
    norefs := HP.out.norefs
    ne := hm.ne
    pne := fun e => hm.pt (by rw [← e]; rfl)
    rne := fun k hk e => by have := (HREFS.out.lt k hk).2; have := hm.lt; omega
    wf := fun i hi => by
      rcases List.mem_append.1 hi with h | h
      · exact HP.out.wf fl ln i h
      · simp at h; subst h; exact BSet.zero_wf
    plen := by have := HP.out.clen fl ln; rw [hlen]; omega
    rlen := HP.out.rlen
    glen := by have := HP.out.groups; omega
    mlen := by have := HP.out.cmarks fl ln; show (cmp fl ln fin.top.whole ([], 0)).2 ≤ 1000000; omega
    slen := by omega }

end Go.Proofs.Ytfgghbideoehjaa

namespace Go.Proofs.Ytfgghbideoehjaa
open Go.ChangeShapes Go.WideShapes Go.ChangeAt Go.RowKit
set_option linter.unusedVariables false
set_option linter.unusedSimpArgs false
set_option maxRecDepth 100000

mutual
theorem pln_mono {G G' : Nat} (h : G ≤ G') : ∀ t : Nd, t.pln G → t.pln G'
  | .one _ _, _ => trivial
  | .place _, hp => by simp [Nd.pln] at hp
  | .look _ _, hp => by simp [Nd.pln] at hp
  | .back _, hp => by simp [Nd.pln] at hp
  | .pieces l, hp => by simp only [Nd.pln] at hp ⊢; exact plns_mono h l hp
  | .branches l, hp => by simp only [Nd.pln] at hp ⊢; exact ⟨hp.1, plns_mono h l hp.2⟩
  | .times i lo hi _, hp => by simp only [Nd.pln] at hp ⊢; exact ⟨hp.1, hp.2.1, pln_mono h i hp.2.2⟩
  | .group n i, hp => by simp only [Nd.pln] at hp ⊢; exact ⟨by omega, pln_mono h i hp.2⟩
theorem plns_mono {G G' : Nat} (h : G ≤ G') : ∀ l : List Nd, Nd.plns G l → Nd.plns G' l
  | [], _ => trivial
  | t :: l, hp => by simp only [Nd.plns] at hp ⊢; exact ⟨pln_mono h t hp.1, plns_mono h l hp.2⟩
end

mutual
theorem cnt_le : ∀ t : Nd, t.covX → t.size < 10000 → t.cnt + (if t.loose = true then 0 else 1) ≤ t.size
  | .one s n, hc, hs => by simp [Nd.cnt, Nd.size, Nd.loose]
  | .place _, hc, hs => by simp [Nd.cnt, Nd.size, Nd.loose]
  | .back _, hc, hs => by simp [Nd.cnt, Nd.size, Nd.loose]
  | .look _ _, hc, hs => by simp [Nd.covX] at hc
  | .pieces l, hc, hs => by
    simp only [Nd.covX] at hc
    simp only [Nd.size] at hs ⊢
    simp only [Nd.cnt, Nd.loose]
    have := cnts_le l hc.2 (fun x hx => by
      have := mem_le_sum hx
      rw [capSum_eq hs] at hs
      omega)
    rw [capSum_eq hs]
    simp
    omega
  | .branches l, hc, hs => by
    simp only [Nd.covX] at hc
    simp only [Nd.size] at hs ⊢
    simp only [Nd.cnt, Nd.loose]
    have hcap : capSum (Nd.sizes l) < 10000 := by omega
    have := cnts_le l hc.2.2 (fun x hx => by
      have := mem_le_sum hx
      rw [capSum_eq hcap] at hcap
      omega)
    rw [capSum_eq hcap] at hs ⊢
    simp
    omega
  | .times i lo hi lz, hc, hs => by
    simp only [Nd.covX] at hc
    obtain ⟨h1, h2, h3, h4⟩ := hc
    simp only [Nd.size] at hs ⊢
    simp only [Nd.cnt, Nd.loose, if_true, Nat.add_zero]
    by_cases hm0 : mostOf lo hi = 0
    · rw [hm0]; simp
    · have hms : i.size * mostOf lo hi < 10000 := by omega
      have hi1 : i.size < 10000 := by
        have : i.size * 1 ≤ i.size * mostOf lo hi := Nat.mul_le_mul_left _ (by omega)
        omega
      have := cnt_le i h4 hi1
      rw [h3] at this
      simp at this
      have hle : mostOf lo hi * (i.cnt + 1) ≤ mostOf lo hi * i.size := Nat.mul_le_mul_left _ this
      rw [Nat.mul_comm (mostOf lo hi) i.size] at hle
      omega
  | .group n i, hc, hs => by
    simp only [Nd.covX] at hc
    simp only [Nd.size] at hs ⊢
    simp only [Nd.cnt, Nd.loose]
    have hi : i.size < 10000 := by omega
    have := cnt_le i hc.2 hi
    simp
    split at this <;> omega
theorem cnts_le : ∀ l : List Nd, Nd.covsX l → (∀ x ∈ Nd.sizes l, x < 10000) → Nd.cnts l ≤ (Nd.sizes l).sum
  | [], _, _ => by simp [Nd.cnts, Nd.sizes]
  | t :: l, hc, hs => by
    simp only [Nd.covsX] at hc
    simp only [Nd.sizes, List.mem_cons, forall_eq_or_imp] at hs
    simp only [Nd.cnts, Nd.sizes, List.sum_cons]
    have h1 := cnt_le t hc.1 hs.1
    have h2 := cnts_le l hc.2 hs.2
    omega
end

theorem plns_snoc {G : Nat} (x : Nd) : ∀ l : List Nd, Nd.plns G (l ++ [x]) ↔ Nd.plns G l ∧ x.pln G
  | [] => by simp [Nd.plns]
  | a :: l => by simp [Nd.plns, plns_snoc x l, and_assoc]

/-- No place. -/
def NoPlace (s : ByteArray) : Prop := ∀ k, k < s.size → byte s k ≠ 94 ∧ byte s k ≠ 36

structure PSt.Pl (st : PSt) : Prop where
  frs : ∀ f ∈ st.top :: st.low, Nd.plns (2 * st.groups + 2) f.brs ∧ Nd.plns (2 * st.groups + 2) f.pcs ∧ f.num ≤ st.groups

theorem whole_pln {st : PSt} (h : st.Pl) {f : Fr} (hf : f ∈ st.top :: st.low) : f.whole.pln (2 * st.groups + 2) := by
  obtain ⟨h1, h2, _⟩ := h.frs f hf
  simp only [Fr.whole, Nd.pln, plns_snoc, List.length_append, List.length_cons, List.length_nil]
  exact ⟨by omega, h1, h2⟩

theorem pl_put {st : PSt} (h : st.Pl) {x : Nd} {single : Bool} {n : Nat} (hx : x.pln (2 * st.groups + 2)) : (st.put x single n).Pl where
  frs := by
    intro f hf
    simp only [PSt.put, List.mem_cons] at hf
    show Nd.plns (2 * st.groups + 2) f.brs ∧ Nd.plns (2 * st.groups + 2) f.pcs ∧ f.num ≤ st.groups
    rcases hf with rfl | hf
    · obtain ⟨h1, h2, h3⟩ := h.frs st.top (by simp)
      exact ⟨h1, (plns_snoc _ _).2 ⟨h2, hx⟩, h3⟩
    · exact h.frs f (by simp [hf])

theorem pl_push {st st' : PSt} (h : st.Pl) {k : UInt8} {num : Nat} (e3 : st'.low = st.low ++ [st.top]) (e4 : st'.top = ⟨k, num, [], [], false⟩) (e5 : st.groups ≤ st'.groups) (e6 : num ≤ st'.groups) : st'.Pl where
  frs := by
    intro f hf
    rw [e3, e4] at hf
    simp only [List.mem_cons, List.mem_append, List.not_mem_nil, or_false] at hf
    have hm : ∀ f ∈ st.top :: st.low, Nd.plns (2 * st'.groups + 2) f.brs ∧ Nd.plns (2 * st'.groups + 2) f.pcs ∧ f.num ≤ st'.groups := fun f hf => by
      obtain ⟨h1, h2, h3⟩ := h.frs f hf
      exact ⟨plns_mono (by omega) _ h1, plns_mono (by omega) _ h2, by omega⟩
    rcases hf with rfl | hf | rfl
    · exact ⟨trivial, trivial, e6⟩
    · exact hm f (by simp [hf])
    · exact hm _ (by simp)

theorem pl_pop {st st' : PSt} (h : st.Pl) {l : List Fr} {f : Fr} (hl : st.low = l ++ [f]) (e3 : st'.low = l) (e4 : st'.top = f) (e5 : st'.groups = st.groups) {x : Nd} {single : Bool} (hx : x.pln (2 * st.groups + 2)) : (st'.put x single 1).Pl where
  frs := by
    intro y hy
    simp only [PSt.put, List.mem_cons] at hy
    show Nd.plns (2 * st'.groups + 2) y.brs ∧ Nd.plns (2 * st'.groups + 2) y.pcs ∧ y.num ≤ st'.groups
    rw [e5]
    rw [e3, e4] at hy
    rcases hy with rfl | hy
    · obtain ⟨h1, h2, h3⟩ := h.frs f (by simp [hl])
      exact ⟨h1, (plns_snoc _ _).2 ⟨h2, hx⟩, h3⟩
    · exact h.frs y (by simp [hl, hy])

theorem pl_step {st st' : PSt} (hb : Bare st.s) (hn : NoPlace st.s) (hg : st.Good) (hc : st.Cov) (h : st.Pl) (hp : st.pos < st.s.size) (hs : st.stepP = .ok st') : st'.Pl := by
  unfold PSt.stepP at hs
  rw [if_neg (hb.nob _ hp)] at hs
  split at hs
  · cases hr : brkOf st.s st.pos with
    | fin k a =>
      rw [hr] at hs
      simp only [PSt.brk, PR.ok.injEq] at hs
      subst hs
      refine pl_put h ?_
      split <;> trivial
    | bad k => rw [hr] at hs; cases hs
    | on k a => rw [hr] at hs; cases hs
  split at hs
  · split at hs
    · split at hs
      · cases hs; exact pl_push (st' := st.enter) h rfl rfl (by simp [PSt.enter]) (by simp [PSt.enter])
      · cases hs
    · split at hs
      · cases hs; exact pl_push (st' := st.enterK _) h rfl rfl (Nat.le_refl _) (Nat.zero_le _)
      · cases hs
  split at hs
  · split at hs
    · cases hs
    · rename_i f hf
      have hl := last_snoc hf
      have hw := whole_pln h (f := st.top) (by simp)
      have hnum := (h.frs st.top (by simp)).2.2
      have hne : st.low ≠ [] := by intro e; rw [e] at hf; cases hf
      have hkd := hg.kinds hne
      split at hs
      · cases hs
        exact pl_pop (st' := st.pop st.low.dropLast f) h hl rfl rfl rfl (by simp only [Nd.pln]; exact ⟨by omega, hw⟩)
      split at hs
      · cases hs
        exact pl_pop (st' := st.pop st.low.dropLast f) h hl rfl rfl rfl (by simp only [Nd.pln]; exact ⟨by omega, hw⟩)
      · rename_i k1 k2
        obtain ⟨_, _, n1, n2⟩ := hc.frs st.top (by simp)
        rcases hkd with e | e | e | e
        · exact absurd e k1
        · exact absurd e k2
        · exact absurd e n1
        · exact absurd e n2
  split at hs
  · cases hs
    refine ⟨?_⟩
    intro f hf
    simp only [PSt.bar, List.mem_cons] at hf
    show Nd.plns (2 * st.groups + 2) f.brs ∧ Nd.plns (2 * st.groups + 2) f.pcs ∧ f.num ≤ st.groups
    rcases hf with rfl | hf
    · obtain ⟨h1, h2, h3⟩ := h.frs st.top (by simp)
      refine ⟨(plns_snoc _ _).2 ⟨h1, ?_⟩, trivial, h3⟩
      simp only [Nd.pln]
      exact h2
    · exact h.frs f (by simp [hf])
  split at hs
  · split at hs
    · rename_i y hy
      split at hs
      · rename_i hk
        cases hs
        obtain ⟨r1, r2, r3, r4, r5⟩ := repAt_ok hp hk.1
        have hpc := last_snoc hy
        refine ⟨?_⟩
        intro f hf
        simp only [PSt.rep, List.mem_cons] at hf
        show Nd.plns (2 * st.groups + 2) f.brs ∧ Nd.plns (2 * st.groups + 2) f.pcs ∧ f.num ≤ st.groups
        rcases hf with rfl | hf
        · obtain ⟨h1, h2, h3⟩ := h.frs st.top (by simp)
          rw [hpc, plns_snoc] at h2
          refine ⟨h1, (plns_snoc _ _).2 ⟨h2.1, ?_⟩, h3⟩
          simp only [Nd.pln]
          exact ⟨by omega, by omega, h2.2⟩
        · exact h.frs f (by simp [hf])
      · cases hs
    · cases hs
  split at hs
  · rename_i hpl
    have := hn _ hp
    omega
  split at hs
  · cases hs; exact pl_put h trivial
  · cases hs; exact pl_put h trivial

theorem run_pl : ∀ (n : Nat) (st : PSt) (d : Nat) (fin : PSt) (deep : Nat), Bare st.s → NoPlace st.s → st.Good → st.Cov → st.Pl → runP n st d = .fin fin deep → fin.Pl
  | 0, st, d, fin, deep, hb, hn, hg, hc, hl, h => by simp [runP] at h
  | n + 1, st, d, fin, deep, hb, hn, hg, hc, hl, h => by
    unfold runP at h
    split at h
    · rename_i hp
      cases hs : st.stepP with
      | ok st' =>
        rw [hs] at h
        have hg' := good_step hg hp hs
        exact run_pl n st' _ fin deep (by rw [hg'.2.2]; exact hb) (by rw [hg'.2.2]; exact hn) hg'.1 (cov_step hb hg hc hp hs) (pl_step hb hn hg hc hl hp hs) h
      | bad k => rw [hs] at h; cases h
    · cases h; exact hl

theorem read_pln {s : ByteArray} (hs : s.size ≤ 50000) (hb : Bare s) (hn : NoPlace s) {fin : PSt} {deep : Nat} (h : readOf s = .ok fin deep) : fin.top.whole.pln (2 * fin.groups + 2) := by
  unfold readOf readFin at h
  split at h
  · cases h
  · rename_i st d hr
    split at h
    · cases h
    split at h
    · cases h
    · cases h
      have := run_pl _ _ _ _ _ (by exact hb) (by exact hn) (good_start s hs) (cov_start s) ⟨by
        intro f hf
        simp [PSt.start] at hf
        subst hf
        exact ⟨trivial, trivial, Nat.le_refl _⟩⟩ hr
      exact whole_pln this (by simp)

end Go.Proofs.Ytfgghbideoehjaa

namespace Go.Proofs.Ytfgghbideoehjaa
open Go.ChangeShapes Go.WideShapes Go.ChangeAt Go.RowKit
set_option linter.unusedVariables false
set_option linter.unusedSimpArgs false
set_option maxRecDepth 100000

theorem pln_seg {p : ByteArray} (hs : p.size ≤ 50000) (hb : Bare p) (hn : NoPlace p) {fin : PSt} {deep : Nat} (h : readOf p = .ok fin deep) (fl ln : Bool) :
    ∃ seg, SegOk (2 * fin.groups + 2) 0 (fin.marksX fl ln) 5000 seg ∧ fin.progX fl ln = seg ++ [.mk1 9 0] ∧ ∀ pre, cmp fl ln fin.top.whole (pre, 0) = (pre ++ shiftL pre.length seg, fin.marksX fl ln) := by
  obtain ⟨h1, h2, h3, h4, h5, h6, h7, h8⟩ := read_cov hs hb h
  have hp := read_pln hs hb hn h
  obtain ⟨seg, m', hk, he⟩ := cmp_seg fl ln _ _ hp 0
  have hc := cnt_le fin.top.whole h8 (by omega)
  have e0 := he []
  simp only [List.nil_append, List.length_nil, shiftL_zero] at e0
  have em : fin.marksX fl ln = m' := by show (cmp fl ln fin.top.whole ([], 0)).2 = m'; rw [e0]
  refine ⟨seg, ⟨Nat.zero_le _, by rw [em]; exact hk.ok, by have := hk.sp; omega⟩, ?_, fun pre => by rw [em]; exact he pre⟩
  show (cmp fl ln fin.top.whole ([], 0)).1 ++ _ = _
  rw [e0]

theorem prog_splits {G m m' S : Nat} {seg : List Ins} (h : SegOk G m m' S seg) : splits (seg ++ [Ins.mk1 9 0]) ≤ S := by
  have := h.sp
  simp [splits] at this ⊢
  exact this

theorem found_ends {seg : List Ins} {groups marks : Nat} {s : ByteArray} (h : SegOk (2 * groups + 2) 0 marks 5000 seg) (hs : s.size ≤ 100) :
    ∀ (n a : Nat) (tr : List (Nat × Nat)), s.size + 1 - a = n → TrOk (seg ++ [Ins.mk1 9 0]).length s.size tr → ∃ res, VFound (seg ++ [.mk1 9 0]) s groups marks a tr res ∧ ∀ gs, res = some gs → gs.length = 2 * groups + 2
  | 0, a, tr, hn, ht => ⟨none, .stop (by omega), (fun gs e => by cases e)⟩
  | n + 1, a, tr, hn, ht => by
    have hsp := prog_splits h
    have hS : splits (seg ++ [Ins.mk1 9 0]) * (s.size + 1) < 1000000 := by
      have : splits (seg ++ [Ins.mk1 9 0]) * (s.size + 1) ≤ 5000 * 101 := Nat.mul_le_mul hsp (by omega)
      omega
    obtain ⟨k, res, hr, he⟩ := vrun_ends (M := marks) false (prog_ok h) (by omega) hS _ _ _ (some (Th.first groups marks a)) [] tr rfl rfl rfl ⟨(fun t e => by
      cases e
      exact ⟨by simp [Th.first], by show a ≤ s.size; omega, by simp [Th.first, filled], by simp [Th.first]⟩), (fun t hm => by cases hm), ht, Nat.zero_le _⟩
    have hr : vrun (seg ++ [Ins.mk1 9 0]) s false (k + 1) none [Th.first groups marks a] tr = some res := hr
    obtain ⟨r, tr'⟩ := res
    cases r with
    | some gs => exact ⟨some gs, .hit (by omega) hr (he.gs gs rfl), (fun g e => by cases e; exact he.gs gs rfl)⟩
    | none =>
      obtain ⟨res, hf, hg⟩ := found_ends h hs n (a + 1) tr' (by omega) he.trk
      exact ⟨res, .miss (by omega) hr hf, hg⟩

/-- What Find answers at a pattern that was read, from an index on. -/
def FindO (w : World) (s : ByteArray) (a : Int) (res : Option (List Int)) (e : Ending) (w' : World) : Prop :=
  Below w.heap.size w w' ∧
    if a < 0 ∨ (s.size : Int) < a then e = .returned (.tuple #[.slice none 0 0, .int .i64 7])
    else match res with
      | none => e = .returned (.tuple #[.slice none 0 0, .int .i64 8])
      | some gs => ∃ sv, e = .returned (.tuple #[sv, .int .i64 0]) ∧ w'.ownsRow w.heap.size 30 2 sv (gs.length / 2) (gs.map intV)

set_option maxHeartbeats 1000000 in
theorem find_err (w : World) (p s : ByteArray) (a : Int) (fl ln : Bool) (hp : p.size ≤ 50000) {k c : Nat} (h : readOf p = .err k c) :
    Calls Try.prog 11 #[.string p, .string s, .int .i64 a, .bool fl, .bool ln] w fun e w' => e = .returned (.tuple #[.slice none 0 0, .int .i64 (c : Int)]) ∧ Below w.heap.size w w' := by
  have HMA := Lib.hid (machined_err w p s fl ln hp h)
  have hc := read_err h
  have t1 : ((c : Int) == 0) = false := by simp; omega
  have t2 : ((c : Int) == 3) = false := by simp; omega
  clear h hc
  go_enter Try.func11, Try.ntmps11
  go_wp2_with (fail)
  refine HMA.out.mono ?_
  rintro e w1 ⟨rfl, hbel⟩
  dsimp only
  have HBEL := Lib.hid hbel
  clear hbel
  go_wp2
  go_ret2
  exact ⟨rfl, HBEL.out⟩

set_option maxHeartbeats 1000000 in
theorem find_out (w : World) (p s : ByteArray) (a : Int) (fl ln : Bool) (fin : PSt) (deep : Nat) (hP : PatX p fin deep) (hs : s.size ≤ 200) (ha : a < 0 ∨ (s.size : Int) < a) (res : Option (List Int)) :
    Calls Try.prog 11 #[.string p, .string s, .int .i64 a, .bool fl, .bool ln] w (FindO w s a res) := by
  have HMA := Lib.hid (machined_ok w p s fl ln fin deep hP hs)
  have HA := Lib.hid ha
  have HX : Hid (FindO w s a res = fun e w' => Below w.heap.size w w' ∧ e = .returned (.tuple #[.slice none 0 0, .int .i64 7])) := Lib.hid (by unfold FindO; simp only [if_pos ha])
  rw [HX.out]
  clear hP
  rcases ha with h1 | h1
  · go_enter Try.func11, Try.ntmps11
    go_wp2_with (fail)
    refine HMA.out.mono ?_
    rintro e w1 ⟨mp, tp, pg, pcap, ra, rc, rfl, hM, hmap, hbel, htp⟩
    dsimp only
    have HBEL := Lib.hid hbel
    clear hM hmap hbel htp
    go_wp2
    go_ret2
    exact ⟨HBEL.out, rfl⟩
  · by_cases h0 : a < 0
    · omega
    go_enter Try.func11, Try.ntmps11
    go_wp2_with (fail)
    refine HMA.out.mono ?_
    rintro e w1 ⟨mp, tp, pg, pcap, ra, rc, rfl, hM, hmap, hbel, htp⟩
    dsimp only
    have HBEL := Lib.hid hbel
    clear hM hmap hbel htp
    go_wp2
    go_ret2
    exact ⟨HBEL.out, rfl⟩

set_option maxHeartbeats 1000000 in
theorem find_in (w : World) (p s : ByteArray) (fl ln : Bool) (fin : PSt) (deep : Nat) (hP : PatX p fin deep) (hs : s.size ≤ 200) (a : Nat) (ha : a ≤ s.size) (res : Option (List Int)) (hf : VFound (fin.progX fl ln) s fin.groups (fin.marksX fl ln) a [] res) :
    Calls Try.prog 11 #[.string p, .string s, .int .i64 (a : Int), .bool fl, .bool ln] w (FindO w s (a : Int) res) := by
  have HMA := Lib.hid (machined_ok w p s fl ln fin deep hP hs)
  have HF := Lib.hid hf
  have HX : Hid (FindO w s (a : Int) res = fun e w' => Below w.heap.size w w' ∧ match res with
      | none => e = .returned (.tuple #[.slice none 0 0, .int .i64 8])
      | some gs => ∃ sv, e = .returned (.tuple #[sv, .int .i64 0]) ∧ w'.ownsRow w.heap.size 30 2 sv (gs.length / 2) (gs.map intV)) := Lib.hid (by unfold FindO; simp only [if_neg (show ¬ ((a : Int) < 0 ∨ (s.size : Int) < (a : Int)) by omega)])
  rw [HX.out]
  have t1 : ¬ ((a : Int) < 0) := by omega
  have t2 : ¬ ((a : Int) > (s.size : Int)) := by omega
  clear hf hP
  go_enter Try.func11, Try.ntmps11
  go_wp2_with (fail)
  refine HMA.out.mono ?_
  rintro e w1 ⟨mp, tp, pg, pcap, ra, rc, rfl, hM, hmap, hbel, htp⟩
  dsimp only
  have hfo := found_any w1 mp tp (fin.progX fl ln) (fin.marksX fl ln) fin.groups fin.refs s pg pcap ra rc hM [] hmap a (by omega) res HF.out
  have HFO := Lib.hid hfo
  have HBEL := Lib.hid hbel
  clear hM hmap hfo hbel
  go_wp2_with (fail)
  refine HFO.out.mono ?_
  rintro e w2 ⟨hbut, _, hres⟩
  have hB : Below w.heap.size w w2 := HBEL.out.trans (hbut.below htp HBEL.out.size)
  have HB := Lib.hid hB
  clear hbut hB
  cases res with
  | none =>
    subst hres
    dsimp only
    go_wp2
    go_ret2
    exact ⟨HB.out, rfl⟩
  | some gs =>
    obtain ⟨sv, rfl, hrow⟩ := hres
    have HROW := Lib.hid hrow
    clear hrow
    dsimp only
    go_wp2
    go_ret2
    exact ⟨HB.out, sv, rfl, ownsRow_mono HROW.out HBEL.out.size⟩

end Go.Proofs.Ytfgghbideoehjaa

namespace Go.Proofs.Ytfgghbideoehjaa
open Go.ChangeShapes Go.WideShapes Go.ChangeAt Go.RowKit
set_option linter.unusedVariables false
set_option linter.unusedSimpArgs false
set_option maxRecDepth 100000

theorem ups_len (g : Nat) : ∀ l : List Nd, (Nd.ups g l).length = l.length
  | [] => rfl
  | t :: l => by simp [Nd.ups, ups_len g l]
mutual
theorem up_pln {G : Nat} (g : Nat) : ∀ t : Nd, t.pln G → (t.up g).pln (G + 2 * g)
  | .one _ _, _ => trivial
  | .place _, hp => by simp [Nd.pln] at hp
  | .look _ _, hp => by simp [Nd.pln] at hp
  | .back _, hp => by simp [Nd.pln] at hp
  | .pieces l, hp => by simp only [Nd.up, Nd.pln] at hp ⊢; exact ups_pln g l hp
  | .branches l, hp => by simp only [Nd.up, Nd.pln, ups_len] at hp ⊢; exact ⟨hp.1, ups_pln g l hp.2⟩
  | .times i lo hi _, hp => by simp only [Nd.up, Nd.pln] at hp ⊢; exact ⟨hp.1, hp.2.1, up_pln g i hp.2.2⟩
  | .group n i, hp => by simp only [Nd.up, Nd.pln] at hp ⊢; exact ⟨by omega, up_pln g i hp.2⟩
theorem ups_pln {G : Nat} (g : Nat) : ∀ l : List Nd, Nd.plns G l → Nd.plns (G + 2 * g) (Nd.ups g l)
  | [], _ => trivial
  | t :: l, hp => by simp only [Nd.ups, Nd.plns] at hp ⊢; exact ⟨up_pln g t hp.1, ups_pln g l hp.2⟩
end

/-- Every byte of a joined text. -/
theorem Joins.at_ {J p q : ByteArray} (h : Joins J p q) {k : Nat} (hk : k < J.size) :
    (k = 0 ∧ byte J k = 40) ∨ (k = 1 ∧ byte J k = 63) ∨ (k = 2 ∧ byte J k = 58) ∨ (∃ i, i < p.size ∧ k = i + 3 ∧ byte J k = byte p i) ∨ (k = p.size + 3 ∧ byte J k = 41) ∨ (k = p.size + 4 ∧ byte J k = 124) ∨ (k = p.size + 5 ∧ byte J k = 40) ∨
    (k = p.size + 6 ∧ byte J k = 63) ∨ (k = p.size + 7 ∧ byte J k = 58) ∨ (∃ i, i < q.size ∧ k = i + (p.size + 8) ∧ byte J k = byte q i) ∨ (k = q.size + (p.size + 8) ∧ byte J k = 41) := by
  have hz := h.size
  rcases Nat.lt_or_ge k 3 with h3 | h3
  · rcases k with _ | _ | _ | k
    · exact .inl ⟨rfl, h.b0⟩
    · exact .inr (.inl ⟨rfl, h.b1⟩)
    · exact .inr (.inr (.inl ⟨rfl, h.b2⟩))
    · omega
  obtain ⟨i, rfl⟩ : ∃ i, k = i + 3 := ⟨k - 3, by omega⟩
  right; right; right
  rcases Nat.lt_or_ge i p.size with hi | hi
  · exact .inl ⟨i, hi, rfl, h.inp.same i hi⟩
  right
  obtain ⟨d, rfl⟩ : ∃ d, i = p.size + d := ⟨i - p.size, by omega⟩
  rcases Nat.lt_or_ge d 5 with hd | hd
  · rcases d with _ | _ | _ | _ | _ | d
    · exact .inl ⟨rfl, h.inp.stop⟩
    · exact .inr (.inl ⟨by omega, by rw [show p.size + (0 + 1) + 3 = p.size + 4 by omega]; exact h.b4⟩)
    · exact .inr (.inr (.inl ⟨by omega, by rw [show p.size + (0 + 1 + 1) + 3 = p.size + 5 by omega]; exact h.b5⟩))
    · exact .inr (.inr (.inr (.inl ⟨by omega, by rw [show p.size + (0 + 1 + 1 + 1) + 3 = p.size + 6 by omega]; exact h.b6⟩)))
    · exact .inr (.inr (.inr (.inr (.inl ⟨by omega, by rw [show p.size + (0 + 1 + 1 + 1 + 1) + 3 = p.size + 7 by omega]; exact h.b7⟩))))
    · omega
  · right; right; right; right; right
    obtain ⟨i, rfl⟩ : ∃ i, d = i + 5 := ⟨d - 5, by omega⟩
    rw [show p.size + (i + 5) + 3 = i + (p.size + 8) by omega] at hk ⊢
    rcases Nat.lt_or_ge i q.size with hi | hi
    · exact .inl ⟨i, hi, rfl, h.inq.same i hi⟩
    · obtain rfl : i = q.size := (by omega)
      exact .inr ⟨rfl, h.inq.stop⟩

theorem Joins.noplace {J p q : ByteArray} (h : Joins J p q) (hp : Plain p) (hq : Plain q) : NoPlace J := by
  intro k hk
  rcases h.at_ hk with ⟨_, e⟩ | ⟨_, e⟩ | ⟨_, e⟩ | ⟨i, hi, _, e⟩ | ⟨_, e⟩ | ⟨_, e⟩ | ⟨_, e⟩ | ⟨_, e⟩ | ⟨_, e⟩ | ⟨i, hi, _, e⟩ | ⟨_, e⟩
  all_goals rw [e]
  all_goals first | exact hp.nop _ hi | exact hq.nop _ hi | decide

theorem Joins.bare {J p q : ByteArray} (h : Joins J p q) (hp : Plain p) (hq : Plain q) : Bare J where
  nob := by
    intro k hk
    rcases h.at_ hk with ⟨_, e⟩ | ⟨_, e⟩ | ⟨_, e⟩ | ⟨i, hi, _, e⟩ | ⟨_, e⟩ | ⟨_, e⟩ | ⟨_, e⟩ | ⟨_, e⟩ | ⟨_, e⟩ | ⟨i, hi, _, e⟩ | ⟨_, e⟩
    all_goals rw [e]
    all_goals first | exact hp.nob _ hi | exact hq.nob _ hi | decide
  nol := by
    intro k hk h40 h63
    have hz := h.size
    rcases h.at_ (k := k) (by omega) with ⟨e0, e⟩ | ⟨_, e⟩ | ⟨_, e⟩ | ⟨i, hi, e0, e⟩ | ⟨_, e⟩ | ⟨_, e⟩ | ⟨e0, e⟩ | ⟨_, e⟩ | ⟨_, e⟩ | ⟨i, hi, e0, e⟩ | ⟨_, e⟩
    · subst e0; rw [show 0 + 2 = 2 from rfl, h.b2]; decide
    · rw [e] at h40; cases h40
    · rw [e] at h40; cases h40
    · exfalso
      rw [e] at h40
      subst e0
      by_cases h1 : i + 1 < p.size
      · have := h.inp.same (i + 1) h1
        rw [show i + 1 + 3 = i + 3 + 1 by omega, h63] at this
        exact hp.nol i h1 h40 this.symm
      · have := h.inp.stop
        rw [show p.size + 3 = i + 3 + 1 by omega, h63] at this
        cases this
    · rw [e] at h40; cases h40
    · rw [e] at h40; cases h40
    · subst e0; rw [show p.size + 5 + 2 = p.size + 7 by omega, h.b7]; decide
    · rw [e] at h40; cases h40
    · rw [e] at h40; cases h40
    · exfalso
      rw [e] at h40
      subst e0
      by_cases h1 : i + 1 < q.size
      · have := h.inq.same (i + 1) h1
        rw [show i + 1 + (p.size + 8) = i + (p.size + 8) + 1 by omega, h63] at this
        exact hq.nol i h1 h40 this.symm
      · have := h.inq.stop
        rw [show q.size + (p.size + 8) = i + (p.size + 8) + 1 by omega, h63] at this
        cases this
    · rw [e] at h40; cases h40

end Go.Proofs.Ytfgghbideoehjaa

namespace Go.Proofs.Ytfgghbideoehjaa
open Go.ChangeShapes Go.WideShapes Go.ChangeAt Go.RowKit
set_option linter.unusedVariables false
set_option linter.unusedSimpArgs false
set_option maxRecDepth 100000

/-- What is found from an index on begins there or later. -/
theorem plain_ends {p s : ByteArray} (hz : p.size ≤ 50000) (hb : Bare p) (hn : NoPlace p) (hs : s.size ≤ 100) {fp : PSt} {dp : Nat} (hp : readOf p = .ok fp dp) (fl ln : Bool) (a : Nat) :
    ∃ res, VFound (fp.progX fl ln) s fp.groups (fp.marksX fl ln) a [] res ∧ ∀ gs, res = some gs → gs.length = 2 * fp.groups + 2 := by
  obtain ⟨s1, k1, k2, k3⟩ := pln_seg hz hb hn hp fl ln
  rw [k2]
  exact found_ends k1 hs _ a [] rfl ⟨List.nodup_nil, fun x hx => by cases hx⟩

end Go.Proofs.Ytfgghbideoehjaa
