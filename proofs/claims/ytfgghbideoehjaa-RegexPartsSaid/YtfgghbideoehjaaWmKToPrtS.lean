/-
  The machine of any pattern that reads, and a text.
  At any pattern that reads and a short text, found always ends, and what it finds lies in the text.
  All matches of a text, as a relation; they ascend.
  matches' iterator, at any machine: it yields all matches.
  slices.Collect of a machine's matches: a list that holds the rows of all matches.
  slices.AppendSeq, slices.Collect of a machine's matches; All.
  Split: the parts of a text between the matches that are not empty.
-/
import Derived.Test.YtfgghbideoehjaaWmJToWmI
import Derived.Test.YtfgghbideoehjaaGmLToPaC
import Derived.Test.YtfgghbideoehjaaGmBToGmF
import Derived.RangeFuncNested
import Derived.RangeFuncBound
import Derived.RangeFuncCalls
import Derived.RangeFuncLeaves
import Derived.Shelf.Abstract
import Derived.Shelf.RegionOpen
import Derived.WalkKit
import Derived.OwnWalkIn
import Derived.TacticsInMore
import Derived.LoopNIn
import Derived.LoopIn
import Derived.Test.YtfgghbideoehjaaPrtK
namespace Go.Proofs.Ytfgghbideoehjaa
open Go.ChangeShapes Go.WideShapes Go.ChangeAt Go.RowKit
set_option linter.unusedVariables false
set_option linter.unusedSimpArgs false
set_option maxRecDepth 100000

/-- The program of a pattern. -/
abbrev PSt.progX (fin : PSt) (fl ln : Bool) : List Ins := (cmp fl ln fin.top.whole ([], 0)).1 ++ [.mk1 9 0]
abbrev PSt.marksX (fin : PSt) (fl ln : Bool) : Nat := (cmp fl ln fin.top.whole ([], 0)).2

/-- The machine of a pattern and a text. -/
abbrev PSt.mc (fin : PSt) (fl ln : Bool) (s : ByteArray) : Mc := ⟨fin.progX fl ln, s, fin.refs, fin.marksX fl ln, fl, ln⟩

/-- What is known of a pattern that was read. -/
structure PatG (p : ByteArray) (fin : PSt) (deep : Nat) : Prop where
  read : readOf p = .ok fin deep
  size : p.size ≤ 50000
  groups : fin.groups ≤ 20
  cov : fin.top.whole.covX
  rlen : fin.refs.length ≤ fin.groups + 1
  tsize : fin.top.whole.size ≤ 5000
  ok : fin.top.whole.okG (2 * fin.groups + 2)
  kinds : ∀ fl ln, ∀ i ∈ (cmp fl ln fin.top.whole ([], 0)).1, i.kind < 256
  clen : ∀ fl ln, (cmp fl ln fin.top.whole ([], 0)).1.length ≤ 50000
  cmarks : ∀ fl ln, (cmp fl ln fin.top.whole ([], 0)).2 ≤ 50000
  wf : ∀ fl ln, ∀ i ∈ (cmp fl ln fin.top.whole ([], 0)).1, i.set.WF

theorem read_err {s : ByteArray} {k c : Nat} (h : readOf s = .err k c) : c = 2 ∨ c = 4 := by
  unfold readOf readFin at h
  split at h
  · cases h; exact .inl rfl
  · split at h
    · cases h; exact .inl rfl
    split at h
    · cases h; exact .inr rfl
    · cases h

def MachO (w : World) (fl ln : Bool) (fin : PSt) (s : ByteArray) (e : Ending) (w' : World) : Prop :=
  ∃ mp tp pg pcap ra rc, e = .returned (.tuple #[.pointer (some ⟨mp, 0, none⟩), .int .i64 0]) ∧ MAt w' mp tp (fin.mc fl ln s) fin.groups pg pcap ra rc ∧ MapAt w' tp [] ∧ Below w.heap.size w w' ∧ w.heap.size ≤ tp

set_option maxHeartbeats 1000000 in
theorem machined_err (w : World) (p s : ByteArray) (fl ln : Bool) (hp : p.size ≤ 50000) {k c : Nat} (h : readOf p = .err k c) :
    Calls Try.prog 25 #[.string p, .string s, .bool fl, .bool ln] w fun e w' => e = .returned (.tuple #[.pointer none, .int .i64 (c : Int)]) ∧ Below w.heap.size w w' := by
  have hread := read_any w p hp
  rw [h] at hread
  have hc := read_err h
  have t1 : ((c : Int) == 0) = false := by simp; omega
  have HREAD := Lib.hid hread
  clear hread h hc
  go_enter Try.func25, Try.ntmps25
  go_wp2_with (fail)
  refine HREAD.out.mono ?_
  rintro e w1 ⟨rfl, hbel⟩
  dsimp only
  have HBEL := Lib.hid hbel
  clear hbel
  go_wp2
  go_ret2
  exact ⟨rfl, HBEL.out.alloc HBEL.out.size _⟩

set_option maxHeartbeats 1000000 in
theorem machined_ok (w : World) (p s : ByteArray) (fl ln : Bool) (fin : PSt) (deep : Nat) (hP : PatG p fin deep) (hs : s.size ≤ 200) :
    Calls Try.prog 25 #[.string p, .string s, .bool fl, .bool ln] w (MachO w fl ln fin s) := by
  have hread := read_any w p hP.size
  rw [hP.read] at hread
  have HREAD := Lib.hid hread
  have HP := Lib.hid hP
  have t1 : ¬ ((s.size : Int) > 65536) := by omega
  have t2 : ¬ ((s.size : Int) > 200) := by omega
  clear hread hP
  go_enter Try.func25, Try.ntmps25
  go_wp2_with (fail)
  refine HREAD.out.mono ?_
  rintro e w1 ⟨G, root, refsv, rfl, hN, hG, hrefs, hrb, hbel⟩
  dsimp only
  obtain ⟨T, u, rfl⟩ := hN.iface
  obtain ⟨ra, rn, rc, rfl⟩ := ownsRow_shape hrefs
  obtain ⟨A, hA, sA, aN, aO, bA⟩ := alloc_pack w1 #[.iface T u, .int .i64 (fin.groups : Int), .slice ra rn rc, .int .i64 (deep : Int)] 65
  have hcall := compiledX (fl := fl) (ln := ln) A s fin.top.whole T u (fin.groups : Int) (deep : Int) ra rn rc (fun b hb => by have := (hG b hb).2; omega) (NodeAt.agree (fun b hb => aO b (hG b hb).2) (fun b hb => hb) _ _ hN) HP.out.cov (by have := HP.out.clen fl ln; omega) (by have := HP.out.cmarks fl ln; omega)
  have x0 : A.cell? ⟨w1.heap.size, 0, none⟩ = some (.iface T u) := (cell_of_blk aN 0).trans rfl
  have x1 : A.cell? ⟨w1.heap.size, 1, none⟩ = some (.int .i64 (fin.groups : Int)) := (cell_of_blk aN 1).trans rfl
  have x2 : A.cell? ⟨w1.heap.size, 2, none⟩ = some (.slice ra rn rc) := (cell_of_blk aN 2).trans rfl
  have x3 : A.cell? ⟨w1.heap.size, 3, none⟩ = some (.int .i64 (deep : Int)) := (cell_of_blk aN 3).trans rfl
  have HA := Lib.hid hA
  have HCALL := Lib.hid hcall
  have HREFS := Lib.hid hrefs
  have HRB := Lib.hid hrb
  have HBEL := Lib.hid hbel
  have HBA := Lib.hid bA
  have HSA := Lib.hid sA
  clear hA sA aN aO bA hcall hrefs hrb hbel hN hG
  go_wp2_with (fail)
  rw [HA.out]
  go_wp2_with (fail)
  refine HCALL.out.mono ?_
  rintro e w2 ⟨mp, tp, pv, rfl, hmade⟩
  dsimp only
  have HMADE := Lib.hid hmade
  clear hmade
  go_wp2
  go_ret2
  have hrn : rn = fin.refs.length := by
    rcases HREFS.out.2 with ⟨h, h0⟩ | ⟨g, cap, cur, h, _⟩
    · cases h; exact h0.symm
    · cases h; rfl
  subst hrn
  have hm := HMADE.out
  obtain ⟨pg, pcap, rfl⟩ := ownsRow_succ' (n := (cmp fl ln fin.top.whole ([], 0)).1.length) (by have := hm.row; simpa using this)
  have hb12 : Below w1.heap.size w1 w2 := HBA.out.trans (hm.below.mono (by rw [HSA.out]; omega))
  have hsA := HSA.out
  refine ⟨mp, tp, pg, pcap, ra, rc, rfl, ?_, ⟨_, _, hm.tried, rfl⟩, HBEL.out.trans (hb12.mono HBEL.out.size), by have := HBEL.out.size; have := hm.lt; omega⟩
  have hlen : ((cmp fl ln fin.top.whole ([], 0)).1 ++ [Ins.mk1 9 0]).length = (cmp fl ln fin.top.whole ([], 0)).1.length + 1 := by simp
  exact {
    blk := ⟨_, _, by show w2.heap[mp]? = some (.cells #[_, _, _, _, .slice (some ⟨pg, 0, none⟩) ((cmp fl ln fin.top.whole ([], 0)).1 ++ [Ins.mk1 9 0]).length pcap, _, _, _, _, _, _] 91 (0, 0)); rw [hlen]; exact hm.blk⟩
    row := by show w2.ownsRow 0 99 8 (.slice (some ⟨pg, 0, none⟩) ((cmp fl ln fin.top.whole ([], 0)).1 ++ [Ins.mk1 9 0]).length pcap) ((cmp fl ln fin.top.whole ([], 0)).1 ++ [Ins.mk1 9 0]).length _; rw [hlen]; have := ownsRow_mono hm.row (Nat.zero_le _); rw [hlen] at this; exact this
    refsr := ownsRow_agree HREFS.out fun j hj => hb12.block j (HREFS.out.lt j hj).2
    ne := hm.ne
    pne := fun e => hm.pt (by rw [← e]; rfl)
    rne := fun k hk e => by have := (HREFS.out.lt k hk).2; have := hm.lt; omega
    wf := fun i hi => by
      rcases List.mem_append.1 hi with h | h
      · exact HP.out.wf fl ln i h
      · simp at h; subst h; exact BSet.zero_wf
    plen := by have := HP.out.clen fl ln; show ((cmp fl ln fin.top.whole ([], 0)).1 ++ [Ins.mk1 9 0]).length ≤ 1000000; rw [hlen]; omega
    rlen := by have := HP.out.rlen; have := HP.out.groups; show fin.refs.length ≤ 1000000; omega
    glen := by have := HP.out.groups; omega
    mlen := by have := HP.out.cmarks fl ln; show (cmp fl ln fin.top.whole ([], 0)).2 ≤ 1000000; omega
    slen := by show s.size ≤ 1000000; omega
    kinds := fun i hi => by
      rcases List.mem_append.1 hi with h | h
      · exact HP.out.kinds fl ln i h
      · simp at h; subst h; decide }


theorem patG_of {p : ByteArray} (hs : p.size ≤ 50000) {fin : PSt} {deep : Nat} (h : readOf p = .ok fin deep) : PatG p fin deep := by
  obtain ⟨h1, h5, h6, h8, h9⟩ := read_fit hs h
  have hl : ∀ fl ln, (cmp fl ln fin.top.whole ([], 0)).1.length ≤ 50000 := fun fl ln => by
    have := cmp_len fl ln fin.top.whole ([], 0) h8 (by omega)
    simp at this
    omega
  have hw : ∀ fl ln, WFs (cmp fl ln fin.top.whole ([], 0)) := fun fl ln => cmp_wf fl ln fin.top.whole ([], 0) h8 (fun i hi => by simp at hi)
  exact {
    read := h
    size := hs
    groups := h5
    cov := h8
    rlen := by have := h1.refs; omega
    tsize := h6
    ok := h9
    kinds := fun fl ln i hi => (hw fl ln i hi).2
    clen := hl
    cmarks := fun fl ln => by
      have := cmp_marks fl ln fin.top.whole ([], 0)
      have := hl fl ln
      simp at *
      omega
    wf := fun fl ln i hi => (hw fl ln i hi).1 }

end Go.Proofs.Ytfgghbideoehjaa

namespace Go.Proofs.Ytfgghbideoehjaa
open Go.ChangeShapes Go.WideShapes Go.ChangeAt Go.RowKit
set_option linter.unusedVariables false
set_option linter.unusedSimpArgs false
set_option maxRecDepth 100000

theorem splits_len (l : List Ins) : splits l ≤ l.length := List.countP_le_length

theorem mach_found {p s : ByteArray} {fin : PSt} {deep : Nat} (hP : PatG p fin deep) (fl ln : Bool) (hs : s.size ≤ 60) :
    ∃ D, ∀ a, ∃ res, GFound (fin.mc fl ln s) (lkD (fin.mc fl ln s) D) fin.groups a [] res ∧ ∀ gs, res = some gs → MatchOk fin.groups s.size a gs := by
  obtain ⟨seg, m', lab, hS, hE⟩ := cmp_reg fl ln (2 * fin.groups + 2) fin.top.whole hP.ok 0
  have he := hE []
  have hz : shL ([] : List Ins).length seg = seg := by simp [shL_zero]
  rw [hz, List.nil_append] at he
  have hlen : (cmp fl ln fin.top.whole ([], 0)).1.length ≤ 40000 := by
    have := cmp_len fl ln fin.top.whole ([], 0) hP.cov (by have := hP.tsize; omega)
    have := hP.tsize
    simp at *
    omega
  have hpr : (fin.mc fl ln s).prog = seg ++ [.mk1 9 0] := by show (cmp fl ln fin.top.whole ([], 0)).1 ++ _ = _; rw [he]
  have hm : (fin.mc fl ln s).marks = m' := by show (cmp fl ln fin.top.whole ([], 0)).2 = _; rw [he]
  have hsp : splits (fin.mc fl ln s).prog ≤ 40001 := by
    refine Nat.le_trans (splits_len _) ?_
    show ((cmp fl ln fin.top.whole ([], 0)).1 ++ [Ins.mk1 9 0]).length ≤ 40001
    simp
    omega
  have hr := hP.rlen
  have hg := hP.groups
  have hb1 : splits (fin.mc fl ln s).prog * (s.size + 1) < 200000000 := by
    have : splits (fin.mc fl ln s).prog * (s.size + 1) ≤ 40001 * 61 := Nat.mul_le_mul hsp (by omega)
    omega
  have hb2 : splits (fin.mc fl ln s).prog * (s.size * (2 * fin.refs.length + 1) + 2 * fin.refs.length + 1) < 200000000 := by
    have h1 : s.size * (2 * fin.refs.length + 1) ≤ 60 * 43 := Nat.mul_le_mul hs (by omega)
    have : splits (fin.mc fl ln s).prog * (s.size * (2 * fin.refs.length + 1) + 2 * fin.refs.length + 1) ≤ 40001 * 2623 := Nat.mul_le_mul hsp (by omega)
    omega
  rw [← hm] at hS
  obtain ⟨D, hR⟩ := prog_region (M := fin.mc fl ln s) hS hpr (by show s.size ≤ 60000; omega) hb1
  exact ⟨D, fun a => gfound_ends hR hr (by show s.size ≤ 60000; omega) hb2 _ a [] rfl ⟨List.nodup_nil, fun x hx => by cases hx⟩⟩

end Go.Proofs.Ytfgghbideoehjaa

namespace Go.Proofs.Ytfgghbideoehjaa
open Go.ChangeShapes Go.WideShapes Go.ChangeAt Go.RowKit
set_option linter.unusedVariables false
set_option linter.unusedSimpArgs false
set_option maxRecDepth 100000

/-- All matches from an index on. -/
inductive GAll (M : Mc) (lk : Nat → Nat → Option Bool) (groups : Nat) : Nat → List (List Int) → Prop where
  | stop {f : Nat} (h : M.s.size < f) : GAll M lk groups f []
  | miss {f : Nat} (h : f ≤ M.s.size) (hf : GFound M lk groups f [] none) : GAll M lk groups f []
  | hit {f i e : Nat} {gs : List Int} {l : List (List Int)} (h : f ≤ M.s.size) (hf : GFound M lk groups f [] (some gs)) (hl : gs.length = 2 * groups + 2) (h0 : gs[0]? = some (i : Int)) (h1 : gs[1]? = some (e : Int)) (hi : f ≤ i) (he : i ≤ e) (hz : e ≤ M.s.size)
      (hn : GAll M lk groups (if i = e then e + 1 else e) l) : GAll M lk groups f (gs :: l)

theorem gall_ends {M : Mc} {lk : Nat → Nat → Option Bool} {groups : Nat} (h : ∀ a, ∃ res, GFound M lk groups a [] res ∧ ∀ gs, res = some gs → MatchOk groups M.s.size a gs) : ∀ (n f : Nat), M.s.size + 1 - f ≤ n → ∃ l, GAll M lk groups f l
  | 0, f, hn => ⟨[], .stop (by omega)⟩
  | n + 1, f, hn => by
    by_cases hf : M.s.size < f
    · exact ⟨[], .stop hf⟩
    · obtain ⟨res, h1, h2⟩ := h f
      cases res with
      | none => exact ⟨[], .miss (by omega) h1⟩
      | some gs =>
        obtain ⟨hl, i, e, e0, e1, c1, c2, c3⟩ := h2 gs rfl
        obtain ⟨l, hl2⟩ := gall_ends h n (if i = e then e + 1 else e) (by split <;> omega)
        exact ⟨gs :: l, .hit (by omega) h1 hl e0 e1 c1 c2 c3 hl2⟩

end Go.Proofs.Ytfgghbideoehjaa

namespace Go.Proofs.Ytfgghbideoehjaa
open Go.RowKit Go.Shelf
attribute [local go_sem] Oper.semAt_some
set_option linter.unusedVariables false
set_option linter.unusedSimpArgs false
set_option maxRecDepth 100000

set_option maxHeartbeats 2000000 in
theorem matches_all (n : Nat) (hn : 1 ≤ n) (mp tp : Nat) (M : Mc) (lk : Nat → Nat → Option Bool) (groups : Nat) (pg pcap : Nat) (ra : Option Addr) (rc : Nat) (L : List (List Int)) (J : Nat → World → Prop) (l B : Nat)
    (hJM : ∀ k W, J k W → MAt W mp tp M groups pg pcap ra rc ∧ LooksAt W mp tp M lk ∧ (∃ tr, MapAt W tp tr) ∧ W.cell? ⟨B, 0, none⟩ = some (.pointer (some ⟨mp, 0, none⟩)))
    (hJB : ∀ k W W', J k W → But tp W W' → (∃ tr, MapAt W' tp tr) → J k W')
    (hall : GAll M lk groups 0 L) (hs : M.s.size ≤ 60)
    (hY : ∀ k W sv gs, J k W → L[k]? = some gs → W.ownsRow 0 30 2 sv (groups + 1) (gs.map intV) → YieldAt Fence.wide (n - 1) Try.prog l #[sv] W fun e W' => e = .returned (.bool true) ∧ J (k + 1) W' ∧ W'.ownsRow 0 30 2 sv (groups + 1) (gs.map intV))
    (W : World) (h0 : J 0 W) : CallsIn Fence.wide n Try.prog 64 #[.func (.yield l) #[] #[], .pointer (some ⟨B, 0, none⟩)] W fun e W' => (∃ v, e = .returned v) ∧ J L.length W' := by
  have HJM := Lib.hid hJM
  have HJB := Lib.hid hJB
  have HY := Lib.hid hY
  have HALL := Lib.hid hall
  clear hJM hJB hY hall
  refine callsIn_of_wp Try.func64 rfl trivial ?_ rfl
  simp only [Try.ntmps64, List.size_toArray, List.length_cons, List.length_nil, Nat.reduceAdd, Nat.reduceSub, Array.replicate_succ, Array.replicate_zero, List.push_toArray, List.append_toArray, List.nil_append, List.cons_append]
  gi_wp2
  gi_loopw [3] (fun from' wr => ∃ k f : Nat, from' = .int .i64 (f : Int) ∧ f ≤ 61 ∧ k ≤ L.length ∧ GAll M lk groups f (L.drop k) ∧ J k wr) (fun from' wr => 62 - (intOf from').toNat)
  case atStart => exact ⟨0, 0, rfl, by omega, by omega, by simpa using HALL.out, h0⟩
  case round =>
    obtain ⟨k, f, rfl, hf61, hkL, hg, hJ⟩ := hrel
    obtain ⟨hM, hlk, ⟨tr, hmap⟩, hcB⟩ := HJM.out k _ hJ
    obtain ⟨root, deep, hblk⟩ := hM.blk
    have m6 : wr.cell? ⟨mp, 6, none⟩ = some (.string M.s) := (cell_of_blk hblk 6).trans rfl
    have HMm := Lib.hid hM
    have HLK := Lib.hid hlk
    have HMAP := Lib.hid hmap
    have HJ := Lib.hid hJ
    have hcase : (M.s.size < f ∧ k = L.length) ∨ (f ≤ M.s.size ∧ k = L.length ∧ GFound M lk groups f [] none) ∨ (∃ (gs : List Int) (i e : Nat), f ≤ M.s.size ∧ k < L.length ∧ L[k]? = some gs ∧ GFound M lk groups f [] (some gs) ∧ gs.length = 2 * groups + 2 ∧ gs[0]? = some (i : Int) ∧ gs[1]? = some (e : Int) ∧ f ≤ i ∧ i ≤ e ∧ e ≤ M.s.size ∧ GAll M lk groups (if i = e then e + 1 else e) (L.drop (k + 1))) := by
      cases hd : L.drop k with
      | nil =>
        have hk : k = L.length := by have := congrArg List.length hd; simp at this; omega
        rw [hd] at hg
        cases hg with
        | stop h => exact .inl ⟨h, hk⟩
        | miss h hf => exact .inr (.inl ⟨h, hk, hf⟩)
      | cons gs l' =>
        have hk : k < L.length := by have := congrArg List.length hd; simp at this; omega
        have hgk : L[k]? = some gs := by rw [← List.head?_drop, hd]; rfl
        have hd2 : L.drop (k + 1) = l' := by rw [← List.tail_drop, hd]; rfl
        rw [hd] at hg
        cases hg with
        | hit h hf hl h0 h1 hi he hz hn => exact .inr (.inr ⟨gs, _, _, h, hk, hgk, hf, hl, h0, h1, hi, he, hz, by rw [hd2]; exact hn⟩)
    clear hM hlk hmap hJ hblk hg
    rcases hcase with ⟨hgt, rfl⟩ | ⟨hle, rfl, hf⟩ | ⟨gs, i, e, hle, hkl, hgk, hf, hgl, hg0, hg1, hi, he, hz, hnx⟩
    · have t1 : ¬ ((f : Int) ≤ (M.s.size : Int)) := by omega
      gi_wp2
      refine bodyPost_end (results_none rfl _ _ _) rfl ?_
      exact ⟨⟨_, rfl⟩, HJ.out⟩
    · have hsi : (f : Int) ≤ (M.s.size : Int) := by omega
      have hfo := found_any wr mp tp M lk groups pg pcap ra rc HMm.out HLK.out tr HMAP.out f (by omega) none hf
      have HFO := Lib.hid hfo
      clear hfo
      gi_wp2_with (refine ⟨trivial, ?_⟩; gi_at_call 26; refine (callsIn_wide.2 HFO.out).mono ?_; rintro e w2 ⟨hb2, htr2, rfl⟩; dsimp only; have HB2 := Lib.hid hb2; have HTR2 := Lib.hid htr2; clear hb2 htr2)
      refine ⟨fun _ h => (by cases h), ?_⟩
      gi_wp2
      refine bodyPost_ret (results_none rfl _ _ _) rfl ?_
      exact ⟨⟨_, rfl⟩, HJB.out _ _ _ HJ.out HB2.out HTR2.out⟩
    · have hsi : (f : Int) ≤ (M.s.size : Int) := by omega
      have hfo := found_any wr mp tp M lk groups pg pcap ra rc HMm.out HLK.out tr HMAP.out f (by omega) (some gs) hf
      have HFO := Lib.hid hfo
      have HGK := Lib.hid hgk
      have HGL := Lib.hid (show gs.length / 2 = groups + 1 by omega)
      have HG0 := Lib.hid hg0
      have HG1 := Lib.hid hg1
      have HNX := Lib.hid hnx
      clear hfo hf hgk hgl hg0 hg1 hnx
      gi_wp2_with (refine ⟨trivial, ?_⟩; gi_at_call 26; refine (callsIn_wide.2 HFO.out).mono ?_; rintro e9 w2 ⟨hb2, htr2, sv, rfl, hrow⟩; dsimp only; have hrow3 : w2.ownsRow 0 30 2 sv (groups + 1) (gs.map intV) := (by have h := ownsRow_mono hrow (Nat.zero_le _); rw [HGL.out] at h; exact h); obtain ⟨g, cc, rfl⟩ := ownsRow_succ' (n := groups) hrow3; obtain ⟨fn, tmps, assign, body, hy, hR⟩ := HY.out k w2 _ gs (HJB.out _ _ _ HJ.out hb2 htr2) HGK.out hrow3; have HRR := Lib.hid hR; have HB2 := Lib.hid hb2; clear hb2 htr2 hrow hrow3 hR)
      refine HRR.out.mono ?_
      rintro e9 W3 ⟨rfl, hJ3, hrow4⟩
      dsimp only
      have x0 : W3.cell? ⟨g, 0, none⟩ = some (.int .i64 (i : Int)) := by
        rw [World.ownsRow.cellAt hrow4 0 (by omega), List.getElem?_map, HG0.out]; rfl
      have x1 : W3.cell? ⟨g, 1, none⟩ = some (.int .i64 (e : Int)) := by
        rw [World.ownsRow.cellAt hrow4 1 (by omega), List.getElem?_map, HG1.out]; rfl
      have hgi : (0 : Int) < ((groups + 1 : Nat) : Int) := by omega
      have hgi2 : 0 < groups + 1 := by omega
      have HJ3 := Lib.hid hJ3
      clear hJ3 hrow4 m6 hcB hy
      by_cases hie : i = e
      · subst hie
        rw [if_pos rfl] at HNX
        gi_wp2
        gi_region
        gi_wp2
        go_roundw
        case rel => exact ⟨k + 1, i + 1, by go_num, by omega, by omega, HNX.out, HJB.out _ _ _ HJ3.out (But.refl tp W3).drew (HJM.out _ _ HJ3.out).2.2.1⟩
        case measure => simp [intOf]; omega
      · rw [if_neg hie] at HNX
        have e5 : ((i : Int) == (e : Int)) = false := by simp; omega
        gi_wp2
        gi_region
        gi_wp2
        go_roundw
        case rel => exact ⟨k + 1, e, by go_num, by omega, by omega, HNX.out, HJB.out _ _ _ HJ3.out (But.refl tp W3).drew (HJM.out _ _ HJ3.out).2.2.1⟩
        case measure => simp [intOf]; omega

end Go.Proofs.Ytfgghbideoehjaa

namespace Go.Proofs.Ytfgghbideoehjaa
open Go.ChangeShapes Go.WideShapes Go.ChangeAt Go.RowKit Go.Shelf
attribute [local go_sem] Oper.semAt_some
set_option linter.unusedVariables false
set_option linter.unusedSimpArgs false
set_option maxRecDepth 100000

theorem al_old (w : World) (o : Obj) (i : Nat) (h : i < w.heap.size) : (w.alloc o).heap[i]? = w.heap[i]? :=
  ((Below.refl w.heap.size w).alloc (Nat.le_refl _) o).block i h

theorem matches_fn (w : World) (mp : Nat) : Calls Try.prog 31 #[.pointer (some ⟨mp, 0, none⟩)] w fun e w' => e = .returned (.func (.func 64) #[] #[.pointer (some ⟨w.heap.size, 0, none⟩)]) ∧ w' = w.alloc (.cells #[.pointer (some ⟨mp, 0, none⟩)] 53) := by
  have hmf : ∀ (fn : Fn) (first cap : Array Value) (w : World), (Instr.makeFunc fn first cap).run Try.prog w = .ok (.func fn first cap) w := fun _ _ _ _ => rfl
  go_enter Try.func31, Try.ntmps31
  go_wp2
  go_ret
  exact ⟨rfl, rfl⟩

/-- A list's rows are those of the matches. -/
def Rows2 (W : World) (groups : Nat) (vs : List Value) (L : List (List Int)) : Prop := ∀ (i : Nat) (x : Value) (gs : List Int), vs[i]? = some x → L[i]? = some gs → W.ownsRow 0 30 2 x (groups + 1) (gs.map intV)

theorem Rows2.keep {W W' : World} {groups : Nat} {vs : List Value} {L : List (List Int)} (h : Rows2 W groups vs L) (hk : ∀ (j : Nat) (c : Array Value), W.heap[j]? = some (.cells c 30 (0, 0)) → W'.heap[j]? = W.heap[j]?) : Rows2 W' groups vs L :=
  fun i x gs hx hg => ownsRow_keep (h i x gs hx hg) fun j c _ hc => hk j c hc

/-- Between two rounds of AppendSeq. -/
structure CJ (w1 : World) (tp groups : Nat) (rec : Loop) (L : List (List Int)) (k : Nat) (W : World) : Prop where
  but : But tp w1 W
  map : ∃ tr, MapAt W tp tr
  rec' : W.heap[w1.heap.size + 2]? = some (.loop rec)
  dfr : W.heap[w1.heap.size + 1]? = some (.deferred (some []))
  box : ∃ v vs, W.heap[w1.heap.size]? = some (.cells #[v] 39 (0, 0)) ∧ W.ownsRow w1.heap.size 25 1 v k vs ∧ Rows2 W groups vs L

theorem CJ.next {w1 : World} {tp groups : Nat} {rec : Loop} {L : List (List Int)} {k : Nat} {W W' : World} (h : CJ w1 tp groups rec L k W) (htp : tp < w1.heap.size) (hb : But tp W W') (hm : ∃ tr, MapAt W' tp tr) : CJ w1 tp groups rec L k W' := by
  have key : ∀ {j : Nat} {o : Obj}, W.heap[j]? = some o → j ≠ tp → W'.heap[j]? = some o := fun {j o} hj hn => (hb.block j (Array.getElem?_eq_some_iff.1 hj).1 hn).trans hj
  obtain ⟨v, vs, h1, h2, h3⟩ := h.box
  obtain ⟨tr, es, m, hes, _⟩ := h.map
  exact {
    but := h.but.trans hb
    map := hm
    rec' := key h.rec' (by omega)
    dfr := key h.dfr (by omega)
    box := ⟨v, vs, key h1 (by omega), ownsRow_agree h2 fun j hj => hb.block j (h2.lt j hj).2 (by have := (h2.lt j hj).1; omega), h3.keep fun j c hc => hb.block j (Array.getElem?_eq_some_iff.1 hc).1 (by rintro rfl; rw [hc] at hes; cases hes)⟩ }

theorem CJ.step {w1 : World} {tp groups : Nat} {rec busy : Loop} {L : List (List Int)} {k : Nat} {W w3 : World} {v v' sv : Value} {vs : List Value} {gs : List Int} (h : CJ w1 tp groups rec L k W) (htp : tp < w1.heap.size)
    (h1 : W.heap[w1.heap.size]? = some (.cells #[v] 39 (0, 0))) (h2 : W.ownsRow w1.heap.size 25 1 v k vs) (h3 : Rows2 W groups vs L) (hgs : L[k]? = some gs) (hrow : W.ownsRow 0 30 2 sv (groups + 1) (gs.map intV))
    (hg : ((W.putObj (w1.heap.size + 2) (.loop busy)).alloc (.cells #[sv] 25)).grownBy w3 v.ownBlock) (ho : w3.ownsRow w1.heap.size 25 1 v' (k + 1) (vs ++ [sv])) :
    (w3.setCell ⟨w1.heap.size, 0, none⟩ v').heap[w1.heap.size + 2]? = some (.loop busy) ∧ CJ w1 tp groups rec L (k + 1) ((w3.setCell ⟨w1.heap.size, 0, none⟩ v').putObj (w1.heap.size + 2) (.loop rec)) ∧
      ((w3.setCell ⟨w1.heap.size, 0, none⟩ v').putObj (w1.heap.size + 2) (.loop rec)).ownsRow 0 30 2 sv (groups + 1) (gs.map intV) := by
  have hl2 : w1.heap.size + 2 < W.heap.size := (Array.getElem?_eq_some_iff.1 h.rec').1
  have hvn : ∀ {j : Nat} {o : Obj}, W.heap[j]? = some o → (∀ c, o ≠ .cells c 25 (0, 0)) → some j ≠ v.ownBlock := by
    intro j o hj ho' e
    obtain ⟨c, hc⟩ := ownsRow_blk h2 e.symm
    rw [hj] at hc
    cases hc
    exact ho' _ rfl
  -- a block that is not the record, not the box, not the row's
  have keep0 : ∀ {j : Nat} {o : Obj}, W.heap[j]? = some o → j ≠ w1.heap.size + 2 → some j ≠ v.ownBlock → w3.heap[j]? = some o := by
    intro j o hj n1 n2
    have hlt := (Array.getElem?_eq_some_iff.1 hj).1
    rw [hg.block j (by simp; omega) n2, al_old _ _ _ (by simpa using hlt), World.putObj_heap_other n1]
    exact hj
  have keep : ∀ {j : Nat} {o : Obj}, W.heap[j]? = some o → j ≠ w1.heap.size + 2 → j ≠ w1.heap.size → some j ≠ v.ownBlock → ((w3.setCell ⟨w1.heap.size, 0, none⟩ v').putObj (w1.heap.size + 2) (.loop rec)).heap[j]? = some o := by
    intro j o hj n1 n2 n3
    rw [World.putObj_heap_other n1, heap_setCell_other _ _ _ _ (by exact n2)]
    exact keep0 hj n1 n3
  have hbx : w3.heap[w1.heap.size]? = some (.cells #[v] 39 (0, 0)) := keep0 h1 (by omega) (hvn h1 (fun c e => by cases e))
  have hbx2 : (w3.setCell ⟨w1.heap.size, 0, none⟩ v').heap[w1.heap.size]? = some (.cells #[v'] 39 (0, 0)) := heap_setCell_same _ _ 0 _ _ v' hbx
  have hrc : w3.heap[w1.heap.size + 2]? = some (.loop busy) := by
    rw [hg.block _ (by simp; omega) (hvn h.rec' (fun c e => by cases e)), al_old _ _ _ (by simpa using hl2)]
    exact World.putObj_heap_same hl2
  have hrc2 : (w3.setCell ⟨w1.heap.size, 0, none⟩ v').heap[w1.heap.size + 2]? = some (.loop busy) := by
    rw [heap_setCell_other _ _ _ _ (by simp)]; exact hrc
  have hl3 : w1.heap.size + 2 < (w3.setCell ⟨w1.heap.size, 0, none⟩ v').heap.size := (Array.getElem?_eq_some_iff.1 hrc2).1
  have hr30 : ∀ (j : Nat) (c : Array Value), W.heap[j]? = some (.cells c 30 (0, 0)) → ((w3.setCell ⟨w1.heap.size, 0, none⟩ v').putObj (w1.heap.size + 2) (.loop rec)).heap[j]? = W.heap[j]? := by
    intro j c hc
    rw [hc]
    exact keep hc (by rintro rfl; rw [h.rec'] at hc; cases hc) (by rintro rfl; rw [h1] at hc; cases hc) (hvn hc (fun c e => by cases e))
  have hrow2 : ((w3.setCell ⟨w1.heap.size, 0, none⟩ v').putObj (w1.heap.size + 2) (.loop rec)).ownsRow 0 30 2 sv (groups + 1) (gs.map intV) := ownsRow_keep hrow fun j c _ hc => hr30 j c hc
  obtain ⟨tr, es, m, hes, htr⟩ := h.map
  refine ⟨hrc2, ?_, hrow2⟩
  have hsz : W.heap.size ≤ w3.heap.size := by have := hg.size; simp at this; omega
  exact {
    but := by
      refine ⟨?_, ?_, ?_, ?_, ?_⟩
      · exact hg.os.trans h.but.os
      · exact hg.tape.trans h.but.tape
      · exact hg.output.trans h.but.output
      · have := h.but.size; simp; omega
      · intro j hj hn
        have e1 := h.but.block j hj hn
        obtain ⟨o, ho1⟩ : ∃ o, w1.heap[j]? = some o := ⟨_, Array.getElem?_eq_getElem hj⟩
        rw [ho1] at e1 ⊢
        exact keep e1 (by omega) (by omega) (fun e => by have := (h2.lt j e.symm).1; omega)
    map := ⟨tr, es, m, keep hes (by omega) (by omega) (fun e => by have := (h2.lt tp e.symm).1; omega), htr⟩
    rec' := World.putObj_heap_same hl3
    dfr := keep h.dfr (by omega) (by omega) (hvn h.dfr (fun c e => by cases e))
    box := ⟨v', vs ++ [sv], (World.putObj_heap_other (by omega)).trans hbx2, ownsRow_keep ho fun j c _ hc => by
        have n1 : j ≠ w1.heap.size + 2 := by rintro rfl; rw [hrc] at hc; cases hc
        have n2 : j ≠ w1.heap.size := by rintro rfl; rw [hbx] at hc; cases hc
        rw [World.putObj_heap_other n1, heap_setCell_other _ _ _ _ (by exact n2)], by
        intro i x gs' hx hgs'
        have hlen : vs.length = k := by have := h2.1; omega
        rcases Nat.lt_trichotomy i k with hi | hi | hi
        · rw [List.getElem?_append_left (by omega)] at hx
          exact ownsRow_keep (h3 i x gs' hx hgs') fun j c _ hc => hr30 j c hc
        · subst hi
          rw [List.getElem?_append_right (by omega), hlen] at hx
          simp at hx
          subst hx
          rw [hgs] at hgs'
          cases hgs'
          exact hrow2
        · rw [List.getElem?_eq_none (by simp; omega)] at hx; cases hx⟩ }

theorem new_one (w : World) (x : Value) (T : TypeId) : ∀ (j : Nat) (u : Value), [x][j]? = some u → (w.alloc (.cells #[x] T)).cell? ((⟨w.heap.size, 0, none⟩ : Addr).add j) = some u := by
  intro j u hj
  match j, hj with
  | 0, hj => simp at hj; subst hj; simp [Addr.add]

/-- A row's value. -/
theorem ownsRow_slice {w : World} {base e size : Nat} {v : Value} {n : Nat} {xs : List Value} (h : w.ownsRow base e size v n xs) : ∃ a c, v = .slice a n c := by
  rcases h.2 with ⟨rfl, rfl⟩ | ⟨g, cap, cur, rfl, _⟩
  · exact ⟨_, _, rfl⟩
  · exact ⟨_, _, rfl⟩

theorem info25 : (Try.prog.info? 25).map (fun i => (i.zero, i.size, i.bytes)) = some (some (.slice none 0 0), 1, 24) := by kernel_rfl

end Go.Proofs.Ytfgghbideoehjaa

namespace Go.Proofs.Ytfgghbideoehjaa
open Go.ChangeShapes Go.WideShapes Go.ChangeAt Go.RowKit Go.Shelf
attribute [local go_sem] Oper.semAt_some
set_option linter.unusedVariables false
set_option linter.unusedSimpArgs false
set_option maxRecDepth 100000

theorem gall_len {M : Mc} {lk : Nat → Nat → Option Bool} {groups f : Nat} {L : List (List Int)} (h : GAll M lk groups f L) : L.length ≤ M.s.size + 1 - f := by
  induction h with
  | stop h => simp
  | miss h _ => simp
  | hit h hf hl h0 h1 hi he hz hn ih =>
    simp only [List.length_cons]
    split at ih <;> omega

def SeqR (w : World) (tp groups : Nat) (L : List (List Int)) (e : Ending) (w' : World) : Prop :=
  ∃ v vs, e = .returned v ∧ w'.ownsRow w.heap.size 25 1 v L.length vs ∧ Rows2 w' groups vs L ∧ But tp w w'

set_option maxHeartbeats 4000000 in
theorem append_seq (w : World) (B mp tp : Nat) (M : Mc) (lk : Nat → Nat → Option Bool) (groups pg pcap : Nat) (ra : Option Addr) (rc : Nat) (hM : MAt w mp tp M groups pg pcap ra rc) (hlk : LooksAt w mp tp M lk) (hmap : ∃ tr, MapAt w tp tr)
    (hB : w.heap[B]? = some (.cells #[.pointer (some ⟨mp, 0, none⟩)] 53 (0, 0))) (L : List (List Int)) (hall : GAll M lk groups 0 L) (hs : M.s.size ≤ 60) :
    Calls Try.prog 63 #[.slice none 0 0, .func (.func 64) #[] #[.pointer (some ⟨B, 0, none⟩)]] w (SeqR w tp groups L) := by
  have htp : tp < w.heap.size := by obtain ⟨tr, es, m, h, _⟩ := hmap; exact (Array.getElem?_eq_some_iff.1 h).1
  have hBl : B < w.heap.size := (Array.getElem?_eq_some_iff.1 hB).1
  have hBt : B ≠ tp := by rintro rfl; obtain ⟨tr, es, m, h, _⟩ := hmap; rw [hB] at h; cases h
  have hLl : L.length ≤ 61 := by have := gall_len hall; omega
  have HM := Lib.hid hM
  have HLK := Lib.hid hlk
  have HMAP := Lib.hid hmap
  have HBB := Lib.hid hB
  have HALL := Lib.hid hall
  clear hM hlk hmap hB hall
  refine (callsIn_wide (n := 8)).1 ?_
  refine callsIn_of_wp_marks Try.func63 rfl trivial ?_ rfl
  simp only [Try.ntmps63, List.size_toArray, List.length_cons, List.length_nil, Nat.reduceAdd, Nat.reduceSub, Array.replicate_succ, Array.replicate_zero, List.push_toArray, List.append_toArray, List.nil_append, List.cons_append]
  gi_wp2_with (fail)
  obtain ⟨A, hA, sA, aN, aO, bA⟩ := alloc_pack w #[.slice none 0 0] 39
  rw [hA]
  have eg := enters_of (P := Try.prog) (f := 64) Try.func64 (by kernel_rfl) rfl
  refine range_enter rfl (by omega) (gf := 64) (lb := #[.pointer (some ⟨B, 0, none⟩)]) rfl trivial eg ?_
  intro fn hfn
  rw [sA]
  generalize hRec : recOf fn _ #[7] _ _ _ LoopState.ready none = rec
  refine (matches_all 7 (by omega) mp tp M lk groups pg pcap ra rc L (fun k W => CJ w tp groups rec L k W) (w.heap.size + 1 + 1) B ?hJM ?hJB HALL.out hs ?hY _ ?h0).mono ?post
  case hJM =>
    intro k W h
    exact ⟨HM.out.but h.but, HLK.out.but h.but, h.map, (cell_of_blk ((h.but.block B hBl hBt).trans HBB.out) 0).trans rfl⟩
  case hJB =>
    intro k W W' h hb hm
    exact h.next htp hb hm
  case h0 =>
    have hA2 : w.heap.size ≤ A.heap.size := by omega
    have hA3 : w.heap.size ≤ (A.alloc (.deferred (some []))).heap.size := by rw [World.size_alloc]; omega
    have hX : But tp w ((A.alloc (.deferred (some []))).alloc (.loop rec)) := But.ofBelow ((bA.alloc hA2 _).alloc hA3 _)
    have hold : ∀ j, j < w.heap.size + 1 → ((A.alloc (.deferred (some []))).alloc (.loop rec)).heap[j]? = A.heap[j]? := fun j hj => by
      rw [al_old _ _ _ (by simp; omega), al_old _ _ _ (by omega)]
    obtain ⟨tr, es, m, hes, htr⟩ := HMAP.out
    exact {
      but := hX
      map := ⟨tr, es, m, by rw [hold tp (by omega), aO tp htp]; exact hes, htr⟩
      rec' := by have h := heap_alloc_new (A.alloc (.deferred (some []))) (.loop rec); rw [World.size_alloc, sA] at h; exact h
      dfr := by rw [al_old _ _ _ (by simp; omega), ← sA]; exact heap_alloc_new A _
      box := ⟨_, [], (hold _ (by omega)).trans aN, World.ownsRow_nil _ _ _ _, fun i x gs hx => by simp at hx⟩ }
  case hY =>
    intro k W sv gs hJ hgs hrow
    have hl := hJ.rec'
    rw [← hRec] at hl
    have hk : k < L.length := (List.getElem?_eq_some_iff.1 hgs).1
    obtain ⟨v, vs, hb1, hb2, hb3⟩ := hJ.box
    refine range_round (v := sv) (R := fun W' => CJ w tp groups rec L (k + 1) W' ∧ W'.ownsRow 0 30 2 sv (groups + 1) (gs.map intV)) (a₁ := ?a1) rfl trivial hl ?assign ?body
    case assign =>
      intro K hK
      gi_wp2
      exact hK
    case body =>
      have hlt : w.heap.size + 2 < W.heap.size := (Array.getElem?_eq_some_iff.1 hl).1
      generalize hbz : recOf fn _ #[7] _ _ _ LoopState.busy none = busy
      generalize hWb : W.putObj (w.heap.size + 1 + 1) (.loop busy) = Wb
      have hoth : ∀ j, j ≠ w.heap.size + 2 → Wb.heap[j]? = W.heap[j]? := fun j hj => by rw [← hWb]; exact World.putObj_heap_other hj
      have c0 : Wb.cell? ⟨w.heap.size, 0, none⟩ = some v := (cell_of_blk ((hoth _ (by omega)).trans hb1) 0).trans rfl
      have f0 : Wb.frozen? ⟨w.heap.size, 0, none⟩ = false := free_of_blk ((hoth _ (by omega)).trans hb1) 0
      have hrowb : Wb.ownsRow w.heap.size 25 1 v k vs := ownsRow_keep hb2 fun j c _ hc => hoth j (by rintro rfl; rw [hl] at hc; cases hc)
      have hszb : Hid (Wb.heap.size = W.heap.size) := Lib.hid (by rw [← hWb]; simp)
      have hszc : w.heap.size ≤ Wb.heap.size := by rw [hszb.out]; omega
      obtain ⟨i25, h25, h250, h251, h252⟩ := info_parts info25
      have HROWB := Lib.hid hrowb
      have HBX := Lib.hid ((hoth _ (by omega)).trans hb1)
      have HNE : Hid (some w.heap.size ≠ v.ownBlock) := Lib.hid fun e => by obtain ⟨c, hc⟩ := ownsRow_blk hb2 e.symm; rw [hb1] at hc; cases hc
      have HJ := Lib.hid hJ
      have HWB := Lib.hid hWb
      have HX := Lib.hid (And.intro hb1 (And.intro hb2 hb3))
      have HGS := Lib.hid hgs
      have HROW := Lib.hid hrow
      obtain ⟨rg, rcap, rfl⟩ := ownsRow_succ' hrow
      clear hrowb hJ hWb hb1 hb2 hb3 hgs hrow hoth
      gi_wp2_with (gi_at_builtin; refine (Hid.out (p := _) ?_))
      refine Lib.hid ?_
      refine wpListIn_append_own _ rfl _ _ 39 rfl w.heap.size 25 i25 (.slice none 0 0) 1 24 Try.underlying39 h25 h250 h251 h252 rfl (by decide) _ _ _ rfl (World.ownsRow.alloc HROWB.out _) ⟨Wb.heap.size, 0, none⟩ 1 1 [.slice (some ⟨rg, 0, none⟩) (groups + 1) rcap] rfl rfl (new_one _ _ _) (by intro u hu; simp at hu; subst hu; rfl) (by unfold maxLen; omega) (by omega) (by rw [World.size_alloc]; omega) ?_
      intro v' w5 hown' hgrow _
      have hbx5 : w5.heap[w.heap.size]? = some (.cells #[v] 39 (0, 0)) := (hgrow.block _ (by rw [World.size_alloc]; have := hszb.out; omega) HNE.out).trans ((al_old _ _ _ (by have := hszb.out; omega)).trans HBX.out)
      have c5 : w5.cell? ⟨w.heap.size, 0, none⟩ = some v := (cell_of_blk hbx5 0).trans rfl
      have f5 : w5.frozen? ⟨w.heap.size, 0, none⟩ = false := free_of_blk hbx5 0
      obtain ⟨va, vc, rfl⟩ := ownsRow_slice hown'
      have HO5 := Lib.hid hown'
      have HG5 := Lib.hid hgrow
      clear hown' hgrow hbx5
      gi_wp2
      have h9 := CJ.step (busy := busy) HJ.out htp HX.out.1 HX.out.2.1 HX.out.2.2 HGS.out HROW.out (by have h := HG5.out; rw [← HWB.out] at h; exact h) HO5.out
      exact h9
  case post =>
    rintro e W ⟨⟨v, rfl⟩, hJ⟩
    have hl := hJ.rec'
    have hel := run_endLoop (P := Try.prog) hl (by rw [← hRec]; simp)
    have hpend : rec.pending = none := by rw [← hRec]
    refine ⟨_, _, hel, ?_⟩
    rw [hpend]
    dsimp only
    generalize hW0 : W.putObj (w.heap.size + 2) (Obj.loop _) = W0
    obtain ⟨xv, vs, hb1, hb2, hb3⟩ := hJ.box
    have hoth : ∀ j, j ≠ w.heap.size + 2 → W0.heap[j]? = W.heap[j]? := fun j hj => by rw [← hW0]; exact World.putObj_heap_other hj
    have hne : ∀ (j : Nat) (c : Array Value) (T : TypeId), W.heap[j]? = some (.cells c T (0, 0)) → j ≠ w.heap.size + 2 := fun j c T hj => by rintro rfl; rw [hl] at hj; cases hj
    have hne2 : ∀ (j : Nat) (c : Array Value) (T : TypeId), W.heap[j]? = some (.cells c T (0, 0)) → j ≠ w.heap.size + 1 := fun j c T hj => by rintro rfl; rw [hJ.dfr] at hj; cases hj
    have c0 : W0.cell? ⟨w.heap.size, 0, none⟩ = some xv := (cell_of_blk ((hoth _ (by omega)).trans hb1) 0).trans rfl
    have hd0 : W0.heap[w.heap.size + 1]? = some (.deferred (some [])) := (hoth _ (by omega)).trans hJ.dfr
    have hsz : W0.heap.size = W.heap.size := by rw [← hW0]; simp
    have hbt := hJ.but
    have hfin : SeqR w tp groups L (.returned xv) (W0.putObj (w.heap.size + 1) (.deferred none)) := by
      refine ⟨xv, vs, rfl, ownsRow_keep hb2 fun j c _ hc => ?_, hb3.keep fun j c hc => ?_, ?_⟩
      · rw [World.putObj_heap_other (hne2 j c _ hc), hoth j (hne j c _ hc)]
      · rw [World.putObj_heap_other (hne2 j c _ hc), hoth j (hne j c _ hc)]
      · refine ⟨?_, ?_, ?_, ?_, ?_⟩
        · show W0.os = w.os; rw [← hW0]; exact hbt.os
        · show W0.tape = w.tape; rw [← hW0]; exact hbt.tape
        · show W0.output = w.output; rw [← hW0]; exact hbt.output
        · rw [World.putObj_size, hsz]; exact hbt.size
        · intro j hj hn
          rw [World.putObj_heap_other (by omega), hoth j (by omega)]
          exact hbt.block j hj hn
    have HF := Lib.hid hfin
    have HD := Lib.hid hd0
    clear hJ hl hel hpend hW0 hb1 hb2 hb3 hoth hne hne2 hd0 hsz hbt hfin
    gi_wp2
    refine ⟨by simp, .inl ⟨_, _, rfl, run_takeDeferred HD.out, ?_⟩⟩
    refine ⟨_, results_tmp rfl _ _ _, ?_⟩
    exact HF.out

set_option maxHeartbeats 1000000 in
theorem collect_seq (w : World) (B mp tp : Nat) (M : Mc) (lk : Nat → Nat → Option Bool) (groups pg pcap : Nat) (ra : Option Addr) (rc : Nat) (hM : MAt w mp tp M groups pg pcap ra rc) (hlk : LooksAt w mp tp M lk) (hmap : ∃ tr, MapAt w tp tr)
    (hB : w.heap[B]? = some (.cells #[.pointer (some ⟨mp, 0, none⟩)] 53 (0, 0))) (L : List (List Int)) (hall : GAll M lk groups 0 L) (hs : M.s.size ≤ 60) :
    Calls Try.prog 30 #[.func (.func 64) #[] #[.pointer (some ⟨B, 0, none⟩)]] w (SeqR w tp groups L) := by
  have HS := Lib.hid (append_seq w B mp tp M lk groups pg pcap ra rc hM hlk hmap hB L hall hs)
  clear hM hlk hmap hB hall
  go_enter Try.func30, Try.ntmps30
  go_wp2_with (fail)
  refine HS.out.mono ?_
  rintro e w' ⟨v, vs, rfl, h1, h2, h3⟩
  dsimp only
  have HR := Lib.hid (And.intro h1 (And.intro h2 h3))
  clear h1 h2 h3
  go_wp2
  go_ret
  exact ⟨_, vs, rfl, HR.out.1, HR.out.2.1, HR.out.2.2⟩

/-- What All answers. -/
def AllR (w : World) (groups : Nat) (L : List (List Int)) (e : Ending) (w' : World) : Prop :=
  ∃ v vs, e = .returned (.tuple #[v, .int .i64 0]) ∧ w'.ownsRow w.heap.size 25 1 v L.length vs ∧ Rows2 w' groups vs L ∧ Below w.heap.size w w'

set_option maxHeartbeats 1000000 in
theorem all_ok (w : World) (p s : ByteArray) (fl ln : Bool) (fin : PSt) (deep : Nat) (hP : PatG p fin deep) (hs : s.size ≤ 60) (D : Nat) (L : List (List Int)) (hall : GAll (fin.mc fl ln s) (lkD (fin.mc fl ln s) D) fin.groups 0 L) :
    Calls Try.prog 17 #[.string p, .string s, .bool fl, .bool ln] w (AllR w fin.groups L) := by
  have HMA := Lib.hid (machined_ok w p s fl ln fin deep hP (by omega))
  have HALL := Lib.hid hall
  clear hP hall
  go_enter Try.func17, Try.ntmps17
  go_wp2_with (fail)
  refine HMA.out.mono ?_
  rintro e w1 ⟨mp, tp, pg, pcap, ra, rc, rfl, hM, hmap, hbel, htp⟩
  dsimp only
  have HM := Lib.hid hM
  have HMAP := Lib.hid hmap
  have HBEL := Lib.hid hbel
  clear hM hmap hbel
  go_wp2_with (fail)
  refine (matches_fn w1 mp).mono ?_
  rintro e w2 ⟨rfl, hw2⟩
  dsimp only
  obtain ⟨A, hA, sA, aN, aO, bA⟩ := alloc_pack w1 #[.pointer (some ⟨mp, 0, none⟩)] 53
  rw [hA] at hw2
  subst hw2
  have hM2 := HM.out.but (But.ofBelow bA)
  have ltp : tp < w1.heap.size := by obtain ⟨es, mm, h, _⟩ := HMAP.out; exact (Array.getElem?_eq_some_iff.1 h).1
  have HC := Lib.hid (collect_seq w2 w1.heap.size mp tp _ _ fin.groups pg pcap ra rc hM2 (looks_any D _ w2 mp tp _ _ _ _ _ hM2) ⟨[], HMAP.out.but (aO tp ltp)⟩ aN L HALL.out (by show s.size ≤ 60; omega))
  have HBA := Lib.hid bA
  clear hA sA aN aO bA hM2
  go_wp2_with (fail)
  refine HC.out.mono ?_
  rintro e w3 ⟨v, vs, rfl, h1, h2, h3⟩
  dsimp only
  have h12 : Below w.heap.size w w2 := HBEL.out.trans (HBA.out.mono HBEL.out.size)
  have h13 : Below w.heap.size w w3 := h12.trans (h3.below htp h12.size)
  have HR := Lib.hid (And.intro (ownsRow_mono h1 h12.size) (And.intro h2 h13))
  clear h1 h2 h3 h12 h13
  go_wp2
  go_ret2
  exact ⟨_, vs, rfl, HR.out.1, HR.out.2.1, HR.out.2.2⟩

set_option maxHeartbeats 1000000 in
theorem all_err (w : World) (p s : ByteArray) (fl ln : Bool) (hp : p.size ≤ 50000) {k c : Nat} (h : readOf p = .err k c) :
    Calls Try.prog 17 #[.string p, .string s, .bool fl, .bool ln] w fun e w' => e = .returned (.tuple #[.slice none 0 0, .int .i64 (c : Int)]) ∧ Below w.heap.size w w' := by
  have HMA := Lib.hid (machined_err w p s fl ln hp h)
  have hc := read_err h
  have t1 : ((c : Int) == 0) = false := by simp; omega
  clear h hc
  go_enter Try.func17, Try.ntmps17
  go_wp2_with (fail)
  refine HMA.out.mono ?_
  rintro e w1 ⟨rfl, hbel⟩
  dsimp only
  have HB := Lib.hid hbel
  clear hbel
  go_wp2
  go_ret2
  exact ⟨rfl, HB.out⟩

end Go.Proofs.Ytfgghbideoehjaa

namespace Go.Proofs.Ytfgghbideoehjaa
open Go.ChangeShapes Go.WideShapes Go.ChangeAt Go.RowKit
set_option linter.unusedVariables false
set_option linter.unusedSimpArgs false
set_option maxRecDepth 100000

/-- Matches ascend. -/
inductive Asc (z : Nat) : Nat → List (List Int) → Prop where
  | nil {f : Nat} : Asc z f []
  | cons {f i e : Nat} {gs : List Int} {l : List (List Int)} (h0 : gs[0]? = some (i : Int)) (h1 : gs[1]? = some (e : Int)) (hi : f ≤ i) (he : i ≤ e) (hz : e ≤ z) (hn : Asc z (if i = e then e + 1 else e) l) : Asc z f (gs :: l)

theorem gall_asc {M : Mc} {lk : Nat → Nat → Option Bool} {groups f : Nat} {L : List (List Int)} (h : GAll M lk groups f L) : Asc M.s.size f L := by
  induction h with
  | stop h => exact .nil
  | miss h _ => exact .nil
  | hit h hf hl h0 h1 hi he hz hn ih => exact .cons h0 h1 hi he hz ih

/-- The parts of a text from an index on. -/
def partsOf (s : ByteArray) : Nat → List (List Int) → List ByteArray
  | a, [] => [s.extract a s.size]
  | a, gs :: l => if (gs.getD 0 0).toNat < (gs.getD 1 0).toNat then s.extract a (gs.getD 0 0).toNat :: partsOf s (gs.getD 1 0).toNat l else partsOf s a l

theorem partsOf_nil (s : ByteArray) (a : Nat) : partsOf s a [] = [s.extract a s.size] := rfl
theorem partsOf_lt {s : ByteArray} {a i e : Nat} {gs : List Int} {l : List (List Int)} (h0 : gs[0]? = some (i : Int)) (h1 : gs[1]? = some (e : Int)) (h : i < e) : partsOf s a (gs :: l) = s.extract a i :: partsOf s e l := by
  rw [partsOf, List.getD_eq_getElem?_getD, List.getD_eq_getElem?_getD, h0, h1]
  simp only [Option.getD_some, Int.toNat_natCast]
  rw [if_pos h]
theorem partsOf_eq {s : ByteArray} {a i : Nat} {gs : List Int} {l : List (List Int)} (h0 : gs[0]? = some (i : Int)) (h1 : gs[1]? = some (i : Int)) : partsOf s a (gs :: l) = partsOf s a l := by
  rw [partsOf, List.getD_eq_getElem?_getD, List.getD_eq_getElem?_getD, h0, h1]
  simp only [Option.getD_some, Int.toNat_natCast]
  rw [if_neg (by omega)]

theorem asc_at {z f : Nat} {L : List (List Int)} {k : Nat} (h : Asc z f (L.drop k)) (hk : k < L.length) :
    ∃ gs i e, L[k]? = some gs ∧ L.drop k = gs :: L.drop (k + 1) ∧ gs[0]? = some ((i : Nat) : Int) ∧ gs[1]? = some ((e : Nat) : Int) ∧ f ≤ i ∧ i ≤ e ∧ e ≤ z ∧ Asc z (if i = e then e + 1 else e) (L.drop (k + 1)) := by
  have hd : L.drop k = L[k] :: L.drop (k + 1) := List.drop_eq_getElem_cons hk
  rw [hd] at h
  cases h with
  | cons h0 h1 hi he hz hn => exact ⟨L[k], _, _, List.getElem?_eq_getElem hk, hd, h0, h1, hi, he, hz, hn⟩

def SplitR (w : World) (s : ByteArray) (L : List (List Int)) (e : Ending) (w' : World) : Prop :=
  ∃ v, e = .returned (.tuple #[v, .int .i64 0]) ∧ w'.ownsRow w.heap.size 9 1 v (partsOf s 0 L).length ((partsOf s 0 L).map Value.string) ∧ Below w.heap.size w w'

theorem info9 : (Try.prog.info? 9).map (fun i => (i.zero, i.size, i.bytes)) = some (some (.string ⟨#[]⟩), 1, 16) := by kernel_rfl

set_option maxHeartbeats 4000000 in
theorem split_ok (w : World) (p s : ByteArray) (fl ln : Bool) (fin : PSt) (deep : Nat) (hP : PatG p fin deep) (hs : s.size ≤ 60) (D : Nat) (L : List (List Int)) (hall : GAll (fin.mc fl ln s) (lkD (fin.mc fl ln s) D) fin.groups 0 L) :
    Calls Try.prog 18 #[.string p, .string s, .bool fl, .bool ln] w (SplitR w s L) := by
  have HA := Lib.hid (all_ok w p s fl ln fin deep hP hs D L hall)
  have HASC := Lib.hid (show Asc s.size 0 L from gall_asc hall)
  have hLl : L.length ≤ 61 := by have h := gall_len hall; have : (fin.mc fl ln s).s = s := rfl; rw [this] at h; omega
  obtain ⟨i9, h9, h90, h91, h92⟩ := info_parts info9
  clear hall hP
  go_enter Try.func18, Try.ntmps18
  go_wp2_with (fail)
  refine HA.out.mono ?_
  rintro e w1 ⟨v, vs, rfl, hrow, hrows, hbel⟩
  dsimp only
  obtain ⟨ra, rc, rfl⟩ := ownsRow_slice hrow
  have HROW := Lib.hid hrow
  have HROWS := Lib.hid hrows
  have HBEL := Lib.hid hbel
  clear hrow hrows hbel
  go_wp2_with (fail)
  go_loopw [12, 13, 29] (fun out at' i wr => ∃ (k a f : Nat) (acc : List ByteArray), i = .int .i64 (k : Int) ∧ at' = .int .i64 (a : Int) ∧ k ≤ L.length ∧ a ≤ f ∧ a ≤ s.size ∧ Asc s.size f (L.drop k) ∧ acc ++ partsOf s a (L.drop k) = partsOf s 0 L ∧ acc.length ≤ k ∧ wr.ownsRow w1.heap.size 9 1 out acc.length (acc.map Value.string) ∧ Below w1.heap.size w1 wr) (fun out at' i wr => L.length - (intOf i).toNat)
  case atStart => exact ⟨0, 0, 0, [], rfl, rfl, Nat.zero_le _, Nat.le_refl _, Nat.zero_le _, HASC.out, rfl, Nat.le_refl _, World.ownsRow_nil _ _ _ _, Below.refl _ _⟩
  case round =>
    obtain ⟨k, a, f, acc, rfl, rfl, hk, haf, haz, hasc, hacc, hal, hout, hbelr⟩ := hrel
    obtain ⟨oa, oc, rfl⟩ := ownsRow_slice hout
    have hsz := hbelr.size
    have HOUT := Lib.hid hout
    have HBR := Lib.hid hbelr
    clear hout hbelr
    by_cases hlt : k < L.length
    · obtain ⟨gs, i, e, hgk, hd, h0, h1, hi, he, hz, hn⟩ := asc_at hasc hlt
      obtain ⟨x, hx⟩ : ∃ x, vs[k]? = some x := ⟨_, List.getElem?_eq_getElem (by have := HROW.out.1; omega)⟩
      have hr := HROWS.out k x gs hx hgk
      obtain ⟨g, c, rfl⟩ := ownsRow_succ' hr
      have hge : ∃ ga gc, (Value.slice ra L.length rc) = .slice (some ⟨ga, 0, none⟩) L.length gc := by
        rcases HROW.out.2 with ⟨h, h0⟩ | ⟨g, cap, cur, h, _⟩
        · omega
        · exact ⟨g, cap, h⟩
      obtain ⟨ga, gc, hge⟩ := hge
      cases hge
      have hx1 : wr.cell? ⟨ga, k, none⟩ = some (.slice (some ⟨g, 0, none⟩) (fin.groups + 1) c) := by
        rw [HBR.out.cell (p := ⟨ga, k, none⟩) (World.ownsRow.lt HROW.out ga rfl).2, HROW.out.cellAt k (by omega), hx]
      have hgl := (World.ownsRow.lt hr g rfl).2
      have y0 : wr.cell? ⟨g, 0, none⟩ = some (.int .i64 (i : Int)) := by
        rw [HBR.out.cell (p := ⟨g, 0, none⟩) hgl, World.ownsRow.cellAt hr 0 (by omega), List.getElem?_map, h0]; rfl
      have y1 : wr.cell? ⟨g, 1, none⟩ = some (.int .i64 (e : Int)) := by
        rw [HBR.out.cell (p := ⟨g, 1, none⟩) hgl, World.ownsRow.cellAt hr 1 (by omega), List.getElem?_map, h1]; rfl
      have t1 : (k : Int) < (L.length : Int) := by omega
      have hgi : (0 : Int) < ((fin.groups + 1 : Nat) : Int) := by omega
      have hgi2 : 0 < fin.groups + 1 := by omega
      rw [hd] at hacc
      have HR := Lib.hid hr
      have HN := Lib.hid hn
      have H01 := Lib.hid (And.intro h0 h1)
      have HACC := Lib.hid hacc
      clear hasc hd h0 h1 hn hacc hr hx hgk
      by_cases hie : i < e
      · have t2 : (i : Int) < (e : Int) := by omega
        have e3 : i ≠ e := by omega
        have hsl : ∀ wx : World, (Instr.slice 9 (.string s) (some (.int .i64 (a : Int))) (some (.int .i64 (i : Int))) none).run Try.prog wx = .ok (.string (s.extract a i)) wx := fun wx => by
          have := run_slice_string (P := Try.prog) wx 9 s .i64 .i64 (a : Int) (i : Int) Try.underlying9 (by omega) (by omega) (by omega)
          rw [this, Int.toNat_natCast, Int.toNat_natCast]
        have hacc2 := HACC.out
        rw [partsOf_lt H01.out.1 H01.out.2 hie] at hacc2
        have hn2 := HN.out
        rw [if_neg e3] at hn2
        have HN2 := Lib.hid hn2
        have HACC2 := Lib.hid hacc2
        clear hn2 hacc2
        go_wp2_with (fail)
        go_region
        go_wp2_with (at_builtin; refine (Hid.out (p := _) ?_))
        refine Lib.hid ?_
        refine wpList_append_own _ rfl _ _ 42 rfl w1.heap.size 9 i9 (.string ⟨#[]⟩) 1 16 Try.underlying42 h9 h90 h91 h92 rfl (by decide) _ _ _ rfl (by exact World.ownsRow.alloc (w := wr) HOUT.out _) ⟨wr.heap.size, 0, none⟩ 1 1 [.string (s.extract a i)] rfl rfl (by exact new_one wr _ _) (by intro u hu; simp at hu; subst hu; rfl) (by unfold maxLen; omega) (by omega) (by show w1.heap.size ≤ (wr.alloc _).heap.size; rw [World.size_alloc]; omega) ?_
        intro v' w5 hown' hgrow _
        have hb5 : Below w1.heap.size w1 w5 := ((HBR.out.alloc hsz _).drew).grown hgrow (by show w1.heap.size ≤ (wr.alloc _).heap.size; rw [World.size_alloc]; omega) (fun k hk => (HOUT.out.lt k hk).1)
        have y5 : w5.cell? ⟨g, 1, none⟩ = some (.int .i64 (e : Int)) := by
          rw [hb5.cell (p := ⟨g, 1, none⟩) hgl, World.ownsRow.cellAt HR.out 1 (by omega), List.getElem?_map, H01.out.2]; rfl
        have HO5 := Lib.hid hown'
        have HB5 := Lib.hid hb5
        clear hown' hgrow hb5
        go_wp2_with (fail)
        go_roundw
        case rel => exact ⟨k + 1, e, e, acc ++ [s.extract a i], by go_num, rfl, by omega, Nat.le_refl _, hz, HN2.out, by simpa using HACC2.out, by simp; omega, by simpa using HO5.out, HB5.out⟩
        case measure => simp [intOf]; omega
      · obtain rfl : i = e := by omega
        have t2 : ¬ (i : Int) < (i : Int) := by omega
        have hacc2 := HACC.out
        rw [partsOf_eq H01.out.1 H01.out.2] at hacc2
        have hn2 := HN.out
        rw [if_pos rfl] at hn2
        go_wp2_with (fail)
        go_region
        go_wp2_with (fail)
        go_roundw
        case rel => exact ⟨k + 1, a, _, acc, by go_num, rfl, by omega, by omega, haz, hn2, hacc2, by omega, HOUT.out, HBR.out.drew⟩
        case measure => simp [intOf]; omega
    · have t1 : ¬ (k : Int) < (L.length : Int) := by omega
      obtain rfl : k = L.length := by omega
      have hacc2 := hacc
      rw [List.drop_length, partsOf_nil] at hacc2
      have HACC2 := Lib.hid hacc2
      clear hacc hacc2 hasc
      have hsl : ∀ wx : World, (Instr.slice 9 (.string s) (some (.int .i64 (a : Int))) none none).run Try.prog wx = .ok (.string (s.extract a s.size)) wx := fun wx => by
        have := run_slice_string_l (P := Try.prog) wx 9 s Try.underlying9 .i64 (a : Int) (by omega) (by omega)
        rw [this, Int.toNat_natCast]
      go_wp2_with (at_builtin; refine (Hid.out (p := _) ?_))
      refine Lib.hid ?_
      refine wpList_append_own _ rfl _ _ 42 rfl w1.heap.size 9 i9 (.string ⟨#[]⟩) 1 16 Try.underlying42 h9 h90 h91 h92 rfl (by decide) _ _ _ rfl (World.ownsRow.alloc (w := wr) HOUT.out _) ⟨wr.heap.size, 0, none⟩ 1 1 [.string (s.extract a s.size)] rfl rfl (new_one _ _ _) (by intro u hu; simp at hu; subst hu; rfl) (by unfold maxLen; omega) (by omega) (by rw [World.size_alloc]; omega) ?_
      intro v' w5 hown' hgrow _
      have hb5 : Below w1.heap.size w1 w5 := (HBR.out.alloc hsz _).grown hgrow (by rw [World.size_alloc]; omega) (fun k hk => (HOUT.out.lt k hk).1)
      have HO5 := Lib.hid hown'
      have HB5 := Lib.hid hb5
      clear hown' hgrow hb5
      go_wp2_with (fail)
      go_ret2
      refine ⟨_, rfl, ?_, HBEL.out.trans (HB5.out.mono HBEL.out.size)⟩
      rw [← HACC2.out]
      simpa using ownsRow_mono HO5.out HBEL.out.size

set_option maxHeartbeats 1000000 in
theorem split_err (w : World) (p s : ByteArray) (fl ln : Bool) (hp : p.size ≤ 50000) {k c : Nat} (h : readOf p = .err k c) :
    Calls Try.prog 18 #[.string p, .string s, .bool fl, .bool ln] w fun e w' => e = .returned (.tuple #[.slice none 0 0, .int .i64 (c : Int)]) ∧ Below w.heap.size w w' := by
  have HMA := Lib.hid (all_err w p s fl ln hp h)
  have hc := read_err h
  have t1 : ((c : Int) == 0) = false := by simp; omega
  clear h hc
  go_enter Try.func18, Try.ntmps18
  go_wp2_with (fail)
  refine HMA.out.mono ?_
  rintro e w1 ⟨rfl, hbel⟩
  dsimp only
  have HB := Lib.hid hbel
  clear hbel
  go_wp2
  go_ret2
  exact ⟨rfl, HB.out⟩

theorem parts_len (s : ByteArray) : ∀ (a : Nat) (L : List (List Int)), (partsOf s a L).length ≤ L.length + 1
  | a, [] => by simp [partsOf]
  | a, gs :: l => by
    unfold partsOf
    split
    · have := parts_len s (gs.getD 1 0).toNat l
      simp only [List.length_cons]; omega
    · have := parts_len s a l
      simp only [List.length_cons]; omega

end Go.Proofs.Ytfgghbideoehjaa
