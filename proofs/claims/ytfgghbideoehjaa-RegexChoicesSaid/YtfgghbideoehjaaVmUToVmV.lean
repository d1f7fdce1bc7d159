/-
  The machine of a pattern and a text: machined, Check, Valid.
  Find.
-/
import Derived.Test.YtfgghbideoehjaaVmSToVmT
import Derived.Test.YtfgghbideoehjaaReadB
namespace Go.Proofs.Ytfgghbideoehjaa
open Go.ChangeShapes Go.WideShapes Go.ChangeAt Go.RowKit
set_option linter.unusedVariables false
set_option linter.unusedSimpArgs false
set_option maxRecDepth 100000

/-- A pattern that is read and compiled as the plain functions say. -/
structure Pat (p : ByteArray) (fin : PSt) (deep : Nat) : Prop where
  runs : Runs (PSt.start p) 0 fin deep
  size : p.size ≤ 100000
  low : fin.low = []
  groups : fin.groups ≤ 20
  deep : deep ≤ 100
  nsize : fin.top.whole.size ≤ 5000
  fine : fin.top.whole.fine
  cov : fin.top.whole.cov
  clen : (comp fin.top.whole ([], 0)).1.length ≤ 999990
  cmarks : (comp fin.top.whole ([], 0)).2 ≤ 1000000
  norefs : ∀ b ∈ fin.refs, b = false
  rlen : fin.refs.length ≤ 1000000
  wf : ∀ i ∈ (comp fin.top.whole ([], 0)).1, i.set.WF

/-- The program of a pattern. -/
abbrev PSt.prog (fin : PSt) : List Ins := (comp fin.top.whole ([], 0)).1 ++ [.mk1 9 0]
abbrev PSt.marks (fin : PSt) : Nat := (comp fin.top.whole ([], 0)).2

def MachR (w : World) (fin : PSt) (s : ByteArray) (e : Ending) (w' : World) : Prop :=
  ∃ mp tp pg pcap ra rc, e = .returned (.tuple #[.pointer (some ⟨mp, 0, none⟩), .int .i64 0]) ∧ MAt w' mp tp fin.prog fin.marks fin.groups fin.refs s pg pcap ra rc ∧ MapAt w' tp [] ∧ Below w.heap.size w w' ∧ w.heap.size ≤ tp

set_option maxHeartbeats 1000000 in
theorem machined_any (w : World) (p s : ByteArray) (fin : PSt) (deep : Nat) (hP : Pat p fin deep) (hs : s.size ≤ 200) :
    Calls Try.prog 25 #[.string p, .string s, .bool false, .bool false] w (MachR w fin s) := by
  have hread := read_calls w p fin deep hP.runs hP.size hP.low hP.groups hP.deep hP.nsize hP.fine
  have HREAD := Lib.hid hread
  have HP := Lib.hid hP
  have t1 : ¬ ((s.size : Int) > 65536) := by omega
  have t2 : ¬ ((s.size : Int) > 200) := by omega
  clear hread hP
  go_enter Try.func25, Try.ntmps25
  go_wp2_with (fail)
  refine HREAD.out.mono ?_
  rintro e w1 ⟨G, root, refsv, rfl, hN, hG, hrefs, hrb, hbel⟩
  dsimp only
  obtain ⟨T, u, rfl⟩ := hN.iface
  obtain ⟨ra, rn, rc, rfl⟩ := ownsRow_shape hrefs
  obtain ⟨A, hA, sA, aN, aO, bA⟩ := alloc_pack w1 #[.iface T u, .int .i64 (fin.groups : Int), .slice ra rn rc, .int .i64 (deep : Int)] 65
  have hcall := compiled_any A s fin.top.whole T u (fin.groups : Int) (deep : Int) ra rn rc (fun b hb => by have := (hG b hb).2; omega) (NodeAt.agree (fun b hb => aO b (hG b hb).2) (fun b hb => hb) _ _ hN) HP.out.cov HP.out.clen HP.out.cmarks
  have x0 : A.cell? ⟨w1.heap.size, 0, none⟩ = some (.iface T u) := (cell_of_blk aN 0).trans rfl
  have x1 : A.cell? ⟨w1.heap.size, 1, none⟩ = some (.int .i64 (fin.groups : Int)) := (cell_of_blk aN 1).trans rfl
  have x2 : A.cell? ⟨w1.heap.size, 2, none⟩ = some (.slice ra rn rc) := (cell_of_blk aN 2).trans rfl
  have x3 : A.cell? ⟨w1.heap.size, 3, none⟩ = some (.int .i64 (deep : Int)) := (cell_of_blk aN 3).trans rfl
  have HA := Lib.hid hA
  have HCALL := Lib.hid hcall
  have HREFS := Lib.hid hrefs
  have HRB := Lib.hid hrb
  have HBEL := Lib.hid hbel
  have HBA := Lib.hid bA
  have HSA := Lib.hid sA
  clear hA sA aN aO bA hcall hrefs hrb hbel hN hG
  go_wp2_with (fail)
  rw [HA.out]
  go_wp2_with (fail)
  refine HCALL.out.mono ?_
  rintro e w2 ⟨mp, tp, pv, rfl, hmade⟩
  dsimp only
  have HMADE := Lib.hid hmade
  clear hmade
  go_wp2
  go_ret2
  have hrn : rn = fin.refs.length := by
    rcases HREFS.out.2 with ⟨h, h0⟩ | ⟨g, cap, cur, h, _⟩
    · cases h; exact h0.symm
    · cases h; rfl
  subst hrn
  have hm := HMADE.out
  obtain ⟨pg, pcap, rfl⟩ := ownsRow_succ' (n := (comp fin.top.whole ([], 0)).1.length) (by have := hm.row; simpa using this)
  have hb12 : Below w1.heap.size w1 w2 := HBA.out.trans (hm.below.mono (by rw [HSA.out]; omega))
  have hsA := HSA.out
  refine ⟨mp, tp, pg, pcap, ra, rc, rfl, ?_, ⟨_, _, hm.tried, rfl⟩, HBEL.out.trans (hb12.mono HBEL.out.size), by have := HBEL.out.size; have := hm.lt; omega⟩
  have hlen : ((comp fin.top.whole ([], 0)).1 ++ [Ins.mk1 9 0]).length = (comp fin.top.whole ([], 0)).1.length + 1 := by simp
  exact {
    blk := ⟨_, (_, .bool false, .bool false), by rw [hlen]; exact hm.blk⟩
    row := by rw [hlen]; have := ownsRow_mono hm.row (Nat.zero_le _); rw [hlen] at this; exact this
    refsr := ownsRow_agree HREFS.out fun j hj => hb12.block j (HREFS.out.lt j hj).2
    norefs := HP.out.norefs
    ne := hm.ne
    pne := fun e => hm.pt (by rw [← e]; rfl)
    rne := fun k hk e => by have := (HREFS.out.lt k hk).2; have := hm.lt; omega
    wf := fun i hi => by
      rcases List.mem_append.1 hi with h | h
      · exact HP.out.wf i h
      · simp at h; subst h; exact BSet.zero_wf
    plen := by have := HP.out.clen; rw [hlen]; omega
    rlen := HP.out.rlen
    glen := by have := HP.out.groups; omega
    mlen := HP.out.cmarks
    slen := by omega }

set_option maxHeartbeats 1000000 in
theorem check_any (w : World) (p : ByteArray) (fin : PSt) (deep : Nat) (hP : Pat p fin deep) :
    Calls Try.prog 27 #[.string p] w fun e w' => e = .returned (.tuple #[.int .i64 0, .int .i64 0]) ∧ Below w.heap.size w w' := by
  have hread := read_calls w p fin deep hP.runs hP.size hP.low hP.groups hP.deep hP.nsize hP.fine
  have HREAD := Lib.hid hread
  clear hread hP
  go_enter Try.func27, Try.ntmps27
  go_wp2_with (fail)
  refine HREAD.out.mono ?_
  rintro e w1 ⟨G, root, refsv, rfl, hN, hG, hrefs, hrb, hbel⟩
  dsimp only
  have HBEL := Lib.hid hbel
  clear hN hG hrefs hrb hbel
  go_wp2
  go_ret2
  exact ⟨rfl, HBEL.out⟩

set_option maxHeartbeats 1000000 in
theorem valid_any (w : World) (p : ByteArray) (fin : PSt) (deep : Nat) (hP : Pat p fin deep) :
    Calls Try.prog 12 #[.string p] w fun e w' => e = .returned (.bool true) ∧ Below w.heap.size w w' := by
  go_enter Try.func12, Try.ntmps12
  go_wp2_with (fail)
  refine (check_any w p fin deep hP).mono ?_
  rintro e w1 ⟨rfl, hbel⟩
  dsimp only
  have HBEL := Lib.hid hbel
  clear hbel
  go_wp2
  go_ret
  exact ⟨rfl, HBEL.out⟩

end Go.Proofs.Ytfgghbideoehjaa

namespace Go.Proofs.Ytfgghbideoehjaa
open Go.ChangeShapes Go.WideShapes Go.ChangeAt Go.RowKit
set_option linter.unusedVariables false
set_option linter.unusedSimpArgs false
set_option maxRecDepth 100000

def FindR (w : World) (res : Option (List Int)) (e : Ending) (w' : World) : Prop :=
  Below w.heap.size w w' ∧
    match res with
    | none => e = .returned (.tuple #[.slice none 0 0, .int .i64 8])
    | some gs => ∃ sv, e = .returned (.tuple #[sv, .int .i64 0]) ∧ w'.ownsRow w.heap.size 30 2 sv (gs.length / 2) (gs.map intV)

set_option maxHeartbeats 1000000 in
theorem find_any (w : World) (p s : ByteArray) (fin : PSt) (deep : Nat) (hP : Pat p fin deep) (hs : s.size ≤ 200) (a : Nat) (ha : a ≤ s.size) (res : Option (List Int)) (hf : VFound fin.prog s fin.groups fin.marks a [] res) :
    Calls Try.prog 11 #[.string p, .string s, .int .i64 (a : Int), .bool false, .bool false] w (FindR w res) := by
  have HMA := Lib.hid (machined_any w p s fin deep hP hs)
  have HF := Lib.hid hf
  have t1 : ¬ ((a : Int) < 0) := by omega
  have t2 : ¬ ((a : Int) > (s.size : Int)) := by omega
  clear hf hP
  go_enter Try.func11, Try.ntmps11
  go_wp2_with (fail)
  refine HMA.out.mono ?_
  rintro e w1 ⟨mp, tp, pg, pcap, ra, rc, rfl, hM, hmap, hbel, htp⟩
  dsimp only
  have hfo := found_any w1 mp tp fin.prog fin.marks fin.groups fin.refs s pg pcap ra rc hM [] hmap a (by omega) res HF.out
  have HFO := Lib.hid hfo
  have HBEL := Lib.hid hbel
  clear hM hmap hfo hbel
  go_wp2_with (fail)
  refine HFO.out.mono ?_
  rintro e w2 ⟨hbut, _, hres⟩
  have hB : Below w.heap.size w w2 := HBEL.out.trans (hbut.below htp HBEL.out.size)
  have HB := Lib.hid hB
  clear hbut hB
  cases res with
  | none =>
    subst hres
    dsimp only
    go_wp2
    go_ret2
    exact ⟨HB.out, rfl⟩
  | some gs =>
    obtain ⟨sv, rfl, hrow⟩ := hres
    have HROW := Lib.hid hrow
    clear hrow
    dsimp only
    go_wp2
    go_ret2
    exact ⟨HB.out, sv, rfl, ownsRow_mono HROW.out HBEL.out.size⟩

end Go.Proofs.Ytfgghbideoehjaa
