/-
  The compiler: the length of what is compiled; add at any byte.
  The compiler: add at a group.
  The compiler: add at pieces.
  The compiler: once.
  The compiler: a repetition from 0 to endless.
  The compiler: add at a repetition from 0 to endless.
-/
import Derived.Test.YtfgghbideoehjaaCompAToCompD
import Derived.Deep.LoopGhost
import Derived.Test.YtfgghbideoehjaaStepBToReadA
namespace Go.Proofs.Ytfgghbideoehjaa
open Go.ChangeShapes Go.WideShapes Go.ChangeAt Go.RowKit
set_option linter.unusedVariables false
set_option maxRecDepth 100000

theorem patch_len (ends : List Nat) : ∀ p : List Ins, (patch ends p).length = p.length := by
  induction ends with
  | nil => intro p; rfl
  | cons e l ih => intro p; simp only [patch, List.foldl_cons] at ih ⊢; rw [ih]; simp

mutual
theorem comp_mono : ∀ (t : Nd) (p : List Ins × Nat), p.1.length ≤ (comp t p).1.length ∧ p.2 ≤ (comp t p).2
  | .one s n, p => by simp [comp]
  | .place _, p => by simp [comp]
  | .look _ _, p => by simp [comp]
  | .back _, p => by simp [comp]
  | .pieces l, p => by simp only [comp]; exact compL_mono l p
  | .branches l, p => by simp only [comp]; exact compB_mono l [] p
  | .times i _ _ _, p => by
    have := comp_mono i (p.1 ++ [.mk1 3 0] ++ [.mk1 6 p.2], p.2 + 1)
    simp [comp] at this ⊢
    omega
  | .group n i, p => by
    simp only [comp]
    split
    · have := comp_mono i (p.1 ++ [.mk1 5 (2 * n)], p.2)
      simp at this ⊢
      omega
    · exact comp_mono i p
theorem compL_mono : ∀ (l : List Nd) (p : List Ins × Nat), p.1.length ≤ (compL l p).1.length ∧ p.2 ≤ (compL l p).2
  | [], p => by simp [compL]
  | t :: l, p => by
    simp only [compL]
    have h1 := comp_mono t p
    have h2 := compL_mono l (comp t p)
    omega
theorem compB_mono : ∀ (l : List Nd) (ends : List Nat) (p : List Ins × Nat), p.1.length ≤ (compB l ends p).1.length ∧ p.2 ≤ (compB l ends p).2
  | [], ends, p => by simp [compB, patch_len]
  | [t], ends, p => by
    simp only [compB, patch_len]
    exact comp_mono t p
  | t :: u :: l, ends, p => by
    simp only [compB]
    have h1 := comp_mono t (setA (p.1 ++ [.mk1 3 0]) p.1.length (p.1.length + 1), p.2)
    generalize comp t (setA (p.1 ++ [.mk1 3 0]) p.1.length (p.1.length + 1), p.2) = r at *
    have h2 := compB_mono (u :: l) (ends ++ [r.1.length]) (setB (r.1 ++ [.mk1 4 0]) p.1.length (r.1.length + 1), r.2)
    simp at h1 h2
    omega
end

set_option maxHeartbeats 1000000 in
theorem add_dot (base cp : Nat) (w0 : World) : AddOk base cp w0 (.one .zero BSet.zero.not) (.iface 124 (.agg (BSet.zero.vals ++ BSet.zero.not.vals).toArray)) := by
  intro w prog marks pv hB hC hbase hl hm
  have hne : BSet.zero.not ≠ .zero := by decide
  simp only [comp, if_neg hne] at hl hm ⊢
  have hll : prog.length ≤ 1000000 := by simp at hl; omega
  have hca := hC
  have c2 : w.cell? ⟨cp, 2, none⟩ = some (.bool false) := (cell_of_blk hca.blk 2).trans rfl
  have c3 : w.cell? ⟨cp, 3, none⟩ = some (.bool false) := (cell_of_blk hca.blk 3).trans rfl
  have lcp : cp < w.heap.size := World.block_lt_of_cell? w _ c2
  have HC := Lib.hid hC
  have HNE := Lib.hid hne
  clear hC hca hne
  show Calls Try.prog 70 #[.pointer (some ⟨cp, 0, none⟩), .iface 124 (.agg #[.int .u64 0, .int .u64 0, .int .u64 0, .int .u64 0, .int .u64 18446744073709551615, .int .u64 18446744073709551615, .int .u64 18446744073709551615, .int .u64 18446744073709551615])] w _
  have hh := hit124
  go_enter Try.func70, Try.ntmps70
  go_wp2_with (fail)
  refine (bytes_all .zero _ cp ((World.cell?_alloc_lt w _ _ lcp).trans c2) ((World.cell?_alloc_lt w _ _ lcp).trans c3)).mono ?_
  rintro e w1 ⟨rfl, hb1⟩
  have HB1 := Lib.hid hb1
  clear hb1 c2 c3
  have B1 : Below w.heap.size w w1 := ((Below.refl _ w).alloc (Nat.le_refl _) _).trans (HB1.out.mono (by simp))
  have hs1 := B1.size
  have HBB := Lib.hid B1
  clear B1
  go_wp2_with (fail)
  refine (emit_any (HC.out.ext HBB.out) (by omega) hll ⟨0, 0, 0, BSet.zero.not, 0⟩ rfl).mono ?_
  rintro e w2 ⟨rfl, hq⟩
  have HQ := Lib.hid hq
  clear hq
  go_wp2
  go_end0
  obtain ⟨pv', q1, q2⟩ := HQ.out
  exact ⟨rfl, pv', q1, (CStep.ofBelow HBB.out).trans q2⟩

end Go.Proofs.Ytfgghbideoehjaa

namespace Go.Proofs.Ytfgghbideoehjaa
open Go.ChangeShapes Go.WideShapes Go.ChangeAt Go.RowKit
set_option linter.unusedVariables false
set_option maxRecDepth 100000

set_option maxHeartbeats 1000000 in
theorem add_group (base cp : Nat) (w0 : World) (n : Nat) (hn : 0 < n) (hn2 : n ≤ 100000) (i : Nd) (T : TypeId) (u : Value) (hin : AddOk base cp w0 i (.iface T u)) : AddOk base cp w0 (.group n i) (.iface 141 (.agg #[.int .i64 (n : Int), .iface T u])) := by
  intro w prog marks pv hB hC hbase hl hm
  simp only [comp, if_pos hn] at hl hm ⊢
  have hmo := comp_mono i (prog ++ [.mk1 5 (2 * n)], marks)
  simp only [List.length_append, List.length_cons, List.length_nil] at hl hmo
  have hin1 := fun (w1 : World) (pv1 : Value) (h1 : Below base w0 w1) (h2 : CAt base w1 cp (prog ++ [.mk1 5 (2 * n)]) marks false false pv1) (h3 : base ≤ w1.heap.size) => hin w1 _ _ pv1 h1 h2 h3 (by omega) hm
  generalize comp i (prog ++ [.mk1 5 (2 * n)], marks) = r at *
  obtain ⟨rp, rm⟩ := r
  simp only at hl hm hmo hin1 ⊢
  have lcp : cp < w.heap.size := (Array.getElem?_eq_some_iff.1 hC.blk).1
  have hpn : pv.ownBlock ≠ some w.heap.size := fun e => by have := (hC.row.lt _ e).2; omega
  have HC := Lib.hid hC
  have HB := Lib.hid hB
  have HI := Lib.hid hin1
  clear hC hB hin hin1
  have a1 := miss141_124
  have a2 := miss141_121
  have a3 := miss141_133
  have a4 := miss141_135
  have a5 := miss141_109
  have a6 := miss141_108
  have a7 := miss141_139
  have a8 := hit141
  have t0 : (0 : Int) < n := by omega
  obtain ⟨A, hA, sA, aN, aO, bA⟩ := alloc_pack w #[.int .i64 (n : Int), .iface T u] 141
  have HA := Lib.hid hA
  have HN := Lib.hid aN
  have HS := Lib.hid sA
  have HB1 := Lib.hid bA
  clear hA aN aO sA bA
  go_enter Try.func70, Try.ntmps70
  go_wp2_with (fail)
  rw [HA.out]
  have x0 : A.cell? ⟨w.heap.size, 0, none⟩ = some (.int .i64 (n : Int)) := (cell_of_blk HN.out 0).trans rfl
  have x1 : A.cell? ⟨w.heap.size, 1, none⟩ = some (.iface T u) := (cell_of_blk HN.out 1).trans rfl
  have lA : w.heap.size < A.heap.size := by rw [HS.out]; omega
  have hcA := HC.out.ext HB1.out
  refine (emit_any hcA (by omega) (by omega) (.mk1 5 (2 * n)) (by simp [Ins.cells, BSet.zero])).mono ?_
  rintro e w2 ⟨rfl, pv2, hc2, hs2⟩
  have hcp : w.heap.size ≠ cp := by omega
  have y0 := hs2.cell x0 hcp hpn
  have y1 := hs2.cell x1 hcp hpn
  have HC2 := Lib.hid hc2
  have HS2 := Lib.hid hs2
  have HCA := Lib.hid hcA
  have l2 : w.heap.size < w2.heap.size := by have := hs2.size; omega
  have hpn2 : pv2.ownBlock ≠ some w.heap.size := by
    rcases hs2.tag with e | e
    · rw [e]; exact hpn
    · exact fun e2 => by have := e _ e2; omega
  clear hc2 hs2 hcA x0 x1
  go_wp2_with (fail)
  refine (HI.out _ pv2 ((HB.out.trans (HB1.out.mono hbase)).trans (HS2.out.below HCA.out (by omega))) HC2.out (by omega)).mono ?_
  rintro e w3 ⟨rfl, pv3, hc3, hs3⟩
  have z0 := hs3.cell y0 hcp hpn2
  have HC3 := Lib.hid hc3
  have HS3 := Lib.hid hs3
  have l3 : w.heap.size < w3.heap.size := by have := hs3.size; omega
  clear hc3 hs3 y0 y1
  go_wp2_with (fail)
  refine (emit_any HC3.out (by omega) (by omega) (.mk1 5 (2 * n + 1)) (by simp [Ins.cells, BSet.zero])).mono ?_
  rintro e w4 ⟨rfl, pv4, hc4, hs4⟩
  have HC4 := Lib.hid hc4
  have HS4 := Lib.hid hs4
  clear hc4 hs4
  go_wp2
  go_end0
  exact ⟨rfl, pv4, HC4.out, (((CStep.ofBelow HB1.out).trans HS2.out).trans HS3.out).trans HS4.out⟩

end Go.Proofs.Ytfgghbideoehjaa

namespace Go.Proofs.Ytfgghbideoehjaa
open Go.ChangeShapes Go.WideShapes Go.ChangeAt Go.RowKit
set_option linter.unusedVariables false
set_option maxRecDepth 100000

theorem compL_append : ∀ (l m : List Nd) (p : List Ins × Nat), compL (l ++ m) p = compL m (compL l p)
  | [], m, p => by simp [compL]
  | t :: l, m, p => by simp [compL, compL_append l m]

set_option maxHeartbeats 1000000 in
theorem add_pieces (base cp : Nat) (w0 : World) (l : List Nd) (sv : Value) (vs : List Value) (hrow : w0.ownsRow 0 62 1 sv vs.length vs) (hbk : ∀ k, sv.ownBlock = some k → k < base) (hlen : l.length = vs.length) (hvl : vs.length ≤ 1000000)
    (hall : ∀ (j : Nat) t v, l[j]? = some t → vs[j]? = some v → AddOk base cp w0 t v ∧ ∃ T u, v = .iface T u) : AddOk base cp w0 (.pieces l) (.iface 109 sv) := by
  intro w prog marks pv hB hC hbase hl hm
  simp only [comp] at hl hm ⊢
  have lcp : cp < w.heap.size := (Array.getElem?_eq_some_iff.1 hC.blk).1
  obtain ⟨a, k, c, rfl⟩ := ownsRow_shape hrow
  have hk : k = vs.length := by
    rcases hrow.2 with ⟨h, h0⟩ | ⟨g, cap, cur, h, _⟩
    · cases h; exact h0.symm
    · cases h; rfl
  subst hk
  have HR := Lib.hid hrow
  have HL := Lib.hid hlen
  have HALL := Lib.hid hall
  have HC := Lib.hid hC
  have HB := Lib.hid hB
  have HBK := Lib.hid hbk
  have HLL := Lib.hid hl
  have HMM := Lib.hid hm
  clear hC hB hrow hlen hall hbk hl hm
  have a1 := miss109_124
  have a2 := miss109_121
  have a3 := miss109_133
  have a4 := miss109_135
  have a8 := hit109
  go_enter Try.func70, Try.ntmps70
  go_wp2_with (fail)
  go_loopg [96] vs.length (fun k i wr => ∃ (j : Nat) (pv' : Value), j ≤ vs.length ∧ k = vs.length - j ∧ i = .int .i64 (j : Int) ∧ CAt base wr cp (compL (l.take j) (prog, marks)).1 (compL (l.take j) (prog, marks)).2 false false pv' ∧ CStep cp w pv wr pv')
  case atStart => exact ⟨0, pv, Nat.zero_le _, rfl, rfl, by simpa [compL] using HC.out, CStep.ofBelow (Below.refl _ _)⟩
  case round =>
    obtain ⟨j, pv', hj, hk, rfl, hc, hs⟩ := hrel
    have HK := Lib.hid hk
    have HCJ := Lib.hid hc
    have HSJ := Lib.hid hs
    have hsz := hs.size
    clear hk hc hs
    by_cases hlt : j < vs.length
    · obtain ⟨v, hv⟩ : ∃ v, vs[j]? = some v := ⟨_, List.getElem?_eq_getElem hlt⟩
      obtain ⟨t, ht⟩ : ∃ t, l[j]? = some t := ⟨_, List.getElem?_eq_getElem (by rw [HL.out]; exact hlt)⟩
      obtain ⟨hadd, T, u, rfl⟩ := HALL.out j t v ht hv
      have hbw : Below base w0 wr := HB.out.trans (HSJ.out.below HC.out hbase)
      obtain ⟨g, cap, ha⟩ : ∃ g cap, (Value.slice a vs.length c) = .slice (some ⟨g, 0, none⟩) vs.length cap := by
        rcases HR.out.2 with ⟨h, h0⟩ | ⟨g, cap, cur, h, _⟩
        · omega
        · exact ⟨g, cap, h⟩
      cases ha
      have hcell : wr.cell? ⟨g, j, none⟩ = some (.iface T u) := by
        have hr := HR.out
        rw [hbw.cell (p := ⟨g, j, none⟩) (HBK.out g rfl), hr.cellAt j (by omega)]; exact hv
      have hnext : compL (l.take (j + 1)) (prog, marks) = comp t (compL (l.take j) (prog, marks)) := by
        rw [List.take_add_one, ht, compL_append]; simp [compL]
      have hfull : compL l (prog, marks) = compL (l.drop (j + 1)) (compL (l.take (j + 1)) (prog, marks)) := by rw [← compL_append, List.take_append_drop]
      have hmo := compL_mono (l.drop (j + 1)) (compL (l.take (j + 1)) (prog, marks))
      rw [← hfull] at hmo
      have hl1 : (comp t (compL (l.take j) (prog, marks))).1.length ≤ 1000000 := by rw [← hnext]; have := HLL.out; omega
      have hm1 : (comp t (compL (l.take j) (prog, marks))).2 ≤ 1000000 := by rw [← hnext]; have := HMM.out; omega
      have hcall := hadd wr _ _ pv' hbw HCJ.out (by omega) hl1 hm1
      have HCALL := Lib.hid hcall
      have HNX := Lib.hid hnext
      clear hcall hnext hfull hmo hl1 hm1 hv ht hadd hbw
      go_wp2_with (fail)
      refine HCALL.out.mono ?_
      rintro e w2 ⟨rfl, pv2, hc2, hs2⟩
      have HC2 := Lib.hid hc2
      have HS2 := Lib.hid hs2
      clear hc2 hs2
      go_wp2
      go_roundg (vs.length - (j + 1))
      case measure => rw [HK.out]; omega
      case rel =>
        refine ⟨j + 1, pv2, by omega, rfl, by go_num, ?_, HSJ.out.trans HS2.out⟩
        rw [HNX.out]; exact HC2.out
    · have hje : j = vs.length := by omega
      have HE := Lib.hid hje
      clear hje
      go_wp2
      go_end0
      have e1 : l.take j = l := List.take_of_length_le (by rw [HE.out, HL.out]; exact Nat.le_refl _)
      have hq := HCJ.out
      rw [e1] at hq
      exact ⟨rfl, pv', hq, HSJ.out⟩

end Go.Proofs.Ytfgghbideoehjaa

namespace Go.Proofs.Ytfgghbideoehjaa
open Go.ChangeShapes Go.WideShapes Go.ChangeAt Go.RowKit
set_option linter.unusedVariables false
set_option maxRecDepth 100000

theorem CAt.mark {base : Nat} {w : World} {cp : Nat} {prog : List Ins} {marks : Nat} {fold lines : Bool} {pv : Value} (h : CAt base w cp prog marks fold lines pv) (m : Nat) :
    CAt base (w.setCell ⟨cp, 1, none⟩ (.int .i64 (m : Int))) cp prog m fold lines pv :=
  ⟨h.cb, heap_setCell_same _ _ 1 _ _ _ h.blk, ownsRow_agree h.row fun j hj => heap_setCell_other _ _ _ _ (by rintro rfl; exact h.ne hj), h.ne⟩
theorem CStep.mark {cp : Nat} (w : World) (pv v : Value) : CStep cp w pv (w.setCell ⟨cp, 1, none⟩ v) pv :=
  ⟨rfl, rfl, rfl, by simp, fun b hb hc hp => heap_setCell_other _ _ _ _ (by exact hc), .inl rfl⟩

set_option maxHeartbeats 1000000 in
theorem once_any {base cp : Nat} {w0 : World} {i : Nd} {T : TypeId} {u : Value} (hin : AddOk base cp w0 i (.iface T u)) {lo hi : Int} {lz : Bool} {w : World} {prog : List Ins} {marks : Nat} {pv : Value}
    (hB : Below base w0 w) (hC : CAt base w cp prog marks false false pv) (hbase : base ≤ w.heap.size) (hl : (comp i (prog ++ [.mk1 3 0] ++ [.mk1 6 marks], marks + 1)).1.length ≤ 999999) (hm : (comp i (prog ++ [.mk1 3 0] ++ [.mk1 6 marks], marks + 1)).2 ≤ 1000000) :
    Calls Try.prog 90 #[.pointer (some ⟨cp, 0, none⟩), .agg #[.iface T u, .int .i64 lo, .int .i64 hi, .bool lz]] w fun e w' => e = .returned (.int .i64 (prog.length : Int)) ∧
      ∃ pv', CAt base w' cp ((comp i (prog ++ [.mk1 3 0] ++ [.mk1 6 marks], marks + 1)).1 ++ [.mk1 7 marks]) (comp i (prog ++ [.mk1 3 0] ++ [.mk1 6 marks], marks + 1)).2 false false pv' ∧ CStep cp w pv w' pv' := by
  have hmo := comp_mono i (prog ++ [.mk1 3 0] ++ [.mk1 6 marks], marks + 1)
  simp only [List.length_append, List.length_cons, List.length_nil] at hmo
  have hin1 := fun (w1 : World) (pv1 : Value) (h1 : Below base w0 w1) (h2 : CAt base w1 cp (prog ++ [.mk1 3 0] ++ [.mk1 6 marks]) (marks + 1) false false pv1) (h3 : base ≤ w1.heap.size) => hin w1 _ _ pv1 h1 h2 h3 (by omega) hm
  generalize comp i (prog ++ [.mk1 3 0] ++ [.mk1 6 marks], marks + 1) = r at *
  obtain ⟨rp, rm⟩ := r
  simp only at hl hm hmo hin1 ⊢
  have lcp : cp < w.heap.size := (Array.getElem?_eq_some_iff.1 hC.blk).1
  have hpn : pv.ownBlock ≠ some w.heap.size := fun e => by have := (hC.row.lt _ e).2; omega
  have hcp : w.heap.size ≠ cp := by omega
  have HC := Lib.hid hC
  have HB := Lib.hid hB
  have HI := Lib.hid hin1
  clear hC hB hin hin1
  obtain ⟨A, hA, sA, aN, aO, bA⟩ := alloc_pack w #[.iface T u, .int .i64 lo, .int .i64 hi, .bool lz] 139
  have HA := Lib.hid hA
  have HN := Lib.hid aN
  have HS := Lib.hid sA
  have HB1 := Lib.hid bA
  clear hA aN aO sA bA
  go_enter Try.func90, Try.ntmps90
  go_wp2_with (fail)
  rw [HA.out]
  have x0 : A.cell? ⟨w.heap.size, 0, none⟩ = some (.iface T u) := (cell_of_blk HN.out 0).trans rfl
  have lA : w.heap.size < A.heap.size := by rw [HS.out]; omega
  have hcA := HC.out.ext HB1.out
  refine (emit_any hcA (by omega) (by omega) (.mk1 3 0) (by simp [Ins.cells, BSet.zero])).mono ?_
  rintro e w2 ⟨rfl, pv2, hc2, hs2⟩
  have y0 := hs2.cell x0 hcp hpn
  have m2 : w2.cell? ⟨cp, 1, none⟩ = some (.int .i64 (marks : Int)) := (cell_of_blk hc2.blk 1).trans rfl
  have f2 := free_of_blk hc2.blk 1
  have l2 : w.heap.size < w2.heap.size := by have := hs2.size; omega
  have lc2 : cp < w2.heap.size := by omega
  have hpn2 : pv2.ownBlock ≠ some w.heap.size := by
    rcases hs2.tag with e | e
    · rw [e]; exact hpn
    · exact fun e2 => by have := e _ e2; omega
  have hc2' := hc2.mark (marks + 1)
  have hs2' := hs2.trans (CStep.mark (cp := cp) w2 pv2 (.int .i64 ((marks + 1 : Nat) : Int)))
  have y0' : (w2.setCell ⟨cp, 1, none⟩ (.int .i64 ((marks + 1 : Nat) : Int))).cell? ⟨w.heap.size, 0, none⟩ = some (.iface T u) := (CStep.mark (cp := cp) w2 pv2 _).cell y0 hcp hpn2
  have HC2 := Lib.hid hc2'
  have HS2 := Lib.hid hs2'
  have HCA := Lib.hid hcA
  have HY := Lib.hid y0'
  have mi : ((marks : Int) + 1) = ((marks + 1 : Nat) : Int) := by push_cast; rfl
  have hm' : marks ≤ 1000000 := by omega
  have HMI := Lib.hid mi
  clear hc2 hs2 hcA x0 hc2' hs2' y0' mi y0
  go_wp2_with (fail)
  rw [HMI.out]
  obtain ⟨W2, hW2⟩ : ∃ W2, (w2.setCell ⟨cp, 1, none⟩ (.int .i64 ((marks + 1 : Nat) : Int))) = W2 := ⟨_, rfl⟩
  rw [hW2]
  have hc2 := HC2.out
  have hs2 := HS2.out
  have y0 := HY.out
  rw [hW2] at hc2 hs2 y0
  have L2 : w.heap.size < W2.heap.size := by rw [← hW2]; simpa using l2
  clear hW2
  refine (emit_any hc2 (by omega) (by simp; omega) (.mk1 6 marks) (by simp [Ins.cells, BSet.zero])).mono ?_
  rintro e w3 ⟨rfl, pv3, hc3, hs3⟩
  have z0 := hs3.cell y0 hcp hpn2
  have hs3' := hs2.trans hs3
  have l3 : w.heap.size < w3.heap.size := by have := hs3.size; omega
  have HC3 := Lib.hid hc3
  have HS3 := Lib.hid hs3'
  clear hc3 hs3 hs3' hc2 hs2 y0 m2 f2
  go_wp2_with (fail)
  refine (HI.out _ pv3 ((HB.out.trans (HB1.out.mono hbase)).trans (HS3.out.below HCA.out (by omega))) HC3.out (by omega)).mono ?_
  rintro e w4 ⟨rfl, pv4, hc4, hs4⟩
  have HC4 := Lib.hid hc4
  have HS4 := Lib.hid hs4
  have l4 : w.heap.size < w4.heap.size := by have := hs4.size; omega
  clear hc4 hs4 z0
  go_wp2_with (fail)
  refine (emit_any HC4.out (by omega) (by omega) (.mk1 7 marks) (by simp [Ins.cells, BSet.zero])).mono ?_
  rintro e w5 ⟨rfl, pv5, hc5, hs5⟩
  have HC5 := Lib.hid hc5
  have HS5 := Lib.hid hs5
  clear hc5 hs5
  go_wp2
  go_ret
  exact ⟨rfl, pv5, HC5.out, (((CStep.ofBelow HB1.out).trans HS3.out).trans HS4.out).trans HS5.out⟩

end Go.Proofs.Ytfgghbideoehjaa

namespace Go.Proofs.Ytfgghbideoehjaa
open Go.ChangeShapes Go.WideShapes Go.ChangeAt Go.RowKit
set_option linter.unusedVariables false
set_option maxRecDepth 100000

set_option maxHeartbeats 1000000 in
theorem times_star {base cp : Nat} {w0 : World} {i : Nd} {T : TypeId} {u : Value} (hin : AddOk base cp w0 i (.iface T u)) {w : World} {prog : List Ins} {marks : Nat} {pv : Value}
    (hB : Below base w0 w) (hC : CAt base w cp prog marks false false pv) (hbase : base ≤ w.heap.size) (hl : (comp (.times i 0 (-1) false) (prog, marks)).1.length ≤ 1000000) (hm : (comp (.times i 0 (-1) false) (prog, marks)).2 ≤ 1000000) :
    Calls Try.prog 85 #[.pointer (some ⟨cp, 0, none⟩), .agg #[.iface T u, .int .i64 0, .int .i64 (-1), .bool false]] w fun e w' => e = .returned (.tuple #[]) ∧
      ∃ pv', CAt base w' cp (comp (.times i 0 (-1) false) (prog, marks)).1 (comp (.times i 0 (-1) false) (prog, marks)).2 false false pv' ∧ CStep cp w pv w' pv' := by
  simp only [comp] at hl hm ⊢
  have hmo := comp_mono i (prog ++ [.mk1 3 0] ++ [.mk1 6 marks], marks + 1)
  simp only [List.length_append, List.length_cons, List.length_nil, setB_len, setA_len] at hl hmo
  have hon := fun (w1 : World) (pv1 : Value) (h1 : Below base w0 w1) (h2 : CAt base w1 cp prog marks false false pv1) (h3 : base ≤ w1.heap.size) => once_any (lo := 0) (hi := -1) (lz := false) hin h1 h2 h3 (by omega) hm
  generalize comp i (prog ++ [.mk1 3 0] ++ [.mk1 6 marks], marks + 1) = r at *
  obtain ⟨rp, rm⟩ := r
  simp only at hl hm hmo hon ⊢
  have lcp : cp < w.heap.size := (Array.getElem?_eq_some_iff.1 hC.blk).1
  have hpn : pv.ownBlock ≠ some w.heap.size := fun e => by have := (hC.row.lt _ e).2; omega
  have hcp : w.heap.size ≠ cp := by omega
  have HC := Lib.hid hC
  have HB := Lib.hid hB
  have HI := Lib.hid hon
  clear hC hB hin hon
  obtain ⟨A, hA, sA, aN, aO, bA⟩ := alloc_pack w #[.iface T u, .int .i64 0, .int .i64 (-1), .bool false] 139
  have HA := Lib.hid hA
  have HN := Lib.hid aN
  have HS := Lib.hid sA
  have HB1 := Lib.hid bA
  clear hA aN aO sA bA
  go_enter Try.func85, Try.ntmps85
  go_wp2_with (fail)
  rw [HA.out]
  have x0 : A.cell? ⟨w.heap.size, 0, none⟩ = some (.iface T u) := (cell_of_blk HN.out 0).trans rfl
  have x1 : A.cell? ⟨w.heap.size, 1, none⟩ = some (.int .i64 0) := (cell_of_blk HN.out 1).trans rfl
  have x2 : A.cell? ⟨w.heap.size, 2, none⟩ = some (.int .i64 (-1)) := (cell_of_blk HN.out 2).trans rfl
  have x3 : A.cell? ⟨w.heap.size, 3, none⟩ = some (.bool false) := (cell_of_blk HN.out 3).trans rfl
  have lA : w.heap.size < A.heap.size := by rw [HS.out]; omega
  have HcA := Lib.hid (HC.out.ext HB1.out)
  go_loopg [10] 1 (fun k i wr => k = 1 ∧ i = .int .i64 0 ∧ wr = A)
  case atStart => exact ⟨rfl, rfl, rfl⟩
  case round =>
    obtain ⟨_, rfl, rfl⟩ := hrel
    go_wp2_with (fail)
    refine (HI.out _ pv (HB.out.trans (HB1.out.mono hbase)) HcA.out (by omega)).mono ?_
    rintro e w2 ⟨rfl, pv2, hc2, hs2⟩
    have y3 := hs2.cell x3 hcp hpn
    have hpn2 : pv2.ownBlock ≠ some w.heap.size := by
      rcases hs2.tag with e | e
      · rw [e]; exact hpn
      · exact fun e2 => by have := e _ e2; omega
    have l2 : w.heap.size < w2.heap.size := by have := hs2.size; omega
    have HC2 := Lib.hid hc2
    have HS2 := Lib.hid hs2
    clear hc2 hs2 x0 x1 x2 x3
    go_wp2_with (fail)
    refine (emit_any HC2.out (by omega) (by simp; omega) (.mk1 4 prog.length) (by simp [Ins.cells, BSet.zero])).mono ?_
    rintro e w3 ⟨rfl, pv3, hc3, hs3⟩
    have z3 := hs3.cell y3 hcp hpn2
    have l3 : w.heap.size < w3.heap.size := by have := hs3.size; omega
    obtain ⟨g, cap, hpv3, _⟩ := hc3.shape (k := 0) (by simp)
    have q0 : w3.cell? ⟨cp, 0, none⟩ = some pv3 := (cell_of_blk hc3.blk 0).trans rfl
    rw [hpv3] at q0
    simp only [List.length_append, List.length_cons, List.length_nil] at q0
    have lc3 : cp < w3.heap.size := by omega
    have HC3 := Lib.hid hc3
    have HS3 := Lib.hid hs3
    clear hc3 hs3 y3 hpv3
    go_wp2_with (fail)
    go_region_with (first | (go_at_call 91; refine (choose_any (k := prog.length) (out := rp.length + 1 + 1) (HC3.out.ext (by exact (Below.refl _ w3).drew)) (by simp; omega) (by simp; omega)).mono ?_; rintro e w4 ⟨rfl, pv4, hc4, hs4⟩))
    all_goals
      have HC4 := Lib.hid hc4
      have HS4 := Lib.hid hs4
      clear hc4 hs4
      go_wp2
      refine bodyPost_ret (results_none rfl _ _ _) rfl ?_
      refine ⟨rfl, pv4, ?_, ?_⟩
      · have := HC4.out
        simpa using this
      · exact ((((CStep.ofBelow HB1.out).trans HS2.out).trans HS3.out).trans (CStep.ofBelow (Below.refl _ w3).drew)).trans HS4.out

end Go.Proofs.Ytfgghbideoehjaa

namespace Go.Proofs.Ytfgghbideoehjaa
open Go.ChangeShapes Go.WideShapes Go.ChangeAt Go.RowKit
set_option linter.unusedVariables false
set_option maxRecDepth 100000

set_option maxHeartbeats 1000000 in
theorem add_times (base cp : Nat) (w0 : World) (i : Nd) (T : TypeId) (u : Value) (hin : AddOk base cp w0 i (.iface T u)) : AddOk base cp w0 (.times i 0 (-1) false) (.iface 139 (.agg #[.iface T u, .int .i64 0, .int .i64 (-1), .bool false])) := by
  intro w prog marks pv hB hC hbase hl hm
  have hts := fun (w1 : World) (h1 : Below base w0 w1) (h2 : CAt base w1 cp prog marks false false pv) (h3 : base ≤ w1.heap.size) => times_star hin h1 h2 h3 hl hm
  generalize comp (.times i 0 (-1) false) (prog, marks) = r at *
  obtain ⟨rp, rm⟩ := r
  simp only at hl hm hts ⊢
  have HC := Lib.hid hC
  have HB := Lib.hid hB
  have HI := Lib.hid hts
  clear hC hB hin hts
  have a1 := miss139_124
  have a2 := miss139_121
  have a3 := miss139_133
  have a4 := miss139_135
  have a5 := miss139_109
  have a6 := miss139_108
  have a8 := hit139
  obtain ⟨A, hA, sA, aN, aO, bA⟩ := alloc_pack w #[.iface T u, .int .i64 0, .int .i64 (-1), .bool false] 139
  have HA := Lib.hid hA
  have HB1 := Lib.hid bA
  have HS := Lib.hid sA
  clear hA aN aO sA bA
  go_enter Try.func70, Try.ntmps70
  go_wp2_with (fail)
  rw [HA.out]
  refine (HI.out _ (HB.out.trans (HB1.out.mono hbase)) (HC.out.ext HB1.out) (by have := HS.out; omega)).mono ?_
  rintro e w2 ⟨rfl, pv2, hc2, hs2⟩
  have HC2 := Lib.hid hc2
  have HS2 := Lib.hid hs2
  clear hc2 hs2
  go_wp2
  go_end0
  exact ⟨rfl, pv2, HC2.out, (CStep.ofBelow HB1.out).trans HS2.out⟩

end Go.Proofs.Ytfgghbideoehjaa
