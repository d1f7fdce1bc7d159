/-
  The compiler at a look ahead.
  The compiler over the switches: choose, a repetition.
  The compiler over the switches: add at any node but a look ahead; a pattern compiled.
  How long a compiled pattern is; its sets.
  The tree that the parser builds of any text.
-/
import Derived.Test.YtfgghbideoehjaaCxCToCxD
import Derived.Test.YtfgghbideoehjaaReadD
import Derived.Test.YtfgghbideoehjaaGmBToGmF
namespace Go.Proofs.Ytfgghbideoehjaa
open Go.ChangeShapes Go.WideShapes Go.ChangeAt Go.RowKit
set_option linter.unusedVariables false
set_option linter.unusedSimpArgs false
set_option maxRecDepth 100000

variable {fl ln : Bool}

theorem miss135_124 (u : Value) (w : World) : (Instr.typeAssert (.iface 135 u) 62 124 true).run Try.prog w = .ok (.tuple #[.agg #[.int .u64 0, .int .u64 0, .int .u64 0, .int .u64 0, .int .u64 0, .int .u64 0, .int .u64 0, .int .u64 0], .bool false]) w := by kernel_rfl
theorem miss135_121 (u : Value) (w : World) : (Instr.typeAssert (.iface 135 u) 62 121 true).run Try.prog w = .ok (.tuple #[.agg #[.int .u8 0], .bool false]) w := by kernel_rfl
theorem miss135_133 (u : Value) (w : World) : (Instr.typeAssert (.iface 135 u) 62 133 true).run Try.prog w = .ok (.tuple #[.agg #[.int .i64 0], .bool false]) w := by kernel_rfl
theorem hit135 (u : Value) (w : World) : (Instr.typeAssert (.iface 135 u) 62 135 true).run Try.prog w = .ok (.tuple #[u, .bool true]) w := by kernel_rfl

set_option maxHeartbeats 2000000 in
theorem addX_look_false (base cp : Nat) (w0 : World) (i : Nd) (T : TypeId) (u : Value) (hin : AddX fl ln base cp w0 i (.iface T u)) : AddX fl ln base cp w0 (.look i false) (.iface 135 (.agg #[.iface T u, .bool false])) := by
  intro w prog marks pv hB hC hbase hl hm
  simp only [cmp, if_true, Bool.false_eq_true, if_false] at hl hm ⊢
  obtain ⟨Q, hQ⟩ : ∃ Q, setA (prog ++ [.mk1 2 0] ++ [.mk1 4 0]) prog.length (prog.length + 2) = Q := ⟨_, rfl⟩
  have hQl : Q.length = prog.length + 2 := by rw [← hQ]; simp
  rw [hQ] at hl hm ⊢
  have hmo := cmp_mono fl ln i (Q, marks)
  simp only [setA_len, List.length_append, List.length_cons, List.length_nil] at hl hmo
  have hin1 := fun (w1 : World) (pv1 : Value) (h1 : Below base w0 w1) (h2 : CAt base w1 cp Q marks fl ln pv1) (h3 : base ≤ w1.heap.size) => hin w1 _ _ pv1 h1 h2 h3 (by omega) hm
  generalize cmp fl ln i (Q, marks) = r at *
  obtain ⟨rp, rm⟩ := r
  simp only at hl hm hmo hin1 ⊢
  have lcp : cp < w.heap.size := (Array.getElem?_eq_some_iff.1 hC.blk).1
  have hpn : pv.ownBlock ≠ some w.heap.size := fun e => by have := (hC.row.lt _ e).2; omega
  have HC := Lib.hid hC
  have HB := Lib.hid hB
  have HI := Lib.hid hin1
  have HQ := Lib.hid hQ
  clear hC hB hin hin1 hQ
  have a1 := miss135_124
  have a2 := miss135_121
  have a3 := miss135_133
  have a4 := hit135
  obtain ⟨A, hA, sA, aN, aO, bA⟩ := alloc_pack w #[.iface T u, .bool false] 135
  have HA := Lib.hid hA
  have HN := Lib.hid aN
  have HS := Lib.hid sA
  have HB1 := Lib.hid bA
  clear hA aN aO sA bA
  go_enter Try.func70, Try.ntmps70
  go_wp2_with (fail)
  rw [HA.out]
  have x0 : A.cell? ⟨w.heap.size, 0, none⟩ = some (.iface T u) := (cell_of_blk HN.out 0).trans rfl
  have x1 : A.cell? ⟨w.heap.size, 1, none⟩ = some (.bool false) := (cell_of_blk HN.out 1).trans rfl
  have lA : w.heap.size < A.heap.size := by rw [HS.out]; omega
  have hcA := HC.out.ext HB1.out
  have hcp : w.heap.size ≠ cp := by omega
  refine (emit_any hcA (by omega) (by omega) (.mk1 2 0) (by simp [Ins.cells, BSet.zero])).mono ?_
  rintro e w2 ⟨rfl, pv2, hc2, hs2⟩
  have y0 := hs2.cell x0 hcp hpn
  have y1 := hs2.cell x1 hcp hpn
  have hpn2 : pv2.ownBlock ≠ some w.heap.size := by
    rcases hs2.tag with e | e
    · rw [e]; exact hpn
    · exact fun e2 => by have := e _ e2; omega
  have l2 : w.heap.size < w2.heap.size := by have := hs2.size; omega
  have HC2 := Lib.hid hc2
  have HS2 := Lib.hid hs2
  have HCA := Lib.hid hcA
  clear hc2 hs2 hcA x0 x1
  go_wp2_with (fail)
  refine (emit_any HC2.out (by omega) (by simp; omega) (.mk1 4 0) (by simp [Ins.cells, BSet.zero])).mono ?_
  rintro e w3 ⟨rfl, pv3, hc3, hs3⟩
  obtain ⟨O, hO⟩ : ∃ O, (prog ++ [Ins.mk1 2 0]).length = O := ⟨_, rfl⟩
  rw [hO]
  have hO1 : O = prog.length + 1 := by rw [← hO]; simp
  have HO := Lib.hid hO1
  clear hO hO1
  have x0 := hs3.cell y0 hcp hpn2
  have x1 := hs3.cell y1 hcp hpn2
  have hpn3 : pv3.ownBlock ≠ some w.heap.size := by
    rcases hs3.tag with e | e
    · rw [e]; exact hpn2
    · exact fun e2 => by have := e _ e2; omega
  have l3 : w.heap.size < w3.heap.size := by have := hs3.size; omega
  obtain ⟨g3, cap3, rfl, hgb3, hcap3, hgc3, hgs3, hcells3, hfr3⟩ := hc3.shape (k := prog.length) (by simp)
  obtain ⟨v1, hv1⟩ := hcells3 1 (by decide)
  obtain ⟨v2, hv2⟩ := hcells3 2 (by decide)
  have z1 := hfr3 (prog.length * 8 + 1)
  have z2 := hfr3 (prog.length * 8 + 2)
  have q0 : w3.cell? ⟨cp, 0, none⟩ = some (.slice (some ⟨g3, 0, none⟩) (prog ++ [Ins.mk1 2 0] ++ [Ins.mk1 4 0]).length cap3) := (cell_of_blk hc3.blk 0).trans rfl
  have hng : w.heap.size ≠ g3 := fun e => hpn3 (by rw [e]; rfl)
  have hgn : g3 ≠ w.heap.size := fun e => hng e.symm
  simp only [List.length_append, List.length_cons, List.length_nil, Nat.zero_add] at q0 hcap3
  have HC3 := Lib.hid hc3
  have HS3 := Lib.hid hs3
  clear hc3 hs3 hcells3 hfr3 y0 y1
  generalize hN : prog.length = N at *
  have HNN := Lib.hid hN
  clear hN
  go_wp2
  go_region
  -- the first store
  have hc4 : CAt base ((w3.setCell ⟨g3, N * 8 + 1, none⟩ (.int .i64 ((N + 2 : Nat) : Int))).drew) cp (setA (prog ++ [Ins.mk1 2 0] ++ [Ins.mk1 4 0]) N (N + 2)) marks fl ln (.slice (some ⟨g3, 0, none⟩) (N + 2) cap3) := by
    have h1 := (HC3.out.storeA N (N + 2)).ext (Below.refl _ _).drew
    have hlq : (prog ++ [Ins.mk1 2 0] ++ [Ins.mk1 4 0]).length = N + 2 := by simp [HNN.out]
    rw [hlq] at h1
    exact h1
  have hs4 : CStep cp w3 (.slice (some ⟨g3, 0, none⟩) (N + 2) cap3) ((w3.setCell ⟨g3, N * 8 + 1, none⟩ (.int .i64 ((N + 2 : Nat) : Int))).drew) (.slice (some ⟨g3, 0, none⟩) (N + 2) cap3) :=
    (CStep.own (cp := cp) w3 g3 _ cap3 (N * 8 + 1) (.int .i64 ((N + 2 : Nat) : Int))).trans (CStep.ofBelow (Below.refl _ _).drew)
  have hpn4 : (Value.slice (some ⟨g3, 0, none⟩) (N + 2) cap3).ownBlock ≠ some w.heap.size := fun e => hgn (Option.some.inj e)
  have hHS3 := HS3.out
  have hlq : (prog ++ [Ins.mk1 2 0] ++ [Ins.mk1 4 0]).length = N + 2 := by simp [HNN.out]
  rw [hlq] at hHS3
  have HS3' := Lib.hid hHS3
  have hHC3 := HC3.out
  rw [hlq] at hHC3
  have HC3' := Lib.hid hHC3
  clear HS3 hHS3 HC3 hHC3 hpn3
  obtain ⟨W4, hW4⟩ : ∃ W4, ((w3.setCell ⟨g3, N * 8 + 1, none⟩ (.int .i64 ((N + 2 : Nat) : Int))).drew) = W4 := ⟨_, rfl⟩
  rw [hW4] at hc4 hs4
  have hW4' : ((w3.setCell ⟨g3, N * 8 + 1, none⟩ (.int .i64 ((N : Int) + 1 + 1))).drew) = W4 := by
    rw [← hW4]; congr 3
  rw [hW4']
  have y0 := hs4.cell x0 hcp hpn4
  have y1 := hs4.cell x1 hcp hpn4
  have l4 : w.heap.size < W4.heap.size := by have := hs4.size; omega
  obtain ⟨gx, capx, hgx, -, hcap4, -, -, hcells4, hfr4⟩ := hc4.shape (k := N) (by simp [HNN.out])
  obtain ⟨hgx1, -, hgx3⟩ := Value.slice.inj hgx
  cases hgx1
  cases hgx3
  clear hgx
  obtain ⟨v4, hv4⟩ := hcells4 2 (by decide)
  have z4 := hfr4 (N * 8 + 2)
  have q4 : W4.cell? ⟨cp, 0, none⟩ = some (.slice (some ⟨g3, 0, none⟩) (N + 2) cap3) := (cell_of_blk hc4.blk 0).trans rfl
  have HC4 := Lib.hid hc4
  have HS4 := Lib.hid hs4
  clear hc4 hs4 hW4 hW4' x0 x1 q0 hv1 hv2 z1 z2 hcells4 hfr4
  have hcW : CAt base W4 cp Q marks fl ln (.slice (some ⟨g3, 0, none⟩) (N + 2) cap3) := by rw [← HQ.out]; exact HC4.out
  have HCW := Lib.hid hcW
  have HSW := Lib.hid (CStep.ofBelow (cp := cp) (pv := .slice (some ⟨g3, 0, none⟩) (N + 2) cap3) (Below.refl W4.heap.size W4))
  have x0 := y0
  have lWA := Nat.le_refl W4.heap.size
  clear hcW q4 hv4 z4
  have hBA : Below base w0 W4 := ((((HB.out.trans (HB1.out.mono hbase)).trans (HS2.out.below HCA.out (by omega))).trans (HS3'.out.below HC2.out (by omega))).trans (HS4.out.below HC3'.out (by omega))).trans (HSW.out.below HC4.out (by omega))
  have HBA := Lib.hid hBA
  clear hBA hlq
  go_wp2_with (fail)
  refine (HI.out _ _ HBA.out HCW.out (by omega)).mono ?_
  rintro e w5 ⟨rfl, pv5, hc5, hs5⟩
  have lw5 := hs5.size
  have HC5 := Lib.hid hc5
  have HS5 := Lib.hid hs5
  clear hc5 hs5 x0
  go_wp2_with (fail)
  refine (emit_any HC5.out (by omega) (by omega) (.mk1 9 0) (by simp [Ins.cells, BSet.zero])).mono ?_
  rintro e w6 ⟨rfl, pv6, hc6, hs6⟩
  have lw6 := hs6.size
  obtain ⟨g6, cap6, rfl, hgb6, hcap6, hgc6, hgs6, hcells6, hfr6⟩ := hc6.shape (k := O) (by have := HO.out; have := HNN.out; simp; omega)
  obtain ⟨v6, hv6⟩ := hcells6 1 (by decide)
  have z6 := hfr6 (O * 8 + 1)
  have q6 : w6.cell? ⟨cp, 0, none⟩ = some (.slice (some ⟨g6, 0, none⟩) (rp ++ [Ins.mk1 9 0]).length cap6) := (cell_of_blk hc6.blk 0).trans rfl
  simp only [List.length_append, List.length_cons, List.length_nil, Nat.zero_add] at q6 hcap6
  have HC6 := Lib.hid hc6
  have HS6 := Lib.hid hs6
  clear hc6 hs6 hcells6 hfr6
  have hNr : (O : Int) < (rp.length : Int) + 1 := by have := HO.out; have := HNN.out; omega
  have hl2 : rp.length ≤ 900000000 := by omega
  have HHB := Lib.hid hbase
  clear lw5 lw6 lWA l4 l3 l2 lA hmo hQl hcap4 hcap3 hbase hpn hpn2 hpn4 hng hgn hgc3 hgs3 hgb3 a1 a2 a3 a4 hm hl lcp
  go_wp2
  go_region
  go_wp2
  go_end0
  have hlr : (rp ++ [Ins.mk1 9 0]).length = rp.length + 1 := by simp
  have hcF := (HC6.out.storeA O (rp.length + 1)).ext (Below.refl _ _).drew
  have hsF := (HS6.out.trans (CStep.own (cp := cp) w6 g6 _ cap6 (O * 8 + 1) (.int .i64 ((rp.length + 1 : Nat) : Int)))).trans (CStep.ofBelow (Below.refl _ _).drew)
  refine ⟨rfl, _, by rw [HNN.out, ← HO.out]; exact hcF, ((((((CStep.ofBelow HB1.out).trans HS2.out).trans HS3'.out).trans HS4.out).trans HSW.out).trans HS5.out).trans hsF⟩

set_option maxHeartbeats 2000000 in
theorem addX_look_true (base cp : Nat) (w0 : World) (i : Nd) (T : TypeId) (u : Value) (hin : AddX fl ln base cp w0 i (.iface T u)) : AddX fl ln base cp w0 (.look i true) (.iface 135 (.agg #[.iface T u, .bool true])) := by
  intro w prog marks pv hB hC hbase hl hm
  simp only [cmp, if_true, Bool.false_eq_true, if_false] at hl hm ⊢
  obtain ⟨Q, hQ⟩ : ∃ Q, setB (setA (prog ++ [.mk1 2 0] ++ [.mk1 4 0]) prog.length (prog.length + 2)) prog.length 1 = Q := ⟨_, rfl⟩
  have hQl : Q.length = prog.length + 2 := by rw [← hQ]; simp
  rw [hQ] at hl hm ⊢
  have hmo := cmp_mono fl ln i (Q, marks)
  simp only [setA_len, List.length_append, List.length_cons, List.length_nil] at hl hmo
  have hin1 := fun (w1 : World) (pv1 : Value) (h1 : Below base w0 w1) (h2 : CAt base w1 cp Q marks fl ln pv1) (h3 : base ≤ w1.heap.size) => hin w1 _ _ pv1 h1 h2 h3 (by omega) hm
  generalize cmp fl ln i (Q, marks) = r at *
  obtain ⟨rp, rm⟩ := r
  simp only at hl hm hmo hin1 ⊢
  have lcp : cp < w.heap.size := (Array.getElem?_eq_some_iff.1 hC.blk).1
  have hpn : pv.ownBlock ≠ some w.heap.size := fun e => by have := (hC.row.lt _ e).2; omega
  have HC := Lib.hid hC
  have HB := Lib.hid hB
  have HI := Lib.hid hin1
  have HQ := Lib.hid hQ
  clear hC hB hin hin1 hQ
  have a1 := miss135_124
  have a2 := miss135_121
  have a3 := miss135_133
  have a4 := hit135
  obtain ⟨A, hA, sA, aN, aO, bA⟩ := alloc_pack w #[.iface T u, .bool true] 135
  have HA := Lib.hid hA
  have HN := Lib.hid aN
  have HS := Lib.hid sA
  have HB1 := Lib.hid bA
  clear hA aN aO sA bA
  go_enter Try.func70, Try.ntmps70
  go_wp2_with (fail)
  rw [HA.out]
  have x0 : A.cell? ⟨w.heap.size, 0, none⟩ = some (.iface T u) := (cell_of_blk HN.out 0).trans rfl
  have x1 : A.cell? ⟨w.heap.size, 1, none⟩ = some (.bool true) := (cell_of_blk HN.out 1).trans rfl
  have lA : w.heap.size < A.heap.size := by rw [HS.out]; omega
  have hcA := HC.out.ext HB1.out
  have hcp : w.heap.size ≠ cp := by omega
  refine (emit_any hcA (by omega) (by omega) (.mk1 2 0) (by simp [Ins.cells, BSet.zero])).mono ?_
  rintro e w2 ⟨rfl, pv2, hc2, hs2⟩
  have y0 := hs2.cell x0 hcp hpn
  have y1 := hs2.cell x1 hcp hpn
  have hpn2 : pv2.ownBlock ≠ some w.heap.size := by
    rcases hs2.tag with e | e
    · rw [e]; exact hpn
    · exact fun e2 => by have := e _ e2; omega
  have l2 : w.heap.size < w2.heap.size := by have := hs2.size; omega
  have HC2 := Lib.hid hc2
  have HS2 := Lib.hid hs2
  have HCA := Lib.hid hcA
  clear hc2 hs2 hcA x0 x1
  go_wp2_with (fail)
  refine (emit_any HC2.out (by omega) (by simp; omega) (.mk1 4 0) (by simp [Ins.cells, BSet.zero])).mono ?_
  rintro e w3 ⟨rfl, pv3, hc3, hs3⟩
  obtain ⟨O, hO⟩ : ∃ O, (prog ++ [Ins.mk1 2 0]).length = O := ⟨_, rfl⟩
  rw [hO]
  have hO1 : O = prog.length + 1 := by rw [← hO]; simp
  have HO := Lib.hid hO1
  clear hO hO1
  have x0 := hs3.cell y0 hcp hpn2
  have x1 := hs3.cell y1 hcp hpn2
  have hpn3 : pv3.ownBlock ≠ some w.heap.size := by
    rcases hs3.tag with e | e
    · rw [e]; exact hpn2
    · exact fun e2 => by have := e _ e2; omega
  have l3 : w.heap.size < w3.heap.size := by have := hs3.size; omega
  obtain ⟨g3, cap3, rfl, hgb3, hcap3, hgc3, hgs3, hcells3, hfr3⟩ := hc3.shape (k := prog.length) (by simp)
  obtain ⟨v1, hv1⟩ := hcells3 1 (by decide)
  obtain ⟨v2, hv2⟩ := hcells3 2 (by decide)
  have z1 := hfr3 (prog.length * 8 + 1)
  have z2 := hfr3 (prog.length * 8 + 2)
  have q0 : w3.cell? ⟨cp, 0, none⟩ = some (.slice (some ⟨g3, 0, none⟩) (prog ++ [Ins.mk1 2 0] ++ [Ins.mk1 4 0]).length cap3) := (cell_of_blk hc3.blk 0).trans rfl
  have hng : w.heap.size ≠ g3 := fun e => hpn3 (by rw [e]; rfl)
  have hgn : g3 ≠ w.heap.size := fun e => hng e.symm
  simp only [List.length_append, List.length_cons, List.length_nil, Nat.zero_add] at q0 hcap3
  have HC3 := Lib.hid hc3
  have HS3 := Lib.hid hs3
  clear hc3 hs3 hcells3 hfr3 y0 y1
  generalize hN : prog.length = N at *
  have HNN := Lib.hid hN
  clear hN
  go_wp2
  go_region
  -- the first store
  have hc4 : CAt base ((w3.setCell ⟨g3, N * 8 + 1, none⟩ (.int .i64 ((N + 2 : Nat) : Int))).drew) cp (setA (prog ++ [Ins.mk1 2 0] ++ [Ins.mk1 4 0]) N (N + 2)) marks fl ln (.slice (some ⟨g3, 0, none⟩) (N + 2) cap3) := by
    have h1 := (HC3.out.storeA N (N + 2)).ext (Below.refl _ _).drew
    have hlq : (prog ++ [Ins.mk1 2 0] ++ [Ins.mk1 4 0]).length = N + 2 := by simp [HNN.out]
    rw [hlq] at h1
    exact h1
  have hs4 : CStep cp w3 (.slice (some ⟨g3, 0, none⟩) (N + 2) cap3) ((w3.setCell ⟨g3, N * 8 + 1, none⟩ (.int .i64 ((N + 2 : Nat) : Int))).drew) (.slice (some ⟨g3, 0, none⟩) (N + 2) cap3) :=
    (CStep.own (cp := cp) w3 g3 _ cap3 (N * 8 + 1) (.int .i64 ((N + 2 : Nat) : Int))).trans (CStep.ofBelow (Below.refl _ _).drew)
  have hpn4 : (Value.slice (some ⟨g3, 0, none⟩) (N + 2) cap3).ownBlock ≠ some w.heap.size := fun e => hgn (Option.some.inj e)
  have hHS3 := HS3.out
  have hlq : (prog ++ [Ins.mk1 2 0] ++ [Ins.mk1 4 0]).length = N + 2 := by simp [HNN.out]
  rw [hlq] at hHS3
  have HS3' := Lib.hid hHS3
  have hHC3 := HC3.out
  rw [hlq] at hHC3
  have HC3' := Lib.hid hHC3
  clear HS3 hHS3 HC3 hHC3 hpn3
  obtain ⟨W4, hW4⟩ : ∃ W4, ((w3.setCell ⟨g3, N * 8 + 1, none⟩ (.int .i64 ((N + 2 : Nat) : Int))).drew) = W4 := ⟨_, rfl⟩
  rw [hW4] at hc4 hs4
  have hW4' : ((w3.setCell ⟨g3, N * 8 + 1, none⟩ (.int .i64 ((N : Int) + 1 + 1))).drew) = W4 := by
    rw [← hW4]; congr 3
  rw [hW4']
  have y0 := hs4.cell x0 hcp hpn4
  have y1 := hs4.cell x1 hcp hpn4
  have l4 : w.heap.size < W4.heap.size := by have := hs4.size; omega
  obtain ⟨gx, capx, hgx, -, hcap4, -, -, hcells4, hfr4⟩ := hc4.shape (k := N) (by simp [HNN.out])
  obtain ⟨hgx1, -, hgx3⟩ := Value.slice.inj hgx
  cases hgx1
  cases hgx3
  clear hgx
  obtain ⟨v4, hv4⟩ := hcells4 2 (by decide)
  have z4 := hfr4 (N * 8 + 2)
  have q4 : W4.cell? ⟨cp, 0, none⟩ = some (.slice (some ⟨g3, 0, none⟩) (N + 2) cap3) := (cell_of_blk hc4.blk 0).trans rfl
  have HC4 := Lib.hid hc4
  have HS4 := Lib.hid hs4
  clear hc4 hs4 hW4 hW4' x0 x1 q0 hv1 hv2 z1 z2 hcells4 hfr4
  have hin4 : (N : Int) < ((N + 2 : Nat) : Int) := by omega
  go_wp2_with (fail)
  have hcW : CAt base (W4.setCell ⟨g3, N * 8 + 2, none⟩ (.int .i64 ((1 : Nat) : Int))) cp Q marks fl ln (.slice (some ⟨g3, 0, none⟩) (N + 2) cap3) := by
    have hl4 : (setA (prog ++ [Ins.mk1 2 0] ++ [Ins.mk1 4 0]) N (N + 2)).length = N + 2 := by simp [HNN.out]
    have h2 : CAt base W4 cp (setA (prog ++ [Ins.mk1 2 0] ++ [Ins.mk1 4 0]) N (N + 2)) marks fl ln (.slice (some ⟨g3, 0, none⟩) (setA (prog ++ [Ins.mk1 2 0] ++ [Ins.mk1 4 0]) N (N + 2)).length cap3) := by rw [hl4]; exact HC4.out
    have h3 := h2.storeB N 1
    rw [hl4, HQ.out] at h3
    exact h3
  have hsW : CStep cp W4 (.slice (some ⟨g3, 0, none⟩) (N + 2) cap3) (W4.setCell ⟨g3, N * 8 + 2, none⟩ (.int .i64 ((1 : Nat) : Int))) (.slice (some ⟨g3, 0, none⟩) (N + 2) cap3) :=
    CStep.own (cp := cp) W4 g3 _ cap3 (N * 8 + 2) (.int .i64 ((1 : Nat) : Int))
  obtain ⟨WA, hWA⟩ : ∃ WA, (W4.setCell ⟨g3, N * 8 + 2, none⟩ (.int .i64 ((1 : Nat) : Int))) = WA := ⟨_, rfl⟩
  rw [hWA] at hcW hsW
  have hWA' : (W4.setCell ⟨g3, N * 8 + 2, none⟩ (.int .i64 1)) = WA := hWA
  rw [hWA']
  have x0 := hsW.cell y0 hcp hpn4
  have lWA := hsW.size
  have HCW := Lib.hid hcW
  have HSW := Lib.hid hsW
  clear hcW hsW hWA hWA' q4 hv4 z4 y0 y1
  have hBA : Below base w0 WA := ((((HB.out.trans (HB1.out.mono hbase)).trans (HS2.out.below HCA.out (by omega))).trans (HS3'.out.below HC2.out (by omega))).trans (HS4.out.below HC3'.out (by omega))).trans (HSW.out.below HC4.out (by omega))
  have HBA := Lib.hid hBA
  clear hBA hlq
  go_wp2_with (fail)
  refine (HI.out _ _ HBA.out HCW.out (by omega)).mono ?_
  rintro e w5 ⟨rfl, pv5, hc5, hs5⟩
  have lw5 := hs5.size
  have HC5 := Lib.hid hc5
  have HS5 := Lib.hid hs5
  clear hc5 hs5 x0
  go_wp2_with (fail)
  refine (emit_any HC5.out (by omega) (by omega) (.mk1 9 0) (by simp [Ins.cells, BSet.zero])).mono ?_
  rintro e w6 ⟨rfl, pv6, hc6, hs6⟩
  have lw6 := hs6.size
  obtain ⟨g6, cap6, rfl, hgb6, hcap6, hgc6, hgs6, hcells6, hfr6⟩ := hc6.shape (k := O) (by have := HO.out; have := HNN.out; simp; omega)
  obtain ⟨v6, hv6⟩ := hcells6 1 (by decide)
  have z6 := hfr6 (O * 8 + 1)
  have q6 : w6.cell? ⟨cp, 0, none⟩ = some (.slice (some ⟨g6, 0, none⟩) (rp ++ [Ins.mk1 9 0]).length cap6) := (cell_of_blk hc6.blk 0).trans rfl
  simp only [List.length_append, List.length_cons, List.length_nil, Nat.zero_add] at q6 hcap6
  have HC6 := Lib.hid hc6
  have HS6 := Lib.hid hs6
  clear hc6 hs6 hcells6 hfr6
  have hNr : (O : Int) < (rp.length : Int) + 1 := by have := HO.out; have := HNN.out; omega
  have hl2 : rp.length ≤ 900000000 := by omega
  have HHB := Lib.hid hbase
  clear lw5 lw6 lWA l4 l3 l2 lA hmo hQl hcap4 hcap3 hbase hpn hpn2 hpn4 hng hgn hgc3 hgs3 hgb3 a1 a2 a3 a4 hm hl lcp
  go_wp2
  go_region
  go_wp2
  go_end0
  have hlr : (rp ++ [Ins.mk1 9 0]).length = rp.length + 1 := by simp
  have hcF := (HC6.out.storeA O (rp.length + 1)).ext (Below.refl _ _).drew
  have hsF := (HS6.out.trans (CStep.own (cp := cp) w6 g6 _ cap6 (O * 8 + 1) (.int .i64 ((rp.length + 1 : Nat) : Int)))).trans (CStep.ofBelow (Below.refl _ _).drew)
  refine ⟨rfl, _, by rw [HNN.out, ← HO.out]; exact hcF, ((((((CStep.ofBelow HB1.out).trans HS2.out).trans HS3'.out).trans HS4.out).trans HSW.out).trans HS5.out).trans hsF⟩

end Go.Proofs.Ytfgghbideoehjaa

namespace Go.Proofs.Ytfgghbideoehjaa
open Go.ChangeShapes Go.WideShapes Go.ChangeAt Go.RowKit
set_option linter.unusedVariables false
set_option maxRecDepth 100000

theorem set_again (p : List Ins) (k a b c d : Nat) : setB (setA (setB (setA p k a) k b) k c) k d = setB (setA p k c) k d := by
  simp only [setA, setB, List.modify_modify_eq]
  congr 1

set_option maxHeartbeats 1000000 in
theorem choose_lazy {base : Nat} {w : World} {cp : Nat} {prog : List Ins} {marks : Nat} {fold lines : Bool} {pv : Value} (h : CAt base w cp prog marks fold lines pv) {k out : Nat} (hk : k < prog.length) (hl : prog.length ≤ 1000000) :
    Calls Try.prog 91 #[.pointer (some ⟨cp, 0, none⟩), .int .i64 (k : Int), .int .i64 (out : Int), .bool true] w fun e w' => e = .returned (.tuple #[]) ∧ ∃ pv', CAt base w' cp (setB (setA prog k out) k (k + 1)) marks fold lines pv' ∧ CStep cp w pv w' pv' := by
  obtain ⟨g, cap, rfl, hgb, hcap, hgc, hgs, hcells, hfr⟩ := h.shape hk
  obtain ⟨v1, hv1⟩ := hcells 1 (by decide)
  obtain ⟨v2, hv2⟩ := hcells 2 (by decide)
  have z1 := hfr (k * 8 + 1)
  have z2 := hfr (k * 8 + 2)
  have c0 : w.cell? ⟨cp, 0, none⟩ = some (.slice (some ⟨g, 0, none⟩) prog.length cap) := (cell_of_blk h.blk 0).trans rfl
  have HC := Lib.hid h
  have hk' : (k : Int) < prog.length := by omega
  clear h hcells hfr
  go_enter Try.func91, Try.ntmps91
  go_wp2
  go_region
  all_goals
    have h1 := HC.out.storeA k (k + 1)
    have h2 : CAt base (w.setCell ⟨g, k * 8 + 1, none⟩ (.int .i64 ((k + 1 : Nat) : Int))) cp (setA prog k (k + 1)) marks fold lines (.slice (some ⟨g, 0, none⟩) (setA prog k (k + 1)).length cap) := by rw [setA_len]; exact h1
    have h3 := h2.storeB k out
    rw [setA_len] at h3
    have h4 := h3.ext (Below.refl _ _).drew
    have hb4 : Below 0 w w := Below.refl _ _
    have hs4 : CStep cp w (.slice (some ⟨g, 0, none⟩) prog.length cap) (((w.setCell ⟨g, k * 8 + 1, none⟩ (.int .i64 ((k + 1 : Nat) : Int))).setCell ⟨g, k * 8 + 2, none⟩ (.int .i64 (out : Int))).drew) (.slice (some ⟨g, 0, none⟩) prog.length cap) := by
      refine ⟨rfl, rfl, rfl, by simp, fun b hb hc hp => ?_, .inl rfl⟩
      have hbg : b ≠ g := fun e => hp (by rw [e]; rfl)
      exact (heap_setCell_other _ _ _ _ (by exact hbg)).trans (heap_setCell_other _ _ _ _ (by exact hbg))
    have hl4 : (setB (setA prog k (k + 1)) k out).length = prog.length := by simp
    clear z1 z2 hv1 hv2 c0 h1 h2 h3
    change Exit.then _ _ _ _ (((w.setCell ⟨g, k * 8 + 1, none⟩ (.int .i64 ((k + 1 : Nat) : Int))).setCell ⟨g, k * 8 + 2, none⟩ (.int .i64 (out : Int))).drew)
    generalize (((w.setCell ⟨g, k * 8 + 1, none⟩ (.int .i64 ((k + 1 : Nat) : Int))).setCell ⟨g, k * 8 + 2, none⟩ (.int .i64 (out : Int))).drew) = V at h4 hs4 ⊢
    obtain ⟨g', cap', e', hgb', hcap', hgc', hgs', hcells, hfr⟩ := h4.shape (k := k) (by rw [hl4]; exact hk)
    rw [hl4] at e'
    cases e'
    obtain ⟨v1', hv1⟩ := hcells 1 (by decide)
    obtain ⟨v2', hv2⟩ := hcells 2 (by decide)
    have z1 := hfr (k * 8 + 1)
    have z2 := hfr (k * 8 + 2)
    have c0 : V.cell? ⟨cp, 0, none⟩ = some (.slice (some ⟨g, 0, none⟩) prog.length cap) := (cell_of_blk h4.blk 0).trans rfl
    have h4' : CAt base V cp (setB (setA prog k (k + 1)) k out) marks fold lines (.slice (some ⟨g, 0, none⟩) (setB (setA prog k (k + 1)) k out).length cap) := by rw [hl4]; exact h4
    have H4 := Lib.hid h4'
    have HS4 := Lib.hid hs4
    have HL4 := Lib.hid hl4
    clear h4 h4' hs4 hcells hfr hl4
    go_wp2
    go_region
    all_goals
      go_wp2
      go_end0
      have h1 := H4.out.storeA k out
      have h2 : CAt base (V.setCell ⟨g, k * 8 + 1, none⟩ (.int .i64 (out : Int))) cp (setA (setB (setA prog k (k + 1)) k out) k out) marks fold lines (.slice (some ⟨g, 0, none⟩) (setA (setB (setA prog k (k + 1)) k out) k out).length cap) := by rw [setA_len]; exact h1
      have h3 := h2.storeB k (k + 1)
      rw [set_again] at h3
      refine ⟨rfl, _, h3.ext (Below.refl _ _).drew, HS4.out.trans ⟨rfl, rfl, rfl, by simp, fun b hb hc hp => ?_, .inl (by simp [Value.ownBlock])⟩⟩
      have hbg : b ≠ g := fun e => hp (by rw [e]; rfl)
      exact (heap_setCell_other _ _ _ _ (by exact hbg)).trans (heap_setCell_other _ _ _ _ (by exact hbg))

theorem choose_lz {base : Nat} {w : World} {cp : Nat} {prog : List Ins} {marks : Nat} {fold lines : Bool} {pv : Value} (h : CAt base w cp prog marks fold lines pv) {k out : Nat} (hk : k < prog.length) (hl : prog.length ≤ 1000000) (lz : Bool) :
    Calls Try.prog 91 #[.pointer (some ⟨cp, 0, none⟩), .int .i64 (k : Int), .int .i64 (out : Int), .bool lz] w fun e w' => e = .returned (.tuple #[]) ∧ ∃ pv', CAt base w' cp (chooseP lz out k prog) marks fold lines pv' ∧ CStep cp w pv w' pv' := by
  cases lz
  · exact choose_any h hk hl
  · exact choose_lazy h hk hl

theorem iter_le {f : PM → PM} (h : Grows f) (p : PM) {j n : Nat} (hj : j ≤ n) : (iter f j p).1.length ≤ (iter f n p).1.length ∧ (iter f j p).2 ≤ (iter f n p).2 := by
  induction n with
  | zero => obtain rfl : j = 0 := (by omega); exact ⟨Nat.le_refl _, Nat.le_refl _⟩
  | succ n ih =>
    by_cases e : j = n + 1
    · subst e; exact ⟨Nat.le_refl _, Nat.le_refl _⟩
    · have h1 := ih (by omega)
      have h2 := h (iter f n p)
      exact ⟨Nat.le_trans h1.1 h2.1, Nat.le_trans h1.2 h2.2⟩

theorem opt_le {f : PM → PM} (h : Grows f) (p : PM) {j n : Nat} (hj : j ≤ n) : (iter (optP f) j ([], p)).2.1.length ≤ (iter (optP f) n ([], p)).2.1.length ∧ (iter (optP f) j ([], p)).2.2 ≤ (iter (optP f) n ([], p)).2.2 := by
  induction n with
  | zero => obtain rfl : j = 0 := (by omega); exact ⟨Nat.le_refl _, Nat.le_refl _⟩
  | succ n ih =>
    by_cases e : j = n + 1
    · subst e; exact ⟨Nat.le_refl _, Nat.le_refl _⟩
    · have h1 := ih (by omega)
      have h2 := once_grows h (iter (optP f) n ([], p)).2
      show _ ≤ (optP f (iter (optP f) n ([], p))).2.1.length ∧ _ ≤ (optP f (iter (optP f) n ([], p))).2.2
      simp only [optP]
      omega
theorem opt_len (f : PM → PM) (p : PM) : ∀ n, (iter (optP f) n ([], p)).1.length = n
  | 0 => rfl
  | n + 1 => by
    show (optP f (iter (optP f) n ([], p))).1.length = n + 1
    simp only [optP, List.length_append, List.length_cons, List.length_nil, opt_len f p n]

/-- The box of a repetition, as the compiler's steps keep it. -/
structure BoxT (b cp : Nat) (T : TypeId) (u : Value) (lo hi : Int) (lz : Bool) (w : World) (pv : Value) : Prop where
  x0 : w.cell? ⟨b, 0, none⟩ = some (.iface T u)
  x1 : w.cell? ⟨b, 1, none⟩ = some (.int .i64 lo)
  x2 : w.cell? ⟨b, 2, none⟩ = some (.int .i64 hi)
  x3 : w.cell? ⟨b, 3, none⟩ = some (.bool lz)
  lt : b < w.heap.size
  ne : b ≠ cp
  np : pv.ownBlock ≠ some b

theorem BoxT.step {b cp : Nat} {T : TypeId} {u : Value} {lo hi : Int} {lz : Bool} {w w' : World} {pv pv' : Value} (h : BoxT b cp T u lo hi lz w pv) (hs : CStep cp w pv w' pv') : BoxT b cp T u lo hi lz w' pv' :=
  ⟨hs.cell h.x0 h.ne h.np, hs.cell h.x1 h.ne h.np, hs.cell h.x2 h.ne h.np, hs.cell h.x3 h.ne h.np, Nat.lt_of_lt_of_le h.lt hs.size, h.ne, by
    rcases hs.tag with e | e
    · rw [e]; exact h.np
    · exact fun e2 => by have := e _ e2; have := h.lt; omega⟩

variable {fl ln : Bool}

set_option maxHeartbeats 4000000 in
theorem times_any {base cp : Nat} {w0 : World} {i : Nd} {T : TypeId} {u : Value} (hin : AddX fl ln base cp w0 i (.iface T u)) {l : Nat} {hi : Int} {lz : Bool} (hlo : l ≤ 100) (hhi : hi = -1 ∨ (l : Int) ≤ hi ∧ hi ≤ 100) {w : World} {prog : List Ins} {marks : Nat} {pv : Value}
    (hB : Below base w0 w) (hC : CAt base w cp prog marks fl ln pv) (hbase : base ≤ w.heap.size) (hl : (timesP (cmp fl ln i) (l : Int) hi lz (prog, marks)).1.length ≤ 1000000) (hm : (timesP (cmp fl ln i) (l : Int) hi lz (prog, marks)).2 ≤ 1000000) :
    Calls Try.prog 85 #[.pointer (some ⟨cp, 0, none⟩), .agg #[.iface T u, .int .i64 (l : Int), .int .i64 hi, .bool lz]] w fun e w' => e = .returned (.tuple #[]) ∧
      ∃ pv', CAt base w' cp (timesP (cmp fl ln i) (l : Int) hi lz (prog, marks)).1 (timesP (cmp fl ln i) (l : Int) hi lz (prog, marks)).2 fl ln pv' ∧ CStep cp w pv w' pv' := by
  have hG : Grows (cmp fl ln i) := fun q => cmp_mono fl ln i q
  have lcp : cp < w.heap.size := (Array.getElem?_eq_some_iff.1 hC.blk).1
  have hpn : pv.ownBlock ≠ some w.heap.size := fun e => by have := (hC.row.lt _ e).2; omega
  have hcp : w.heap.size ≠ cp := by omega
  have hL : (iter (cmp fl ln i) l (prog, marks)).1.length ≤ (timesP (cmp fl ln i) (l : Int) hi lz (prog, marks)).1.length ∧ (iter (cmp fl ln i) l (prog, marks)).2 ≤ (timesP (cmp fl ln i) (l : Int) hi lz (prog, marks)).2 := by
    unfold timesP
    simp only [Int.toNat_natCast]
    split
    · have h2 := once_grows hG (iter (cmp fl ln i) l (prog, marks))
      simp only [choose_len, List.length_append, List.length_cons, List.length_nil]
      omega
    · have h2 := opt_grows hG (hi - l).toNat ([], iter (cmp fl ln i) l (prog, marks))
      simp only [chooses_len] at h2 ⊢
      omega
  have HC := Lib.hid hC
  have HB := Lib.hid hB
  have HIN := Lib.hid hin
  have HGR := Lib.hid hG
  have HLL := Lib.hid hl
  have HMM := Lib.hid hm
  have HL := Lib.hid hL
  have HHI := Lib.hid hhi
  clear hC hB hin hG hl hm hL hhi
  obtain ⟨A, hA, sA, aN, aO, bA⟩ := alloc_pack w #[.iface T u, .int .i64 (l : Int), .int .i64 hi, .bool lz] 139
  have HA := Lib.hid hA
  have HN := Lib.hid aN
  have HS := Lib.hid sA
  have HB1 := Lib.hid bA
  clear hA aN aO sA bA
  go_enter Try.func85, Try.ntmps85
  go_wp2_with (fail)
  rw [HA.out]
  have hBT0 : BoxT w.heap.size cp T u (l : Int) hi lz A pv := ⟨(cell_of_blk HN.out 0).trans rfl, (cell_of_blk HN.out 1).trans rfl, (cell_of_blk HN.out 2).trans rfl, (cell_of_blk HN.out 3).trans rfl, by rw [HS.out]; omega, hcp, hpn⟩
  have HBT0 := Lib.hid hBT0
  have x1 := hBT0.x1
  clear hBT0
  have HcA := Lib.hid (HC.out.ext HB1.out)
  have lA : base ≤ A.heap.size := by rw [HS.out]; omega
  go_loopg [10] l (fun m iv wr => ∃ (j : Nat) (pv' : Value), j ≤ l ∧ m = l - j ∧ iv = .int .i64 (j : Int) ∧ CAt base wr cp (iter (cmp fl ln i) j (prog, marks)).1 (iter (cmp fl ln i) j (prog, marks)).2 fl ln pv' ∧ CStep cp A pv wr pv')
  case atStart => exact ⟨0, pv, Nat.zero_le _, rfl, rfl, HcA.out, CStep.ofBelow (Below.refl _ _)⟩
  case round =>
    obtain ⟨j, pv1, hj, hm, rfl, hc, hs⟩ := hrel
    have hBT := HBT0.out.step hs
    have y0 := hBT.x0
    have y2 := hBT.x2
    have lb := hBT.lt
    have hsz := hs.size
    have HM := Lib.hid hm
    have HCJ := Lib.hid hc
    have HSJ := Lib.hid hs
    have HBT := Lib.hid hBT
    clear hm hc hs hBT x1
    by_cases hlt : j < l
    · have t1 : (j : Int) < (l : Int) := by omega
      have hle := iter_le HGR.out (prog, marks) (j := j + 1) (n := l) hlt
      have hcall := HIN.out wr _ _ pv1 ((HB.out.trans (HB1.out.mono hbase)).trans (HSJ.out.below HcA.out lA)) HCJ.out (by omega) (by have := HLL.out; have := HL.out.1; exact Nat.le_trans hle.1 (by omega)) (by have := HMM.out; have := HL.out.2; exact Nat.le_trans hle.2 (by omega))
      have HCALL := Lib.hid hcall
      clear hcall hle
      go_wp2_with (fail)
      refine HCALL.out.mono ?_
      rintro e w2 ⟨rfl, pv2, hc2, hs2⟩
      have HC2 := Lib.hid hc2
      have HS2 := Lib.hid hs2
      clear hc2 hs2
      go_wp2
      go_roundg (l - (j + 1))
      case measure => rw [HM.out]; omega
      case rel => exact ⟨j + 1, pv2, by omega, rfl, by go_num, HC2.out, HSJ.out.trans HS2.out⟩
    · have hje : j = l := by omega
      subst hje
      have t1 : ¬ (j : Int) < (j : Int) := by omega
      have hl := HLL.out
      have hm := HMM.out
      have heq : timesP (cmp fl ln i) (j : Int) hi lz (prog, marks) = timesP (cmp fl ln i) (j : Int) hi lz (prog, marks) := rfl
      conv at heq => rhs; unfold timesP
      rw [heq] at hl hm
      simp only [Int.toNat_natCast] at hl hm heq
      have hcj := HCJ.out
      have hLL := HL.out
      generalize hp1 : iter (cmp fl ln i) j (prog, marks) = p1 at *
      obtain ⟨P1, M1⟩ := p1
      simp only at hcj hl hm hLL heq
      clear HL HCJ HLL HMM
      by_cases hh : hi = -1
      · subst hh
        rw [if_pos rfl] at hl hm heq
        simp only [choose_len, List.length_append, List.length_cons, List.length_nil, onceP] at hl hm
        have hon := once_anyX (lo := (j : Int)) (hi := -1) (lz := lz) HIN.out ((HB.out.trans (HB1.out.mono hbase)).trans (HSJ.out.below HcA.out lA)) hcj (by omega) (by omega) hm
        have hmo := once_grows HGR.out (P1, M1)
        simp only [onceP] at hmo heq
        generalize cmp fl ln i (P1 ++ [.mk1 3 0] ++ [.mk1 6 M1], M1 + 1) = r at *
        obtain ⟨rp, rm⟩ := r
        simp only [List.length_append, List.length_cons, List.length_nil] at hl hm hmo hon heq
        have HON := Lib.hid hon
        have HEQ := Lib.hid heq
        have y1 := HBT.out.x1
        have y3 := HBT.out.x3
        clear hon heq
        go_wp2_with (fail)
        refine HON.out.mono ?_
        rintro e w2 ⟨rfl, pv2, hc2, hs2⟩
        have hBT2 := HBT.out.step hs2
        have z3 := hBT2.x3
        have l2 := hBT2.lt
        have HBT2 := Lib.hid hBT2
        have HC2 := Lib.hid hc2
        have HS2 := Lib.hid hs2
        clear hc2 hs2 hBT2 y0 y1 y2 y3
        go_wp2_with (fail)
        refine (emit_any HC2.out (by have := HS2.out.size; omega) (by simp; omega) (.mk1 4 P1.length) (by simp [Ins.cells, BSet.zero])).mono ?_
        rintro e w3 ⟨rfl, pv3, hc3, hs3⟩
        have hBT3 := HBT2.out.step hs3
        have z3' := hBT3.x3
        have l3 := hBT3.lt
        obtain ⟨g, cap, hpv3, _⟩ := hc3.shape (k := 0) (by simp)
        have q0 : w3.cell? ⟨cp, 0, none⟩ = some pv3 := (cell_of_blk hc3.blk 0).trans rfl
        rw [hpv3] at q0
        simp only [List.length_append, List.length_cons, List.length_nil] at q0
        have lc3 : cp < w3.heap.size := by have := hs3.size; have := HS2.out.size; omega
        have HC3 := Lib.hid hc3
        have HS3 := Lib.hid hs3
        clear hc3 hs3 z3 hpv3 hBT3
        go_wp2_with (fail)
        go_region_with (first | (go_at_call 91; refine (choose_lz (k := P1.length) (out := rp.length + 1 + 1) (HC3.out.ext (by exact (Below.refl _ w3).drew)) (by simp; omega) (by simp; omega) lz).mono ?_; rintro e w4 ⟨rfl, pv4, hc4, hs4⟩))
        all_goals
          have HC4 := Lib.hid hc4
          have HS4 := Lib.hid hs4
          clear hc4 hs4
          go_wp2
          refine bodyPost_ret (results_none rfl _ _ _) rfl ?_
          refine ⟨rfl, pv4, ?_, ?_⟩
          · rw [HEQ.out]
            have := HC4.out
            simpa using this
          · exact (((((CStep.ofBelow HB1.out).trans HSJ.out).trans HS2.out).trans HS3.out).trans (CStep.ofBelow (Below.refl _ w3).drew)).trans HS4.out
      · have hh2 : (j : Int) ≤ hi ∧ hi ≤ 100 := HHI.out.resolve_left hh
        obtain ⟨h, rfl⟩ : ∃ h : Nat, hi = (h : Int) := ⟨hi.toNat, by omega⟩
        have t2 : ((h : Int) == -1) = false := by simp
        have hn : ((h : Int) - (j : Int)).toNat = h - j := by omega
        rw [if_neg hh, hn] at hl hm heq
        simp only [chooses_len] at hl hm
        have helen := opt_len (cmp fl ln i) (P1, M1) (h - j)
        have HOPT := Lib.hid (fun (q n : Nat) (hq : q ≤ n) => opt_le HGR.out (P1, M1) hq)
        have HSTEP := Lib.hid (fun q : Nat => show iter (optP (cmp fl ln i)) (q + 1) ([], (P1, M1)) = optP (cmp fl ln i) (iter (optP (cmp fl ln i)) q ([], (P1, M1))) from rfl)
        have HELEN := Lib.hid (fun q : Nat => opt_len (cmp fl ln i) (P1, M1) q)
        have HEQ := Lib.hid heq
        have y1 := HBT.out.x1
        have hjh : (h : Int) - (j : Int) = ((h - j : Nat) : Int) := by omega
        have HLx := Lib.hid hl
        have HMx := Lib.hid hm
        have HCj := Lib.hid hcj
        clear heq hl hm hcj hLL hh helen
        obtain ⟨i3, h3, h30, h31, h32⟩ := info_parts info3
        go_wp2_with (fail)
        go_loopg [5, 42] (h - j) (fun m ev qv w5 => ∃ (q : Nat) (pv5 : Value), q ≤ h - j ∧ m = h - j - q ∧ qv = .int .i64 (q : Int) ∧ CAt base w5 cp (iter (optP (cmp fl ln i)) q ([], (P1, M1))).2.1 (iter (optP (cmp fl ln i)) q ([], (P1, M1))).2.2 fl ln pv5 ∧ CStep cp A pv w5 pv5 ∧
          EndsAt A.heap.size w5 cp pv5 ev (iter (optP (cmp fl ln i)) q ([], (P1, M1))).1 (iter (optP (cmp fl ln i)) q ([], (P1, M1))).2.1.length)
        case atStart => exact ⟨0, pv1, Nat.zero_le _, rfl, rfl, HCj.out, HSJ.out, ⟨World.ownsRow_nil _ _ _ _, (fun e => by cases e), (fun k hk => by cases hk), (fun e he => by cases he)⟩⟩
        case round =>
          obtain ⟨q, pv5, hq, hmq, rfl, hc5, hs5, hE5⟩ := hrel
          have hBT5 := HBT0.out.step hs5
          have y0 := hBT5.x0
          have y1 := hBT5.x1
          have y2 := hBT5.x2
          have y3 := hBT5.x3
          have lb5 := hBT5.lt
          have hsz5 := hs5.size
          have HMQ := Lib.hid hmq
          have HC5 := Lib.hid hc5
          have HS5 := Lib.hid hs5
          have HE5 := Lib.hid hE5
          have HBT5 := Lib.hid hBT5
          obtain ⟨ea, en, ec, hev⟩ := ownsRow_shape hE5.row
          subst hev
          have hel := HELEN.out q
          have hnx := HSTEP.out q
          have hop := HOPT.out (q + 1) (h - j)
          generalize hq5 : iter (optP (cmp fl ln i)) q ([], (P1, M1)) = S at *
          obtain ⟨E5, P5, M5⟩ := S
          simp only at hel
          have hen : en = E5.length := by
            rcases hE5.row.2 with ⟨h, h0⟩ | ⟨g, cap, cur, h, _⟩
            · cases h; exact h0.symm
            · cases h; rfl
          subst hen
          have hne5 : (Value.slice ea E5.length ec).ownBlock ≠ some cp := hE5.ne
          have hE0 := HE5.out
          have HQ5 := Lib.hid hq5
          have HEL := Lib.hid hel
          have hEb : E5.length ≤ 100 := by omega
          clear hel hmq hc5 hs5 hE5 hBT5 hq5
          by_cases hlt : q < h - j
          · have hop := hop hlt
            rw [hnx] at hop
            simp only [optP, onceP, List.length_append, List.length_cons, List.length_nil] at hop
            have hl9 := HLx.out
            have hm9 := HMx.out
            have hmo := once_grows HGR.out (P5, M5)
            simp only [onceP, List.length_append, List.length_cons, List.length_nil] at hmo
            have hon := once_anyX (lo := (j : Int)) (hi := (h : Int)) (lz := lz) HIN.out ((HB.out.trans (HB1.out.mono hbase)).trans (HS5.out.below HcA.out lA)) HC5.out (by omega) (by simp only; omega) (by simp only; omega)
            have hnx' : iter (optP (cmp fl ln i)) (q + 1) ([], (P1, M1)) = (E5 ++ [P5.length], ((cmp fl ln i (P5 ++ [.mk1 3 0] ++ [.mk1 6 M5], M5 + 1)).1 ++ [.mk1 7 M5], (cmp fl ln i (P5 ++ [.mk1 3 0] ++ [.mk1 6 M5], M5 + 1)).2)) := hnx
            simp only at hon
            generalize cmp fl ln i (P5 ++ [.mk1 3 0] ++ [.mk1 6 M5], M5 + 1) = r at *
            obtain ⟨rp, rm⟩ := r
            simp only at hon hnx' hop hmo
            have HON := Lib.hid hon
            have HNX := Lib.hid hnx'
            have t3 : (q : Int) < ((h - j : Nat) : Int) := by omega
            clear hon hnx hnx'
            go_wp2_with (fail)
            refine HON.out.mono ?_
            rintro e w2 ⟨rfl, pv2, hc2, hs2⟩
            have hE2 := HE5.out.step hs2 (n' := rp.length + 1) (by omega)
            have hlw2 := hs2.size
            have HC2 := Lib.hid hc2
            have HS2 := Lib.hid hs2
            have HE2 := Lib.hid hE2
            clear hc2 hs2 hE2 hE0 y0 y1 y2 y3
            go_wp2_with (at_builtin; go_loud (refine wpList_append_tag rfl (.tmp 44) (.tmp 48) 58 rfl A.heap.size 3 i3 _ 1 8 Try.underlying58 h3 h30 h31 h32 rfl (by decide) (.slice ea E5.length ec) E5.length _ rfl (World.ownsRow.alloc HE2.out.row _) ⟨w2.heap.size, 0, none⟩ 1 1 [.int .i64 (P5.length : Int)] rfl rfl (int_new _ _) (int_cell _) (by simp only [maxLen]; omega) (by omega) (by simp; omega) ?_; intro ev' w6 ho6 hg6 ht6; obtain ⟨g6, cap6, rfl⟩ := ownsRow_succ' ho6; have hg7 := grown_past hg6; have ht7 := tag_past ht6; have HG7 := Lib.hid hg7; have HT7 := Lib.hid ht7; have HO6 := Lib.hid ho6; clear hg6 ht6 hg7 ht7 ho6))
            have hc6 := HC2.out.grown HG7.out hne5 (fun k hk => HE2.out.nep k hk)
            have hs6 := (HS5.out.trans HS2.out).grown HG7.out (fun k hk => (HE2.out.row.lt k hk).1)
            have HC6 := Lib.hid hc6
            have HS6 := Lib.hid hs6
            clear hc6 hs6
            go_wp2
            go_roundg (h - j - (q + 1))
            case measure => rw [HMQ.out]; omega
            case rel =>
              refine ⟨q + 1, pv2, by omega, rfl, by go_num, by rw [HNX.out]; exact HC6.out, HS6.out, ?_⟩
              rw [HNX.out]
              have h6c : g6 ≠ cp := by
                rcases HT7.out with e | e
                · exact fun e2 => hne5 (by rw [← e, ← e2]; rfl)
                · have h9 : w2.heap.size ≤ g6 := e g6 rfl
                  omega
              refine ⟨?_, (fun e => h6c (Option.some.inj e)), (fun k hk => ?_), ?_⟩
              · rw [List.length_append, List.map_append]
                exact HO6.out
              · cases hk
                rcases HT7.out with e | e
                · exact HE2.out.nep g6 (by rw [← e]; rfl)
                · intro e2
                  have h9 : w2.heap.size ≤ g6 := e g6 rfl
                  have := (HC2.out.row.lt g6 e2).2
                  omega
              · intro e he
                simp only [List.mem_append, List.mem_singleton] at he
                simp only [List.length_append, List.length_cons, List.length_nil]
                rcases he with he | he
                · have := HE2.out.lt e he; omega
                · omega
          · have hqe : q = h - j := by omega
            have hEQ2 := HEQ.out
            rw [← hqe, HQ5.out] at hEQ2
            simp only at hEQ2
            have hl9 := HLx.out
            rw [← hqe, HQ5.out] at hl9
            simp only at hl9
            have HEQ2 := Lib.hid hEQ2
            have t3 : ¬ (q : Int) < ((h - j : Nat) : Int) := by omega
            clear hqe hEQ2 hop hnx hE0 y0 y1 y2 y3
            go_wp2_with (fail)
            go_loopg [53] E5.length (fun m iv w5 => ∃ (r : Nat) (pv6 : Value), r ≤ E5.length ∧ m = E5.length - r ∧ iv = .int .i64 (r : Int) ∧ CAt base w5 cp ((E5.take r).foldl (fun pr k => chooseP lz P5.length k pr) P5) M5 fl ln pv6 ∧ CStep cp A pv w5 pv6 ∧ EndsAt A.heap.size w5 cp pv6 (.slice ea E5.length ec) E5 P5.length)
            case atStart => exact ⟨0, pv5, Nat.zero_le _, rfl, rfl, HC5.out, HS5.out, HE5.out⟩
            case round =>
              obtain ⟨r, pv6, hr, hmr, rfl, hc6, hs6, hE6⟩ := hrel
              have hBT6 := HBT0.out.step hs6
              have y3 := hBT6.x3
              have lb6 := hBT6.lt
              have hsz6 := hs6.size
              have hpl := chooses_len lz P5.length (E5.take r) P5
              have HMR := Lib.hid hmr
              have HS6 := Lib.hid hs6
              clear hmr hs6 hBT6
              by_cases hre : r < E5.length
              · obtain ⟨e, he⟩ : ∃ e, E5[r]? = some e := ⟨_, List.getElem?_eq_getElem hre⟩
                have hel2 : e < P5.length := hE6.lt e (List.mem_of_getElem? he)
                obtain ⟨ge, ce, hge⟩ : ∃ ge ce, (Value.slice ea E5.length ec) = .slice (some ⟨ge, 0, none⟩) E5.length ce := by
                  rcases hE6.row.2 with ⟨h, h0⟩ | ⟨g, cap, cur, h, _⟩
                  · omega
                  · exact ⟨g, cap, h⟩
                cases hge
                have hce : wr.cell? ⟨ge, r, none⟩ = some (.int .i64 (e : Int)) := by
                  rw [hE6.row.cellAt r (by omega), List.getElem?_map, he]; rfl
                obtain ⟨g6, cap6, hpv6, _, hcap6, _⟩ := hc6.shape (k := e) (by omega)
                have q6 : wr.cell? ⟨cp, 0, none⟩ = some pv6 := (cell_of_blk hc6.blk 0).trans rfl
                rw [hpv6, hpl] at q6
                rw [hpl] at hcap6
                have hr2 : (r : Int) < E5.length := by omega
                have lc6 : cp < wr.heap.size := (Array.getElem?_eq_some_iff.1 hc6.blk).1
                have hnxt : (E5.take (r + 1)).foldl (fun pr k => chooseP lz P5.length k pr) P5 = chooseP lz P5.length e ((E5.take r).foldl (fun pr k => chooseP lz P5.length k pr) P5) := by
                  have h9 : E5.take (r + 1) = E5.take r ++ [e] := by rw [List.take_add_one, he]; rfl
                  rw [h9, List.foldl_append]; rfl
                have HC6 := Lib.hid hc6
                have HE6 := Lib.hid hE6
                have HNX := Lib.hid hnxt
                have HPL := Lib.hid hpl
                clear hc6 hE6 he hnxt hpl hpv6
                go_wp2_with (fail)
                go_region_with (first | (go_at_call 91; refine (choose_lz (k := e) (out := P5.length) (HC6.out.ext (by exact (Below.refl _ wr).drew)) (by rw [HPL.out]; exact hel2) (by rw [HPL.out]; omega) lz).mono ?_; rintro e9 w4 ⟨rfl, pv4, hc4, hs4⟩))
                all_goals
                  have hs5' := (CStep.ofBelow (Below.refl _ wr).drew).trans hs4
                  have HC4 := Lib.hid hc4
                  have HS4 := Lib.hid hs5'
                  clear hc4 hs4 hs5'
                  go_wp2
                  go_roundg (E5.length - (r + 1))
                  case measure => rw [HMR.out]; omega
                  case rel => exact ⟨r + 1, pv4, by omega, rfl, by go_num, by rw [HNX.out]; exact HC4.out, HS6.out.trans HS4.out, HE6.out.step HS4.out (Nat.le_refl _)⟩
              · have hrr : E5.take r = E5 := List.take_of_length_le (by omega)
                rw [hrr] at hc6
                have HC6 := Lib.hid hc6
                have t4 : ¬ (r : Int) < (E5.length : Int) := by omega
                clear hc6 hE6 hpl hrr
                go_wp2
                go_end0
                refine ⟨rfl, pv6, ?_, (CStep.ofBelow HB1.out).trans HS6.out⟩
                rw [HEQ2.out]
                exact HC6.out

end Go.Proofs.Ytfgghbideoehjaa

namespace Go.Proofs.Ytfgghbideoehjaa
open Go.ChangeShapes Go.WideShapes Go.ChangeAt Go.RowKit
set_option linter.unusedVariables false
set_option maxRecDepth 100000

variable {fl ln : Bool}

theorem miss121_124 (u : Value) (w : World) : (Instr.typeAssert (.iface 121 u) 62 124 true).run Try.prog w = .ok (.tuple #[.agg #[.int .u64 0, .int .u64 0, .int .u64 0, .int .u64 0, .int .u64 0, .int .u64 0, .int .u64 0, .int .u64 0], .bool false]) w := by kernel_rfl
theorem hit121 (u : Value) (w : World) : (Instr.typeAssert (.iface 121 u) 62 121 true).run Try.prog w = .ok (.tuple #[u, .bool true]) w := by kernel_rfl
theorem miss133_124 (u : Value) (w : World) : (Instr.typeAssert (.iface 133 u) 62 124 true).run Try.prog w = .ok (.tuple #[.agg #[.int .u64 0, .int .u64 0, .int .u64 0, .int .u64 0, .int .u64 0, .int .u64 0, .int .u64 0, .int .u64 0], .bool false]) w := by kernel_rfl
theorem miss133_121 (u : Value) (w : World) : (Instr.typeAssert (.iface 133 u) 62 121 true).run Try.prog w = .ok (.tuple #[.agg #[.int .u8 0], .bool false]) w := by kernel_rfl
theorem hit133 (u : Value) (w : World) : (Instr.typeAssert (.iface 133 u) 62 133 true).run Try.prog w = .ok (.tuple #[u, .bool true]) w := by kernel_rfl

set_option maxHeartbeats 1000000 in
theorem addX_one (base cp : Nat) (w0 : World) (s n : BSet) (hs : s.WF) (hn : n.WF) : AddX fl ln base cp w0 (.one s n) (.iface 124 (.agg (s.vals ++ n.vals).toArray)) := by
  intro w prog marks pv hB hC hbase hl hm
  simp only [cmp] at hl hm ⊢
  have hll : prog.length ≤ 1000000 := by simp at hl; omega
  have hca := hC
  have c2 : w.cell? ⟨cp, 2, none⟩ = some (.bool fl) := (cell_of_blk hca.blk 2).trans rfl
  have c3 : w.cell? ⟨cp, 3, none⟩ = some (.bool ln) := (cell_of_blk hca.blk 3).trans rfl
  have lcp : cp < w.heap.size := World.block_lt_of_cell? w _ c2
  have HC := Lib.hid hC
  clear hC hca
  show Calls Try.prog 70 #[.pointer (some ⟨cp, 0, none⟩), .iface 124 (.agg #[.int .u64 (s.a : Int), .int .u64 (s.b : Int), .int .u64 (s.c : Int), .int .u64 (s.d : Int), .int .u64 (n.a : Int), .int .u64 (n.b : Int), .int .u64 (n.c : Int), .int .u64 (n.d : Int)])] w _
  have hh := hit124
  generalize hS : bytesOf fl ln s n = S at *
  have HSS := Lib.hid hS
  clear hS
  go_enter Try.func70, Try.ntmps70
  go_wp2_with (fail)
  refine (bytes_any fl ln s n hs hn _ cp ((World.cell?_alloc_lt w _ _ lcp).trans c2) ((World.cell?_alloc_lt w _ _ lcp).trans c3)).mono ?_
  rw [HSS.out]
  rintro e w1 ⟨rfl, hb1⟩
  have HB1 := Lib.hid hb1
  clear hb1 c2 c3
  have B1 : Below w.heap.size w w1 := ((Below.refl _ w).alloc (Nat.le_refl _) _).trans (HB1.out.mono (by simp))
  have hs1 := B1.size
  have HBB := Lib.hid B1
  clear B1
  go_wp2_with (fail)
  refine (emit_any (HC.out.ext HBB.out) (by omega) hll ⟨0, 0, 0, S, 0⟩ rfl).mono ?_
  rintro e w2 ⟨rfl, hq⟩
  have HQ := Lib.hid hq
  clear hq
  go_wp2
  go_end0
  obtain ⟨pv', q1, q2⟩ := HQ.out
  exact ⟨rfl, pv', q1, (CStep.ofBelow HBB.out).trans q2⟩

set_option maxHeartbeats 1000000 in
theorem addX_place (base cp : Nat) (w0 : World) (k : UInt8) : AddX fl ln base cp w0 (.place k) (.iface 121 (.agg #[.int .u8 (k.toNat : Int)])) := by
  intro w prog marks pv hB hC hbase hl hm
  simp only [cmp] at hl hm ⊢
  have hll : prog.length ≤ 1000000 := by simp at hl; omega
  have HC := Lib.hid hC
  clear hC
  have a1 := miss121_124
  have a2 := hit121
  obtain ⟨A, hA, sA, aN, aO, bA⟩ := alloc_pack w #[.int .u8 (k.toNat : Int)] 121
  have HA := Lib.hid hA
  have HB1 := Lib.hid bA
  have HS := Lib.hid sA
  clear hA aN aO sA bA
  go_enter Try.func70, Try.ntmps70
  go_wp2_with (fail)
  rw [HA.out]
  refine (emit_any (HC.out.ext HB1.out) (by have := HS.out; omega) hll ⟨1, 0, 0, .zero, k.toNat⟩ (by simp [Ins.cells, BSet.zero])).mono ?_
  rintro e w2 ⟨rfl, hq⟩
  have HQ := Lib.hid hq
  clear hq
  go_wp2
  go_end0
  obtain ⟨pv', q1, q2⟩ := HQ.out
  exact ⟨rfl, pv', q1, (CStep.ofBelow HB1.out).trans q2⟩

set_option maxHeartbeats 1000000 in
theorem addX_back (base cp : Nat) (w0 : World) (n : Nat) : AddX fl ln base cp w0 (.back n) (.iface 133 (.agg #[.int .i64 (n : Int)])) := by
  intro w prog marks pv hB hC hbase hl hm
  simp only [cmp] at hl hm ⊢
  have hll : prog.length ≤ 1000000 := by simp at hl; omega
  have HC := Lib.hid hC
  clear hC
  have a1 := miss133_124
  have a2 := miss133_121
  have a3 := hit133
  obtain ⟨A, hA, sA, aN, aO, bA⟩ := alloc_pack w #[.int .i64 (n : Int)] 133
  have HA := Lib.hid hA
  have HB1 := Lib.hid bA
  have HS := Lib.hid sA
  clear hA aN aO sA bA
  go_enter Try.func70, Try.ntmps70
  go_wp2_with (fail)
  rw [HA.out]
  refine (emit_any (HC.out.ext HB1.out) (by have := HS.out; omega) hll (.mk1 8 n) (by simp [Ins.cells, BSet.zero])).mono ?_
  rintro e w2 ⟨rfl, hq⟩
  have HQ := Lib.hid hq
  clear hq
  go_wp2
  go_end0
  obtain ⟨pv', q1, q2⟩ := HQ.out
  exact ⟨rfl, pv', q1, (CStep.ofBelow HB1.out).trans q2⟩

set_option maxHeartbeats 1000000 in
theorem addX_group0 (base cp : Nat) (w0 : World) (i : Nd) (T : TypeId) (u : Value) (hin : AddX fl ln base cp w0 i (.iface T u)) : AddX fl ln base cp w0 (.group 0 i) (.iface 141 (.agg #[.int .i64 0, .iface T u])) := by
  intro w prog marks pv hB hC hbase hl hm
  simp only [cmp, Nat.lt_irrefl, gt_iff_lt, if_false] at hl hm ⊢
  have hin1 := fun (w1 : World) (h1 : Below base w0 w1) (h2 : CAt base w1 cp prog marks fl ln pv) (h3 : base ≤ w1.heap.size) => hin w1 _ _ pv h1 h2 h3 hl hm
  generalize cmp fl ln i (prog, marks) = r at *
  obtain ⟨rp, rm⟩ := r
  simp only at hl hm hin1 ⊢
  have lcp : cp < w.heap.size := (Array.getElem?_eq_some_iff.1 hC.blk).1
  have hpn : pv.ownBlock ≠ some w.heap.size := fun e => by have := (hC.row.lt _ e).2; omega
  have hcp : w.heap.size ≠ cp := by omega
  have HC := Lib.hid hC
  have HB := Lib.hid hB
  have HI := Lib.hid hin1
  clear hC hB hin hin1
  have a1 := miss141_124
  have a2 := miss141_121
  have a3 := miss141_133
  have a4 := miss141_135
  have a5 := miss141_109
  have a6 := miss141_108
  have a7 := miss141_139
  have a8 := hit141
  obtain ⟨A, hA, sA, aN, aO, bA⟩ := alloc_pack w #[.int .i64 0, .iface T u] 141
  have HA := Lib.hid hA
  have HN := Lib.hid aN
  have HS := Lib.hid sA
  have HB1 := Lib.hid bA
  clear hA aN aO sA bA
  go_enter Try.func70, Try.ntmps70
  go_wp2_with (fail)
  rw [HA.out]
  have x0 : A.cell? ⟨w.heap.size, 0, none⟩ = some (.int .i64 0) := (cell_of_blk HN.out 0).trans rfl
  have lA : w.heap.size < A.heap.size := by rw [HS.out]; omega
  refine (HI.out _ (HB.out.trans (HB1.out.mono hbase)) (HC.out.ext HB1.out) (by omega)).mono ?_
  rintro e w3 ⟨rfl, pv3, hc3, hs3⟩
  have z0 := hs3.cell x0 hcp hpn
  have HC3 := Lib.hid hc3
  have HS3 := Lib.hid hs3
  have l3 : w.heap.size < w3.heap.size := by have := hs3.size; omega
  clear hc3 hs3 x0
  go_wp2
  go_end0
  exact ⟨rfl, pv3, HC3.out, (CStep.ofBelow HB1.out).trans HS3.out⟩

set_option maxHeartbeats 1000000 in
theorem addX_times (base cp : Nat) (w0 : World) (i : Nd) (T : TypeId) (u : Value) {l : Nat} {hi : Int} {lz : Bool} (hlo : l ≤ 100) (hhi : hi = -1 ∨ (l : Int) ≤ hi ∧ hi ≤ 100) (hin : AddX fl ln base cp w0 i (.iface T u)) : AddX fl ln base cp w0 (.times i (l : Int) hi lz) (.iface 139 (.agg #[.iface T u, .int .i64 (l : Int), .int .i64 hi, .bool lz])) := by
  intro w prog marks pv hB hC hbase hl hm
  have hts := fun (w1 : World) (h1 : Below base w0 w1) (h2 : CAt base w1 cp prog marks fl ln pv) (h3 : base ≤ w1.heap.size) => times_any hin hlo hhi h1 h2 h3 (by simpa only [cmp] using hl) (by simpa only [cmp] using hm)
  simp only [cmp] at hl hm ⊢
  generalize timesP (cmp fl ln i) (l : Int) hi lz (prog, marks) = r at *
  obtain ⟨rp, rm⟩ := r
  simp only at hl hm hts ⊢
  have HC := Lib.hid hC
  have HB := Lib.hid hB
  have HI := Lib.hid hts
  clear hC hB hin hts hhi
  have a1 := miss139_124
  have a2 := miss139_121
  have a3 := miss139_133
  have a4 := miss139_135
  have a5 := miss139_109
  have a6 := miss139_108
  have a8 := hit139
  obtain ⟨A, hA, sA, aN, aO, bA⟩ := alloc_pack w #[.iface T u, .int .i64 (l : Int), .int .i64 hi, .bool lz] 139
  have HA := Lib.hid hA
  have HB1 := Lib.hid bA
  have HS := Lib.hid sA
  clear hA aN aO sA bA
  go_enter Try.func70, Try.ntmps70
  go_wp2_with (fail)
  rw [HA.out]
  refine (HI.out _ (HB.out.trans (HB1.out.mono hbase)) (HC.out.ext HB1.out) (by have := HS.out; omega)).mono ?_
  rintro e w2 ⟨rfl, pv2, hc2, hs2⟩
  have HC2 := Lib.hid hc2
  have HS2 := Lib.hid hs2
  clear hc2 hs2
  go_wp2
  go_end0
  exact ⟨rfl, pv2, HC2.out, (CStep.ofBelow HB1.out).trans HS2.out⟩

/-- A node that is not repeated as it stands. -/
def Nd.loose : Nd → Bool
  | .one _ _ => false
  | .place _ => false
  | .back _ => false
  | .group _ _ => false
  | _ => true

mutual
/-- The nodes that are covered: all. -/
def Nd.covX : Nd → Prop
  | .one s n => s.WF ∧ n.WF
  | .place _ => True
  | .look i _ => i.covX
  | .pieces l => l.length ≤ 1000000 ∧ Nd.covsX l
  | .branches l => 0 < l.length ∧ l.length ≤ 1000000 ∧ Nd.covsX l
  | .times i lo hi lz => (0 ≤ lo ∧ lo ≤ 100) ∧ (hi = -1 ∨ lo ≤ hi ∧ hi ≤ 100) ∧ i.loose = false ∧ i.covX
  | .group n i => n ≤ 100000 ∧ i.covX
  | .back n => n ≤ 100000
def Nd.covsX : List Nd → Prop
  | [] => True
  | t :: l => t.covX ∧ Nd.covsX l
end

mutual
theorem addX_node {G : Nat → Prop} {base cp : Nat} {w0 : World} (hG : ∀ b, G b → b < base) : ∀ (t : Nd) (v : Value), NodeAt G w0 t v → t.covX → AddX fl ln base cp w0 t v
  | .one s n, v, h, hc => by
    simp only [NodeAt] at h; subst h
    simp only [Nd.covX] at hc
    exact addX_one base cp w0 s n hc.1 hc.2
  | .place k, v, h, hc => by
    simp only [NodeAt] at h; subst h
    exact addX_place base cp w0 k
  | .back n, v, h, hc => by
    simp only [NodeAt] at h; subst h
    exact addX_back base cp w0 n
  | .look i ng, v, h, hc => by
    simp only [NodeAt] at h
    obtain ⟨x, rfl, h⟩ := h
    simp only [Nd.covX] at hc
    obtain ⟨T, u, rfl⟩ := h.iface
    cases ng
    · exact addX_look_false base cp w0 i T u (addX_node hG i _ h hc)
    · exact addX_look_true base cp w0 i T u (addX_node hG i _ h hc)
  | .group n i, v, h, hc => by
    simp only [NodeAt] at h
    obtain ⟨x, rfl, h⟩ := h
    simp only [Nd.covX] at hc
    obtain ⟨T, u, rfl⟩ := h.iface
    by_cases hn : 0 < n
    · exact addX_group base cp w0 n hn hc.1 i T u (addX_node hG i _ h hc.2)
    · obtain rfl : n = 0 := (by omega)
      exact addX_group0 base cp w0 i T u (addX_node hG i _ h hc.2)
  | .times i lo hi lz, v, h, hc => by
    simp only [NodeAt] at h
    obtain ⟨x, rfl, h⟩ := h
    simp only [Nd.covX] at hc
    obtain ⟨h1, h2, _, hc⟩ := hc
    obtain ⟨T, u, rfl⟩ := h.iface
    obtain ⟨l, rfl⟩ : ∃ l : Nat, lo = (l : Int) := ⟨lo.toNat, by omega⟩
    exact addX_times base cp w0 i T u (by omega) h2 (addX_node hG i _ h hc)
  | .pieces l, v, h, hc => by
    simp only [NodeAt] at h
    obtain ⟨sv, vs, rfl, hr, h⟩ := h
    simp only [Nd.covX] at hc
    have hl := h.length
    exact addX_pieces base cp w0 l sv vs hr.1 (fun k hk => hG k (hr.2 k hk)) hl.symm (by omega) (addX_nodes hG l vs h hc.2)
  | .branches l, v, h, hc => by
    simp only [NodeAt] at h
    obtain ⟨sv, vs, rfl, hr, h⟩ := h
    simp only [Nd.covX] at hc
    have hl := h.length
    exact addX_branches base cp w0 l sv vs hr.1 (fun k hk => hG k (hr.2 k hk)) hl.symm (by omega) (by omega) (addX_nodes hG l vs h hc.2.2)
theorem addX_nodes {G : Nat → Prop} {base cp : Nat} {w0 : World} (hG : ∀ b, G b → b < base) : ∀ (l : List Nd) (vs : List Value), NodesAt G w0 l vs → Nd.covsX l → ∀ (j : Nat) t v, l[j]? = some t → vs[j]? = some v → AddX fl ln base cp w0 t v ∧ ∃ T u, v = .iface T u
  | [], vs, h, hc, j, t, v, h1, h2 => by simp at h1
  | a :: l, vs, h, hc, j, t, v, h1, h2 => by
    simp only [NodesAt] at h
    obtain ⟨x, vs', rfl, hx, h⟩ := h
    simp only [Nd.covsX] at hc
    cases j with
    | zero =>
      simp at h1 h2
      subst h1; subst h2
      exact ⟨addX_node hG a x hx hc.1, hx.iface⟩
    | succ j =>
      simp at h1 h2
      exact addX_nodes hG l vs' h hc.2 j t v h1 h2
end

/-- A machine that has just been made. -/
structure MadeX (fl ln : Bool) (w : World) (T : TypeId) (u : Value) (groups : Int) (refsv : Value) (deep : Int) (prog : List Ins) (marks : Nat) (s : ByteArray) (mp tp : Nat) (pv : Value) (w' : World) : Prop where
  blk : w'.heap[mp]? = some (.cells #[.iface T u, .int .i64 groups, refsv, .int .i64 deep, pv, .int .i64 (marks : Int), .string s, .bool fl, .bool ln, .map (some tp), .bool false] 91 (0, 0))
  tried : w'.heap[tp]? = some (.map #[] 0)
  row : w'.ownsRow w.heap.size 99 8 pv prog.length (prog.flatMap Ins.cells)
  lm : w.heap.size ≤ mp
  lt : w.heap.size ≤ tp
  hm : mp < w'.heap.size
  ht : tp < w'.heap.size
  ne : mp ≠ tp
  pm : pv.ownBlock ≠ some mp
  pt : pv.ownBlock ≠ some tp
  below : Below w.heap.size w w'

set_option maxHeartbeats 1000000 in
theorem compiledX {G : Nat → Prop} (w : World) (s : ByteArray) (t : Nd) (T : TypeId) (u : Value) (groups deep : Int) (ra : Option Addr) (rn rc : Nat) (hG : ∀ b, G b → b < w.heap.size) (hN : NodeAt G w t (.iface T u)) (hcov : t.covX)
    (hl : (cmp fl ln t ([], 0)).1.length ≤ 999990) (hm : (cmp fl ln t ([], 0)).2 ≤ 1000000) :
    Calls Try.prog 44 #[.agg #[.iface T u, .int .i64 groups, .slice ra rn rc, .int .i64 deep], .string s, .bool fl, .bool ln] w fun e w' =>
      ∃ mp tp pv, e = .returned (.pointer (some ⟨mp, 0, none⟩)) ∧ MadeX fl ln w T u groups (.slice ra rn rc) deep ((cmp fl ln t ([], 0)).1 ++ [.mk1 9 0]) (cmp fl ln t ([], 0)).2 s mp tp pv w' := by
  obtain ⟨A, hA, sA, aN, aO, bA⟩ := alloc_pack w #[.iface T u, .int .i64 groups, .slice ra rn rc, .int .i64 deep] 65
  obtain ⟨B, hB, sB, bN, bO, bB⟩ := alloc_pack A #[.slice none 0 0, .int .i64 0, .bool fl, .bool ln] 144
  have hNA : NodeAt G A t (.iface T u) := NodeAt.agree (fun b hb => aO b (hG b hb)) (fun b hb => hb) _ _ hN
  have hadd := addX_node (fl := fl) (ln := ln) (base := A.heap.size) (cp := A.heap.size) (fun b hb => by have := hG b hb; omega) t _ hNA hcov
  have hc0 : CAt A.heap.size B A.heap.size [] 0 fl ln (.slice none 0 0) := ⟨Nat.le_refl _, bN, World.ownsRow_nil _ _ _ _, by simp [Value.ownBlock]⟩
  have hcall := hadd B [] 0 _ bB hc0 (by omega) (by omega) hm
  have HA := Lib.hid hA
  have HB := Lib.hid hB
  have HSA := Lib.hid sA
  have HSB := Lib.hid sB
  have HAN := Lib.hid aN
  have HBA := Lib.hid bA
  have HBB := Lib.hid bB
  have HBO := Lib.hid bO
  have HC0 := Lib.hid hc0
  have HCALL := Lib.hid hcall
  have HL := Lib.hid hl
  clear hA hB sA sB aN bN bA bB aO bO hc0 hcall hadd hNA hN hm hl
  go_enter Try.func44, Try.ntmps44
  go_wp2_with (fail)
  rw [HA.out, HB.out, ← HSA.out]
  refine HCALL.out.mono ?_
  rintro e w1 ⟨rfl, pv1, hc1, hs1⟩
  have hbox1 : w1.heap[w.heap.size]? = some (.cells #[.iface T u, .int .i64 groups, .slice ra rn rc, .int .i64 deep] 65 (0, 0)) := by
    rw [hs1.block w.heap.size (by have := HSA.out; have := HSB.out; omega) (by have := HSA.out; omega) (by simp [Value.ownBlock]), HBO.out _ (by have := HSA.out; omega)]
    exact HAN.out
  have HC1 := Lib.hid hc1
  have HS1 := Lib.hid hs1
  have HX1 := Lib.hid hbox1
  have hA1 : A.heap.size < w1.heap.size := by have := hs1.size; have := HSB.out; omega
  clear hc1 hs1 hbox1
  go_wp2_with (fail)
  refine (emit_any HC1.out (by omega) (by have := HL.out; omega) (.mk1 9 0) (by simp [Ins.cells, BSet.zero])).mono ?_
  rintro e w3 ⟨rfl, pv3, hc3, hs3⟩
  have hpn : pv1.ownBlock ≠ some w.heap.size := fun e => by have := (HC1.out.row.lt _ e).1; have := HSA.out; omega
  have hbox3 : w3.heap[w.heap.size]? = some (.cells #[.iface T u, .int .i64 groups, .slice ra rn rc, .int .i64 deep] 65 (0, 0)) := by
    rw [hs3.block w.heap.size (by have := HSA.out; omega) (by have := HSA.out; omega) hpn]
    exact HX1.out
  obtain ⟨pa, pn, pc, rfl⟩ := ownsRow_shape hc3.row
  have x0 : w3.cell? ⟨w.heap.size, 0, none⟩ = some (.iface T u) := (cell_of_blk hbox3 0).trans rfl
  have x1 : w3.cell? ⟨w.heap.size, 1, none⟩ = some (.int .i64 groups) := (cell_of_blk hbox3 1).trans rfl
  have x2 : w3.cell? ⟨w.heap.size, 2, none⟩ = some (.slice ra rn rc) := (cell_of_blk hbox3 2).trans rfl
  have x3 : w3.cell? ⟨w.heap.size, 3, none⟩ = some (.int .i64 deep) := (cell_of_blk hbox3 3).trans rfl
  have y0 : w3.cell? ⟨A.heap.size, 0, none⟩ = some (.slice pa pn pc) := (cell_of_blk hc3.blk 0).trans rfl
  have y1 : w3.cell? ⟨A.heap.size, 1, none⟩ = some (.int .i64 ((cmp fl ln t ([], 0)).2 : Int)) := (cell_of_blk hc3.blk 1).trans rfl
  have hmk := fun (w : World) => run_makeMap (P := Try.prog) 89 w
  have HC3 := Lib.hid hc3
  have HS3 := Lib.hid hs3
  have l3 : A.heap.size < w3.heap.size := by have := hs3.size; omega
  have l4 : w.heap.size < w3.heap.size := by have := HSA.out; omega
  clear hc3 hs3 hbox3 hpn
  generalize hM : ((cmp fl ln t ([], 0)).2 : Int) = M at *
  go_wp2_with (fail)
  go_region
  go_wp2
  go_ret
  subst hM
  have hs13 := HS1.out.trans HS3.out
  have hB3 := hs13.below HC0.out (by have := HSB.out; omega)
  have hBw : Below w.heap.size w w3 := (HBA.out.trans (HBB.out.mono (by have := HSA.out; omega))).trans (hB3.mono (by have := HSA.out; omega))
  have hr3 := HC3.out.row
  refine ⟨w3.heap.size + 1, w3.heap.size, .slice pa pn pc, rfl, ?_⟩
  exact {
    blk := by
      show ((w3.alloc (.map #[] 0)).alloc _).heap[_]? = _
      have := heap_alloc_new (w3.alloc (.map #[] 0)) (.cells #[.iface T u, .int .i64 groups, .slice ra rn rc, .int .i64 deep, .slice pa pn pc, .int .i64 ((cmp fl ln t ([], 0)).2 : Int), .string s, .bool fl, .bool ln, .map (some w3.heap.size), .bool false] 91)
      simpa using this
    tried := by
      show ((w3.alloc (.map #[] 0)).alloc _).heap[_]? = _
      rw [heap_alloc_old _ _ (by simp)]
      exact heap_alloc_new w3 _
    row := by
      refine ownsRow_agree (ownsRow_mono hr3 (by have := HSA.out; omega)) fun j hj => ?_
      have := (hr3.lt j hj).2
      show ((w3.alloc (.map #[] 0)).alloc _).heap[_]? = _
      rw [heap_alloc_old _ _ (by simp; omega), heap_alloc_old _ _ (by omega)]
    lm := by omega
    lt := by omega
    hm := by simp
    ht := by simp; omega
    ne := by omega
    pm := fun e => by have := (hr3.lt _ e).2; omega
    pt := fun e => by have := (hr3.lt _ e).2; omega
    below := ((hBw.alloc (by omega) _).alloc (by simp; omega) _).drew }

end Go.Proofs.Ytfgghbideoehjaa

namespace Go.Proofs.Ytfgghbideoehjaa
open Go.ChangeShapes Go.WideShapes Go.ChangeAt Go.RowKit
set_option linter.unusedVariables false
set_option linter.unusedSimpArgs false
set_option maxRecDepth 100000

theorem cap_full (l : List Nat) : l.foldl (fun n x => min (n + x) 10000) 10000 = 10000 := by
  induction l with
  | nil => rfl
  | cons a l ih => simp only [List.foldl_cons]; rw [show min (10000 + a) 10000 = 10000 by omega]; exact ih
theorem cap_sum : ∀ (l : List Nat) (n : Nat), l.foldl (fun n x => min (n + x) 10000) n < 10000 → l.foldl (fun n x => min (n + x) 10000) n = n + l.sum
  | [], n, h => by simp
  | a :: l, n, h => by
    simp only [List.foldl_cons, List.sum_cons] at h ⊢
    by_cases hc : n + a < 10000
    · rw [show min (n + a) 10000 = n + a by omega] at h ⊢
      rw [cap_sum l _ h]; omega
    · rw [show min (n + a) 10000 = 10000 by omega, cap_full] at h
      omega
theorem capSum_eq {l : List Nat} (h : capSum l < 10000) : capSum l = l.sum := by
  have := cap_sum l 0 h
  unfold capSum; omega

theorem mem_le_sum {x : Nat} : ∀ {l : List Nat}, x ∈ l → x ≤ l.sum
  | a :: l, h => by
    simp only [List.sum_cons]
    rcases List.mem_cons.1 h with rfl | h
    · omega
    · have := mem_le_sum h; omega

theorem iter_len {f : PM → PM} {c : Nat} (h : ∀ p, (f p).1.length ≤ p.1.length + c) : ∀ (n : Nat) (p : PM), (iter f n p).1.length ≤ p.1.length + n * c
  | 0, p => by simp [iter]
  | n + 1, p => by
    have h1 := iter_len h n p
    have h2 := h (iter f n p)
    simp only [iter, Nat.add_mul, Nat.one_mul]
    omega
theorem once_len {f : PM → PM} {c : Nat} (h : ∀ p, (f p).1.length ≤ p.1.length + c) (p : PM) : (onceP f p).1.length ≤ p.1.length + (c + 3) := by
  have := h (p.1 ++ [.mk1 3 0] ++ [.mk1 6 p.2], p.2 + 1)
  simp only [onceP, List.length_append, List.length_cons, List.length_nil] at this ⊢
  omega
theorem opts_len {f : PM → PM} {c : Nat} (h : ∀ p, (f p).1.length ≤ p.1.length + c) : ∀ (n : Nat) (q : List Nat × PM), (iter (optP f) n q).2.1.length ≤ q.2.1.length + n * (c + 3)
  | 0, q => by simp [iter]
  | n + 1, q => by
    have h1 := opts_len h n q
    have h2 := once_len h (iter (optP f) n q).2
    simp only [iter, optP, Nat.add_mul, Nat.one_mul]
    omega

mutual
theorem cmp_len (fl ln : Bool) : ∀ (t : Nd) (p : PM), t.covX → t.size < 10000 → (cmp fl ln t p).1.length + (if t.loose = true then 0 else 4) ≤ p.1.length + 8 * t.size
  | .one s n, p, hc, hs => by simp [cmp, Nd.size, Nd.loose]
  | .place _, p, hc, hs => by simp [cmp, Nd.size, Nd.loose]
  | .back _, p, hc, hs => by simp [cmp, Nd.size, Nd.loose]
  | .look i ng, p, hc, hs => by
    simp only [Nd.covX] at hc
    simp only [Nd.size] at hs ⊢
    simp only [cmp, Nd.loose, if_true, Nat.add_zero]
    have := cmp_len fl ln i (if ng = true then setB (setA (p.1 ++ [.mk1 2 0] ++ [.mk1 4 0]) p.1.length (p.1.length + 2)) p.1.length 1 else setA (p.1 ++ [.mk1 2 0] ++ [.mk1 4 0]) p.1.length (p.1.length + 2), p.2) hc (by omega)
    have hl : (if ng = true then setB (setA (p.1 ++ [.mk1 2 0] ++ [.mk1 4 0]) p.1.length (p.1.length + 2)) p.1.length 1 else setA (p.1 ++ [.mk1 2 0] ++ [.mk1 4 0]) p.1.length (p.1.length + 2)).length = p.1.length + 2 := by split <;> simp
    simp only [hl] at this
    simp only [setA_len, List.length_append, List.length_cons, List.length_nil]
    omega
  | .pieces l, p, hc, hs => by
    simp only [Nd.covX] at hc
    simp only [Nd.size] at hs ⊢
    simp only [cmp, Nd.loose]
    have hb := cmpL_len fl ln l p hc.2 (fun x hx => by
      have := mem_le_sum hx
      rw [capSum_eq hs] at hs
      omega)
    rw [capSum_eq hs]
    simp
    omega
  | .branches l, p, hc, hs => by
    simp only [Nd.covX] at hc
    simp only [Nd.size] at hs ⊢
    simp only [cmp, Nd.loose]
    have hcap : capSum (Nd.sizes l) < 10000 := by omega
    have hb := cmpB_len fl ln l [] p hc.2.2 (fun x hx => by
      have := mem_le_sum hx
      rw [capSum_eq hcap] at hcap
      omega)
    rw [capSum_eq hcap] at hs ⊢
    simp
    omega
  | .times i lo hi lz, p, hc, hs => by
    simp only [Nd.covX] at hc
    obtain ⟨h1, h2, h3, h4⟩ := hc
    simp only [Nd.size] at hs ⊢
    simp only [cmp, Nd.loose, if_true, Nat.add_zero]
    have hms : i.size * mostOf lo hi < 10000 := by omega
    rw [show max 1 (min (i.size * mostOf lo hi) 10000) = max 1 (i.size * mostOf lo hi) by omega]
    by_cases hm0 : mostOf lo hi = 0
    · have hz : lo = 0 ∧ hi = 0 := by
        unfold mostOf at hm0
        split at hm0 <;> omega
      obtain ⟨rfl, rfl⟩ := hz
      simp [timesP, iter]
    · have hi1 : i.size < 10000 := by
        have : i.size * 1 ≤ i.size * mostOf lo hi := Nat.mul_le_mul_left _ (by omega)
        omega
      have hf : ∀ q : PM, (cmp fl ln i q).1.length ≤ q.1.length + (8 * i.size - 4) := fun q => by
        have := cmp_len fl ln i q h4 hi1
        rw [h3] at this
        simp at this
        omega
      have h44 : 4 ≤ 8 * i.size := by
        have := cmp_len fl ln i ([], 0) h4 hi1
        rw [h3] at this
        simp at this
        omega
      have hit := iter_len hf lo.toNat p
      have h8 : 8 * (i.size * mostOf lo hi) = (8 * i.size) * mostOf lo hi := by rw [Nat.mul_assoc]
      generalize hD : 8 * i.size = D at *
      generalize i.size * mostOf lo hi = X at *
      unfold timesP
      split
      · rename_i hhi
        have ho := once_len hf (iter (cmp fl ln i) lo.toNat p)
        simp only [choose_len, List.length_append, List.length_cons, List.length_nil]
        have hmo : mostOf lo hi = lo.toNat + 1 := by unfold mostOf; rw [if_pos hhi]
        rw [hmo, Nat.mul_add, Nat.mul_one] at h8
        have hsub : lo.toNat * (D - 4) + 4 * lo.toNat = D * lo.toNat := by
          rw [Nat.mul_comm 4, ← Nat.mul_add, Nat.mul_comm]
          congr 1
          omega
        omega
      · rename_i hhi
        have ho := opts_len hf (hi - lo).toNat ([], iter (cmp fl ln i) lo.toNat p)
        simp only [chooses_len] at ho ⊢
        have hmo : mostOf lo hi = hi.toNat := by unfold mostOf; rw [if_neg hhi]
        have e1 : hi.toNat = lo.toNat + (hi - lo).toNat := by omega
        rw [hmo, e1, Nat.mul_add] at h8
        have hsub : lo.toNat * (D - 4) + 4 * lo.toNat = D * lo.toNat := by
          rw [Nat.mul_comm 4, ← Nat.mul_add, Nat.mul_comm]
          congr 1
          omega
        have hsub2 : (hi - lo).toNat * (D - 4 + 3) + (hi - lo).toNat = D * (hi - lo).toNat := by
          rw [← Nat.mul_succ, Nat.mul_comm]
          congr 1
          omega
        omega
  | .group n i, p, hc, hs => by
    simp only [Nd.covX] at hc
    simp only [Nd.size] at hs ⊢
    simp only [cmp, Nd.loose]
    have hi : i.size < 10000 := by omega
    split
    · have := cmp_len fl ln i (p.1 ++ [.mk1 5 (2 * n)], p.2) hc.2 hi
      simp at this ⊢
      omega
    · have := cmp_len fl ln i p hc.2 hi
      simp at this ⊢
      omega
theorem cmpL_len (fl ln : Bool) : ∀ (l : List Nd) (p : PM), Nd.covsX l → (∀ x ∈ Nd.sizes l, x < 10000) → (cmpL fl ln l p).1.length ≤ p.1.length + 8 * (Nd.sizes l).sum
  | [], p, hc, hs => by simp [cmpL, Nd.sizes]
  | t :: l, p, hc, hs => by
    simp only [Nd.covsX] at hc
    simp only [Nd.sizes, List.mem_cons, forall_eq_or_imp] at hs
    simp only [cmpL, Nd.sizes, List.sum_cons]
    have h1 := cmp_len fl ln t p hc.1 hs.1
    have h2 := cmpL_len fl ln l (cmp fl ln t p) hc.2 hs.2
    omega
theorem cmpB_len (fl ln : Bool) : ∀ (l : List Nd) (ends : List Nat) (p : PM), Nd.covsX l → (∀ x ∈ Nd.sizes l, x < 10000) → (cmpB fl ln l ends p).1.length ≤ p.1.length + 8 * (Nd.sizes l).sum + 2 * l.length
  | [], ends, p, hc, hs => by simp [cmpB, patch_len]
  | [t], ends, p, hc, hs => by
    simp only [Nd.covsX] at hc
    simp only [Nd.sizes, List.mem_cons, forall_eq_or_imp] at hs
    simp only [cmpB, patch_len, Nd.sizes, List.sum_cons, List.sum_nil]
    have h1 := cmp_len fl ln t p hc.1 hs.1
    omega
  | t :: u :: l, ends, p, hc, hs => by
    simp only [Nd.covsX] at hc
    rw [Nd.sizes] at hs ⊢
    simp only [List.mem_cons, forall_eq_or_imp] at hs
    simp only [cmpB, List.sum_cons]
    have h1 := cmp_len fl ln t (setA (p.1 ++ [.mk1 3 0]) p.1.length (p.1.length + 1), p.2) hc.1 hs.1
    generalize cmp fl ln t (setA (p.1 ++ [.mk1 3 0]) p.1.length (p.1.length + 1), p.2) = r at *
    have h2 := cmpB_len fl ln (u :: l) (ends ++ [r.1.length]) (setB (r.1 ++ [.mk1 4 0]) p.1.length (r.1.length + 1), r.2) hc.2 hs.2
    simp at h1 h2 ⊢
    omega
end

/-- No more marks than instructions. -/
def Spare (f : PM → PM) : Prop := ∀ p, (f p).2 + p.1.length ≤ p.2 + (f p).1.length

theorem iter_marks {f : PM → PM} (h : Spare f) : ∀ n, Spare (iter f n)
  | 0, p => Nat.le_refl _
  | n + 1, p => by
    have h1 := iter_marks h n p
    have h2 := h (iter f n p)
    simp only [iter]
    omega
theorem once_marks {f : PM → PM} (h : Spare f) : Spare (onceP f) := by
  intro p
  have := h (p.1 ++ [.mk1 3 0] ++ [.mk1 6 p.2], p.2 + 1)
  simp only [onceP, List.length_append, List.length_cons, List.length_nil] at this ⊢
  omega
theorem opt_marks {f : PM → PM} (h : Spare f) (n : Nat) (q : List Nat × PM) : (iter (optP f) n q).2.2 + q.2.1.length ≤ q.2.2 + (iter (optP f) n q).2.1.length := by
  induction n with
  | zero => exact Nat.le_refl _
  | succ n ih =>
    have := once_marks h (iter (optP f) n q).2
    simp only [iter, optP]
    omega
theorem times_marks {f : PM → PM} (h : Spare f) (lo hi : Int) (lz : Bool) : Spare (timesP f lo hi lz) := by
  intro p
  have h1 := iter_marks h lo.toNat p
  unfold timesP
  split
  · have h2 := once_marks h (iter f lo.toNat p)
    simp only [choose_len, List.length_append, List.length_cons, List.length_nil]
    omega
  · have h2 := opt_marks h (hi - lo).toNat ([], iter f lo.toNat p)
    simp only [chooses_len] at h2 ⊢
    omega

mutual
theorem cmp_marks (fl ln : Bool) : ∀ (t : Nd) (p : PM), (cmp fl ln t p).2 + p.1.length ≤ p.2 + (cmp fl ln t p).1.length
  | .one s n, p => by simp [cmp]; try omega
  | .place _, p => by simp [cmp]; try omega
  | .back _, p => by simp [cmp]; try omega
  | .look i ng, p => by
    simp only [cmp]
    have := cmp_marks fl ln i (if ng = true then setB (setA (p.1 ++ [.mk1 2 0] ++ [.mk1 4 0]) p.1.length (p.1.length + 2)) p.1.length 1 else setA (p.1 ++ [.mk1 2 0] ++ [.mk1 4 0]) p.1.length (p.1.length + 2), p.2)
    have hl : (if ng = true then setB (setA (p.1 ++ [.mk1 2 0] ++ [.mk1 4 0]) p.1.length (p.1.length + 2)) p.1.length 1 else setA (p.1 ++ [.mk1 2 0] ++ [.mk1 4 0]) p.1.length (p.1.length + 2)).length = p.1.length + 2 := by split <;> simp
    simp only [hl] at this
    simp only [setA_len, List.length_append, List.length_cons, List.length_nil]
    omega
  | .pieces l, p => by simp only [cmp]; exact cmpL_marks fl ln l p
  | .branches l, p => by simp only [cmp]; exact cmpB_marks fl ln l [] p
  | .times i lo hi lz, p => by
    simp only [cmp]
    exact times_marks (fun q => cmp_marks fl ln i q) lo hi lz p
  | .group n i, p => by
    simp only [cmp]
    split
    · have := cmp_marks fl ln i (p.1 ++ [.mk1 5 (2 * n)], p.2)
      simp at this ⊢
      omega
    · exact cmp_marks fl ln i p
theorem cmpL_marks (fl ln : Bool) : ∀ (l : List Nd) (p : PM), (cmpL fl ln l p).2 + p.1.length ≤ p.2 + (cmpL fl ln l p).1.length
  | [], p => by simp [cmpL]
  | t :: l, p => by
    simp only [cmpL]
    have h1 := cmp_marks fl ln t p
    have h2 := cmpL_marks fl ln l (cmp fl ln t p)
    omega
theorem cmpB_marks (fl ln : Bool) : ∀ (l : List Nd) (ends : List Nat) (p : PM), (cmpB fl ln l ends p).2 + p.1.length ≤ p.2 + (cmpB fl ln l ends p).1.length
  | [], ends, p => by simp [cmpB, patch_len]
  | [t], ends, p => by
    simp only [cmpB, patch_len]
    exact cmp_marks fl ln t p
  | t :: u :: l, ends, p => by
    simp only [cmpB]
    have h1 := cmp_marks fl ln t (setA (p.1 ++ [.mk1 3 0]) p.1.length (p.1.length + 1), p.2)
    generalize cmp fl ln t (setA (p.1 ++ [.mk1 3 0]) p.1.length (p.1.length + 1), p.2) = r at *
    have h2 := cmpB_marks fl ln (u :: l) (ends ++ [r.1.length]) (setB (r.1 ++ [.mk1 4 0]) p.1.length (r.1.length + 1), r.2)
    simp at h1 h2
    omega
end

theorem z_wf : BSet.zero.WF ∧ 0 < 256 := ⟨BSet.zero_wf, by decide⟩
def WFs (p : PM) : Prop := ∀ i ∈ p.1, i.set.WF ∧ i.kind < 256
theorem wf_snoc {p : List Ins} {m n : Nat} {i : Ins} (h : WFs (p, m)) (hi : i.set.WF ∧ i.kind < 256) : WFs (p ++ [i], n) := by
  intro x hx
  rcases List.mem_append.1 hx with h1 | h1
  · exact h x h1
  · simp at h1; subst h1; exact hi
theorem wf_any {p : List Ins} {m n : Nat} (h : WFs (p, m)) : WFs (p, n) := h
theorem wf_setA {p : List Ins} {m : Nat} (h : WFs (p, m)) (k v n : Nat) : WFs (setA p k v, n) := by
  intro x hx
  simp only [setA] at hx
  obtain ⟨j, hj⟩ := List.mem_iff_getElem?.1 hx
  rw [List.getElem?_modify] at hj
  cases e : p[j]? with
  | none => rw [e] at hj; simp at hj
  | some y =>
    rw [e] at hj
    simp at hj
    have hy := h y (List.mem_of_getElem? e)
    split at hj <;> (subst hj; exact hy)
theorem wf_setB {p : List Ins} {m : Nat} (h : WFs (p, m)) (k v n : Nat) : WFs (setB p k v, n) := by
  intro x hx
  simp only [setB] at hx
  obtain ⟨j, hj⟩ := List.mem_iff_getElem?.1 hx
  rw [List.getElem?_modify] at hj
  cases e : p[j]? with
  | none => rw [e] at hj; simp at hj
  | some y =>
    rw [e] at hj
    simp at hj
    have hy := h y (List.mem_of_getElem? e)
    split at hj <;> (subst hj; exact hy)
theorem wf_choose {p : List Ins} {m : Nat} (h : WFs (p, m)) (lz : Bool) (out k n : Nat) : WFs (chooseP lz out k p, n) := by
  unfold chooseP
  split
  · exact wf_setB (m := 0) (wf_setA h k out 0) k (k + 1) n
  · exact wf_setB (m := 0) (wf_setA h k (k + 1) 0) k out n
theorem wf_patch (ends : List Nat) : ∀ {p : List Ins} {m : Nat}, WFs (p, m) → ∀ n, WFs (patch ends p, n) := by
  induction ends with
  | nil => intro p m h n; exact h
  | cons e l ih => intro p m h n; simp only [patch, List.foldl_cons] at ih ⊢; exact ih (wf_setA h e p.length m) n
theorem iter_wf {f : PM → PM} (h : ∀ p, WFs p → WFs (f p)) : ∀ (n : Nat) (p : PM), WFs p → WFs (iter f n p)
  | 0, p, hp => hp
  | n + 1, p, hp => h _ (iter_wf h n p hp)
theorem once_wf {f : PM → PM} (h : ∀ p, WFs p → WFs (f p)) (p : PM) (hp : WFs p) : WFs (onceP f p) := by
  have := h (p.1 ++ [.mk1 3 0] ++ [.mk1 6 p.2], p.2 + 1) (wf_snoc (m := 0) (wf_snoc (m := 0) hp z_wf) z_wf)
  exact wf_snoc (m := 0) this z_wf
theorem opt_wf {f : PM → PM} (h : ∀ p, WFs p → WFs (f p)) (n : Nat) (q : List Nat × PM) (hq : WFs q.2) : WFs (iter (optP f) n q).2 := by
  induction n with
  | zero => exact hq
  | succ n ih => exact once_wf h _ ih
theorem chooses_wf (lz : Bool) (out : Nat) (ks : List Nat) : ∀ {p : List Ins} {m : Nat}, WFs (p, m) → ∀ n, WFs (ks.foldl (fun pr k => chooseP lz out k pr) p, n) := by
  induction ks with
  | nil => intro p m h n; exact h
  | cons k l ih => intro p m h n; simp only [List.foldl_cons]; exact ih (wf_choose h lz out k m) n
theorem times_wf {f : PM → PM} (h : ∀ p, WFs p → WFs (f p)) (lo hi : Int) (lz : Bool) (p : PM) (hp : WFs p) : WFs (timesP f lo hi lz p) := by
  have h1 := iter_wf h lo.toNat p hp
  unfold timesP
  split
  · exact wf_choose (m := 0) (wf_snoc (m := 0) (once_wf h _ h1) z_wf) lz _ _ _
  · exact chooses_wf lz _ _ (m := 0) (opt_wf h (hi - lo).toNat ([], iter f lo.toNat p) h1) _

mutual
theorem cmp_wf (fl ln : Bool) : ∀ (t : Nd) (p : PM), t.covX → WFs p → WFs (cmp fl ln t p)
  | .one s n, p, hc, hp => by
    simp only [Nd.covX] at hc
    simp only [cmp]
    exact wf_snoc (m := 0) hp ⟨bytesOf_wf hc.1 hc.2 fl ln, by show 0 < 256; decide⟩
  | .place _, p, hc, hp => by simp only [Nd.covX] at hc; simp only [cmp]; exact wf_snoc (m := 0) hp ⟨BSet.zero_wf, UInt8.toNat_lt _⟩
  | .back _, p, hc, hp => by simp only [cmp]; exact wf_snoc (m := 0) hp z_wf
  | .look i ng, p, hc, hp => by
    simp only [Nd.covX] at hc
    simp only [cmp]
    refine wf_setA (m := 0) (wf_snoc (m := 0) (cmp_wf fl ln i _ hc ?_) z_wf) _ _ _
    have h1 : WFs (setA (p.1 ++ [.mk1 2 0] ++ [.mk1 4 0]) p.1.length (p.1.length + 2), p.2) := wf_setA (m := 0) (wf_snoc (m := 0) (wf_snoc (m := 0) (n := 0) hp z_wf) z_wf) _ _ _
    cases ng
    · exact h1
    · exact wf_setB (m := p.2) h1 _ _ _
  | .pieces l, p, hc, hp => by simp only [Nd.covX] at hc; simp only [cmp]; exact cmpL_wf fl ln l p hc.2 hp
  | .branches l, p, hc, hp => by simp only [Nd.covX] at hc; simp only [cmp]; exact cmpB_wf fl ln l [] p hc.2.2 hp
  | .times i lo hi lz, p, hc, hp => by
    simp only [Nd.covX] at hc
    simp only [cmp]
    exact times_wf (fun q hq => cmp_wf fl ln i q hc.2.2.2 hq) lo hi lz p hp
  | .group n i, p, hc, hp => by
    simp only [Nd.covX] at hc
    simp only [cmp]
    split
    · exact wf_snoc (m := 0) (cmp_wf fl ln i _ hc.2 (wf_snoc (m := 0) hp z_wf)) z_wf
    · exact cmp_wf fl ln i p hc.2 hp
theorem cmpL_wf (fl ln : Bool) : ∀ (l : List Nd) (p : PM), Nd.covsX l → WFs p → WFs (cmpL fl ln l p)
  | [], p, hc, hp => by simp only [cmpL]; exact hp
  | t :: l, p, hc, hp => by
    simp only [Nd.covsX] at hc
    simp only [cmpL]
    exact cmpL_wf fl ln l _ hc.2 (cmp_wf fl ln t p hc.1 hp)
theorem cmpB_wf (fl ln : Bool) : ∀ (l : List Nd) (ends : List Nat) (p : PM), Nd.covsX l → WFs p → WFs (cmpB fl ln l ends p)
  | [], ends, p, hc, hp => by simp only [cmpB]; exact wf_patch ends (m := 0) hp _
  | [t], ends, p, hc, hp => by
    simp only [Nd.covsX] at hc
    simp only [cmpB]
    exact wf_patch ends (m := 0) (cmp_wf fl ln t p hc.1 hp) _
  | t :: u :: l, ends, p, hc, hp => by
    simp only [Nd.covsX] at hc
    simp only [cmpB]
    refine cmpB_wf fl ln (u :: l) _ _ hc.2 (wf_setB (m := 0) (wf_snoc (m := 0) (cmp_wf fl ln t _ hc.1 ?_) z_wf) _ _ _)
    exact wf_setA (m := 0) (wf_snoc (m := 0) hp z_wf) _ _ _
end


end Go.Proofs.Ytfgghbideoehjaa

namespace Go.Proofs.Ytfgghbideoehjaa
open Go.ChangeShapes Go.WideShapes Go.ChangeAt Go.RowKit
set_option linter.unusedVariables false
set_option linter.unusedSimpArgs false
set_option maxRecDepth 100000

theorem covs_snoc (x : Nd) : ∀ l : List Nd, Nd.covsX (l ++ [x]) ↔ Nd.covsX l ∧ x.covX
  | [] => by simp [Nd.covsX]
  | a :: l => by simp [Nd.covsX, covs_snoc x l, and_assoc]
theorem okGs_snoc (G : Nat) (x : Nd) : ∀ l : List Nd, Nd.okGs G (l ++ [x]) ↔ Nd.okGs G l ∧ x.okG G
  | [] => by simp [Nd.okGs]
  | a :: l => by simp [Nd.okGs, okGs_snoc G x l, and_assoc]
theorem flats_snoc (x : Nd) : ∀ l : List Nd, Nd.flats (l ++ [x]) ↔ Nd.flats l ∧ x.flat
  | [] => by simp [Nd.flats]
  | a :: l => by simp [Nd.flats, flats_snoc x l, and_assoc]

mutual
theorem okG_mono {G G' : Nat} (h : G ≤ G') : ∀ t : Nd, t.okG G → t.okG G'
  | .one _ _, _ => trivial
  | .place _, _ => trivial
  | .look i _, hp => by simp only [Nd.okG] at hp ⊢; exact ⟨hp.1, okG_mono h i hp.2⟩
  | .back n, hp => by simp only [Nd.okG] at hp ⊢; omega
  | .pieces l, hp => by simp only [Nd.okG] at hp ⊢; exact okGs_mono h l hp
  | .branches l, hp => by simp only [Nd.okG] at hp ⊢; exact ⟨hp.1, okGs_mono h l hp.2⟩
  | .times i lo hi _, hp => by simp only [Nd.okG] at hp ⊢; exact ⟨hp.1, hp.2.1, okG_mono h i hp.2.2⟩
  | .group n i, hp => by simp only [Nd.okG] at hp ⊢; exact ⟨by omega, okG_mono h i hp.2⟩
theorem okGs_mono {G G' : Nat} (h : G ≤ G') : ∀ l : List Nd, Nd.okGs G l → Nd.okGs G' l
  | [], _ => trivial
  | t :: l, hp => by simp only [Nd.okGs] at hp ⊢; exact ⟨okG_mono h t hp.1, okGs_mono h l hp.2⟩
end

def LookFr (f : Fr) : Prop := f.kind = 61 ∨ f.kind = 33

/-- What is known of a frame. -/
structure FrOk (g : Nat) (f : Fr) : Prop where
  cb : Nd.covsX f.brs
  cp : Nd.covsX f.pcs
  ob : Nd.okGs (2 * g + 2) f.brs
  op : Nd.okGs (2 * g + 2) f.pcs
  num : f.num ≤ g
structure FrFlat (f : Fr) : Prop where
  b : Nd.flats f.brs
  p : Nd.flats f.pcs
  k : f.kind ≠ 40

/-- What is known of a state. -/
structure PSt.Fit (st : PSt) : Prop where
  frs : ∀ f ∈ st.low ++ [st.top], FrOk st.groups f
  flat : ∀ l1 f l2, st.low ++ [st.top] = l1 ++ f :: l2 → LookFr f → ∀ g ∈ f :: l2, FrFlat g
  single : st.top.single = true → ∀ pre y, st.top.pcs = pre ++ [y] → y.loose = false

theorem FrOk.mono {g g' : Nat} {f : Fr} (h : FrOk g f) (hg : g ≤ g') : FrOk g' f := ⟨h.cb, h.cp, okGs_mono (by omega) _ h.ob, okGs_mono (by omega) _ h.op, by have := h.num; omega⟩

/-- No look ahead is open: none of the frames is one. -/
theorem no_look {st : PSt} (hg : st.Good) (h0 : st.looks = 0) {f : Fr} (hf : f ∈ st.low ++ [st.top]) : ¬ LookFr f := by
  have := hg.looks
  rw [h0] at this
  have h1 := List.countP_eq_zero.1 this.symm f hf
  intro hl
  rcases hl with hl | hl
  · simp [hl] at h1
  · simp [hl] at h1
theorem some_look {st : PSt} (hg : st.Good) {l1 l2 : List Fr} {f : Fr} (e : st.low ++ [st.top] = l1 ++ f :: l2) (hf : LookFr f) : st.looks ≠ 0 := fun h0 => no_look hg h0 (by rw [e]; simp) hf

/-- The last frame turned: its prefix stays. -/
theorem split_last {low : List Fr} {a b : Fr} {l1 l2 : List Fr} {f : Fr} (e : low ++ [a] = l1 ++ f :: l2) : (l2 = [] ∧ f = a ∧ low = l1) ∨ ∃ l3, l2 = l3 ++ [a] ∧ low = l1 ++ f :: l3 := by
  rcases List.eq_nil_or_concat l2 with rfl | ⟨l3, z, rfl⟩
  · have := List.append_inj' e rfl
    obtain ⟨h1, h2⟩ := this
    simp at h2
    exact .inl ⟨rfl, h2.symm, h1⟩
  · have e2 : low ++ [a] = (l1 ++ f :: l3) ++ [z] := by rw [e]; simp
    obtain ⟨h1, h2⟩ := List.append_inj' e2 rfl
    simp at h2
    exact .inr ⟨l3, by rw [h2]; simp, h1⟩

/-- The top frame is turned. -/
theorem fit_top {st st' : PSt} (h : st.Fit) (el : st'.low = st.low) (eg : st'.groups = st.groups) (hk : st'.top.kind = st.top.kind) (ho : FrOk st.groups st'.top) (hf : (∃ l1 f l2, st.low ++ [st.top] = l1 ++ f :: l2 ∧ LookFr f) → Nd.flats st'.top.brs ∧ Nd.flats st'.top.pcs)
    (hs : st'.top.single = true → ∀ pre y, st'.top.pcs = pre ++ [y] → y.loose = false) : st'.Fit where
  frs := by
    intro f hm
    rw [el] at hm
    rw [eg]
    rcases List.mem_append.1 hm with hm | hm
    · exact h.frs f (List.mem_append.2 (.inl hm))
    · simp at hm; subst hm; exact ho
  flat := by
    intro l1 f l2 e hl g hm
    rw [el] at e
    rcases split_last (b := st.top) e with ⟨rfl, rfl, rfl⟩ | ⟨l3, rfl, e2⟩
    · simp at hm
      subst hm
      have e3 : st.low ++ [st.top] = st.low ++ st.top :: [] := rfl
      have hl' : LookFr st.top := by unfold LookFr at hl ⊢; rw [hk] at hl; exact hl
      have h1 := h.flat _ _ _ e3 hl' st.top (by simp)
      obtain ⟨h2, h3⟩ := hf ⟨_, _, _, e3, hl'⟩
      exact ⟨h2, h3, by rw [hk]; exact h1.k⟩
    · have e3 : st.low ++ [st.top] = l1 ++ f :: (l3 ++ [st.top]) := by rw [e2]; simp
      rcases List.mem_cons.1 hm with rfl | hm
      · exact h.flat _ _ _ e3 hl _ (by simp)
      · rcases List.mem_append.1 hm with hm | hm
        · exact h.flat _ _ _ e3 hl g (by simp [hm])
        · simp at hm
          subst hm
          have h1 := h.flat _ _ _ e3 hl st.top (by simp)
          obtain ⟨h2, h3⟩ := hf ⟨_, _, _, e3, hl⟩
          exact ⟨h2, h3, by rw [hk]; exact h1.k⟩
  single := hs

theorem fit_put {st : PSt} (hg : st.Good) (h : st.Fit) {x : Nd} {single : Bool} {n : Nat} (hx : x.covX) (ho : x.okG (2 * st.groups + 2)) (hf : st.looks ≠ 0 → x.flat) (ht : single = true → x.loose = false) : (st.put x single n).Fit := by
  have h0 := h.frs st.top (by simp)
  refine fit_top h rfl rfl rfl ⟨h0.cb, (covs_snoc _ _).2 ⟨h0.cp, hx⟩, h0.ob, (okGs_snoc _ _ _).2 ⟨h0.op, ho⟩, h0.num⟩ ?_ ?_
  · rintro ⟨l1, f, l2, e, hl⟩
    have h1 := h.flat l1 f l2 e hl st.top (by
      rcases split_last (b := st.top) e with ⟨rfl, rfl, _⟩ | ⟨l3, rfl, _⟩ <;> simp)
    exact ⟨h1.b, (flats_snoc _ _).2 ⟨h1.p, hf (some_look hg e hl)⟩⟩
  · intro hs pre y hp
    simp only [PSt.put] at hs hp
    have := (List.append_inj' hp rfl).2
    simp at this
    rw [← this]
    exact ht hs

/-- A frame is opened. -/
theorem fit_push {st st' : PSt} (hg : st.Good) (h : st.Fit) {k : UInt8} {num : Nat} (e3 : st'.low = st.low ++ [st.top]) (e4 : st'.top = ⟨k, num, [], [], false⟩) (eg : st.groups ≤ st'.groups) (hn : num ≤ st'.groups) (hk : k = 40 → st.looks = 0) : st'.Fit where
  frs := by
    intro f hm
    rw [e3, e4] at hm
    rcases List.mem_append.1 hm with hm | hm
    · exact (h.frs f hm).mono eg
    · simp at hm; subst hm; exact ⟨trivial, trivial, trivial, trivial, hn⟩
  flat := by
    intro l1 f l2 e hl g hm
    rw [e3, e4] at e
    have fresh : LookFr f → f ∈ st.low ++ [st.top] → k ≠ 40 := fun hl hf e40 => no_look hg (hk e40) hf hl
    rcases split_last (b := st.top) e with ⟨rfl, rfl, e2⟩ | ⟨l3, rfl, e2⟩
    · simp at hm
      subst hm
      refine ⟨trivial, trivial, ?_⟩
      show k ≠ 40
      rcases hl with hl | hl <;> (have hl : k = _ := hl; rw [hl]; decide)
    · rcases List.mem_cons.1 hm with rfl | hm
      · exact h.flat _ _ _ e2 hl _ (by simp)
      · rcases List.mem_append.1 hm with hm | hm
        · exact h.flat _ _ _ e2 hl g (by simp [hm])
        · simp at hm
          subst hm
          exact ⟨trivial, trivial, fresh hl (by rw [e2]; simp)⟩
  single := by rw [e4]; intro h; cases h

/-- A frame is shut. -/
theorem fit_pop {st st' : PSt} (h : st.Fit) {l : List Fr} {f : Fr} (hl : st.low = l ++ [f]) (e3 : st'.low = l) (e4 : st'.top = f) (eg : st'.groups = st.groups) {x : Nd} {single : Bool} (hx : x.covX) (ho : x.okG (2 * st.groups + 2)) (ht : single = true → x.loose = false)
    (hf : (∃ l1 g l2, l ++ [f] = l1 ++ g :: l2 ∧ LookFr g) → x.flat) : (st'.put x single 1).Fit where
  frs := by
    intro y hy
    simp only [PSt.put] at hy
    rw [e3, e4] at hy
    show FrOk st'.groups y
    rw [eg]
    rcases List.mem_append.1 hy with hy | hy
    · exact h.frs y (by rw [hl]; simp [hy])
    · simp at hy
      subst hy
      have h0 := h.frs f (by rw [hl]; simp)
      exact ⟨h0.cb, (covs_snoc _ _).2 ⟨h0.cp, hx⟩, h0.ob, (okGs_snoc _ _ _).2 ⟨h0.op, ho⟩, h0.num⟩
  flat := by
    intro l1 g l2 e hlk y hy
    simp only [PSt.put] at e
    rw [e3, e4] at e
    have turn : ∀ l1 g l2, l ++ [f] = l1 ++ g :: l2 → LookFr g → ∀ y ∈ g :: l2, FrFlat y := fun l1 g l2 e hg y hy => by
      have e5 : st.low ++ [st.top] = l1 ++ g :: (l2 ++ [st.top]) := by rw [hl, e]; simp
      exact h.flat _ _ _ e5 hg y (by
        rcases List.mem_cons.1 hy with rfl | hy
        · simp
        · simp [hy])
    have last : ∀ f' : Fr, f'.brs = f.brs → f'.kind = f.kind → f'.pcs = f.pcs ++ [x] → (∃ l1 g l2, l ++ [f] = l1 ++ g :: l2 ∧ LookFr g ∧ f ∈ g :: l2) → FrFlat f' := by
      rintro f' a1 a2 a3 ⟨l1, g, l2, e, hg, hm⟩
      have h1 := turn l1 g l2 e hg f hm
      exact ⟨by rw [a1]; exact h1.b, by rw [a3]; exact (flats_snoc _ _).2 ⟨h1.p, hf ⟨l1, g, l2, e, hg⟩⟩, by rw [a2]; exact h1.k⟩
    rcases split_last (b := st.top) e with ⟨rfl, rfl, e5⟩ | ⟨l3, rfl, e5⟩
    · simp at hy
      subst hy
      exact last _ rfl rfl rfl ⟨l, f, [], by simp, hlk, by simp⟩
    · have e6 : l ++ [f] = l1 ++ g :: (l3 ++ [f]) := by rw [e5]; simp
      rcases List.mem_cons.1 hy with rfl | hy
      · exact turn _ _ _ e6 hlk _ (by simp)
      · rcases List.mem_append.1 hy with hy | hy
        · exact turn _ _ _ e6 hlk y (by simp [hy])
        · simp at hy
          subst hy
          exact last _ rfl rfl rfl ⟨l1, g, l3 ++ [f], e6, hlk, by simp⟩
  single := by
    intro hs pre y hp
    simp only [PSt.put] at hs hp
    have := (List.append_inj' hp rfl).2
    simp at this
    rw [← this]
    exact ht hs

theorem whole_ok {st : PSt} (hg : st.Good) (h : st.Fit) : st.top.whole.covX ∧ st.top.whole.okG (2 * st.groups + 2) := by
  obtain ⟨h1, h2, h3, _⟩ := hg.frs st.top (by simp)
  have h0 := h.frs st.top (by simp)
  have := hg.pos
  have := hg.size
  simp only [Fr.whole, Nd.covX, Nd.okG, covs_snoc, okGs_snoc, List.length_append, List.length_cons, List.length_nil]
  exact ⟨⟨by omega, by omega, h0.cb, by omega, h0.cp⟩, by omega, h0.ob, h0.op⟩
theorem whole_flat {f : Fr} (h : FrFlat f) : f.whole.flat := by
  simp only [Fr.whole, Nd.flat, flats_snoc]
  exact ⟨h.b, h.p⟩

theorem brk_wf {s : ByteArray} {k : Nat} {f : Bool} {all : BSet} {r : BS} (h : Brk s k f all r) : all.WF → ∀ k' a', r = .fin k' a' → a'.WF := by
  induction h with
  | fin h =>
    intro hw k' a' e
    cases e
    unfold brkStep at h
    split at h
    · cases h
    split at h
    · cases h; exact hw
    split at h
    · cases h
    · split at h
      · cases h
      split at h
      · unfold brkRange at h
        split at h
        · cases h
        split at h
        · cases h
        · split at h
          · cases h
          split at h <;> cases h
      · cases h
  | bad h => intro hw k' a' e; cases e
  | on h t ih =>
    intro hw k' a' e
    refine ih ?_ k' a' e
    unfold brkStep at h
    split at h
    · cases h
    rename_i hk
    split at h
    · cases h
    split at h
    · cases h
    · rename_i c cs single n hm
      obtain ⟨h1, h2, _⟩ := memAt_item (by omega) hm
      split at h
      · cases h
      split at h
      · rename_i hd
        have hdl := dashAt_lt hd
        unfold brkRange at h
        split at h
        · cases h
        split at h
        · cases h
        · rename_i d ds too m hm2
          obtain ⟨g1, g2, _⟩ := memAt_item hdl hm2
          split at h
          · cases h
          split at h
          · cases h
          · cases h; exact hw.range h1 g1
      · cases h
        refine hw.union ?_
        split
        · exact BSet.zero_wf.range h1 h1
        · exact h2

theorem plainOf_lt {c : Nat} (h : c < 256) : (plainOf c).1 < 256 := by
  unfold plainOf
  repeat' split
  all_goals simp
  all_goals omega

theorem fit_esc {st st' : PSt} (hg : st.Good) (h : st.Fit) (hs : st.esc = .ok st') : st'.Fit := by
  have hby := byte_lt st.s (st.pos + 1)
  have hpl := plainOf_lt hby
  unfold PSt.esc at hs
  split at hs
  · cases hs
  split at hs
  · rename_i s hc
    cases hs
    exact fit_put hg h ⟨classOf_wf hc, BSet.zero_wf⟩ trivial (fun _ => trivial) (fun _ => rfl)
  split at hs
  · rename_i s hc
    cases hs
    have hw : s.WF := by
      split at hc
      · exact classOf_wf hc
      · cases hc
    exact fit_put hg h ⟨BSet.zero_wf, hw.not⟩ trivial (fun _ => trivial) (fun _ => rfl)
  split at hs
  · cases hs
    exact fit_put hg h ⟨BSet.zero_wf.range hpl hpl, BSet.zero_wf⟩ trivial (fun _ => trivial) (fun _ => rfl)
  split at hs
  · cases hs
    exact fit_put hg h trivial trivial (fun _ => trivial) (fun hf => by cases hf)
  split at hs
  · rename_i hc
    cases hs
    have hgr := hg.groups
    have hbg := hg.begun
    have hpo := hg.pos
    have hsz := hg.size
    have h' : ({ st with refs := st.refs.set (byte st.s (st.pos + 1) - 48) true } : PSt).Fit := ⟨h.frs, h.flat, h.single⟩
    have h0 := h.frs st.top (by simp)
    refine fit_top (st := st) h rfl rfl rfl ⟨h0.cb, (covs_snoc _ _).2 ⟨h0.cp, ?_⟩, h0.ob, (okGs_snoc _ _ _).2 ⟨h0.op, ?_⟩, h0.num⟩ ?_ ?_
    · simp only [Nd.covX]; omega
    · simp only [Nd.okG]; omega
    · rintro ⟨l1, f, l2, e, hl⟩
      exact absurd hc.2.2.2 (some_look hg e hl)
    · intro _ pre y hp
      simp only [PSt.put] at hp
      have := (List.append_inj' hp rfl).2
      simp at this
      rw [← this]
      rfl
  · cases hs

theorem fit_step {st st' : PSt} (hg : st.Good) (h : st.Fit) (hp : st.pos < st.s.size) (hs : st.stepP = .ok st') : st'.Fit := by
  have hby := byte_lt st.s st.pos
  unfold PSt.stepP at hs
  split at hs
  · exact fit_esc hg h hs
  split at hs
  · cases hr : brkOf st.s st.pos with
    | fin k a =>
      rw [hr] at hs
      simp only [PSt.brk, PR.ok.injEq] at hs
      subst hs
      have hw := brk_wf (brkOf_brk hp) BSet.zero_wf k a hr
      refine fit_put hg h ?_ (by split <;> trivial) (fun _ => by split <;> trivial) (fun _ => by split <;> rfl)
      split
      · exact ⟨BSet.zero_wf, hw.not⟩
      · exact ⟨hw, BSet.zero_wf⟩
    | bad k => rw [hr] at hs; cases hs
    | on k a => rw [hr] at hs; cases hs
  split at hs
  · split at hs
    · split at hs
      · rename_i hl0
        cases hs
        exact fit_push (st' := st.enter) hg h (k := 40) (num := st.groups + 1) rfl rfl (by simp [PSt.enter]) (by simp [PSt.enter]) (fun _ => hl0)
      · cases hs
    · split at hs
      · rename_i hl
        cases hs
        refine fit_push (st' := st.enterK (byte st.s (st.pos + 2)).toUInt8) hg h (k := (byte st.s (st.pos + 2)).toUInt8) (num := 0) rfl rfl (by simp [PSt.enterK]) (Nat.zero_le _) (fun e => ?_)
        exfalso
        rcases hl.2 with e2 | e2 | e2 <;> (rw [e2] at e; exact absurd e (by decide))
      · cases hs
  split at hs
  · split at hs
    · cases hs
    · rename_i f hf
      have hl := last_snoc hf
      obtain ⟨hw, hwo⟩ := whole_ok hg h
      have hne : st.low ≠ [] := by intro e; rw [e] at hf; cases hf
      have hkd := hg.kinds hne
      have hnum := (h.frs st.top (by simp)).num
      have hgr := hg.groups
      have hpo := hg.pos
      have hsz := hg.size
      have flt : (∃ l1 g l2, st.low.dropLast ++ [f] = l1 ++ g :: l2 ∧ LookFr g) → FrFlat st.top := by
        rintro ⟨l1, g, l2, e, hg2⟩
        have e5 : st.low ++ [st.top] = l1 ++ g :: (l2 ++ [st.top]) := by rw [hl, e]; simp
        exact h.flat _ _ _ e5 hg2 st.top (by simp)
      split at hs
      · rename_i k40
        cases hs
        exact fit_pop (st' := st.pop st.low.dropLast f) h hl rfl rfl rfl (by simp only [Nd.covX]; exact ⟨by omega, hw⟩) (by simp only [Nd.okG]; exact ⟨by omega, hwo⟩) (fun _ => rfl) (fun he => absurd k40 (flt he).k)
      split at hs
      · cases hs
        exact fit_pop (st' := st.pop st.low.dropLast f) h hl rfl rfl rfl (by simp only [Nd.covX]; exact ⟨by omega, hw⟩) (by simp only [Nd.okG]; exact ⟨by omega, hwo⟩) (fun _ => rfl) (fun he => by simp only [Nd.flat]; exact ⟨trivial, whole_flat (flt he)⟩)
      · rename_i k1 k2
        cases hs
        have hlk : LookFr st.top := by
          rcases hkd with e | e | e | e
          · exact absurd e k1
          · exact absurd e k2
          · exact .inl e
          · exact .inr e
        have htf := whole_flat (h.flat st.low st.top [] rfl hlk st.top (by simp))
        exact fit_pop (st' := st.popL st.low.dropLast f) h hl rfl rfl rfl (by simp only [Nd.covX]; exact hw) (by simp only [Nd.okG]; exact ⟨htf, hwo⟩) (fun e => by cases e) (fun _ => by simp only [Nd.flat]; exact htf)
  split at hs
  · cases hs
    have h0 := h.frs st.top (by simp)
    have hgf := hg.frs st.top (by simp)
    have hpo := hg.pos
    have hsz := hg.size
    refine fit_top (st' := st.bar) h rfl rfl rfl ⟨(covs_snoc _ _).2 ⟨h0.cb, ?_⟩, trivial, (okGs_snoc _ _ _).2 ⟨h0.ob, ?_⟩, trivial, h0.num⟩ ?_ (by intro h; cases h)
    · simp only [Nd.covX]; exact ⟨by omega, h0.cp⟩
    · simp only [Nd.okG]; exact h0.op
    · rintro ⟨l1, f, l2, e, hl⟩
      have h1 := h.flat l1 f l2 e hl st.top (by
        rcases split_last (b := st.top) e with ⟨rfl, rfl, _⟩ | ⟨l3, rfl, _⟩ <;> simp)
      exact ⟨(flats_snoc _ _).2 ⟨h1.b, by simp only [Nd.flat]; exact h1.p⟩, trivial⟩
  split at hs
  · split at hs
    · rename_i y hy
      split at hs
      · rename_i hk
        cases hs
        obtain ⟨r1, r2, r3, r4, r5⟩ := repAt_ok hp hk.1
        have hpc := last_snoc hy
        have h0 := h.frs st.top (by simp)
        have hcp := h0.cp
        have hop := h0.op
        rw [hpc, covs_snoc] at hcp
        rw [hpc, okGs_snoc] at hop
        refine fit_top (st' := st.rep st.top.pcs.dropLast y (repAt st.s st.pos).lo (repAt st.s st.pos).hi (repAt st.s st.pos).fin) h rfl rfl rfl ⟨h0.cb, (covs_snoc _ _).2 ⟨hcp.1, ?_⟩, h0.ob, (okGs_snoc _ _ _).2 ⟨hop.1, ?_⟩, h0.num⟩ ?_ (by intro h; cases h)
        · simp only [Nd.covX]
          exact ⟨by omega, by omega, h.single hk.2 _ _ hpc, hcp.2⟩
        · simp only [Nd.okG]
          exact ⟨by omega, by omega, hop.2⟩
        · rintro ⟨l1, f, l2, e, hl⟩
          have h1 := h.flat l1 f l2 e hl st.top (by
            rcases split_last (b := st.top) e with ⟨rfl, rfl, _⟩ | ⟨l3, rfl, _⟩ <;> simp)
          have h2 := h1.p
          rw [hpc, flats_snoc] at h2
          exact ⟨h1.b, (flats_snoc _ _).2 ⟨h2.1, by simp only [Nd.flat]; exact h2.2⟩⟩
      · cases hs
    · cases hs
  split at hs
  · cases hs; exact fit_put hg h trivial trivial (fun _ => trivial) (fun hf => by cases hf)
  split at hs
  · cases hs; exact fit_put hg h ⟨BSet.zero_wf, BSet.zero_wf.not⟩ trivial (fun _ => trivial) (fun _ => rfl)
  · cases hs; exact fit_put hg h ⟨BSet.zero_wf.range hby hby, BSet.zero_wf⟩ trivial (fun _ => trivial) (fun _ => rfl)

theorem fit_start (s : ByteArray) : (PSt.start s).Fit where
  frs := by
    intro f hf
    simp [PSt.start] at hf
    subst hf
    exact ⟨trivial, trivial, trivial, trivial, Nat.zero_le _⟩
  flat := by
    intro l1 f l2 e hl
    have hm : f ∈ (PSt.start s).low ++ [(PSt.start s).top] := by rw [e]; simp
    simp [PSt.start] at hm
    subst hm
    rcases hl with hl | hl <;> exact absurd hl (by decide)
  single := by intro h; cases h

theorem run_fit : ∀ (n : Nat) (st : PSt) (d : Nat) (fin : PSt) (deep : Nat), st.Good → st.Fit → runP n st d = .fin fin deep → fin.Good ∧ fin.Fit ∧ fin.s = st.s
  | 0, st, d, fin, deep, hg, hc, h => by simp [runP] at h
  | n + 1, st, d, fin, deep, hg, hc, h => by
    unfold runP at h
    split at h
    · rename_i hp
      cases hs : st.stepP with
      | ok st' =>
        rw [hs] at h
        have hg' := good_step hg hp hs
        have := run_fit n st' _ fin deep hg'.1 (fit_step hg hc hp hs) h
        exact ⟨this.1, this.2.1, this.2.2.trans hg'.2.2⟩
      | bad k => rw [hs] at h; cases h
    · cases h; exact ⟨hg, hc, rfl⟩

/-- What is known of any pattern that reads. -/
theorem read_fit {s : ByteArray} (hs : s.size ≤ 50000) {fin : PSt} {deep : Nat} (h : readOf s = .ok fin deep) :
    fin.Good ∧ fin.groups ≤ 20 ∧ fin.top.whole.size ≤ 5000 ∧ fin.top.whole.covX ∧ fin.top.whole.okG (2 * fin.groups + 2) := by
  unfold readOf readFin at h
  split at h
  · cases h
  · rename_i st d hr
    split at h
    · cases h
    split at h
    · cases h
    · rename_i h1 h2
      cases h
      obtain ⟨g1, g2, g3⟩ := run_fit _ _ _ _ _ (good_start s hs) (fit_start s) hr
      have := whole_ok g1 g2
      exact ⟨g1, by omega, by omega, this.1, this.2⟩

end Go.Proofs.Ytfgghbideoehjaa
