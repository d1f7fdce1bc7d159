/-
  The parser: read, by steps, whole.
-/
import Derived.Test.YtfgghbideoehjaaStepBToReadA
import Derived.Deep.RegionHeld3
namespace Go.Proofs.Ytfgghbideoehjaa
open Go.ChangeShapes Go.WideShapes Go.ChangeAt Go.RowKit
set_option linter.unusedVariables false
set_option maxRecDepth 100000

set_option maxHeartbeats 4000000 in
theorem read_calls (w : World) (s : ByteArray) (fin : PSt) (deep : Nat) (hr : Runs (PSt.start s) 0 fin deep) (hsz : s.size ≤ 100000) (hlow : fin.low = []) (hg20 : fin.groups ≤ 20) (hd100 : deep ≤ 100) (hsize : fin.top.whole.size ≤ 5000) (hfine : fin.top.whole.fine) :
    Calls Try.prog 29 #[.string s] w (ReadR w fin deep) := by
  have hmf : ∀ (fn : Fn) (first cap : Array Value) (w : World), (Instr.makeFunc fn first cap).run Try.prog w = .ok (.func fn first cap) w := fun _ _ _ _ => rfl
  have HR := Lib.hid hr
  clear hr
  go_enter_defers Try.func29, Try.ntmps29
  go_wp2
  refine gen_code (StartW w s _ _ _ _) (start_world w s) ?_
  intro W0 HS
  have n0 := HS.h0
  have n1 := HS.h1
  have n2 := HS.h2
  have HS' := Lib.hid HS
  clear HS n0 n1 n2
  generalize w.heap.size + 1 + 1 + 1 + 1 + 1 = bp at *
  generalize hb1 : w.heap.size + 1 = b1 at *
  generalize hb2 : b1 + 1 = b2 at *
  clear hb1 hb2
  generalize hb0 : w.heap.size = b0 at *
  clear hb0
  go_loopg [6] s.size (fun k d wr => ∃ (dp : Nat) (st : PSt) (g : Tags), d = .int .i64 (dp : Int) ∧ k = s.size - st.pos ∧ RoundW s fin deep (w.heap.size + 3) bp W0 st dp g wr)
  case atStart => exact ⟨0, PSt.start s, _, rfl, rfl, rfl, HR.out, HS'.out.inv, Below.refl _ _⟩
  case round =>
    obtain ⟨dp, st, g, hd, hk, HRd⟩ := hrel
    subst hd
    have hss := HRd.s
    have hss' := HRd.s
    obtain ⟨x, hx⟩ := HRd.inv
    have c0 : wr.cell? ⟨bp, 0, none⟩ = some (.string s) := by rw [← hss]; exact (cell_of_blk hx.blk 0).trans rfl
    have c1 : wr.cell? ⟨bp, 1, none⟩ = some (.int .i64 (st.pos : Int)) := (cell_of_blk hx.blk 1).trans rfl
    have c2 : wr.cell? ⟨bp, 2, none⟩ = some (.slice (some ⟨x.bo, 0, none⟩) (st.low.length + 1) x.ocap) := (cell_of_blk hx.blk 2).trans rfl
    have HX := Lib.hid hx
    have HS := Lib.hid hss
    have HK := Lib.hid hk
    have hbase : w.heap.size + 3 ≤ wr.heap.size := by have := HRd.below.size; have := HS'.out.size; omega
    have hby := get_byte s
    clear hx hss hk
    rcases HRd.runs.cut with ⟨hp, hsm, hfin, hdp⟩ | ⟨st', hp, hsm, hd, hst, hrest⟩
    · have t1 : ¬ ((st.pos : Int) < (s.size : Int)) := by have := HS.out; rw [hp, this]; omega
      have hB0 := HRd.below
      have n0 := HS'.out.h0
      have n1 := HS'.out.h1
      have n2 := HS'.out.h2
      have l0 : b0 < w.heap.size + 3 := by omega
      have r0 : wr.heap[b0]? = _ := (hB0.block b0 l0).trans HS'.out.out0
      have hx := HX.out
      have hl0 : st.low.length = 0 := by rw [← hfin, hlow]; rfl
      have HL0 := Lib.hid hl0
      rw [hl0] at c2
      obtain ⟨⟨bvs, hb1, hb2⟩, _⟩ := hx.top
      obtain ⟨ab, nb, cb, hbv⟩ := ownsRow_shape hb1.1
      obtain ⟨_, ⟨pvs, hp1, hp2⟩⟩ := hx.top
      obtain ⟨ap, np, cp, hpv⟩ := ownsRow_shape hp1.1
      obtain ⟨ar, nr, cr, hrv⟩ := ownsRow_shape hx.refs
      have hll : x.lowc.length = 0 := by rw [hx.low.length, hl0]
      have k2 : wr.cell? ⟨x.bo, 0 + 2, none⟩ = some (.slice ab nb cb) := by
        rw [cell_of_blk hx.opn, ← hbv, show 0 + 2 = 0 * 5 + 2 from rfl, top_cell 2 (by rw [hll]) (by simp [frCells])]; rfl
      have k3 : wr.cell? ⟨x.bo, 0 + 3, none⟩ = some (.slice ap np cp) := by
        rw [cell_of_blk hx.opn, ← hpv, show 0 + 3 = 0 * 5 + 3 from rfl, top_cell 3 (by rw [hll]) (by simp [frCells])]; rfl
      have c3 : wr.cell? ⟨bp, 3, none⟩ = some (.int .i64 (st.groups : Int)) := (cell_of_blk hx.blk 3).trans rfl
      have c6 : wr.cell? ⟨bp, 6, none⟩ = some (.slice ar nr cr) := by rw [← hrv]; exact (cell_of_blk hx.blk 6).trans rfl
      have o0 : wr.cell? ⟨b0, 0, none⟩ = some .nilIface := (cell_of_blk r0 0).trans rfl
      have o1 : wr.cell? ⟨b0, 1, none⟩ = some (.int .i64 0) := (cell_of_blk r0 1).trans rfl
      have o2 : wr.cell? ⟨b0, 2, none⟩ = some (.slice none 0 0) := (cell_of_blk r0 2).trans rfl
      have o3 : wr.cell? ⟨b0, 3, none⟩ = some (.int .i64 0) := (cell_of_blk r0 3).trans rfl
      have zf0 := free_of_blk r0 0
      have zf1 := free_of_blk r0 1
      have zf2 := free_of_blk r0 2
      have zf3 := free_of_blk r0 3
      have hbl : bvs.length ≤ 100000 := by rw [hb2.length]; exact (PSt.smallB.small hsm).1.brs
      have HBV : Hid (wr.ownsRow 0 62 1 (.slice ab nb cb) bvs.length bvs) := Lib.hid (by rw [← hbv]; exact hb1.1)
      have HBT : Hid (∀ k, (Value.slice ab nb cb).ownBlock = some k → g k = some (.br st.low.length)) := Lib.hid (by rw [← hbv]; exact hb1.2)
      have HB1 := Lib.hid hb1
      have HB2 := Lib.hid hb2
      have HBVE := Lib.hid hbv
      have HPVE := Lib.hid hpv
      have HRVE := Lib.hid hrv
      have HFIN := Lib.hid hfin
      have HDP := Lib.hid hdp
      have hp' : st.pos = s.size := by rw [hp, HS.out]
      rw [hp'] at c1
      have t2 : ¬ ((s.size : Int) < (s.size : Int)) := by omega
      have hbb : bp ≠ x.bo := tag_ne HX.out.gp HX.out.gob (by simp)
      have hvb : (Value.slice ab nb cb).ownBlock ≠ some bp := fun e => tag_ne (HBT.out _ e) HX.out.gp (by simp) rfl
      have hp0 : bp ≠ b0 := fun e => by have := (HX.out.tags _ _ HX.out.gp).1; omega
      have hv0 : (Value.slice ab nb cb).ownBlock ≠ some b0 := fun e => by have := (HX.out.tags _ _ (HBT.out _ e)).1; omega
      have n01 : b0 ≠ b1 := by omega
      have n02 : b0 ≠ b2 := by omega
      have n12 : b1 ≠ b2 := by omega
      have n10 : b1 ≠ b0 := fun e => n01 e.symm
      have n20 : b2 ≠ b0 := fun e => n02 e.symm
      have n21 : b2 ≠ b1 := fun e => n12 e.symm
      clear hx hb1 hb2 hp1 hp2 hbv hpv hrv hl0 hll n0 n1 n2 r0 hfin hp hdp hB0 hp' hby t1
      go_wp2_with (fail)
      clear c0 c1 t2 hmf
      go_region_held3 (fun W => W.cell? ⟨bp, 3, none⟩ = some (.int .i64 (st.groups : Int)) ∧ W.cell? ⟨bp, 6, none⟩ = some (.slice ar nr cr)) (first | exact ⟨c3, c6⟩ | exact ⟨e3, e6⟩ | exact ⟨(far4 hp0 ..).trans e3, (far4 hp0 ..).trans e6⟩) (first | (go_at_call 56; refine (top_any _ _ _ _ 0 (by decide) (by exact c2)).mono ?_; rintro e w' ⟨rfl, nq, rfl⟩) | (go_at_call 62; refine (whole_walk _ _ 0 _ _ bvs (by exact k2) (by exact k3) (by exact HBV.out) hbl).mono ?_; rintro e w3 ⟨bv', rfl, ho, hg, ht⟩; have e3 := grown_cellH hg rfl c3 hvb; have e6 := grown_cellH hg rfl c6 hvb; have p0 := grown_cellH hg rfl o0 hv0; have p1 := grown_cellH hg rfl o1 hv0; have p2 := grown_cellH hg rfl o2 hv0; have p3 := grown_cellH hg rfl o3 hv0; have z0 := grown_frozenH hg rfl o0 zf0 hv0; have z1 := grown_frozenH hg rfl o1 zf1 hv0; have z2 := grown_frozenH hg rfl o2 zf2 hv0; have z3 := grown_frozenH hg rfl o3 zf3 hv0; have HO := Lib.hid ho; have HG := Lib.hid hg; have HT := Lib.hid ht; clear ho hg ht))
      have hD := read_done (dp := dp) HS'.out HRd.below HX.out HL0.out HB1.out HB2.out (by rw [HPVE.out]; exact HO.out) (by rw [HBVE.out]; exact HG.out) (by rw [HBVE.out]; exact HT.out) (by rw [← HFIN.out]; exact hfine)
      rw [HRVE.out] at hD
      unfold fill4 at hD
      obtain ⟨F4, hsc, hfinal⟩ := hD
      generalize hW4 : ((((w3.setCell ⟨b0, 0, none⟩ (.iface 108 bv')).setCell ⟨b0, 1, none⟩ (.int .i64 (st.groups : Int))).setCell ⟨b0, 2, none⟩ (.slice ar nr cr)).setCell ⟨b0, 3, none⟩ (.int .i64 (dp : Int))) = W4 at *
      clear hW4 e3 e6 p0 p1 p2 p3 z0 z1 z2 z3
      have q0 : W4.cell? ⟨b0, 0, none⟩ = some (.iface 108 bv') := (cell_of_blk F4.o 0).trans rfl
      have q1 : W4.cell? ⟨b0, 1, none⟩ = some (.int .i64 (st.groups : Int)) := (cell_of_blk F4.o 1).trans rfl
      have q2 : W4.cell? ⟨b0, 2, none⟩ = some (.slice ar nr cr) := (cell_of_blk F4.o 2).trans rfl
      have q3 : W4.cell? ⟨b0, 3, none⟩ = some (.int .i64 (dp : Int)) := (cell_of_blk F4.o 3).trans rfl
      have q4 : W4.cell? ⟨b1, 0, none⟩ = some (.int .i64 0) := (cell_of_blk F4.r1 0).trans rfl
      have q5 : W4.cell? ⟨b2, 0, none⟩ = some (.int .i64 0) := (cell_of_blk F4.r2 0).trans rfl
      have g0 := free_of_blk F4.o 0
      have g1 := free_of_blk F4.o 1
      have g2 := free_of_blk F4.o 2
      have g3 := free_of_blk F4.o 3
      have g4 := free_of_blk F4.r1 0
      have g5 := free_of_blk F4.r2 0
      have lb0 := World.block_lt_of_cell? W4 _ q0
      have lb1 := World.block_lt_of_cell? W4 _ q4
      have lb2 := World.block_lt_of_cell? W4 _ q5
      have HM := sizeFn108
      have h1 := HM.hm
      have h2 := HM.hc
      have t20 : ¬ ((st.groups : Int) > 20) := by have := HFIN.out; rw [← this]; omega
      have t100 : ¬ ((dp : Int) > 100) := by have := HDP.out; omega
      have hsz5 : st.top.whole.size ≤ 5000 := by rw [← HFIN.out]; exact hsize
      generalize hSZ : st.top.whole.size = SZ at hsz5 hsc
      have t5000 : ¬ ((SZ : Int) > 5000) := by omega
      have HSC := Lib.hid hsc
      have HSZ := Lib.hid hSZ
      have HF4 := Lib.hid F4
      have HFL := Lib.hid hfinal
      clear hsc hSZ F4 hfinal c2 k2 k3 c3 c6 o0 o1 o2 o3 zf0 zf1 zf2 zf3
      go_wp2_with (fail)
      refine (HSC.out _ (Below.refl _ _)).mono ?_
      rintro e W5 ⟨rfl, hb5⟩
      have q0' := (hb5.cell lb0).trans q0
      have q1' := (hb5.cell (p := ⟨b0, 1, none⟩) lb0).trans q1
      have q2' := (hb5.cell (p := ⟨b0, 2, none⟩) lb0).trans q2
      have q3' := (hb5.cell (p := ⟨b0, 3, none⟩) lb0).trans q3
      have q4' := (hb5.cell lb1).trans q4
      have q5' := (hb5.cell lb2).trans q5
      have g0' := (hb5.frozen (p := ⟨b0, 0, none⟩) lb0).trans g0
      have g1' := (hb5.frozen (p := ⟨b0, 1, none⟩) lb0).trans g1
      have g2' := (hb5.frozen (p := ⟨b0, 2, none⟩) lb0).trans g2
      have g3' := (hb5.frozen (p := ⟨b0, 3, none⟩) lb0).trans g3
      have g4' := (hb5.frozen (p := ⟨b1, 0, none⟩) lb1).trans g4
      have g5' := (hb5.frozen (p := ⟨b2, 0, none⟩) lb2).trans g5
      have HB5 := Lib.hid hb5
      clear hb5 q0 q1 q2 q3 q4 q5 g0 g1 g2 g3 g4 g5 h1 h2
      go_wp2_with (fail)
      refine leaves_cons (f := 51) (args := #[.pointer (some ⟨b0, 0, none⟩), .pointer (some ⟨b1, 0, none⟩), .pointer (some ⟨b2, 0, none⟩)]) (by simp) (by simp [go_sem]) ?_
      refine (read1_idle _ _ _ _).mono ?_
      rintro e u' w'' ⟨rfl, rfl, rfl⟩
      have v0 := (HB5.out.block b0 lb0).trans HF4.out.o
      have v0' := fill4_same W5 b0 _ _ _ _ (.iface 108 bv') (.int .i64 (st.groups : Int)) (.slice ar nr cr) (.int .i64 (dp : Int)) _ v0
      refine ⟨_, results_read (b0 := b0) (b1 := b1) (b2 := b2) rfl rfl rfl rfl ((heap_setCell_other _ _ b0 _ (by exact n02)).trans ((heap_setCell_other _ _ b0 _ (by exact n01)).trans v0')) ?_ ?_, ?_⟩
      · have v1 := heap_setCell_same _ b1 0 _ _ (.int .i64 0) ((fill4_other W5 b0 (.iface 108 bv') (.int .i64 (st.groups : Int)) (.slice ar nr cr) (.int .i64 (dp : Int)) b1 n10).trans ((HB5.out.block b1 lb1).trans HF4.out.r1))
        exact (cell_of_blk ((heap_setCell_other _ ⟨b2, 0, none⟩ b1 (.int .i64 0) (by exact n12)).trans v1) 0).trans rfl
      · have v2 := heap_setCell_same _ b2 0 _ _ (.int .i64 0) ((heap_setCell_other _ ⟨b1, 0, none⟩ b2 (.int .i64 0) (by exact n21)).trans ((fill4_other W5 b0 (.iface 108 bv') (.int .i64 (st.groups : Int)) (.slice ar nr cr) (.int .i64 (dp : Int)) b2 n20).trans ((HB5.out.block b2 lb2).trans HF4.out.r2)))
        exact (cell_of_blk v2 0).trans rfl
      · have := HFL.out W5 HB5.out
        rw [HFIN.out, HDP.out]
        exact this
    · have hps : st.pos < s.size := by rw [← HS.out]; exact hp
      have t1 : (st.pos : Int) < (s.size : Int) := by omega
      have hpb := (PSt.smallB.small hsm).1.pos
      have HST := Lib.hid hst
      have HSS := Lib.hid hss'
      have HRS := Lib.hid hrest
      clear hst hrest
      have hsm' := PSt.smallB.small hsm
      have hds : ∀ (c : Nat), byte s st.pos = c → c ≠ 40 → deeper st st' dp = dp := fun c h1 h2 => by unfold deeper; rw [hss', h1, if_neg h2]
      have HDS := Lib.hid hds
      clear hds
      by_cases h92 : byte s st.pos = 92
      · obtain ⟨a1, a2, p, a3, a4⟩ := step_92 (by rw [hss']; exact h92) HST.out
        have A2 := Lib.hid a2
        have A3 := Lib.hid a3
        have A4 := Lib.hid a4
        clear a2 a3 a4
        go_wp2_with (go_at_call 52; refine (esc_plain HRd.inv hsm'.1 hbase hp a1 A2.out A3.out).mono ?_; rintro e w2 ⟨rfl, hq⟩; have HQ := Lib.hid hq; clear hq)
        obtain ⟨g', hi, hkp⟩ := HQ.out
        rw [← A4.out] at hi
        go_roundg (s.size - st'.pos)
        case measure => have := (step_s HST.out).2; rw [HK.out]; omega
        case rel => exact ⟨_, st', g', by rw [HDS.out 92 h92 (by decide)], rfl, HRd.next HST.out HRS.out hi hkp⟩
      have b92 : ((byte s st.pos : Int) == 92) = false := by simp; omega
      by_cases h40 : byte s st.pos = 40
      · obtain ⟨a1, a2, a3⟩ := step_40 (by rw [hss']; exact h40) HST.out
        have A1 := Lib.hid a1
        have A2 := Lib.hid (no_prefix (by rw [hss']; exact h40) hp a2)
        have A4 := Lib.hid a3
        clear a1 a2 a3
        go_wp2_with (fail)
        refine (enter_group HRd.inv hsm'.1 hbase hp A1.out A2.out).mono ?_
        rintro e w2 ⟨rfl, hq⟩
        have HQ := Lib.hid hq
        clear hq
        obtain ⟨g', hi, hkp⟩ := HQ.out
        obtain ⟨x', hx'⟩ := id hi
        have c2' : w2.cell? ⟨bp, 2, none⟩ = some (.slice (some ⟨x'.bo, 0, none⟩) (st.enter.low.length + 1) x'.ocap) := (cell_of_blk hx'.blk 2).trans rfl
        have hlo : st.enter.low.length ≤ 1000000 := by have := hsm'.1.low; simp [PSt.enter]; omega
        have HX' := Lib.hid hx'
        have HI := Lib.hid hi
        clear hx' hi
        generalize hN : st.enter.low.length = N at c2' hlo
        have HN := Lib.hid hN
        clear hN
        go_wp2
        go_roundg (s.size - st'.pos)
        case measure => have := (step_s HST.out).2; rw [HK.out]; omega
        case rel =>
          refine ⟨deeper st st' dp, st', g', ?_, rfl, HRd.next HST.out HRS.out (by rw [A4.out]; exact HI.out) hkp⟩
          unfold deeper
          rw [hss', if_pos h40, A4.out, HN.out]
          have : max (dp : Int) (N : Int) = ((max dp N : Nat) : Int) := by omega
          rw [this]
      have b40 : ((byte s st.pos : Int) == 40) = false := by simp; omega
      by_cases h41 : byte s st.pos = 41
      · obtain ⟨lw, f, a1, a2, a3, a4, a5⟩ := step_41 (by rw [hss']; exact h41) HST.out
        have A1 := Lib.hid a1
        have A2 := Lib.hid a4
        have A4 := Lib.hid a5
        have hsm2 := PSt.smallB.last hsm a2
        rw [a3] at hsm2
        clear a1 a2 a3 a4 a5
        go_wp2_with (fail)
        refine (leave_group HRd.inv hsm'.1 hbase A1.out A2.out (by have := hsm'.2; omega) hsm2).mono ?_
        rintro e w2 ⟨rfl, hq⟩
        have HQ := Lib.hid hq
        clear hq
        go_wp2
        obtain ⟨g', hi, hkp⟩ := HQ.out
        rw [← A4.out] at hi
        go_roundg (s.size - st'.pos)
        case measure => have := (step_s HST.out).2; rw [HK.out]; omega
        case rel => exact ⟨_, st', g', by rw [HDS.out 41 h41 (by decide)], rfl, HRd.next HST.out HRS.out hi hkp⟩
      have b41 : ((byte s st.pos : Int) == 41) = false := by simp; omega
      by_cases h124 : byte s st.pos = 124
      · have a5 := step_124 (by rw [hss']; exact h124) HST.out
        have A4 := Lib.hid a5
        clear a5
        have hx := HX.out
        have hlw := hx.low.length
        obtain ⟨⟨bvs, hb1, hb2⟩, _⟩ := hx.top
        obtain ⟨ab, nb, cb, hbv⟩ := ownsRow_shape hb1.1
        obtain ⟨_, ⟨pvs, hp1, hp2⟩⟩ := hx.top
        obtain ⟨ap, np, cp, hpv⟩ := ownsRow_shape hp1.1
        have k2 : wr.cell? ⟨x.bo, st.low.length * 5 + 2, none⟩ = some (.slice ab nb cb) := by
          rw [cell_of_blk hx.opn, ← hbv, top_cell 2 hlw (by simp [frCells])]; rfl
        have k3 : wr.cell? ⟨x.bo, st.low.length * 5 + 3, none⟩ = some (.slice ap np cp) := by
          rw [cell_of_blk hx.opn, ← hpv, top_cell 3 hlw (by simp [frCells])]; rfl
        have k4 : wr.cell? ⟨x.bo, st.low.length * 5 + 4, none⟩ = some (.bool st.top.single) := by
          rw [cell_of_blk hx.opn, top_cell 4 hlw (by simp [frCells])]; rfl
        have f1 := free_of_blk hx.blk 1
        have f2 := free_of_blk hx.opn (st.low.length * 5 + 2)
        have f3 := free_of_blk hx.opn (st.low.length * 5 + 3)
        have f4 := free_of_blk hx.opn (st.low.length * 5 + 4)
        have lbp : bp < wr.heap.size := World.block_lt_of_cell? wr _ c1
        have lbo : x.bo < wr.heap.size := World.block_lt_of_cell? wr _ k2
        have hbl : bvs.length ≤ 100000 := by rw [hb2.length]; exact hsm'.1.brs
        have hnl : st.low.length + 1 ≤ 1000000 := by have := hsm'.1.low; omega
        have hbb : bp ≠ x.bo := tag_ne hx.gp hx.gob (by simp)
        have hbb' : x.bo ≠ bp := fun e => hbb e.symm
        have hvb : (Value.slice ab nb cb).ownBlock ≠ some bp := fun e => tag_ne (hb1.2 _ (by rw [hbv]; exact e)) hx.gp (by simp) rfl
        have hvo : (Value.slice ab nb cb).ownBlock ≠ some x.bo := fun e => tag_ne (hb1.2 _ (by rw [hbv]; exact e)) hx.gob (by simp) rfl
        have HBV : Hid (wr.ownsRow 0 62 1 (.slice ab nb cb) bvs.length bvs) := Lib.hid (by rw [← hbv]; exact hb1.1)
        have HB1 := Lib.hid hb1
        have HB2 := Lib.hid hb2
        have HBVE := Lib.hid hbv
        have HPVE := Lib.hid hpv
        clear hx hb1 hb2 hbv hpv hp1 hp2 hlw
        obtain ⟨i0, hi, hz0, hz1, hz2⟩ := info_parts info62
        go_wp2_with (fail)
        refine (top_any _ _ _ _ _ hnl c2).mono ?_
        rintro e w1 ⟨rfl, nq, hw1⟩
        have e2 : w1.cell? ⟨x.bo, st.low.length * 5 + 2, none⟩ = some (.slice ab nb cb) := by rw [hw1]; exact k2
        have e3 : w1.cell? ⟨x.bo, st.low.length * 5 + 3, none⟩ = some (.slice ap np cp) := by rw [hw1]; exact k3
        have e4 : w1.cell? ⟨x.bo, st.low.length * 5 + 4, none⟩ = some (.bool st.top.single) := by rw [hw1]; exact k4
        have g2 : w1.frozen? ⟨x.bo, st.low.length * 5 + 2, none⟩ = false := by rw [hw1]; exact f2
        have g3 : w1.frozen? ⟨x.bo, st.low.length * 5 + 3, none⟩ = false := by rw [hw1]; exact f3
        have g4 : w1.frozen? ⟨x.bo, st.low.length * 5 + 4, none⟩ = false := by rw [hw1]; exact f4
        have d1 : w1.cell? ⟨bp, 1, none⟩ = some (.int .i64 (st.pos : Int)) := by rw [hw1]; exact c1
        have m1 : w1.frozen? ⟨bp, 1, none⟩ = false := by rw [hw1]; exact f1
        have hO1 : w1.ownsRow 0 62 1 (.slice ab nb cb) bvs.length bvs := by rw [hw1]; exact HBV.out
        have lbp1 : bp < w1.heap.size := by rw [hw1]; exact lbp
        have lbo1 : x.bo < w1.heap.size := by rw [hw1]; exact lbo
        have HW1 := Lib.hid hw1
        have HO1 := Lib.hid hO1
        clear hw1 hO1 k2 k3 k4 f1 f2 f3 f4 c0 c1 c2 lbp lbo hmf
        go_wp2_with (fail)
        refine wp_region_noPanic ?_
        go_region_law (refine step_append_tag rfl (.tmp 72) (.tmp 78) 108 rfl 0 62 i0 .nilIface 1 16 Try.underlying108 hi hz0 hz1 hz2 rfl (by decide) (.slice ab nb cb) bvs.length bvs rfl (by exact World.ownsRow.alloc (w := w1.drew) HO1.out _) ⟨w1.heap.size, 0, none⟩ 1 1 [.iface 109 (.slice ap np cp)] rfl rfl (by exact one_new w1.drew _ _) (by exact one_cell _ _) (by simp only [maxLen]; omega) (by omega) (Nat.zero_le _) ?_; intro v' w3 ho hg ht; obtain ⟨g', cap', rfl⟩ := ownsRow_succ' ho; have hg3 := grown_undrew (grown_past (w := w1.drew) hg); have ht3 := tag_past (w := w1.drew) ht; have u2 := grown_cellH hg3 rfl e2 hvo; have u3 := grown_cellH hg3 rfl e3 hvo; have u4 := grown_cellH hg3 rfl e4 hvo; have u1 := grown_cellH hg3 rfl d1 hvb; have y2 := grown_frozenH hg3 rfl e2 g2 hvo; have y3 := grown_frozenH hg3 rfl e3 g3 hvo; have y4 := grown_frozenH hg3 rfl e4 g4 hvo; have y1 := grown_frozenH hg3 rfl d1 m1 hvb; have HG := Lib.hid hg3; have HT := Lib.hid ht3; have HO := Lib.hid ho; clear ho hg ht hg3 ht3)
        all_goals
          refine NoPanic.normal ?_
          go_wp2_with (fail)
          have hB1 : Below wr.heap.size wr w1 := by rw [HW1.out]; exact below_drewN (Below.refl _ _) _
          obtain ⟨gN, hi, hkp⟩ := bar_inv HX.out hbase hB1 HB1.out HB2.out (by rw [HPVE.out]; exact HO.out) (by rw [HBVE.out]; exact HG.out) (by rw [HBVE.out]; exact HT.out)
          have hi' : PInv (w.heap.size + 3) gN (barWorld w3 bp x.bo st.low.length (.slice (some ⟨g', 0, none⟩) (bvs.length + 1) cap') st.pos) bp st' := by rw [A4.out]; exact hi
          go_roundg (s.size - st'.pos)
          case measure => have := (step_s HST.out).2; rw [HK.out]; omega
          case rel => exact ⟨_, st', gN, by rw [HDS.out 124 h124 (by decide)], rfl, HRd.next HST.out HRS.out hi' hkp⟩
      have b124 : ((byte s st.pos : Int) == 124) = false := by simp; omega
      by_cases h42 : byte s st.pos = 42
      · obtain ⟨pre, y, a1, a2, a3, a4⟩ := step_42 (by rw [hss']; exact h42) HST.out
        have A1 := Lib.hid a1
        have A2 := Lib.hid a2
        have A3 := Lib.hid a3
        have A4 := Lib.hid a4
        have h42' : byte st.s st.pos = 42 := by rw [hss']; exact h42
        have H42 := Lib.hid h42'
        clear a1 a2 a3 a4 h42'
        go_wp2_with (fail)
        refine (repeat_star HRd.inv hsm'.1 hbase hp H42.out A3.out A2.out A1.out).mono ?_
        rintro e w2 ⟨rfl, hq⟩
        have HQ := Lib.hid hq
        clear hq
        go_wp2
        obtain ⟨g', hi, hkp⟩ := HQ.out
        rw [← A4.out] at hi
        go_roundg (s.size - st'.pos)
        case measure => have := (step_s HST.out).2; rw [HK.out]; omega
        case rel => exact ⟨_, st', g', by rw [HDS.out 42 h42 (by decide)], rfl, HRd.next HST.out HRS.out hi hkp⟩
      have b42 : ((byte s st.pos : Int) == 42) = false := by simp; omega
      by_cases h46 : byte s st.pos = 46
      · have a5 := step_46 (by rw [hss']; exact h46) HST.out
        have A4 := Lib.hid a5
        clear a5
        go_wp2_with (fail)
        refine (not_zero _).mono ?_
        rintro e w1 ⟨rfl, hb1⟩
        have HB1 := Lib.hid hb1
        clear hb1
        go_wp2_with (fail)
        refine (put_int HRd.inv HB1.out hsm'.1 hbase (nd := .one .zero BSet.zero.not) rfl (by decide) (by decide)).mono ?_
        rintro e w2 ⟨rfl, hq⟩
        have HQ := Lib.hid hq
        clear hq
        go_wp2
        obtain ⟨g', hi, hkp⟩ := HQ.out
        have hi' : PInv (w.heap.size + 3) g' w2 bp st' := by rw [A4.out]; exact hi
        go_roundg (s.size - st'.pos)
        case measure => have := (step_s HST.out).2; rw [HK.out]; omega
        case rel => exact ⟨_, st', g', by rw [HDS.out 46 h46 (by decide)], rfl, HRd.next HST.out HRS.out hi' hkp⟩
      have b46 : ((byte s st.pos : Int) == 46) = false := by simp; omega
      obtain ⟨⟨m91, m43, m63, m123, m94, m36⟩, a5⟩ := step_else (by rw [hss']; exact h92) (by rw [hss']; exact h40) (by rw [hss']; exact h41) (by rw [hss']; exact h124) (by rw [hss']; exact h42) (by rw [hss']; exact h46) HST.out
      rw [hss'] at m91 m43 m63 m123 m94 m36
      have A4 := Lib.hid a5
      clear a5
      have b91 : ((byte s st.pos : Int) == 91) = false := by simp; omega
      have b43 : ((byte s st.pos : Int) == 43) = false := by simp; omega
      have b63 : ((byte s st.pos : Int) == 63) = false := by simp; omega
      have b123 : ((byte s st.pos : Int) == 123) = false := by simp; omega
      have b94 : ((byte s st.pos : Int) == 94) = false := by simp; omega
      have b36 : ((byte s st.pos : Int) == 36) = false := by simp; omega
      have hbl := byte_lt s st.pos
      go_wp2_with (fail)
      refine (with_open zero_val BSet.zero_wf (by omega) (by omega) (by omega) (by omega) _).mono ?_
      rintro e w1 ⟨t, ht, htw, rfl, hb1⟩
      have HT := Lib.hid ht
      have HB1 := Lib.hid hb1
      clear ht hb1
      go_wp2_with (fail)
      refine (put_int HRd.inv HB1.out hsm'.1 hbase (nd := .one t .zero) rfl (by decide) (by decide)).mono ?_
      rintro e w2 ⟨rfl, hq⟩
      have HQ := Lib.hid hq
      clear hq
      go_wp2
      obtain ⟨g', hi, hkp⟩ := HQ.out
      have hi' : PInv (w.heap.size + 3) g' w2 bp st' := by rw [A4.out, hss']; rw [HT.out] at hi; exact hi
      go_roundg (s.size - st'.pos)
      case measure => have := (step_s HST.out).2; rw [HK.out]; omega
      case rel => exact ⟨_, st', g', by rw [HDS.out _ rfl h40], rfl, HRd.next HST.out HRS.out hi' hkp⟩

end Go.Proofs.Ytfgghbideoehjaa
