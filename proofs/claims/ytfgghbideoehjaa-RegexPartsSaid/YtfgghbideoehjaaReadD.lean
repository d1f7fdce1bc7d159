/-
  The parser: read at any pattern.
-/
import Derived.Test.YtfgghbideoehjaaReadCToReadE
import Derived.Deep.RegionHeld3
namespace Go.Proofs.Ytfgghbideoehjaa
open Go.ChangeShapes Go.WideShapes Go.ChangeAt Go.RowKit
set_option linter.unusedVariables false
set_option maxRecDepth 100000

/-- What holds at the head of a round. -/
structure RoundX (s : ByteArray) (R : RunR) (base bp : Nat) (W0 : World) (st : PSt) (dp : Nat) (g : Tags) (W : World) : Prop where
  s : st.s = s
  good : st.Good
  run : ∃ n, st.s.size < n + st.pos ∧ runP n st dp = R
  dple : dp ≤ st.pos
  inv : PInv base g W bp st
  below : Below base W0 W

theorem RoundX.next {s : ByteArray} {R : RunR} {base bp : Nat} {W0 : World} {st st' : PSt} {dp : Nat} {g g' : Tags} {W W' : World} (h : RoundX s R base bp W0 st dp g W) (hp : st.pos < st.s.size) (hst : st.stepP = .ok st')
    (hi : PInv base g' W' bp st') (hk : Keeps base g W g' W') : RoundX s R base bp W0 st' (deeper st st' dp) g' W' := by
  obtain ⟨g1, g2, g3⟩ := good_step h.good hp hst
  obtain ⟨n, hn, hr⟩ := h.run
  refine ⟨g3.trans h.s, g1, ?_, ?_, hi, h.below.trans hk.below⟩
  · cases n with
    | zero => omega
    | succ m =>
      refine ⟨m, by rw [g3]; omega, ?_⟩
      unfold runP at hr
      rw [if_pos hp, hst] at hr
      exact hr
  · unfold deeper
    have := h.dple
    have := g1.low
    split <;> omega
theorem RoundX.bad {s : ByteArray} {R : RunR} {base bp : Nat} {W0 : World} {st : PSt} {dp : Nat} {g : Tags} {W : World} (h : RoundX s R base bp W0 st dp g W) (hp : st.pos < st.s.size) {k : Nat} (hst : st.stepP = .bad k) : R = .bad k := by
  obtain ⟨n, hn, hr⟩ := h.run
  cases n with
  | zero => omega
  | succ m =>
    unfold runP at hr
    rw [if_pos hp, hst] at hr
    exact hr.symm
theorem RoundX.fin {s : ByteArray} {R : RunR} {base bp : Nat} {W0 : World} {st : PSt} {dp : Nat} {g : Tags} {W : World} (h : RoundX s R base bp W0 st dp g W) (hp : ¬ st.pos < st.s.size) : R = .fin st dp := by
  obtain ⟨n, hn, hr⟩ := h.run
  have := h.good.pos
  cases n with
  | zero => omega
  | succ m =>
    unfold runP at hr
    rw [if_neg hp] at hr
    exact hr.symm

/-- What read answers. -/
inductive ReadA where
  | ok (fin : PSt) (deep : Nat)
  | err (k e : Nat)

def readFin (s : ByteArray) (R : RunR) : ReadA :=
  match R with
  | .bad k => .err k 2
  | .fin st d => if st.low ≠ [] then .err s.size 2 else if st.groups > 20 ∨ d > 100 ∨ st.top.whole.size > 5000 then .err 0 4 else .ok st d

def readOf (s : ByteArray) : ReadA := readFin s (runP (s.size + 1) (PSt.start s) 0)

def ReadP (w : World) (r : ReadA) (e : Ending) (w' : World) : Prop :=
  match r with
  | .ok fin deep => ReadR w fin deep e w'
  | .err k c => e = .returned (.tuple #[.agg zero65, .int .i64 (k : Int), .int .i64 (c : Int)]) ∧ Below w.heap.size w w'

theorem start_run (s : ByteArray) : ∃ n, (PSt.start s).s.size < n + (PSt.start s).pos ∧ runP n (PSt.start s) 0 = runP (s.size + 1) (PSt.start s) 0 := ⟨s.size + 1, by simp [PSt.start], rfl⟩

theorem capped_top (f : Fr) : f.whole.size ≤ 10000 := by
  simp only [Fr.whole, Nd.size]; exact Nat.min_le_right _ _

set_option maxHeartbeats 16000000 in
theorem read_any (w : World) (s : ByteArray) (hsz : s.size ≤ 50000) : Calls Try.prog 29 #[.string s] w (ReadP w (readOf s)) := by
  have hmf : ∀ (fn : Fn) (first cap : Array Value) (w : World), (Instr.makeFunc fn first cap).run Try.prog w = .ok (.func fn first cap) w := fun _ _ _ _ => rfl
  have hrun := start_run s
  unfold readOf
  generalize runP (s.size + 1) (PSt.start s) 0 = R at *
  have HR := Lib.hid hrun
  clear hrun
  go_enter_defers Try.func29, Try.ntmps29
  go_wp2
  refine gen_code (StartW w s _ _ _ _) (start_world w s) ?_
  intro W0 HS
  have n0 := HS.h0
  have n1 := HS.h1
  have n2 := HS.h2
  have HS' := Lib.hid HS
  clear HS n0 n1 n2
  generalize w.heap.size + 1 + 1 + 1 + 1 + 1 = bp at *
  generalize hb1 : w.heap.size + 1 = b1 at *
  generalize hb2 : b1 + 1 = b2 at *
  clear hb1 hb2
  generalize hb0 : w.heap.size = b0 at *
  clear hb0
  go_loopg [6] s.size (fun k d wr => ∃ (dp : Nat) (st : PSt) (g : Tags), d = .int .i64 (dp : Int) ∧ k = s.size - st.pos ∧ RoundX s R (w.heap.size + 3) bp W0 st dp g wr)
  case atStart => exact ⟨0, PSt.start s, _, rfl, rfl, rfl, good_start s hsz, HR.out, Nat.zero_le _, HS'.out.inv, Below.refl _ _⟩
  case round =>
    obtain ⟨dp, st, g, hd, hk, HRd⟩ := hrel
    subst hd
    have hss := HRd.s
    have hss' := HRd.s
    obtain ⟨x, hx⟩ := HRd.inv
    have c0 : wr.cell? ⟨bp, 0, none⟩ = some (.string s) := by rw [← hss]; exact (cell_of_blk hx.blk 0).trans rfl
    have c1 : wr.cell? ⟨bp, 1, none⟩ = some (.int .i64 (st.pos : Int)) := (cell_of_blk hx.blk 1).trans rfl
    have c2 : wr.cell? ⟨bp, 2, none⟩ = some (.slice (some ⟨x.bo, 0, none⟩) (st.low.length + 1) x.ocap) := (cell_of_blk hx.blk 2).trans rfl
    have HX := Lib.hid hx
    have HS := Lib.hid hss
    have HK := Lib.hid hk
    have hbase : w.heap.size + 3 ≤ wr.heap.size := by have := HRd.below.size; have := HS'.out.size; omega
    have hby := get_byte s
    clear hx hss hk
    by_cases hp : st.pos < st.s.size
    · have hps : st.pos < s.size := by rw [← HS.out]; exact hp
      have t1 : (st.pos : Int) < (s.size : Int) := by omega
      have hsm' := HRd.good.small hp
      have HSS := Lib.hid hss'
      have hgr := HRd.good
      have HG := Lib.hid hgr
      clear hgr
      have hds : ∀ (st' : PSt) (c : Nat), byte s st.pos = c → c ≠ 40 → deeper st st' dp = dp := fun st' c h1 h2 => by unfold deeper; rw [hss', h1, if_neg h2]
      have HDS := Lib.hid hds
      clear hds hss'
      have HGD := HG
      by_cases h92 : byte s st.pos = 92
      · have hcall := escP HRd.inv HG.out hbase hp (by rw [HSS.out]; exact h92)
        cases hst : st.stepP with
        | ok st' =>
          rw [hst] at hcall
          have HC := Lib.hid hcall
          have HST := Lib.hid hst
          clear hst hcall
          go_wp2_with (fail)
          refine HC.out.mono ?_
          rintro e w2 ⟨rfl, hq⟩
          have HQ := Lib.hid hq
          clear hq
          obtain ⟨g', hi, hkp⟩ := HQ.out
          go_wp2
          go_roundg (s.size - st'.pos)
          case measure => have := (good_step HG.out hp HST.out).2.1; rw [HK.out]; omega
          case rel => exact ⟨_, st', g', by rw [HDS.out _ _ h92 (by decide)], rfl, HRd.next hp HST.out hi hkp⟩
        | bad k =>
          rw [hst] at hcall
          have HBAD := Lib.hid (HRd.bad hp hst)
          have HC := Lib.hid hcall
          clear hst hcall
          go_wp2_with (go_at_call 52; refine HC.out.mono ?_; rintro e w2 ⟨rfl, hq⟩; have HQ := Lib.hid hq; clear hq; dsimp only [wrongAt])
          exact read_panic HS'.out (HRd.below.trans HQ.out) k _ rfl rfl rfl fun w' hw => by rw [HBAD.out]; exact ⟨rfl, hw⟩
      have b92 : ((byte s st.pos : Int) == 92) = false := by simp; omega
      by_cases h91 : byte s st.pos = 91
      · have hcall := brkP HRd.inv HG.out hbase hp (by rw [HSS.out]; exact h91)
        cases hst : st.stepP with
        | ok st' =>
          rw [hst] at hcall
          have HC := Lib.hid hcall
          have HST := Lib.hid hst
          clear hst hcall
          go_wp2_with (fail)
          refine HC.out.mono ?_
          rintro e w2 ⟨rfl, hq⟩
          have HQ := Lib.hid hq
          clear hq
          obtain ⟨g', hi, hkp⟩ := HQ.out
          go_wp2
          go_roundg (s.size - st'.pos)
          case measure => have := (good_step HG.out hp HST.out).2.1; rw [HK.out]; omega
          case rel => exact ⟨_, st', g', by rw [HDS.out _ _ h91 (by decide)], rfl, HRd.next hp HST.out hi hkp⟩
        | bad k =>
          rw [hst] at hcall
          have HBAD := Lib.hid (HRd.bad hp hst)
          have HC := Lib.hid hcall
          clear hst hcall
          go_wp2_with (go_at_call 53; refine HC.out.mono ?_; rintro e w2 ⟨rfl, hq⟩; have HQ := Lib.hid hq; clear hq; dsimp only [wrongAt])
          exact read_panic HS'.out (HRd.below.trans HQ.out) k _ rfl rfl rfl fun w' hw => by rw [HBAD.out]; exact ⟨rfl, hw⟩
      have b91 : ((byte s st.pos : Int) == 91) = false := by simp; omega
      by_cases h40 : byte s st.pos = 40
      · have hcall := enter_any HRd.inv HG.out hbase hp (by rw [HSS.out]; exact h40)
        cases hst : st.stepP with
        | ok st' =>
          rw [hst] at hcall
          have HC := Lib.hid hcall
          have HST := Lib.hid hst
          clear hst hcall
          go_wp2_with (fail)
          refine HC.out.mono ?_
          rintro e w2 ⟨rfl, hq⟩
          have HQ := Lib.hid hq
          clear hq
          obtain ⟨g', hi, hkp⟩ := HQ.out
          obtain ⟨x', hx'⟩ := id hi
          have c2' : w2.cell? ⟨bp, 2, none⟩ = some (.slice (some ⟨x'.bo, 0, none⟩) (st'.low.length + 1) x'.ocap) := (cell_of_blk hx'.blk 2).trans rfl
          have hlo : st'.low.length ≤ 1000000 := by have := (good_step HG.out hp HST.out).1.low; have := (good_step HG.out hp HST.out).1.pos; have := (good_step HG.out hp HST.out).1.size; omega
          have HI := Lib.hid hi
          clear hx' hi
          generalize hN : st'.low.length = N at c2' hlo
          have HN := Lib.hid hN
          clear hN
          go_wp2
          go_roundg (s.size - st'.pos)
          case measure => have := (good_step HG.out hp HST.out).2.1; rw [HK.out]; omega
          case rel =>
            refine ⟨deeper st st' dp, st', g', ?_, rfl, HRd.next hp HST.out HI.out hkp⟩
            unfold deeper
            rw [HSS.out, if_pos h40, HN.out]
            have : max (dp : Int) (N : Int) = ((max dp N : Nat) : Int) := by omega
            rw [this]
        | bad k =>
          rw [hst] at hcall
          have HBAD := Lib.hid (HRd.bad hp hst)
          have HC := Lib.hid hcall
          clear hst hcall
          go_wp2_with (go_at_call 54; refine HC.out.mono ?_; rintro e w2 ⟨rfl, hq⟩; have HQ := Lib.hid hq; clear hq; dsimp only [wrongAt])
          exact read_panic HS'.out (HRd.below.trans HQ.out) k _ rfl rfl rfl fun w' hw => by rw [HBAD.out]; exact ⟨rfl, hw⟩
      have b40 : ((byte s st.pos : Int) == 40) = false := by simp; omega
      by_cases h41 : byte s st.pos = 41
      · have hcall := leave_any HRd.inv HG.out hbase hp (by rw [HSS.out]; exact h41)
        cases hst : st.stepP with
        | ok st' =>
          rw [hst] at hcall
          have HC := Lib.hid hcall
          have HST := Lib.hid hst
          clear hst hcall
          go_wp2_with (fail)
          refine HC.out.mono ?_
          rintro e w2 ⟨rfl, hq⟩
          have HQ := Lib.hid hq
          clear hq
          obtain ⟨g', hi, hkp⟩ := HQ.out
          go_wp2
          go_roundg (s.size - st'.pos)
          case measure => have := (good_step HG.out hp HST.out).2.1; rw [HK.out]; omega
          case rel => exact ⟨_, st', g', by rw [HDS.out _ _ h41 (by decide)], rfl, HRd.next hp HST.out hi hkp⟩
        | bad k =>
          rw [hst] at hcall
          have HBAD := Lib.hid (HRd.bad hp hst)
          have HC := Lib.hid hcall
          clear hst hcall
          go_wp2_with (go_at_call 55; refine HC.out.mono ?_; rintro e w2 ⟨rfl, hq⟩; have HQ := Lib.hid hq; clear hq; dsimp only [wrongAt])
          exact read_panic HS'.out (HRd.below.trans HQ.out) k _ rfl rfl rfl fun w' hw => by rw [HBAD.out]; exact ⟨rfl, hw⟩
      have b41 : ((byte s st.pos : Int) == 41) = false := by simp; omega
      by_cases h124 : byte s st.pos = 124
      · have HST := Lib.hid (step_barP (st := st) (by rw [HSS.out]; exact h124))
        have hx := HX.out
        have hlw := hx.low.length
        obtain ⟨⟨bvs, hb1, hb2⟩, _⟩ := hx.top
        obtain ⟨ab, nb, cb, hbv⟩ := ownsRow_shape hb1.1
        obtain ⟨_, ⟨pvs, hp1, hp2⟩⟩ := hx.top
        obtain ⟨ap, np, cp, hpv⟩ := ownsRow_shape hp1.1
        have k2 : wr.cell? ⟨x.bo, st.low.length * 5 + 2, none⟩ = some (.slice ab nb cb) := by
          rw [cell_of_blk hx.opn, ← hbv, top_cell 2 hlw (by simp [frCells])]; rfl
        have k3 : wr.cell? ⟨x.bo, st.low.length * 5 + 3, none⟩ = some (.slice ap np cp) := by
          rw [cell_of_blk hx.opn, ← hpv, top_cell 3 hlw (by simp [frCells])]; rfl
        have k4 : wr.cell? ⟨x.bo, st.low.length * 5 + 4, none⟩ = some (.bool st.top.single) := by
          rw [cell_of_blk hx.opn, top_cell 4 hlw (by simp [frCells])]; rfl
        have f1 := free_of_blk hx.blk 1
        have f2 := free_of_blk hx.opn (st.low.length * 5 + 2)
        have f3 := free_of_blk hx.opn (st.low.length * 5 + 3)
        have f4 := free_of_blk hx.opn (st.low.length * 5 + 4)
        have lbp : bp < wr.heap.size := World.block_lt_of_cell? wr _ c1
        have lbo : x.bo < wr.heap.size := World.block_lt_of_cell? wr _ k2
        have hbl : bvs.length ≤ 100000 := by rw [hb2.length]; exact hsm'.1.brs
        have hnl : st.low.length + 1 ≤ 1000000 := by have := hsm'.1.low; omega
        have hbb : bp ≠ x.bo := tag_ne hx.gp hx.gob (by simp)
        have hbb' : x.bo ≠ bp := fun e => hbb e.symm
        have hvb : (Value.slice ab nb cb).ownBlock ≠ some bp := fun e => tag_ne (hb1.2 _ (by rw [hbv]; exact e)) hx.gp (by simp) rfl
        have hvo : (Value.slice ab nb cb).ownBlock ≠ some x.bo := fun e => tag_ne (hb1.2 _ (by rw [hbv]; exact e)) hx.gob (by simp) rfl
        have HBV : Hid (wr.ownsRow 0 62 1 (.slice ab nb cb) bvs.length bvs) := Lib.hid (by rw [← hbv]; exact hb1.1)
        have HB1 := Lib.hid hb1
        have HB2 := Lib.hid hb2
        have HBVE := Lib.hid hbv
        have HPVE := Lib.hid hpv
        clear hx hb1 hb2 hbv hpv hp1 hp2 hlw
        obtain ⟨i0, hi, hz0, hz1, hz2⟩ := info_parts info62
        go_wp2_with (fail)
        refine (top_any _ _ _ _ _ hnl c2).mono ?_
        rintro e w1 ⟨rfl, nq, hw1⟩
        have e2 : w1.cell? ⟨x.bo, st.low.length * 5 + 2, none⟩ = some (.slice ab nb cb) := by rw [hw1]; exact k2
        have e3 : w1.cell? ⟨x.bo, st.low.length * 5 + 3, none⟩ = some (.slice ap np cp) := by rw [hw1]; exact k3
        have e4 : w1.cell? ⟨x.bo, st.low.length * 5 + 4, none⟩ = some (.bool st.top.single) := by rw [hw1]; exact k4
        have g2 : w1.frozen? ⟨x.bo, st.low.length * 5 + 2, none⟩ = false := by rw [hw1]; exact f2
        have g3 : w1.frozen? ⟨x.bo, st.low.length * 5 + 3, none⟩ = false := by rw [hw1]; exact f3
        have g4 : w1.frozen? ⟨x.bo, st.low.length * 5 + 4, none⟩ = false := by rw [hw1]; exact f4
        have d1 : w1.cell? ⟨bp, 1, none⟩ = some (.int .i64 (st.pos : Int)) := by rw [hw1]; exact c1
        have m1 : w1.frozen? ⟨bp, 1, none⟩ = false := by rw [hw1]; exact f1
        have hO1 : w1.ownsRow 0 62 1 (.slice ab nb cb) bvs.length bvs := by rw [hw1]; exact HBV.out
        have lbp1 : bp < w1.heap.size := by rw [hw1]; exact lbp
        have lbo1 : x.bo < w1.heap.size := by rw [hw1]; exact lbo
        have HW1 := Lib.hid hw1
        have HO1 := Lib.hid hO1
        clear hw1 hO1 k2 k3 k4 f1 f2 f3 f4 c0 c1 c2 lbp lbo hmf
        go_wp2_with (fail)
        refine wp_region_noPanic ?_
        go_region_law (refine step_append_tag rfl (.tmp 72) (.tmp 78) 108 rfl 0 62 i0 .nilIface 1 16 Try.underlying108 hi hz0 hz1 hz2 rfl (by decide) (.slice ab nb cb) bvs.length bvs rfl (by exact World.ownsRow.alloc (w := w1.drew) HO1.out _) ⟨w1.heap.size, 0, none⟩ 1 1 [.iface 109 (.slice ap np cp)] rfl rfl (by exact one_new w1.drew _ _) (by exact one_cell _ _) (by simp only [maxLen]; omega) (by omega) (Nat.zero_le _) ?_; intro v' w3 ho hg ht; obtain ⟨g', cap', rfl⟩ := ownsRow_succ' ho; have hg3 := grown_undrew (grown_past (w := w1.drew) hg); have ht3 := tag_past (w := w1.drew) ht; have u2 := grown_cellH hg3 rfl e2 hvo; have u3 := grown_cellH hg3 rfl e3 hvo; have u4 := grown_cellH hg3 rfl e4 hvo; have u1 := grown_cellH hg3 rfl d1 hvb; have y2 := grown_frozenH hg3 rfl e2 g2 hvo; have y3 := grown_frozenH hg3 rfl e3 g3 hvo; have y4 := grown_frozenH hg3 rfl e4 g4 hvo; have y1 := grown_frozenH hg3 rfl d1 m1 hvb; have HG := Lib.hid hg3; have HT := Lib.hid ht3; have HO := Lib.hid ho; clear ho hg ht hg3 ht3)
        all_goals
          refine NoPanic.normal ?_
          go_wp2_with (fail)
          have hB1 : Below wr.heap.size wr w1 := by rw [HW1.out]; exact below_drewN (Below.refl _ _) _
          obtain ⟨gN, hi, hkp⟩ := bar_inv HX.out hbase hB1 HB1.out HB2.out (by rw [HPVE.out]; exact HO.out) (by rw [HBVE.out]; exact HG.out) (by rw [HBVE.out]; exact HT.out)
          have hi' : PInv (w.heap.size + 3) gN (barWorld w3 bp x.bo st.low.length (.slice (some ⟨g', 0, none⟩) (bvs.length + 1) cap') st.pos) bp st.bar := hi
          go_roundg (s.size - st.bar.pos)
          case measure => have := (good_step HGD.out hp HST.out).2.1; rw [HK.out]; omega
          case rel => exact ⟨_, st.bar, gN, by rw [HDS.out _ _ h124 (by decide)], rfl, HRd.next hp HST.out hi' hkp⟩
      have b124 : ((byte s st.pos : Int) == 124) = false := by simp; omega
      by_cases h42 : byte s st.pos = 42
      · have hcall := repeat_any HRd.inv HG.out hbase hp (by rw [HSS.out]; omega)
        cases hst : st.stepP with
        | ok st' =>
          rw [hst] at hcall
          have HC := Lib.hid hcall
          have HST := Lib.hid hst
          clear hst hcall
          go_wp2_with (fail)
          refine HC.out.mono ?_
          rintro e w2 ⟨rfl, hq⟩
          have HQ := Lib.hid hq
          clear hq
          obtain ⟨g', hi, hkp⟩ := HQ.out
          go_wp2
          go_roundg (s.size - st'.pos)
          case measure => have := (good_step HG.out hp HST.out).2.1; rw [HK.out]; omega
          case rel => exact ⟨_, st', g', by rw [HDS.out _ _ h42 (by decide)], rfl, HRd.next hp HST.out hi hkp⟩
        | bad k =>
          rw [hst] at hcall
          have HBAD := Lib.hid (HRd.bad hp hst)
          have HC := Lib.hid hcall
          clear hst hcall
          go_wp2_with (go_at_call 57; refine HC.out.mono ?_; rintro e w2 ⟨rfl, hq⟩; have HQ := Lib.hid hq; clear hq; dsimp only [wrongAt])
          exact read_panic HS'.out (HRd.below.trans HQ.out) k _ rfl rfl rfl fun w' hw => by rw [HBAD.out]; exact ⟨rfl, hw⟩
      have b42 : ((byte s st.pos : Int) == 42) = false := by simp; omega
      by_cases h43 : byte s st.pos = 43
      · have hcall := repeat_any HRd.inv HG.out hbase hp (by rw [HSS.out]; omega)
        cases hst : st.stepP with
        | ok st' =>
          rw [hst] at hcall
          have HC := Lib.hid hcall
          have HST := Lib.hid hst
          clear hst hcall
          go_wp2_with (fail)
          refine HC.out.mono ?_
          rintro e w2 ⟨rfl, hq⟩
          have HQ := Lib.hid hq
          clear hq
          obtain ⟨g', hi, hkp⟩ := HQ.out
          go_wp2
          go_roundg (s.size - st'.pos)
          case measure => have := (good_step HG.out hp HST.out).2.1; rw [HK.out]; omega
          case rel => exact ⟨_, st', g', by rw [HDS.out _ _ h43 (by decide)], rfl, HRd.next hp HST.out hi hkp⟩
        | bad k =>
          rw [hst] at hcall
          have HBAD := Lib.hid (HRd.bad hp hst)
          have HC := Lib.hid hcall
          clear hst hcall
          go_wp2_with (go_at_call 57; refine HC.out.mono ?_; rintro e w2 ⟨rfl, hq⟩; have HQ := Lib.hid hq; clear hq; dsimp only [wrongAt])
          exact read_panic HS'.out (HRd.below.trans HQ.out) k _ rfl rfl rfl fun w' hw => by rw [HBAD.out]; exact ⟨rfl, hw⟩
      have b43 : ((byte s st.pos : Int) == 43) = false := by simp; omega
      by_cases h63 : byte s st.pos = 63
      · have hcall := repeat_any HRd.inv HG.out hbase hp (by rw [HSS.out]; omega)
        cases hst : st.stepP with
        | ok st' =>
          rw [hst] at hcall
          have HC := Lib.hid hcall
          have HST := Lib.hid hst
          clear hst hcall
          go_wp2_with (fail)
          refine HC.out.mono ?_
          rintro e w2 ⟨rfl, hq⟩
          have HQ := Lib.hid hq
          clear hq
          obtain ⟨g', hi, hkp⟩ := HQ.out
          go_wp2
          go_roundg (s.size - st'.pos)
          case measure => have := (good_step HG.out hp HST.out).2.1; rw [HK.out]; omega
          case rel => exact ⟨_, st', g', by rw [HDS.out _ _ h63 (by decide)], rfl, HRd.next hp HST.out hi hkp⟩
        | bad k =>
          rw [hst] at hcall
          have HBAD := Lib.hid (HRd.bad hp hst)
          have HC := Lib.hid hcall
          clear hst hcall
          go_wp2_with (go_at_call 57; refine HC.out.mono ?_; rintro e w2 ⟨rfl, hq⟩; have HQ := Lib.hid hq; clear hq; dsimp only [wrongAt])
          exact read_panic HS'.out (HRd.below.trans HQ.out) k _ rfl rfl rfl fun w' hw => by rw [HBAD.out]; exact ⟨rfl, hw⟩
      have b63 : ((byte s st.pos : Int) == 63) = false := by simp; omega
      by_cases h123 : byte s st.pos = 123
      · have hcall := repeat_any HRd.inv HG.out hbase hp (by rw [HSS.out]; omega)
        cases hst : st.stepP with
        | ok st' =>
          rw [hst] at hcall
          have HC := Lib.hid hcall
          have HST := Lib.hid hst
          clear hst hcall
          go_wp2_with (fail)
          refine HC.out.mono ?_
          rintro e w2 ⟨rfl, hq⟩
          have HQ := Lib.hid hq
          clear hq
          obtain ⟨g', hi, hkp⟩ := HQ.out
          go_wp2
          go_roundg (s.size - st'.pos)
          case measure => have := (good_step HG.out hp HST.out).2.1; rw [HK.out]; omega
          case rel => exact ⟨_, st', g', by rw [HDS.out _ _ h123 (by decide)], rfl, HRd.next hp HST.out hi hkp⟩
        | bad k =>
          rw [hst] at hcall
          have HBAD := Lib.hid (HRd.bad hp hst)
          have HC := Lib.hid hcall
          clear hst hcall
          go_wp2_with (go_at_call 57; refine HC.out.mono ?_; rintro e w2 ⟨rfl, hq⟩; have HQ := Lib.hid hq; clear hq; dsimp only [wrongAt])
          exact read_panic HS'.out (HRd.below.trans HQ.out) k _ rfl rfl rfl fun w' hw => by rw [HBAD.out]; exact ⟨rfl, hw⟩
      have b123 : ((byte s st.pos : Int) == 123) = false := by simp; omega
      by_cases h94 : byte s st.pos = 94
      · have HST := Lib.hid (step_place (st := st) (by rw [HSS.out]; omega))
        go_wp2_with (fail)
        refine (put_int HRd.inv (Below.refl _ _) hsm'.1 hbase (nd := .place 94) rfl (by decide) (by decide)).mono ?_
        rintro e w2 ⟨rfl, hq⟩
        have HQ := Lib.hid hq
        clear hq
        go_wp2
        obtain ⟨g', hi, hkp⟩ := HQ.out
        have hst2 : st.stepP = .ok (st.put (.place 94) false 1) := by have h1 := HST.out; rw [HSS.out, h94] at h1; exact h1
        go_roundg (s.size - (st.put (.place 94) false 1).pos)
        case measure => have := (good_step HG.out hp hst2).2.1; rw [HK.out]; omega
        case rel => exact ⟨_, st.put (.place 94) false 1, g', by rw [HDS.out _ _ h94 (by decide)], rfl, HRd.next hp hst2 hi hkp⟩
      have b94 : ((byte s st.pos : Int) == 94) = false := by simp; omega
      by_cases h36 : byte s st.pos = 36
      · have HST := Lib.hid (step_place (st := st) (by rw [HSS.out]; omega))
        go_wp2_with (fail)
        refine (put_int HRd.inv (Below.refl _ _) hsm'.1 hbase (nd := .place 36) rfl (by decide) (by decide)).mono ?_
        rintro e w2 ⟨rfl, hq⟩
        have HQ := Lib.hid hq
        clear hq
        go_wp2
        obtain ⟨g', hi, hkp⟩ := HQ.out
        have hst2 : st.stepP = .ok (st.put (.place 36) false 1) := by have h1 := HST.out; rw [HSS.out, h36] at h1; exact h1
        go_roundg (s.size - (st.put (.place 36) false 1).pos)
        case measure => have := (good_step HG.out hp hst2).2.1; rw [HK.out]; omega
        case rel => exact ⟨_, st.put (.place 36) false 1, g', by rw [HDS.out _ _ h36 (by decide)], rfl, HRd.next hp hst2 hi hkp⟩
      have b36 : ((byte s st.pos : Int) == 36) = false := by simp; omega
      by_cases h46 : byte s st.pos = 46
      · have HST := Lib.hid (step_dotP (st := st) (by rw [HSS.out]; exact h46))
        go_wp2_with (fail)
        refine (not_zero _).mono ?_
        rintro e w1 ⟨rfl, hb1⟩
        have HB1 := Lib.hid hb1
        clear hb1
        go_wp2_with (fail)
        refine (put_int HRd.inv HB1.out hsm'.1 hbase (nd := .one .zero BSet.zero.not) rfl (by decide) (by decide)).mono ?_
        rintro e w2 ⟨rfl, hq⟩
        have HQ := Lib.hid hq
        clear hq
        go_wp2
        obtain ⟨g', hi, hkp⟩ := HQ.out
        go_roundg (s.size - (st.put (.one .zero BSet.zero.not) true 1).pos)
        case measure => have := (good_step HG.out hp HST.out).2.1; rw [HK.out]; omega
        case rel => exact ⟨_, st.put (.one .zero BSet.zero.not) true 1, g', by rw [HDS.out _ _ h46 (by decide)], rfl, HRd.next hp HST.out hi hkp⟩
      have b46 : ((byte s st.pos : Int) == 46) = false := by simp; omega
      have hst : st.stepP = .ok (st.put (.one (BSet.zero.range (byte s st.pos) (byte s st.pos)) .zero) true 1) := by
        unfold PSt.stepP
        rw [HSS.out, if_neg h92, if_neg h91, if_neg h40, if_neg h41, if_neg h124, if_neg (by omega), if_neg (by omega), if_neg h46]
      have HST := Lib.hid hst
      clear hst
      have hbl := byte_lt s st.pos
      go_wp2_with (fail)
      refine (with_open zero_val BSet.zero_wf (by omega) (by omega) (by omega) (by omega) _).mono ?_
      rintro e w1 ⟨t, ht, htw, rfl, hb1⟩
      have HT := Lib.hid ht
      have HB1 := Lib.hid hb1
      clear ht hb1
      go_wp2_with (fail)
      refine (put_int HRd.inv HB1.out hsm'.1 hbase (nd := .one t .zero) rfl (by decide) (by decide)).mono ?_
      rintro e w2 ⟨rfl, hq⟩
      have HQ := Lib.hid hq
      clear hq
      go_wp2
      obtain ⟨g', hi, hkp⟩ := HQ.out
      have ht := HT.out
      simp only [Int.toNat_natCast] at ht
      rw [ht] at hi
      go_roundg (s.size - (st.put (.one (BSet.zero.range (byte s st.pos) (byte s st.pos)) .zero) true 1).pos)
      case measure => have := (good_step HG.out hp HST.out).2.1; rw [HK.out]; omega
      case rel => exact ⟨_, st.put (.one (BSet.zero.range (byte s st.pos) (byte s st.pos)) .zero) true 1, g', by rw [HDS.out _ _ rfl h40], rfl, HRd.next hp HST.out hi hkp⟩
    · have hfinR := HRd.fin hp
      have hp : st.pos = st.s.size := by have := HRd.good.pos; omega
      have t1 : ¬ ((st.pos : Int) < (s.size : Int)) := by have := HS.out; rw [hp, this]; omega
      have HG := Lib.hid HRd.good
      have HFR := Lib.hid hfinR
      clear hfinR
      by_cases hlow : st.low = []
      case neg =>
        have hl0 : 0 < st.low.length := List.length_pos_iff.2 hlow
        have hl1 : st.low.length ≤ 100000 := by have := HG.out.low; have := HG.out.pos; have := HG.out.size; omega
        have hres : readFin s R = .err s.size 2 := by rw [HFR.out]; simp only [readFin]; rw [if_pos hlow]
        have HRES := Lib.hid hres
        clear hres hlow
        go_wp2_with (go_at_call 61; refine (fail_any _ _ _).mono ?_; rintro e w' ⟨rfl, rfl⟩)
        exact read_panic HS'.out HRd.below s.size _ rfl rfl rfl fun w' hw => by rw [HRES.out]; exact ⟨rfl, hw⟩
      case pos =>
        have HLOW := Lib.hid hlow
        have hB0 := HRd.below
        have n0 := HS'.out.h0
        have n1 := HS'.out.h1
        have n2 := HS'.out.h2
        have l0 : b0 < w.heap.size + 3 := by omega
        have r0 : wr.heap[b0]? = _ := (hB0.block b0 l0).trans HS'.out.out0
        have hx := HX.out
        have hl0 : st.low.length = 0 := by rw [hlow]; rfl
        have HL0 := Lib.hid hl0
        rw [hl0] at c2
        obtain ⟨⟨bvs, hb1, hb2⟩, _⟩ := hx.top
        obtain ⟨ab, nb, cb, hbv⟩ := ownsRow_shape hb1.1
        obtain ⟨_, ⟨pvs, hp1, hp2⟩⟩ := hx.top
        obtain ⟨ap, np, cp, hpv⟩ := ownsRow_shape hp1.1
        obtain ⟨ar, nr, cr, hrv⟩ := ownsRow_shape hx.refs
        have hll : x.lowc.length = 0 := by rw [hx.low.length, hl0]
        have k2 : wr.cell? ⟨x.bo, 0 + 2, none⟩ = some (.slice ab nb cb) := by
          rw [cell_of_blk hx.opn, ← hbv, show 0 + 2 = 0 * 5 + 2 from rfl, top_cell 2 (by rw [hll]) (by simp [frCells])]; rfl
        have k3 : wr.cell? ⟨x.bo, 0 + 3, none⟩ = some (.slice ap np cp) := by
          rw [cell_of_blk hx.opn, ← hpv, show 0 + 3 = 0 * 5 + 3 from rfl, top_cell 3 (by rw [hll]) (by simp [frCells])]; rfl
        have c3 : wr.cell? ⟨bp, 3, none⟩ = some (.int .i64 (st.groups : Int)) := (cell_of_blk hx.blk 3).trans rfl
        have c6 : wr.cell? ⟨bp, 6, none⟩ = some (.slice ar nr cr) := by rw [← hrv]; exact (cell_of_blk hx.blk 6).trans rfl
        have o0 : wr.cell? ⟨b0, 0, none⟩ = some .nilIface := (cell_of_blk r0 0).trans rfl
        have o1 : wr.cell? ⟨b0, 1, none⟩ = some (.int .i64 0) := (cell_of_blk r0 1).trans rfl
        have o2 : wr.cell? ⟨b0, 2, none⟩ = some (.slice none 0 0) := (cell_of_blk r0 2).trans rfl
        have o3 : wr.cell? ⟨b0, 3, none⟩ = some (.int .i64 0) := (cell_of_blk r0 3).trans rfl
        have zf0 := free_of_blk r0 0
        have zf1 := free_of_blk r0 1
        have zf2 := free_of_blk r0 2
        have zf3 := free_of_blk r0 3
        have hbl : bvs.length ≤ 100000 := by rw [hb2.length]; exact (by have := (HG.out.frs st.top (by simp)).1; have := HG.out.pos; have := HG.out.size; omega)
        have HBV : Hid (wr.ownsRow 0 62 1 (.slice ab nb cb) bvs.length bvs) := Lib.hid (by rw [← hbv]; exact hb1.1)
        have HBT : Hid (∀ k, (Value.slice ab nb cb).ownBlock = some k → g k = some (.br st.low.length)) := Lib.hid (by rw [← hbv]; exact hb1.2)
        have HB1 := Lib.hid hb1
        have HB2 := Lib.hid hb2
        have HBVE := Lib.hid hbv
        have HPVE := Lib.hid hpv
        have HRVE := Lib.hid hrv
        have hp' : st.pos = s.size := by rw [hp, HS.out]
        rw [hp'] at c1
        have t2 : ¬ ((s.size : Int) < (s.size : Int)) := by omega
        have hbb : bp ≠ x.bo := tag_ne HX.out.gp HX.out.gob (by simp)
        have hvb : (Value.slice ab nb cb).ownBlock ≠ some bp := fun e => tag_ne (HBT.out _ e) HX.out.gp (by simp) rfl
        have hp0 : bp ≠ b0 := fun e => by have := (HX.out.tags _ _ HX.out.gp).1; omega
        have hv0 : (Value.slice ab nb cb).ownBlock ≠ some b0 := fun e => by have := (HX.out.tags _ _ (HBT.out _ e)).1; omega
        have n01 : b0 ≠ b1 := by omega
        have n02 : b0 ≠ b2 := by omega
        have n12 : b1 ≠ b2 := by omega
        have n10 : b1 ≠ b0 := fun e => n01 e.symm
        have n20 : b2 ≠ b0 := fun e => n02 e.symm
        have n21 : b2 ≠ b1 := fun e => n12 e.symm
        clear hx hb1 hb2 hp1 hp2 hbv hpv hrv hl0 hll n0 n1 n2 r0 hp hB0 hp' hby t1
        go_wp2_with (fail)
        clear c0 c1 t2 hmf
        go_region_held3 (fun W => W.cell? ⟨bp, 3, none⟩ = some (.int .i64 (st.groups : Int)) ∧ W.cell? ⟨bp, 6, none⟩ = some (.slice ar nr cr)) (first | exact ⟨c3, c6⟩ | exact ⟨e3, e6⟩ | exact ⟨(far4 hp0 ..).trans e3, (far4 hp0 ..).trans e6⟩) (first | (go_at_call 56; refine (top_any _ _ _ _ 0 (by decide) (by exact c2)).mono ?_; rintro e w' ⟨rfl, nq, rfl⟩) | (go_at_call 62; refine (whole_walk _ _ 0 _ _ bvs (by exact k2) (by exact k3) (by exact HBV.out) hbl).mono ?_; rintro e w3 ⟨bv', rfl, ho, hg, ht⟩; have e3 := grown_cellH hg rfl c3 hvb; have e6 := grown_cellH hg rfl c6 hvb; have p0 := grown_cellH hg rfl o0 hv0; have p1 := grown_cellH hg rfl o1 hv0; have p2 := grown_cellH hg rfl o2 hv0; have p3 := grown_cellH hg rfl o3 hv0; have z0 := grown_frozenH hg rfl o0 zf0 hv0; have z1 := grown_frozenH hg rfl o1 zf1 hv0; have z2 := grown_frozenH hg rfl o2 zf2 hv0; have z3 := grown_frozenH hg rfl o3 zf3 hv0; have HO := Lib.hid ho; have HG3 := Lib.hid hg; have HT := Lib.hid ht; clear ho hg ht))
        have hfineX : st.top.whole.fine := whole_fine (n := st.pos) (by have := HG.out.pos; have := HG.out.size; omega) (HG.out.frs st.top (by simp))
        have nb00 : w.heap.size ≤ b0 := by have := HS'.out.h0; omega
        have HW3B : Below w.heap.size w w3 := ((HS'.out.below.trans (HRd.below.mono (by omega))).trans (below_drewN (Below.refl _ wr) _)).grown HG3.out (by show _ ≤ wr.heap.size; omega) fun j hj => by have := (HX.out.tags _ _ (HBT.out j hj)).1; omega
        have hD := read_done (dp := dp) HS'.out HRd.below HX.out HL0.out HB1.out HB2.out (by rw [HPVE.out]; exact HO.out) (by rw [HBVE.out]; exact HG3.out) (by rw [HBVE.out]; exact HT.out) hfineX
        rw [HRVE.out] at hD
        have hw4b : Below w.heap.size w (fill4 w3 b0 (.iface 108 bv') (.int .i64 (st.groups : Int)) (.slice ar nr cr) (.int .i64 (dp : Int))) := ((((HW3B.setCell (p := ⟨b0, 0, none⟩) nb00 _).setCell (p := ⟨b0, 1, none⟩) nb00 _).setCell (p := ⟨b0, 2, none⟩) nb00 _).setCell (p := ⟨b0, 3, none⟩) nb00 _)
        unfold fill4 at hD hw4b
        obtain ⟨F4, hsc, hfinal⟩ := hD
        generalize hW4 : ((((w3.setCell ⟨b0, 0, none⟩ (.iface 108 bv')).setCell ⟨b0, 1, none⟩ (.int .i64 (st.groups : Int))).setCell ⟨b0, 2, none⟩ (.slice ar nr cr)).setCell ⟨b0, 3, none⟩ (.int .i64 (dp : Int))) = W4 at *
        clear hW4 e3 e6 p0 p1 p2 p3 z0 z1 z2 z3
        have q0 : W4.cell? ⟨b0, 0, none⟩ = some (.iface 108 bv') := (cell_of_blk F4.o 0).trans rfl
        have q1 : W4.cell? ⟨b0, 1, none⟩ = some (.int .i64 (st.groups : Int)) := (cell_of_blk F4.o 1).trans rfl
        have q2 : W4.cell? ⟨b0, 2, none⟩ = some (.slice ar nr cr) := (cell_of_blk F4.o 2).trans rfl
        have q3 : W4.cell? ⟨b0, 3, none⟩ = some (.int .i64 (dp : Int)) := (cell_of_blk F4.o 3).trans rfl
        have q4 : W4.cell? ⟨b1, 0, none⟩ = some (.int .i64 0) := (cell_of_blk F4.r1 0).trans rfl
        have q5 : W4.cell? ⟨b2, 0, none⟩ = some (.int .i64 0) := (cell_of_blk F4.r2 0).trans rfl
        have g0 := free_of_blk F4.o 0
        have g1 := free_of_blk F4.o 1
        have g2 := free_of_blk F4.o 2
        have g3 := free_of_blk F4.o 3
        have g4 := free_of_blk F4.r1 0
        have g5 := free_of_blk F4.r2 0
        have lb0 := World.block_lt_of_cell? W4 _ q0
        have lb1 := World.block_lt_of_cell? W4 _ q4
        have lb2 := World.block_lt_of_cell? W4 _ q5
        have HM := sizeFn108
        have h1 := HM.hm
        have h2 := HM.hc
        have hszc := (capped_top st.top)
        generalize hSZ : st.top.whole.size = SZ at hsc hszc
        have HSC := Lib.hid hsc
        have HSZ := Lib.hid hSZ
        have HF4 := Lib.hid F4
        have HFL := Lib.hid hfinal
        have HW4B := Lib.hid hw4b
        clear hsc hSZ F4 hfinal hw4b c2 k2 k3 c3 c6 o0 o1 o2 o3 zf0 zf1 zf2 zf3
        have nb0 : w.heap.size ≤ b0 := by have := HS'.out.h0; omega
        have nb1 : w.heap.size ≤ b1 := by have := HS'.out.h1; omega
        have nb2 : w.heap.size ≤ b2 := by have := HS'.out.h2; omega
        by_cases t20 : (st.groups : Int) > 20
        · have hres : readFin s R = .err 0 4 := by rw [HFR.out]; simp only [readFin]; rw [if_neg (by simp [HLOW.out]), if_pos (.inl (by omega))]
          have HRES := Lib.hid hres
          clear hres
          go_wp2
          exact read_limit nb0 nb1 nb2 n01 n02 n12 HF4.out.o HF4.out.r1 HF4.out.r2 HW4B.out _ rfl rfl rfl fun w' hw => by rw [HRES.out]; exact ⟨rfl, hw⟩
        by_cases t100 : (dp : Int) > 100
        · have hres : readFin s R = .err 0 4 := by rw [HFR.out]; simp only [readFin]; rw [if_neg (by simp [HLOW.out]), if_pos (.inr (.inl (by omega)))]
          have HRES := Lib.hid hres
          clear hres
          go_wp2
          exact read_limit nb0 nb1 nb2 n01 n02 n12 HF4.out.o HF4.out.r1 HF4.out.r2 HW4B.out _ rfl rfl rfl fun w' hw => by rw [HRES.out]; exact ⟨rfl, hw⟩
        go_wp2_with (fail)
        refine (HSC.out _ (Below.refl _ _)).mono ?_
        rintro e W5 ⟨rfl, hb5⟩
        have q0' := (hb5.cell lb0).trans q0
        have q1' := (hb5.cell (p := ⟨b0, 1, none⟩) lb0).trans q1
        have q2' := (hb5.cell (p := ⟨b0, 2, none⟩) lb0).trans q2
        have q3' := (hb5.cell (p := ⟨b0, 3, none⟩) lb0).trans q3
        have q4' := (hb5.cell lb1).trans q4
        have q5' := (hb5.cell lb2).trans q5
        have g0' := (hb5.frozen (p := ⟨b0, 0, none⟩) lb0).trans g0
        have g1' := (hb5.frozen (p := ⟨b0, 1, none⟩) lb0).trans g1
        have g2' := (hb5.frozen (p := ⟨b0, 2, none⟩) lb0).trans g2
        have g3' := (hb5.frozen (p := ⟨b0, 3, none⟩) lb0).trans g3
        have g4' := (hb5.frozen (p := ⟨b1, 0, none⟩) lb1).trans g4
        have g5' := (hb5.frozen (p := ⟨b2, 0, none⟩) lb2).trans g5
        have HB5 := Lib.hid hb5
        clear hb5 q0 q1 q2 q3 q4 q5 g0 g1 g2 g3 g4 g5 h1 h2
        by_cases t5000 : (SZ : Int) > 5000
        · have hres : readFin s R = .err 0 4 := by rw [HFR.out]; simp only [readFin]; rw [if_neg (by simp [HLOW.out]), if_pos (.inr (.inr (by rw [HSZ.out]; omega)))]
          have HRES := Lib.hid hres
          clear hres
          go_wp2
          exact read_limit nb0 nb1 nb2 n01 n02 n12 ((HB5.out.block b0 lb0).trans HF4.out.o) ((HB5.out.block b1 lb1).trans HF4.out.r1) ((HB5.out.block b2 lb2).trans HF4.out.r2) (HW4B.out.trans (HB5.out.mono HW4B.out.size)) _ rfl rfl rfl fun w' hw => by rw [HRES.out]; exact ⟨rfl, hw⟩
        have hres : readFin s R = .ok st dp := by rw [HFR.out]; simp only [readFin]; rw [if_neg (by simp [HLOW.out]), if_neg (by rw [HSZ.out]; omega)]
        have HRES := Lib.hid hres
        clear hres
        go_wp2_with (fail)
        refine leaves_cons (f := 51) (args := #[.pointer (some ⟨b0, 0, none⟩), .pointer (some ⟨b1, 0, none⟩), .pointer (some ⟨b2, 0, none⟩)]) (by simp) (by simp [go_sem]) ?_
        refine (read1_idle _ _ _ _).mono ?_
        rintro e u' w'' ⟨rfl, rfl, rfl⟩
        have v0 := (HB5.out.block b0 lb0).trans HF4.out.o
        have v0' := fill4_same W5 b0 _ _ _ _ (.iface 108 bv') (.int .i64 (st.groups : Int)) (.slice ar nr cr) (.int .i64 (dp : Int)) _ v0
        refine ⟨_, results_read (b0 := b0) (b1 := b1) (b2 := b2) rfl rfl rfl rfl ((heap_setCell_other _ _ b0 _ (by exact n02)).trans ((heap_setCell_other _ _ b0 _ (by exact n01)).trans v0')) ?_ ?_, ?_⟩
        · have v1 := heap_setCell_same _ b1 0 _ _ (.int .i64 0) ((fill4_other W5 b0 (.iface 108 bv') (.int .i64 (st.groups : Int)) (.slice ar nr cr) (.int .i64 (dp : Int)) b1 n10).trans ((HB5.out.block b1 lb1).trans HF4.out.r1))
          exact (cell_of_blk ((heap_setCell_other _ ⟨b2, 0, none⟩ b1 (.int .i64 0) (by exact n12)).trans v1) 0).trans rfl
        · have v2 := heap_setCell_same _ b2 0 _ _ (.int .i64 0) ((heap_setCell_other _ ⟨b1, 0, none⟩ b2 (.int .i64 0) (by exact n21)).trans ((fill4_other W5 b0 (.iface 108 bv') (.int .i64 (st.groups : Int)) (.slice ar nr cr) (.int .i64 (dp : Int)) b2 n20).trans ((HB5.out.block b2 lb2).trans HF4.out.r2)))
          exact (cell_of_blk v2 0).trans rfl
        · have := HFL.out W5 HB5.out
          rw [HRES.out]
          exact this

end Go.Proofs.Ytfgghbideoehjaa
