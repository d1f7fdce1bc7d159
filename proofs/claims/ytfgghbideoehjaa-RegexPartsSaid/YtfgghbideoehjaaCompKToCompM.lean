/-
  The compiler: branches.
  The compiler: add at branches; add at every node of the kinds that are covered.
  The compiler: compiled, at every covered node.
-/
import Derived.Test.YtfgghbideoehjaaCompEToCompJ
import Derived.Carry
namespace Go.Proofs.Ytfgghbideoehjaa
open Go.ChangeShapes Go.WideShapes Go.ChangeAt Go.RowKit
set_option linter.unusedVariables false
set_option maxRecDepth 100000

theorem info3 : (Try.prog.info? 3).map (fun i => (i.zero, i.size, i.bytes)) = some (some (.int .i64 0), 1, 8) := by kernel_rfl

/-- The places that branches keeps. -/
structure EndsAt (base : Nat) (w : World) (cp : Nat) (pv ev : Value) (ends : List Nat) (n : Nat) : Prop where
  row : w.ownsRow base 3 1 ev ends.length (ends.map fun (e : Nat) => Value.int .i64 (e : Int))
  ne : ev.ownBlock ≠ some cp
  nep : ∀ k, ev.ownBlock = some k → pv.ownBlock ≠ some k
  lt : ∀ e ∈ ends, e < n

theorem EndsAt.step {base : Nat} {w w' : World} {cp : Nat} {pv pv' ev : Value} {ends : List Nat} {n n' : Nat} (h : EndsAt base w cp pv ev ends n) (hs : CStep cp w pv w' pv') (hn : n ≤ n') : EndsAt base w' cp pv' ev ends n' := by
  refine ⟨ownsRow_agree h.row fun j hj => hs.block j (h.row.lt j hj).2 (by rintro rfl; exact h.ne hj) (h.nep j hj), h.ne, fun k hk => ?_, fun e he => by have := h.lt e he; omega⟩
  rcases hs.tag with e | e
  · rw [e]; exact h.nep k hk
  · exact fun e2 => by have := e k e2; have := (h.row.lt k hk).2; omega

theorem CStep.own {cp : Nat} (w : World) (g n c o : Nat) (v : Value) : CStep cp w (.slice (some ⟨g, 0, none⟩) n c) (w.setCell ⟨g, o, none⟩ v) (.slice (some ⟨g, 0, none⟩) n c) :=
  ⟨rfl, rfl, rfl, by simp, fun b hb hc hp => heap_setCell_other _ _ _ _ (by rintro rfl; exact hp rfl), .inl rfl⟩

theorem CStep.grown {cp : Nat} {w w4 w5 : World} {pv pv4 : Value} {row : Option Nat} (h : CStep cp w pv w4 pv4) (hg : w4.grownBy w5 row) (hr : ∀ k, row = some k → w.heap.size ≤ k) : CStep cp w pv w5 pv4 :=
  ⟨hg.os.trans h.os, hg.tape.trans h.tape, hg.output.trans h.output, Nat.le_trans h.size hg.size, fun b hb hc hp => by
    rw [hg.block b (Nat.lt_of_lt_of_le hb h.size) (fun e => by have := hr b e.symm; omega), h.block b hb hc hp], h.tag⟩
theorem CAt.grown {base : Nat} {w w1 : World} {cp : Nat} {prog : List Ins} {marks : Nat} {fold lines : Bool} {pv : Value} {row : Option Nat} (h : CAt base w cp prog marks fold lines pv) (hg : w.grownBy w1 row) (h1 : row ≠ some cp) (h2 : ∀ k, row = some k → pv.ownBlock ≠ some k) : CAt base w1 cp prog marks fold lines pv :=
  ⟨h.cb, (hg.block cp (Array.getElem?_eq_some_iff.1 h.blk).1 (fun e => h1 e.symm)).trans h.blk, ownsRow_agree h.row fun j hj => hg.block j (h.row.lt j hj).2 (fun e => h2 j e.symm hj), h.ne⟩

theorem int_new (w : World) (n : Int) : ∀ j u, [Value.int .i64 n][j]? = some u → (w.alloc (.cells #[.int .i64 n] 3)).cell? ((⟨w.heap.size, 0, none⟩ : Addr).add j) = some u := by
  intro j u hj
  rcases j with _ | j
  · simp at hj; subst hj; exact cell_of_row _ _ _ _ _ _ (heap_alloc_new w _)
  · simp at hj
theorem int_cell (n : Int) : ∀ x ∈ [Value.int .i64 n], x.oneCell' = true := by
  intro x hx; simp at hx; subst hx; rfl

structure BrRound (base cp : Nat) (w0 : World) (l : List Nd) (prog : List Ins) (marks : Nat) (w : World) (pv : Value) (j : Nat) (ends : List Nat) (p : List Ins × Nat) (pv' ev : Value) (wr : World) : Prop where
  at' : CAt base wr cp p.1 p.2 false false pv'
  step : CStep cp w pv wr pv'
  eq : compB l [] (prog, marks) = compB (l.drop j) ends p
  elen : ends.length ≤ j
  ends : EndsAt w.heap.size wr cp pv' ev ends p.1.length

set_option maxHeartbeats 1000000 in
theorem branches_walk (base cp : Nat) (w0 : World) (l : List Nd) (sv : Value) (vs : List Value) (hrow : w0.ownsRow 0 62 1 sv vs.length vs) (hbk : ∀ k, sv.ownBlock = some k → k < base) (hlen : l.length = vs.length) (hvl : vs.length ≤ 1000000) (hv0 : 0 < vs.length)
    (hall : ∀ (j : Nat) t v, l[j]? = some t → vs[j]? = some v → AddOk base cp w0 t v ∧ ∃ T u, v = .iface T u)
    (w : World) (prog : List Ins) (marks : Nat) (pv : Value) (hB : Below base w0 w) (hC : CAt base w cp prog marks false false pv) (hbase : base ≤ w.heap.size) (hl : (compB l [] (prog, marks)).1.length ≤ 1000000) (hm : (compB l [] (prog, marks)).2 ≤ 1000000) :
    Calls Try.prog 84 #[.pointer (some ⟨cp, 0, none⟩), sv] w fun e w' => e = .returned (.tuple #[]) ∧ ∃ pv', CAt base w' cp (compB l [] (prog, marks)).1 (compB l [] (prog, marks)).2 false false pv' ∧ CStep cp w pv w' pv' := by
  have lcp : cp < w.heap.size := (Array.getElem?_eq_some_iff.1 hC.blk).1
  obtain ⟨a, k, c, rfl⟩ := ownsRow_shape hrow
  obtain ⟨g, cap, ha⟩ : ∃ g cap, (Value.slice a k c) = .slice (some ⟨g, 0, none⟩) vs.length cap := by
    rcases hrow.2 with ⟨h, h0⟩ | ⟨g, cap, cur, h, _⟩
    · omega
    · exact ⟨g, cap, h⟩
  cases ha
  have hvi : (0 : Int) < vs.length := by omega
  obtain ⟨i3, h3, h30, h31, h32⟩ := info_parts info3
  have HR := Lib.hid hrow
  have HL := Lib.hid hlen
  have HALL := Lib.hid hall
  have HC := Lib.hid hC
  have HB := Lib.hid hB
  have HBK := Lib.hid hbk
  have HLL := Lib.hid hl
  have HMM := Lib.hid hm
  clear hC hB hrow hlen hall hbk hl hm
  go_enter Try.func84, Try.ntmps84
  go_wp2_with (fail)
  go_loopg [4, 12] vs.length (fun k ev i wr => ∃ (j : Nat) (ends : List Nat) (p : List Ins × Nat) (pv' : Value), j < vs.length ∧ k = vs.length - j ∧ i = .int .i64 (j : Int) ∧ BrRound base cp w0 l prog marks w pv j ends p pv' ev wr)
  case atStart =>
    exact ⟨0, [], (prog, marks), pv, hv0, rfl, rfl, HC.out, CStep.ofBelow (Below.refl _ _), by simp, Nat.zero_le _, ⟨World.ownsRow_nil _ _ _ _, (fun e => by cases e), (fun k hk => by cases hk), (fun e he => by cases he)⟩⟩
  case round =>
    obtain ⟨j, ends, p, pv', hj, hk, rfl, hBR⟩ := hrel
    obtain ⟨v, hv⟩ : ∃ v, vs[j]? = some v := ⟨_, List.getElem?_eq_getElem hj⟩
    obtain ⟨t, ht⟩ : ∃ t, l[j]? = some t := ⟨_, List.getElem?_eq_getElem (by rw [HL.out]; exact hj)⟩
    obtain ⟨hadd, T, u, rfl⟩ := HALL.out j t v ht hv
    have hbw : Below base w0 wr := HB.out.trans (hBR.step.below HC.out hbase)
    have hcell : wr.cell? ⟨g, j, none⟩ = some (.iface T u) := by
      have hr := HR.out
      rw [hbw.cell (p := ⟨g, j, none⟩) (HBK.out g rfl), hr.cellAt j (by omega)]; exact hv
    have hdrop : l.drop j = t :: l.drop (j + 1) := by
      obtain ⟨h1, h2⟩ := List.getElem?_eq_some_iff.1 ht
      rw [List.drop_eq_getElem_cons h1, h2]
    have hwsz : base ≤ wr.heap.size := by have := hBR.step.size; omega
    have hel := hBR.elen
    have hwr := hBR.step.size
    have HBR := Lib.hid hBR
    have HADD := Lib.hid hadd
    have HBW := Lib.hid hbw
    have HDROP := Lib.hid hdrop
    have HK := Lib.hid hk
    clear hBR hadd hbw hdrop hv ht hk
    by_cases hlast : j + 1 = vs.length
    · have t1 : ((j : Int) == (vs.length : Int) - 1) = true := by simp; omega
      obtain ⟨rp0, rm0⟩ := p
      have hd2 : l.drop (j + 1) = [] := List.drop_eq_nil_iff.2 (by have := HL.out; omega)
      have heq := HBR.out.eq
      rw [HDROP.out, hd2] at heq
      simp only [compB] at heq
      have hm1 := comp_mono t (rp0, rm0)
      generalize hr : comp t (rp0, rm0) = r at *
      obtain ⟨rp1, rm1⟩ := r
      simp only at heq hm1
      have hll := HLL.out
      have hmm := HMM.out
      rw [heq] at hll hmm
      simp only [patch_len] at hll hmm
      have hcall := HADD.out wr rp0 rm0 pv' HBW.out HBR.out.at' hwsz (by rw [hr]; exact hll) (by rw [hr]; exact hmm)
      rw [hr] at hcall
      simp only at hcall
      have HEQ := Lib.hid heq
      have HCALL := Lib.hid hcall
      clear heq hr hd2 hcall
      go_wp2_with (fail)
      refine HCALL.out.mono ?_
      rintro e w3 ⟨rfl, pv3, hc3, hs3⟩
      have hE3 := HBR.out.ends.step hs3 (n' := rp1.length) hm1.1
      have HC3 := Lib.hid hc3
      have HS3 := Lib.hid (HBR.out.step.trans hs3)
      obtain ⟨ea, en, ec, hev⟩ := ownsRow_shape hE3.row
      subst hev
      have HE3 := Lib.hid hE3
      clear hc3 hs3 hE3
      have hen : en = ends.length := by
        rcases HE3.out.row.2 with ⟨h, h0⟩ | ⟨g, cap, cur, h, _⟩
        · cases h; exact h0.symm
        · cases h; rfl
      subst hen
      go_wp2_with (fail)
      go_loopg [64] ends.length (fun k i w5 => ∃ (q : Nat) (pv5 : Value), q ≤ ends.length ∧ k = ends.length - q ∧ i = .int .i64 (q : Int) ∧ CAt base w5 cp (patch (ends.take q) rp1) rm1 false false pv5 ∧ CStep cp w pv w5 pv5 ∧ EndsAt w.heap.size w5 cp pv5 (.slice ea ends.length ec) ends rp1.length)
      case atStart => exact ⟨0, pv3, Nat.zero_le _, rfl, rfl, HC3.out, HS3.out, HE3.out⟩
      case round =>
        obtain ⟨q, pv5, hq, hk5, rfl, hc5, hs5, hE5⟩ := hrel
        have HK5 := Lib.hid hk5
        have HS5 := Lib.hid hs5
        have hpl : (patch (ends.take q) rp1).length = rp1.length := patch_len _ _
        by_cases hqe : q < ends.length
        · obtain ⟨e, he⟩ : ∃ e, ends[q]? = some e := ⟨_, List.getElem?_eq_getElem hqe⟩
          have hel2 : e < rp1.length := hE5.lt e (List.mem_of_getElem? he)
          obtain ⟨ge, ce, hge⟩ : ∃ ge ce, (Value.slice ea ends.length ec) = .slice (some ⟨ge, 0, none⟩) ends.length ce := by
            rcases hE5.row.2 with ⟨h, h0⟩ | ⟨g, cap, cur, h, _⟩
            · omega
            · exact ⟨g, cap, h⟩
          cases hge
          have hce : wr.cell? ⟨ge, q, none⟩ = some (.int .i64 (e : Int)) := by
            rw [hE5.row.cellAt q (by omega), List.getElem?_map, he]; rfl
          obtain ⟨g6, cap6, rfl, hgb6, hcap6, hgc6, hgs6, hcells6, hfr6⟩ := hc5.shape (k := e) (by omega)
          obtain ⟨v6, hv6⟩ := hcells6 1 (by decide)
          have z6 := hfr6 (e * 8 + 1)
          have q6 : wr.cell? ⟨cp, 0, none⟩ = some (.slice (some ⟨g6, 0, none⟩) (patch (ends.take q) rp1).length cap6) := (cell_of_blk hc5.blk 0).trans rfl
          rw [hpl] at q6 hcap6
          have hq2 : (q : Int) < ends.length := by omega
          have HC5 := Lib.hid hc5
          have HE5 := Lib.hid hE5
          have HEE := Lib.hid he
          have HPL := Lib.hid hpl
          clear hk5 hc5 hs5 hE5 hcells6 hfr6 he hpl
          go_wp2
          go_region
          have hnx : patch (ends.take (q + 1)) rp1 = setA (patch (ends.take q) rp1) e rp1.length := by
            have h9 : ends.take (q + 1) = ends.take q ++ [e] := by rw [List.take_add_one, HEE.out]; rfl
            rw [h9]
            simp only [patch, List.foldl_append, List.foldl_cons, List.foldl_nil]
            have := HPL.out
            simp only [patch] at this
            rw [this]
          have hs6 := (HS5.out.trans (CStep.own (cp := cp) wr g6 (patch (ends.take q) rp1).length cap6 (e * 8 + 1) (.int .i64 (rp1.length : Int)))).trans (CStep.ofBelow (Below.refl _ _).drew)
          have hc6 := (HC5.out.storeA e rp1.length).ext (Below.refl _ _).drew
          have hE6 := HE5.out.step ((CStep.own (cp := cp) wr g6 (patch (ends.take q) rp1).length cap6 (e * 8 + 1) (.int .i64 (rp1.length : Int))).trans (CStep.ofBelow (Below.refl _ _).drew)) (Nat.le_refl _)
          have HC6 := Lib.hid hc6
          have HS6 := Lib.hid hs6
          have HE6 := Lib.hid hE6
          have HNX := Lib.hid hnx
          clear hc6 hs6 hE6 hnx
          go_wp2
          go_roundg (ends.length - (q + 1))
          case measure => rw [HK5.out]; omega
          case rel => exact ⟨q + 1, _, by omega, rfl, by go_num, by rw [HNX.out]; exact HC6.out, HS6.out, HE6.out⟩
        · have hqq : ends.take q = ends := List.take_of_length_le (by omega)
          rw [hqq] at hc5
          have HC5 := Lib.hid hc5
          have HQ := Lib.hid (show q = ends.length by omega)
          clear hk5 hc5 hs5 hE5 hqq hpl
          go_wp2
          go_end0
          refine ⟨rfl, pv5, ?_, HS5.out⟩
          rw [HEQ.out]
          exact HC5.out
    · have t1 : ((j : Int) == (vs.length : Int) - 1) = false := by simp; omega
      have t2 : (j : Int) < vs.length := by omega
      obtain ⟨rp0, rm0⟩ := p
      obtain ⟨t', l', hd2⟩ : ∃ t' l', l.drop (j + 1) = t' :: l' := by
        cases hc : l.drop (j + 1) with
        | nil => have := List.drop_eq_nil_iff.1 hc; have := HL.out; omega
        | cons a b => exact ⟨a, b, rfl⟩
      have heq := HBR.out.eq
      rw [HDROP.out, hd2] at heq
      simp only [compB] at heq
      rw [← hd2] at heq
      have hm1 := comp_mono t (setA (rp0 ++ [.mk1 3 0]) rp0.length (rp0.length + 1), rm0)
      generalize hr : comp t (setA (rp0 ++ [.mk1 3 0]) rp0.length (rp0.length + 1), rm0) = r at *
      obtain ⟨rp1, rm1⟩ := r
      have hm2 := compB_mono (l.drop (j + 1)) (ends ++ [rp1.length]) (setB (rp1 ++ [.mk1 4 0]) rp0.length (rp1.length + 1), rm1)
      simp only at heq hm1 hm2
      rw [← heq] at hm2
      simp only [setA_len, setB_len, List.length_append, List.length_cons, List.length_nil] at hm1 hm2
      have hll := HLL.out
      have hmm := HMM.out
      have HEQ := Lib.hid heq
      have HRE := Lib.hid hr
      clear heq hr hd2
      go_wp2_with (fail)
      refine (emit_any HBR.out.at' hwsz (by simp only; omega) (.mk1 3 0) (by simp [Ins.cells, BSet.zero])).mono ?_
      rintro e w2 ⟨rfl, pv2, hc2, hs2⟩
      simp only at hc2 ⊢
      have hE2 := HBR.out.ends.step hs2 (n' := rp0.length + 1) (by simp)
      obtain ⟨g2, cap2, rfl, hgb2, hcap2, hgc2, hgs2, hcells2, hfr2⟩ := hc2.shape (k := rp0.length) (by simp)
      obtain ⟨v1, hv1⟩ := hcells2 1 (by decide)
      have z1 := hfr2 (rp0.length * 8 + 1)
      have q0 : w2.cell? ⟨cp, 0, none⟩ = some (.slice (some ⟨g2, 0, none⟩) (rp0 ++ [Ins.mk1 3 0]).length cap2) := (cell_of_blk hc2.blk 0).trans rfl
      simp only [List.length_append, List.length_cons, List.length_nil, Nat.zero_add] at q0 hcap2
      have HC2 := Lib.hid hc2
      have HS2 := Lib.hid hs2
      have HE2 := Lib.hid hE2
      clear hc2 hs2 hE2 hcells2 hfr2 hcell
      generalize hN : rp0.length = N at *
      have HNN := Lib.hid hN
      clear hN
      go_wp2
      go_region
      have hcA := (HC2.out.storeA N (N + 1)).ext (Below.refl _ _).drew
      have hsA := (HS2.out.trans (CStep.own (cp := cp) w2 g2 _ cap2 (N * 8 + 1) (.int .i64 ((N + 1 : Nat) : Int)))).trans (CStep.ofBelow (Below.refl _ _).drew)
      have hEA := HBR.out.ends.step hsA (n' := N + 1) (by simp only; have := HNN.out; omega)
      obtain ⟨WA, hWA⟩ : ∃ WA, ((w2.setCell ⟨g2, N * 8 + 1, none⟩ (.int .i64 ((N + 1 : Nat) : Int))).drew) = WA := ⟨_, rfl⟩
      rw [hWA] at hcA hsA hEA
      have hWA' : ((w2.setCell ⟨g2, N * 8 + 1, none⟩ (.int .i64 ((N : Int) + 1))).drew) = WA := hWA
      rw [hWA']
      have HCA := Lib.hid hcA
      have HSA := Lib.hid hsA
      have HEA := Lib.hid hEA
      have lWA := hsA.size
      clear hcA hsA hEA hWA hWA' q0 hv1 z1
      have hcall := HADD.out WA _ rm0 _ (HBW.out.trans (HSA.out.below HBR.out.at' hwsz)) HCA.out (by omega) (by rw [HRE.out]; simp only; omega) (by rw [HRE.out]; simp only; omega)
      have HCALL := Lib.hid hcall
      clear hcall
      go_wp2_with (fail)
      refine HCALL.out.mono ?_
      rintro e w3 ⟨rfl, pv3, hc3, hs3⟩
      rw [HRE.out] at hc3
      simp only at hc3 ⊢
      have hEA := HEA.out.step hs3 (n' := rp1.length) (by omega)
      have lw3 := hs3.size
      have HC3 := Lib.hid hc3
      have HS3 := Lib.hid hs3
      have HE3 := Lib.hid hEA
      clear hc3 hs3 hEA
      go_wp2_with (fail)
      refine (emit_any HC3.out (by omega) (by omega) (.mk1 4 0) (by simp [Ins.cells, BSet.zero])).mono ?_
      rintro e w4 ⟨rfl, pv4, hc4, hs4⟩
      have hE4 := HE3.out.step hs4 (n' := rp1.length + 1) (by omega)
      have lw4 := hs4.size
      obtain ⟨g4, cap4, rfl, hgb4, hcap4, hgc4, hgs4, hcells4, hfr4⟩ := hc4.shape (k := N) (by simp; omega)
      obtain ⟨v4, hv4⟩ := hcells4 2 (by decide)
      have z4 := hfr4 (N * 8 + 2)
      have q4 : w4.cell? ⟨cp, 0, none⟩ = some (.slice (some ⟨g4, 0, none⟩) (rp1 ++ [Ins.mk1 4 0]).length cap4) := (cell_of_blk hc4.blk 0).trans rfl
      simp only [List.length_append, List.length_cons, List.length_nil, Nat.zero_add] at q4 hcap4
      obtain ⟨ea, en, ec, hev⟩ := ownsRow_shape hE4.row
      have HC4 := Lib.hid hc4
      have HS4 := Lib.hid hs4
      have HE4 := Lib.hid hE4
      clear hc4 hs4 hE4 hcells4 hfr4
      subst hev
      have hne4 : (Value.slice ea en ec).ownBlock ≠ some cp := HE4.out.ne
      have hng4 : (Value.slice ea en ec).ownBlock ≠ some g4 := fun e => HE4.out.nep _ e rfl
      go_wp2_with (at_builtin; go_loud (refine wpList_append_tag rfl (.tmp 43) (.tmp 47) 58 rfl w.heap.size 3 i3 _ 1 8 Try.underlying58 h3 h30 h31 h32 rfl (by decide) (.slice ea en ec) ends.length _ rfl (World.ownsRow.alloc HE4.out.row _) ⟨w4.heap.size, 0, none⟩ 1 1 [.int .i64 (rp1.length : Int)] rfl rfl (int_new _ _) (int_cell _) (by simp only [maxLen]; omega) (by omega) (by simp; omega) ?_; intro ev' w5 ho5 hg5 ht5; obtain ⟨g5, cap5, rfl⟩ := ownsRow_succ' ho5; have hg6 := grown_past hg5; have ht6 := tag_past ht5; have q5 := grown_cellH hg6 rfl q4 hne4; have v5 := grown_cellH hg6 rfl hv4 hng4; have z5 := grown_frozenH hg6 rfl hv4 z4 hng4; have HG6 := Lib.hid hg6; have HT6 := Lib.hid ht6; have HO5 := Lib.hid ho5; clear hg5 ht5 hg6 ht6 ho5))
      have hc5 := HC4.out.grown HG6.out hne4 (fun k hk => HE4.out.nep k hk)
      have hs45 := ((HBR.out.step.trans HSA.out).trans HS3.out).trans HS4.out
      have hs5 := hs45.grown HG6.out (fun k hk => (HE4.out.row.lt k hk).1)
      have lw5 := HG6.out.size
      have HC5 := Lib.hid hc5
      have HS5 := Lib.hid hs5
      clear hc5 hs45 hs5 q4 hv4 z4
      go_wp2
      go_region
      have h5c : g5 ≠ cp := by
        rcases HT6.out with e | e
        · exact fun e2 => hne4 (by rw [← e, ← e2]; rfl)
        · have h9 : w4.heap.size ≤ g5 := e g5 rfl
          omega
      have h5g : g5 ≠ g4 := by
        rcases HT6.out with e | e
        · exact fun e2 => hng4 (by rw [← e, ← e2]; rfl)
        · have h9 : w4.heap.size ≤ g5 := e g5 rfl
          omega
      go_wp2
      go_roundg (vs.length - (j + 1))
      case measure => rw [HK.out]; omega
      case rel =>
        refine ⟨j + 1, ends ++ [rp1.length], (setB (rp1 ++ [.mk1 4 0]) N (rp1.length + 1), rm1), .slice (some ⟨g4, 0, none⟩) (rp1 ++ [Ins.mk1 4 0]).length cap4, by omega, rfl, by go_num, ?_⟩
        exact {
          at' := (HC5.out.storeB N (rp1.length + 1)).ext (Below.refl _ _).drew
          step := (HS5.out.trans (CStep.own (cp := cp) w5 g4 _ cap4 (N * 8 + 2) (.int .i64 ((rp1.length + 1 : Nat) : Int)))).trans (CStep.ofBelow (Below.refl _ _).drew)
          eq := HEQ.out
          elen := by simp; omega
          ends := by
            refine ⟨?_, (fun e => h5c (Option.some.inj e)), (fun k hk => by cases hk; exact fun e => h5g (Option.some.inj e).symm), ?_⟩
            · rw [List.length_append, List.map_append]
              refine ownsRow_agree HO5.out fun q hq => ?_
              cases hq
              exact heap_setCell_other _ _ _ _ (by exact h5g)
            · intro e he
              simp only [List.mem_append, List.mem_singleton] at he
              simp only [setB_len, List.length_append, List.length_cons, List.length_nil]
              rcases he with he | he
              · have := HE4.out.lt e he; omega
              · omega }

end Go.Proofs.Ytfgghbideoehjaa

namespace Go.Proofs.Ytfgghbideoehjaa
open Go.ChangeShapes Go.WideShapes Go.ChangeAt Go.RowKit
set_option linter.unusedVariables false
set_option maxRecDepth 100000

set_option maxHeartbeats 1000000 in
theorem add_branches (base cp : Nat) (w0 : World) (l : List Nd) (sv : Value) (vs : List Value) (hrow : w0.ownsRow 0 62 1 sv vs.length vs) (hbk : ∀ k, sv.ownBlock = some k → k < base) (hlen : l.length = vs.length) (hvl : vs.length ≤ 1000000) (hv0 : 0 < vs.length)
    (hall : ∀ (j : Nat) t v, l[j]? = some t → vs[j]? = some v → AddOk base cp w0 t v ∧ ∃ T u, v = .iface T u) : AddOk base cp w0 (.branches l) (.iface 108 sv) := by
  intro w prog marks pv hB hC hbase hl hm
  simp only [comp] at hl hm ⊢
  have hw := branches_walk base cp w0 l sv vs hrow hbk hlen hvl hv0 hall w prog marks pv hB hC hbase hl hm
  obtain ⟨a, k, c, rfl⟩ := ownsRow_shape hrow
  have HW := Lib.hid hw
  clear hw hrow hall hB hC hl hm
  have a1 := miss108_124
  have a2 := miss108_121
  have a3 := miss108_133
  have a4 := miss108_135
  have a5 := miss108_109
  have a8 := hit108
  go_enter Try.func70, Try.ntmps70
  go_wp2_with (fail)
  refine HW.out.mono ?_
  rintro e w2 ⟨rfl, pv2, hc2, hs2⟩
  have HC2 := Lib.hid hc2
  have HS2 := Lib.hid hs2
  clear hc2 hs2
  go_wp2
  go_end0
  exact ⟨rfl, pv2, HC2.out, HS2.out⟩

mutual
/-- The kinds of nodes that are covered here. -/
def Nd.cov : Nd → Prop
  | .one s n => n = .zero ∨ (s = .zero ∧ n = BSet.zero.not)
  | .place _ => False
  | .look _ _ => False
  | .pieces l => l.length ≤ 1000000 ∧ Nd.covs l
  | .branches l => 0 < l.length ∧ l.length ≤ 1000000 ∧ Nd.covs l
  | .times i lo hi lz => lo = 0 ∧ hi = -1 ∧ lz = false ∧ i.cov
  | .group n i => 0 < n ∧ n ≤ 100000 ∧ i.cov
  | .back _ => False
def Nd.covs : List Nd → Prop
  | [] => True
  | t :: l => t.cov ∧ Nd.covs l
end

mutual
theorem add_node {G : Nat → Prop} {base cp : Nat} {w0 : World} (hG : ∀ b, G b → b < base) : ∀ (t : Nd) (v : Value), NodeAt G w0 t v → t.cov → AddOk base cp w0 t v
  | .one s n, v, h, hc => by
    simp only [NodeAt] at h; subst h
    simp only [Nd.cov] at hc
    rcases hc with rfl | ⟨rfl, rfl⟩
    · exact add_one base cp w0 s
    · exact add_dot base cp w0
  | .place _, v, h, hc => by simp [Nd.cov] at hc
  | .back _, v, h, hc => by simp [Nd.cov] at hc
  | .look _ _, v, h, hc => by simp [Nd.cov] at hc
  | .group n i, v, h, hc => by
    simp only [NodeAt] at h
    obtain ⟨x, rfl, h⟩ := h
    simp only [Nd.cov] at hc
    obtain ⟨T, u, rfl⟩ := h.iface
    exact add_group base cp w0 n hc.1 hc.2.1 i T u (add_node hG i _ h hc.2.2)
  | .times i lo hi lz, v, h, hc => by
    simp only [NodeAt] at h
    obtain ⟨x, rfl, h⟩ := h
    simp only [Nd.cov] at hc
    obtain ⟨rfl, rfl, rfl, hc⟩ := hc
    obtain ⟨T, u, rfl⟩ := h.iface
    exact add_times base cp w0 i T u (add_node hG i _ h hc)
  | .pieces l, v, h, hc => by
    simp only [NodeAt] at h
    obtain ⟨sv, vs, rfl, hr, h⟩ := h
    simp only [Nd.cov] at hc
    have hl := h.length
    exact add_pieces base cp w0 l sv vs hr.1 (fun k hk => hG k (hr.2 k hk)) hl.symm (by omega) (add_nodes hG l vs h hc.2)
  | .branches l, v, h, hc => by
    simp only [NodeAt] at h
    obtain ⟨sv, vs, rfl, hr, h⟩ := h
    simp only [Nd.cov] at hc
    have hl := h.length
    exact add_branches base cp w0 l sv vs hr.1 (fun k hk => hG k (hr.2 k hk)) hl.symm (by omega) (by omega) (add_nodes hG l vs h hc.2.2)
theorem add_nodes {G : Nat → Prop} {base cp : Nat} {w0 : World} (hG : ∀ b, G b → b < base) : ∀ (l : List Nd) (vs : List Value), NodesAt G w0 l vs → Nd.covs l → ∀ (j : Nat) t v, l[j]? = some t → vs[j]? = some v → AddOk base cp w0 t v ∧ ∃ T u, v = .iface T u
  | [], vs, h, hc, j, t, v, h1, h2 => by simp at h1
  | a :: l, vs, h, hc, j, t, v, h1, h2 => by
    simp only [NodesAt] at h
    obtain ⟨x, vs', rfl, hx, h⟩ := h
    simp only [Nd.covs] at hc
    cases j with
    | zero =>
      simp at h1 h2
      subst h1; subst h2
      exact ⟨add_node hG a x hx hc.1, hx.iface⟩
    | succ j =>
      simp at h1 h2
      exact add_nodes hG l vs' h hc.2 j t v h1 h2
end

end Go.Proofs.Ytfgghbideoehjaa

namespace Go.Proofs.Ytfgghbideoehjaa
open Go.ChangeShapes Go.WideShapes Go.ChangeAt Go.RowKit
set_option linter.unusedVariables false
set_option maxRecDepth 100000

theorem ownsRow_mono {w : World} {b base : Nat} {e : TypeId} {size : Nat} {v : Value} {n : Nat} {xs : List Value} (h : w.ownsRow base e size v n xs) (hb : b ≤ base) : w.ownsRow b e size v n xs := by
  refine ⟨h.1, ?_⟩
  rcases h.2 with h | ⟨g, cap, cur, h1, h2, h3⟩
  · exact .inl h
  · exact .inr ⟨g, cap, cur, h1, Nat.le_trans hb h2, h3⟩

/-- A machine that has just been made. -/
structure Made (w : World) (T : TypeId) (u : Value) (groups : Int) (refsv : Value) (deep : Int) (prog : List Ins) (marks : Nat) (s : ByteArray) (mp tp : Nat) (pv : Value) (w' : World) : Prop where
  blk : w'.heap[mp]? = some (.cells #[.iface T u, .int .i64 groups, refsv, .int .i64 deep, pv, .int .i64 (marks : Int), .string s, .bool false, .bool false, .map (some tp), .bool false] 91 (0, 0))
  tried : w'.heap[tp]? = some (.map #[] 0)
  row : w'.ownsRow w.heap.size 99 8 pv prog.length (prog.flatMap Ins.cells)
  lm : w.heap.size ≤ mp
  lt : w.heap.size ≤ tp
  hm : mp < w'.heap.size
  ht : tp < w'.heap.size
  ne : mp ≠ tp
  pm : pv.ownBlock ≠ some mp
  pt : pv.ownBlock ≠ some tp
  below : Below w.heap.size w w'

set_option maxHeartbeats 1000000 in
theorem compiled_any {G : Nat → Prop} (w : World) (s : ByteArray) (t : Nd) (T : TypeId) (u : Value) (groups deep : Int) (ra : Option Addr) (rn rc : Nat) (hG : ∀ b, G b → b < w.heap.size) (hN : NodeAt G w t (.iface T u)) (hcov : t.cov)
    (hl : (comp t ([], 0)).1.length ≤ 999990) (hm : (comp t ([], 0)).2 ≤ 1000000) :
    Calls Try.prog 44 #[.agg #[.iface T u, .int .i64 groups, .slice ra rn rc, .int .i64 deep], .string s, .bool false, .bool false] w fun e w' =>
      ∃ mp tp pv, e = .returned (.pointer (some ⟨mp, 0, none⟩)) ∧ Made w T u groups (.slice ra rn rc) deep ((comp t ([], 0)).1 ++ [.mk1 9 0]) (comp t ([], 0)).2 s mp tp pv w' := by
  obtain ⟨A, hA, sA, aN, aO, bA⟩ := alloc_pack w #[.iface T u, .int .i64 groups, .slice ra rn rc, .int .i64 deep] 65
  obtain ⟨B, hB, sB, bN, bO, bB⟩ := alloc_pack A #[.slice none 0 0, .int .i64 0, .bool false, .bool false] 144
  have hNA : NodeAt G A t (.iface T u) := NodeAt.agree (fun b hb => aO b (hG b hb)) (fun b hb => hb) _ _ hN
  have hadd := add_node (base := A.heap.size) (cp := A.heap.size) (fun b hb => by have := hG b hb; omega) t _ hNA hcov
  have hc0 : CAt A.heap.size B A.heap.size [] 0 false false (.slice none 0 0) := ⟨Nat.le_refl _, bN, World.ownsRow_nil _ _ _ _, by simp [Value.ownBlock]⟩
  have hcall := hadd B [] 0 _ bB hc0 (by omega) (by omega) hm
  have HA := Lib.hid hA
  have HB := Lib.hid hB
  have HSA := Lib.hid sA
  have HSB := Lib.hid sB
  have HAN := Lib.hid aN
  have HBA := Lib.hid bA
  have HBB := Lib.hid bB
  have HBO := Lib.hid bO
  have HC0 := Lib.hid hc0
  have HCALL := Lib.hid hcall
  have HL := Lib.hid hl
  clear hA hB sA sB aN bN bA bB aO bO hc0 hcall hadd hNA hN hm hl
  go_enter Try.func44, Try.ntmps44
  go_wp2_with (fail)
  rw [HA.out, HB.out, ← HSA.out]
  refine HCALL.out.mono ?_
  rintro e w1 ⟨rfl, pv1, hc1, hs1⟩
  have hbox1 : w1.heap[w.heap.size]? = some (.cells #[.iface T u, .int .i64 groups, .slice ra rn rc, .int .i64 deep] 65 (0, 0)) := by
    rw [hs1.block w.heap.size (by have := HSA.out; have := HSB.out; omega) (by have := HSA.out; omega) (by simp [Value.ownBlock]), HBO.out _ (by have := HSA.out; omega)]
    exact HAN.out
  have HC1 := Lib.hid hc1
  have HS1 := Lib.hid hs1
  have HX1 := Lib.hid hbox1
  have hA1 : A.heap.size < w1.heap.size := by have := hs1.size; have := HSB.out; omega
  clear hc1 hs1 hbox1
  go_wp2_with (fail)
  refine (emit_any HC1.out (by omega) (by have := HL.out; omega) (.mk1 9 0) (by simp [Ins.cells, BSet.zero])).mono ?_
  rintro e w3 ⟨rfl, pv3, hc3, hs3⟩
  have hpn : pv1.ownBlock ≠ some w.heap.size := fun e => by have := (HC1.out.row.lt _ e).1; have := HSA.out; omega
  have hbox3 : w3.heap[w.heap.size]? = some (.cells #[.iface T u, .int .i64 groups, .slice ra rn rc, .int .i64 deep] 65 (0, 0)) := by
    rw [hs3.block w.heap.size (by have := HSA.out; omega) (by have := HSA.out; omega) hpn]
    exact HX1.out
  obtain ⟨pa, pn, pc, rfl⟩ := ownsRow_shape hc3.row
  have x0 : w3.cell? ⟨w.heap.size, 0, none⟩ = some (.iface T u) := (cell_of_blk hbox3 0).trans rfl
  have x1 : w3.cell? ⟨w.heap.size, 1, none⟩ = some (.int .i64 groups) := (cell_of_blk hbox3 1).trans rfl
  have x2 : w3.cell? ⟨w.heap.size, 2, none⟩ = some (.slice ra rn rc) := (cell_of_blk hbox3 2).trans rfl
  have x3 : w3.cell? ⟨w.heap.size, 3, none⟩ = some (.int .i64 deep) := (cell_of_blk hbox3 3).trans rfl
  have y0 : w3.cell? ⟨A.heap.size, 0, none⟩ = some (.slice pa pn pc) := (cell_of_blk hc3.blk 0).trans rfl
  have y1 : w3.cell? ⟨A.heap.size, 1, none⟩ = some (.int .i64 ((comp t ([], 0)).2 : Int)) := (cell_of_blk hc3.blk 1).trans rfl
  have hmk := fun (w : World) => run_makeMap (P := Try.prog) 89 w
  have HC3 := Lib.hid hc3
  have HS3 := Lib.hid hs3
  have l3 : A.heap.size < w3.heap.size := by have := hs3.size; omega
  have l4 : w.heap.size < w3.heap.size := by have := HSA.out; omega
  clear hc3 hs3 hbox3 hpn
  generalize hM : ((comp t ([], 0)).2 : Int) = M at *
  go_wp2_with (fail)
  go_region
  go_wp2
  go_ret
  subst hM
  have hs13 := HS1.out.trans HS3.out
  have hB3 := hs13.below HC0.out (by have := HSB.out; omega)
  have hBw : Below w.heap.size w w3 := (HBA.out.trans (HBB.out.mono (by have := HSA.out; omega))).trans (hB3.mono (by have := HSA.out; omega))
  have hr3 := HC3.out.row
  refine ⟨w3.heap.size + 1, w3.heap.size, .slice pa pn pc, rfl, ?_⟩
  exact {
    blk := by
      show ((w3.alloc (.map #[] 0)).alloc _).heap[_]? = _
      have := heap_alloc_new (w3.alloc (.map #[] 0)) (.cells #[.iface T u, .int .i64 groups, .slice ra rn rc, .int .i64 deep, .slice pa pn pc, .int .i64 ((comp t ([], 0)).2 : Int), .string s, .bool false, .bool false, .map (some w3.heap.size), .bool false] 91)
      simpa using this
    tried := by
      show ((w3.alloc (.map #[] 0)).alloc _).heap[_]? = _
      rw [heap_alloc_old _ _ (by simp)]
      exact heap_alloc_new w3 _
    row := by
      refine ownsRow_agree (ownsRow_mono hr3 (by have := HSA.out; omega)) fun j hj => ?_
      have := (hr3.lt j hj).2
      show ((w3.alloc (.map #[] 0)).alloc _).heap[_]? = _
      rw [heap_alloc_old _ _ (by simp; omega), heap_alloc_old _ _ (by omega)]
    lm := by omega
    lt := by omega
    hm := by simp
    ht := by simp; omega
    ne := by omega
    pm := fun e => by have := (hr3.lt _ e).2; omega
    pt := fun e => by have := (hr3.lt _ e).2; omega
    below := ((hBw.alloc (by omega) _).alloc (by simp; omega) _).drew }

end Go.Proofs.Ytfgghbideoehjaa
