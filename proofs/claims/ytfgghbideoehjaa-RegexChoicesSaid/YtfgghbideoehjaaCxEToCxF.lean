/-
  The compiler over the switches: choose, a repetition.
  The compiler over the switches: add at any node but a look ahead; a pattern compiled.
-/
import Derived.Test.YtfgghbideoehjaaCxCToCxD
namespace Go.Proofs.Ytfgghbideoehjaa
open Go.ChangeShapes Go.WideShapes Go.ChangeAt Go.RowKit
set_option linter.unusedVariables false
set_option maxRecDepth 100000

theorem set_again (p : List Ins) (k a b c d : Nat) : setB (setA (setB (setA p k a) k b) k c) k d = setB (setA p k c) k d := by
  simp only [setA, setB, List.modify_modify_eq]
  congr 1

set_option maxHeartbeats 1000000 in
theorem choose_lazy {base : Nat} {w : World} {cp : Nat} {prog : List Ins} {marks : Nat} {fold lines : Bool} {pv : Value} (h : CAt base w cp prog marks fold lines pv) {k out : Nat} (hk : k < prog.length) (hl : prog.length ≤ 1000000) :
    Calls Try.prog 91 #[.pointer (some ⟨cp, 0, none⟩), .int .i64 (k : Int), .int .i64 (out : Int), .bool true] w fun e w' => e = .returned (.tuple #[]) ∧ ∃ pv', CAt base w' cp (setB (setA prog k out) k (k + 1)) marks fold lines pv' ∧ CStep cp w pv w' pv' := by
  obtain ⟨g, cap, rfl, hgb, hcap, hgc, hgs, hcells, hfr⟩ := h.shape hk
  obtain ⟨v1, hv1⟩ := hcells 1 (by decide)
  obtain ⟨v2, hv2⟩ := hcells 2 (by decide)
  have z1 := hfr (k * 8 + 1)
  have z2 := hfr (k * 8 + 2)
  have c0 : w.cell? ⟨cp, 0, none⟩ = some (.slice (some ⟨g, 0, none⟩) prog.length cap) := (cell_of_blk h.blk 0).trans rfl
  have HC := Lib.hid h
  have hk' : (k : Int) < prog.length := by omega
  clear h hcells hfr
  go_enter Try.func91, Try.ntmps91
  go_wp2
  go_region
  all_goals
    have h1 := HC.out.storeA k (k + 1)
    have h2 : CAt base (w.setCell ⟨g, k * 8 + 1, none⟩ (.int .i64 ((k + 1 : Nat) : Int))) cp (setA prog k (k + 1)) marks fold lines (.slice (some ⟨g, 0, none⟩) (setA prog k (k + 1)).length cap) := by rw [setA_len]; exact h1
    have h3 := h2.storeB k out
    rw [setA_len] at h3
    have h4 := h3.ext (Below.refl _ _).drew
    have hb4 : Below 0 w w := Below.refl _ _
    have hs4 : CStep cp w (.slice (some ⟨g, 0, none⟩) prog.length cap) (((w.setCell ⟨g, k * 8 + 1, none⟩ (.int .i64 ((k + 1 : Nat) : Int))).setCell ⟨g, k * 8 + 2, none⟩ (.int .i64 (out : Int))).drew) (.slice (some ⟨g, 0, none⟩) prog.length cap) := by
      refine ⟨rfl, rfl, rfl, by simp, fun b hb hc hp => ?_, .inl rfl⟩
      have hbg : b ≠ g := fun e => hp (by rw [e]; rfl)
      exact (heap_setCell_other _ _ _ _ (by exact hbg)).trans (heap_setCell_other _ _ _ _ (by exact hbg))
    have hl4 : (setB (setA prog k (k + 1)) k out).length = prog.length := by simp
    clear z1 z2 hv1 hv2 c0 h1 h2 h3
    change Exit.then _ _ _ _ (((w.setCell ⟨g, k * 8 + 1, none⟩ (.int .i64 ((k + 1 : Nat) : Int))).setCell ⟨g, k * 8 + 2, none⟩ (.int .i64 (out : Int))).drew)
    generalize (((w.setCell ⟨g, k * 8 + 1, none⟩ (.int .i64 ((k + 1 : Nat) : Int))).setCell ⟨g, k * 8 + 2, none⟩ (.int .i64 (out : Int))).drew) = V at h4 hs4 ⊢
    obtain ⟨g', cap', e', hgb', hcap', hgc', hgs', hcells, hfr⟩ := h4.shape (k := k) (by rw [hl4]; exact hk)
    rw [hl4] at e'
    cases e'
    obtain ⟨v1', hv1⟩ := hcells 1 (by decide)
    obtain ⟨v2', hv2⟩ := hcells 2 (by decide)
    have z1 := hfr (k * 8 + 1)
    have z2 := hfr (k * 8 + 2)
    have c0 : V.cell? ⟨cp, 0, none⟩ = some (.slice (some ⟨g, 0, none⟩) prog.length cap) := (cell_of_blk h4.blk 0).trans rfl
    have h4' : CAt base V cp (setB (setA prog k (k + 1)) k out) marks fold lines (.slice (some ⟨g, 0, none⟩) (setB (setA prog k (k + 1)) k out).length cap) := by rw [hl4]; exact h4
    have H4 := Lib.hid h4'
    have HS4 := Lib.hid hs4
    have HL4 := Lib.hid hl4
    clear h4 h4' hs4 hcells hfr hl4
    go_wp2
    go_region
    all_goals
      go_wp2
      go_end0
      have h1 := H4.out.storeA k out
      have h2 : CAt base (V.setCell ⟨g, k * 8 + 1, none⟩ (.int .i64 (out : Int))) cp (setA (setB (setA prog k (k + 1)) k out) k out) marks fold lines (.slice (some ⟨g, 0, none⟩) (setA (setB (setA prog k (k + 1)) k out) k out).length cap) := by rw [setA_len]; exact h1
      have h3 := h2.storeB k (k + 1)
      rw [set_again] at h3
      refine ⟨rfl, _, h3.ext (Below.refl _ _).drew, HS4.out.trans ⟨rfl, rfl, rfl, by simp, fun b hb hc hp => ?_, .inl (by simp [Value.ownBlock])⟩⟩
      have hbg : b ≠ g := fun e => hp (by rw [e]; rfl)
      exact (heap_setCell_other _ _ _ _ (by exact hbg)).trans (heap_setCell_other _ _ _ _ (by exact hbg))

theorem choose_lz {base : Nat} {w : World} {cp : Nat} {prog : List Ins} {marks : Nat} {fold lines : Bool} {pv : Value} (h : CAt base w cp prog marks fold lines pv) {k out : Nat} (hk : k < prog.length) (hl : prog.length ≤ 1000000) (lz : Bool) :
    Calls Try.prog 91 #[.pointer (some ⟨cp, 0, none⟩), .int .i64 (k : Int), .int .i64 (out : Int), .bool lz] w fun e w' => e = .returned (.tuple #[]) ∧ ∃ pv', CAt base w' cp (chooseP lz out k prog) marks fold lines pv' ∧ CStep cp w pv w' pv' := by
  cases lz
  · exact choose_any h hk hl
  · exact choose_lazy h hk hl

theorem iter_le {f : PM → PM} (h : Grows f) (p : PM) {j n : Nat} (hj : j ≤ n) : (iter f j p).1.length ≤ (iter f n p).1.length ∧ (iter f j p).2 ≤ (iter f n p).2 := by
  induction n with
  | zero => obtain rfl : j = 0 := (by omega); exact ⟨Nat.le_refl _, Nat.le_refl _⟩
  | succ n ih =>
    by_cases e : j = n + 1
    · subst e; exact ⟨Nat.le_refl _, Nat.le_refl _⟩
    · have h1 := ih (by omega)
      have h2 := h (iter f n p)
      exact ⟨Nat.le_trans h1.1 h2.1, Nat.le_trans h1.2 h2.2⟩

theorem opt_le {f : PM → PM} (h : Grows f) (p : PM) {j n : Nat} (hj : j ≤ n) : (iter (optP f) j ([], p)).2.1.length ≤ (iter (optP f) n ([], p)).2.1.length ∧ (iter (optP f) j ([], p)).2.2 ≤ (iter (optP f) n ([], p)).2.2 := by
  induction n with
  | zero => obtain rfl : j = 0 := (by omega); exact ⟨Nat.le_refl _, Nat.le_refl _⟩
  | succ n ih =>
    by_cases e : j = n + 1
    · subst e; exact ⟨Nat.le_refl _, Nat.le_refl _⟩
    · have h1 := ih (by omega)
      have h2 := once_grows h (iter (optP f) n ([], p)).2
      show _ ≤ (optP f (iter (optP f) n ([], p))).2.1.length ∧ _ ≤ (optP f (iter (optP f) n ([], p))).2.2
      simp only [optP]
      omega
theorem opt_len (f : PM → PM) (p : PM) : ∀ n, (iter (optP f) n ([], p)).1.length = n
  | 0 => rfl
  | n + 1 => by
    show (optP f (iter (optP f) n ([], p))).1.length = n + 1
    simp only [optP, List.length_append, List.length_cons, List.length_nil, opt_len f p n]

/-- The box of a repetition, as the compiler's steps keep it. -/
structure BoxT (b cp : Nat) (T : TypeId) (u : Value) (lo hi : Int) (lz : Bool) (w : World) (pv : Value) : Prop where
  x0 : w.cell? ⟨b, 0, none⟩ = some (.iface T u)
  x1 : w.cell? ⟨b, 1, none⟩ = some (.int .i64 lo)
  x2 : w.cell? ⟨b, 2, none⟩ = some (.int .i64 hi)
  x3 : w.cell? ⟨b, 3, none⟩ = some (.bool lz)
  lt : b < w.heap.size
  ne : b ≠ cp
  np : pv.ownBlock ≠ some b

theorem BoxT.step {b cp : Nat} {T : TypeId} {u : Value} {lo hi : Int} {lz : Bool} {w w' : World} {pv pv' : Value} (h : BoxT b cp T u lo hi lz w pv) (hs : CStep cp w pv w' pv') : BoxT b cp T u lo hi lz w' pv' :=
  ⟨hs.cell h.x0 h.ne h.np, hs.cell h.x1 h.ne h.np, hs.cell h.x2 h.ne h.np, hs.cell h.x3 h.ne h.np, Nat.lt_of_lt_of_le h.lt hs.size, h.ne, by
    rcases hs.tag with e | e
    · rw [e]; exact h.np
    · exact fun e2 => by have := e _ e2; have := h.lt; omega⟩

variable {fl ln : Bool}

set_option maxHeartbeats 4000000 in
theorem times_any {base cp : Nat} {w0 : World} {i : Nd} {T : TypeId} {u : Value} (hin : AddX fl ln base cp w0 i (.iface T u)) {l : Nat} {hi : Int} {lz : Bool} (hlo : l ≤ 100) (hhi : hi = -1 ∨ (l : Int) ≤ hi ∧ hi ≤ 100) {w : World} {prog : List Ins} {marks : Nat} {pv : Value}
    (hB : Below base w0 w) (hC : CAt base w cp prog marks fl ln pv) (hbase : base ≤ w.heap.size) (hl : (timesP (cmp fl ln i) (l : Int) hi lz (prog, marks)).1.length ≤ 1000000) (hm : (timesP (cmp fl ln i) (l : Int) hi lz (prog, marks)).2 ≤ 1000000) :
    Calls Try.prog 85 #[.pointer (some ⟨cp, 0, none⟩), .agg #[.iface T u, .int .i64 (l : Int), .int .i64 hi, .bool lz]] w fun e w' => e = .returned (.tuple #[]) ∧
      ∃ pv', CAt base w' cp (timesP (cmp fl ln i) (l : Int) hi lz (prog, marks)).1 (timesP (cmp fl ln i) (l : Int) hi lz (prog, marks)).2 fl ln pv' ∧ CStep cp w pv w' pv' := by
  have hG : Grows (cmp fl ln i) := fun q => cmp_mono fl ln i q
  have lcp : cp < w.heap.size := (Array.getElem?_eq_some_iff.1 hC.blk).1
  have hpn : pv.ownBlock ≠ some w.heap.size := fun e => by have := (hC.row.lt _ e).2; omega
  have hcp : w.heap.size ≠ cp := by omega
  have hL : (iter (cmp fl ln i) l (prog, marks)).1.length ≤ (timesP (cmp fl ln i) (l : Int) hi lz (prog, marks)).1.length ∧ (iter (cmp fl ln i) l (prog, marks)).2 ≤ (timesP (cmp fl ln i) (l : Int) hi lz (prog, marks)).2 := by
    unfold timesP
    simp only [Int.toNat_natCast]
    split
    · have h2 := once_grows hG (iter (cmp fl ln i) l (prog, marks))
      simp only [choose_len, List.length_append, List.length_cons, List.length_nil]
      omega
    · have h2 := opt_grows hG (hi - l).toNat ([], iter (cmp fl ln i) l (prog, marks))
      simp only [chooses_len] at h2 ⊢
      omega
  have HC := Lib.hid hC
  have HB := Lib.hid hB
  have HIN := Lib.hid hin
  have HGR := Lib.hid hG
  have HLL := Lib.hid hl
  have HMM := Lib.hid hm
  have HL := Lib.hid hL
  have HHI := Lib.hid hhi
  clear hC hB hin hG hl hm hL hhi
  obtain ⟨A, hA, sA, aN, aO, bA⟩ := alloc_pack w #[.iface T u, .int .i64 (l : Int), .int .i64 hi, .bool lz] 139
  have HA := Lib.hid hA
  have HN := Lib.hid aN
  have HS := Lib.hid sA
  have HB1 := Lib.hid bA
  clear hA aN aO sA bA
  go_enter Try.func85, Try.ntmps85
  go_wp2_with (fail)
  rw [HA.out]
  have hBT0 : BoxT w.heap.size cp T u (l : Int) hi lz A pv := ⟨(cell_of_blk HN.out 0).trans rfl, (cell_of_blk HN.out 1).trans rfl, (cell_of_blk HN.out 2).trans rfl, (cell_of_blk HN.out 3).trans rfl, by rw [HS.out]; omega, hcp, hpn⟩
  have HBT0 := Lib.hid hBT0
  have x1 := hBT0.x1
  clear hBT0
  have HcA := Lib.hid (HC.out.ext HB1.out)
  have lA : base ≤ A.heap.size := by rw [HS.out]; omega
  go_loopg [10] l (fun m iv wr => ∃ (j : Nat) (pv' : Value), j ≤ l ∧ m = l - j ∧ iv = .int .i64 (j : Int) ∧ CAt base wr cp (iter (cmp fl ln i) j (prog, marks)).1 (iter (cmp fl ln i) j (prog, marks)).2 fl ln pv' ∧ CStep cp A pv wr pv')
  case atStart => exact ⟨0, pv, Nat.zero_le _, rfl, rfl, HcA.out, CStep.ofBelow (Below.refl _ _)⟩
  case round =>
    obtain ⟨j, pv1, hj, hm, rfl, hc, hs⟩ := hrel
    have hBT := HBT0.out.step hs
    have y0 := hBT.x0
    have y2 := hBT.x2
    have lb := hBT.lt
    have hsz := hs.size
    have HM := Lib.hid hm
    have HCJ := Lib.hid hc
    have HSJ := Lib.hid hs
    have HBT := Lib.hid hBT
    clear hm hc hs hBT x1
    by_cases hlt : j < l
    · have t1 : (j : Int) < (l : Int) := by omega
      have hle := iter_le HGR.out (prog, marks) (j := j + 1) (n := l) hlt
      have hcall := HIN.out wr _ _ pv1 ((HB.out.trans (HB1.out.mono hbase)).trans (HSJ.out.below HcA.out lA)) HCJ.out (by omega) (by have := HLL.out; have := HL.out.1; exact Nat.le_trans hle.1 (by omega)) (by have := HMM.out; have := HL.out.2; exact Nat.le_trans hle.2 (by omega))
      have HCALL := Lib.hid hcall
      clear hcall hle
      go_wp2_with (fail)
      refine HCALL.out.mono ?_
      rintro e w2 ⟨rfl, pv2, hc2, hs2⟩
      have HC2 := Lib.hid hc2
      have HS2 := Lib.hid hs2
      clear hc2 hs2
      go_wp2
      go_roundg (l - (j + 1))
      case measure => rw [HM.out]; omega
      case rel => exact ⟨j + 1, pv2, by omega, rfl, by go_num, HC2.out, HSJ.out.trans HS2.out⟩
    · have hje : j = l := by omega
      subst hje
      have t1 : ¬ (j : Int) < (j : Int) := by omega
      have hl := HLL.out
      have hm := HMM.out
      have heq : timesP (cmp fl ln i) (j : Int) hi lz (prog, marks) = timesP (cmp fl ln i) (j : Int) hi lz (prog, marks) := rfl
      conv at heq => rhs; unfold timesP
      rw [heq] at hl hm
      simp only [Int.toNat_natCast] at hl hm heq
      have hcj := HCJ.out
      have hLL := HL.out
      generalize hp1 : iter (cmp fl ln i) j (prog, marks) = p1 at *
      obtain ⟨P1, M1⟩ := p1
      simp only at hcj hl hm hLL heq
      clear HL HCJ HLL HMM
      by_cases hh : hi = -1
      · subst hh
        rw [if_pos rfl] at hl hm heq
        simp only [choose_len, List.length_append, List.length_cons, List.length_nil, onceP] at hl hm
        have hon := once_anyX (lo := (j : Int)) (hi := -1) (lz := lz) HIN.out ((HB.out.trans (HB1.out.mono hbase)).trans (HSJ.out.below HcA.out lA)) hcj (by omega) (by omega) hm
        have hmo := once_grows HGR.out (P1, M1)
        simp only [onceP] at hmo heq
        generalize cmp fl ln i (P1 ++ [.mk1 3 0] ++ [.mk1 6 M1], M1 + 1) = r at *
        obtain ⟨rp, rm⟩ := r
        simp only [List.length_append, List.length_cons, List.length_nil] at hl hm hmo hon heq
        have HON := Lib.hid hon
        have HEQ := Lib.hid heq
        have y1 := HBT.out.x1
        have y3 := HBT.out.x3
        clear hon heq
        go_wp2_with (fail)
        refine HON.out.mono ?_
        rintro e w2 ⟨rfl, pv2, hc2, hs2⟩
        have hBT2 := HBT.out.step hs2
        have z3 := hBT2.x3
        have l2 := hBT2.lt
        have HBT2 := Lib.hid hBT2
        have HC2 := Lib.hid hc2
        have HS2 := Lib.hid hs2
        clear hc2 hs2 hBT2 y0 y1 y2 y3
        go_wp2_with (fail)
        refine (emit_any HC2.out (by have := HS2.out.size; omega) (by simp; omega) (.mk1 4 P1.length) (by simp [Ins.cells, BSet.zero])).mono ?_
        rintro e w3 ⟨rfl, pv3, hc3, hs3⟩
        have hBT3 := HBT2.out.step hs3
        have z3' := hBT3.x3
        have l3 := hBT3.lt
        obtain ⟨g, cap, hpv3, _⟩ := hc3.shape (k := 0) (by simp)
        have q0 : w3.cell? ⟨cp, 0, none⟩ = some pv3 := (cell_of_blk hc3.blk 0).trans rfl
        rw [hpv3] at q0
        simp only [List.length_append, List.length_cons, List.length_nil] at q0
        have lc3 : cp < w3.heap.size := by have := hs3.size; have := HS2.out.size; omega
        have HC3 := Lib.hid hc3
        have HS3 := Lib.hid hs3
        clear hc3 hs3 z3 hpv3 hBT3
        go_wp2_with (fail)
        go_region_with (first | (go_at_call 91; refine (choose_lz (k := P1.length) (out := rp.length + 1 + 1) (HC3.out.ext (by exact (Below.refl _ w3).drew)) (by simp; omega) (by simp; omega) lz).mono ?_; rintro e w4 ⟨rfl, pv4, hc4, hs4⟩))
        all_goals
          have HC4 := Lib.hid hc4
          have HS4 := Lib.hid hs4
          clear hc4 hs4
          go_wp2
          refine bodyPost_ret (results_none rfl _ _ _) rfl ?_
          refine ⟨rfl, pv4, ?_, ?_⟩
          · rw [HEQ.out]
            have := HC4.out
            simpa using this
          · exact (((((CStep.ofBelow HB1.out).trans HSJ.out).trans HS2.out).trans HS3.out).trans (CStep.ofBelow (Below.refl _ w3).drew)).trans HS4.out
      · have hh2 : (j : Int) ≤ hi ∧ hi ≤ 100 := HHI.out.resolve_left hh
        obtain ⟨h, rfl⟩ : ∃ h : Nat, hi = (h : Int) := ⟨hi.toNat, by omega⟩
        have t2 : ((h : Int) == -1) = false := by simp
        have hn : ((h : Int) - (j : Int)).toNat = h - j := by omega
        rw [if_neg hh, hn] at hl hm heq
        simp only [chooses_len] at hl hm
        have helen := opt_len (cmp fl ln i) (P1, M1) (h - j)
        have HOPT := Lib.hid (fun (q n : Nat) (hq : q ≤ n) => opt_le HGR.out (P1, M1) hq)
        have HSTEP := Lib.hid (fun q : Nat => show iter (optP (cmp fl ln i)) (q + 1) ([], (P1, M1)) = optP (cmp fl ln i) (iter (optP (cmp fl ln i)) q ([], (P1, M1))) from rfl)
        have HELEN := Lib.hid (fun q : Nat => opt_len (cmp fl ln i) (P1, M1) q)
        have HEQ := Lib.hid heq
        have y1 := HBT.out.x1
        have hjh : (h : Int) - (j : Int) = ((h - j : Nat) : Int) := by omega
        have HLx := Lib.hid hl
        have HMx := Lib.hid hm
        have HCj := Lib.hid hcj
        clear heq hl hm hcj hLL hh helen
        obtain ⟨i3, h3, h30, h31, h32⟩ := info_parts info3
        go_wp2_with (fail)
        go_loopg [5, 42] (h - j) (fun m ev qv w5 => ∃ (q : Nat) (pv5 : Value), q ≤ h - j ∧ m = h - j - q ∧ qv = .int .i64 (q : Int) ∧ CAt base w5 cp (iter (optP (cmp fl ln i)) q ([], (P1, M1))).2.1 (iter (optP (cmp fl ln i)) q ([], (P1, M1))).2.2 fl ln pv5 ∧ CStep cp A pv w5 pv5 ∧
          EndsAt A.heap.size w5 cp pv5 ev (iter (optP (cmp fl ln i)) q ([], (P1, M1))).1 (iter (optP (cmp fl ln i)) q ([], (P1, M1))).2.1.length)
        case atStart => exact ⟨0, pv1, Nat.zero_le _, rfl, rfl, HCj.out, HSJ.out, ⟨World.ownsRow_nil _ _ _ _, (fun e => by cases e), (fun k hk => by cases hk), (fun e he => by cases he)⟩⟩
        case round =>
          obtain ⟨q, pv5, hq, hmq, rfl, hc5, hs5, hE5⟩ := hrel
          have hBT5 := HBT0.out.step hs5
          have y0 := hBT5.x0
          have y1 := hBT5.x1
          have y2 := hBT5.x2
          have y3 := hBT5.x3
          have lb5 := hBT5.lt
          have hsz5 := hs5.size
          have HMQ := Lib.hid hmq
          have HC5 := Lib.hid hc5
          have HS5 := Lib.hid hs5
          have HE5 := Lib.hid hE5
          have HBT5 := Lib.hid hBT5
          obtain ⟨ea, en, ec, hev⟩ := ownsRow_shape hE5.row
          subst hev
          have hel := HELEN.out q
          have hnx := HSTEP.out q
          have hop := HOPT.out (q + 1) (h - j)
          generalize hq5 : iter (optP (cmp fl ln i)) q ([], (P1, M1)) = S at *
          obtain ⟨E5, P5, M5⟩ := S
          simp only at hel
          have hen : en = E5.length := by
            rcases hE5.row.2 with ⟨h, h0⟩ | ⟨g, cap, cur, h, _⟩
            · cases h; exact h0.symm
            · cases h; rfl
          subst hen
          have hne5 : (Value.slice ea E5.length ec).ownBlock ≠ some cp := hE5.ne
          have hE0 := HE5.out
          have HQ5 := Lib.hid hq5
          have HEL := Lib.hid hel
          have hEb : E5.length ≤ 100 := by omega
          clear hel hmq hc5 hs5 hE5 hBT5 hq5
          by_cases hlt : q < h - j
          · have hop := hop hlt
            rw [hnx] at hop
            simp only [optP, onceP, List.length_append, List.length_cons, List.length_nil] at hop
            have hl9 := HLx.out
            have hm9 := HMx.out
            have hmo := once_grows HGR.out (P5, M5)
            simp only [onceP, List.length_append, List.length_cons, List.length_nil] at hmo
            have hon := once_anyX (lo := (j : Int)) (hi := (h : Int)) (lz := lz) HIN.out ((HB.out.trans (HB1.out.mono hbase)).trans (HS5.out.below HcA.out lA)) HC5.out (by omega) (by simp only; omega) (by simp only; omega)
            have hnx' : iter (optP (cmp fl ln i)) (q + 1) ([], (P1, M1)) = (E5 ++ [P5.length], ((cmp fl ln i (P5 ++ [.mk1 3 0] ++ [.mk1 6 M5], M5 + 1)).1 ++ [.mk1 7 M5], (cmp fl ln i (P5 ++ [.mk1 3 0] ++ [.mk1 6 M5], M5 + 1)).2)) := hnx
            simp only at hon
            generalize cmp fl ln i (P5 ++ [.mk1 3 0] ++ [.mk1 6 M5], M5 + 1) = r at *
            obtain ⟨rp, rm⟩ := r
            simp only at hon hnx' hop hmo
            have HON := Lib.hid hon
            have HNX := Lib.hid hnx'
            have t3 : (q : Int) < ((h - j : Nat) : Int) := by omega
            clear hon hnx hnx'
            go_wp2_with (fail)
            refine HON.out.mono ?_
            rintro e w2 ⟨rfl, pv2, hc2, hs2⟩
            have hE2 := HE5.out.step hs2 (n' := rp.length + 1) (by omega)
            have hlw2 := hs2.size
            have HC2 := Lib.hid hc2
            have HS2 := Lib.hid hs2
            have HE2 := Lib.hid hE2
            clear hc2 hs2 hE2 hE0 y0 y1 y2 y3
            go_wp2_with (at_builtin; go_loud (refine wpList_append_tag rfl (.tmp 44) (.tmp 48) 58 rfl A.heap.size 3 i3 _ 1 8 Try.underlying58 h3 h30 h31 h32 rfl (by decide) (.slice ea E5.length ec) E5.length _ rfl (World.ownsRow.alloc HE2.out.row _) ⟨w2.heap.size, 0, none⟩ 1 1 [.int .i64 (P5.length : Int)] rfl rfl (int_new _ _) (int_cell _) (by simp only [maxLen]; omega) (by omega) (by simp; omega) ?_; intro ev' w6 ho6 hg6 ht6; obtain ⟨g6, cap6, rfl⟩ := ownsRow_succ' ho6; have hg7 := grown_past hg6; have ht7 := tag_past ht6; have HG7 := Lib.hid hg7; have HT7 := Lib.hid ht7; have HO6 := Lib.hid ho6; clear hg6 ht6 hg7 ht7 ho6))
            have hc6 := HC2.out.grown HG7.out hne5 (fun k hk => HE2.out.nep k hk)
            have hs6 := (HS5.out.trans HS2.out).grown HG7.out (fun k hk => (HE2.out.row.lt k hk).1)
            have HC6 := Lib.hid hc6
            have HS6 := Lib.hid hs6
            clear hc6 hs6
            go_wp2
            go_roundg (h - j - (q + 1))
            case measure => rw [HMQ.out]; omega
            case rel =>
              refine ⟨q + 1, pv2, by omega, rfl, by go_num, by rw [HNX.out]; exact HC6.out, HS6.out, ?_⟩
              rw [HNX.out]
              have h6c : g6 ≠ cp := by
                rcases HT7.out with e | e
                · exact fun e2 => hne5 (by rw [← e, ← e2]; rfl)
                · have h9 : w2.heap.size ≤ g6 := e g6 rfl
                  omega
              refine ⟨?_, (fun e => h6c (Option.some.inj e)), (fun k hk => ?_), ?_⟩
              · rw [List.length_append, List.map_append]
                exact HO6.out
              · cases hk
                rcases HT7.out with e | e
                · exact HE2.out.nep g6 (by rw [← e]; rfl)
                · intro e2
                  have h9 : w2.heap.size ≤ g6 := e g6 rfl
                  have := (HC2.out.row.lt g6 e2).2
                  omega
              · intro e he
                simp only [List.mem_append, List.mem_singleton] at he
                simp only [List.length_append, List.length_cons, List.length_nil]
                rcases he with he | he
                · have := HE2.out.lt e he; omega
                · omega
          · have hqe : q = h - j := by omega
            have hEQ2 := HEQ.out
            rw [← hqe, HQ5.out] at hEQ2
            simp only at hEQ2
            have hl9 := HLx.out
            rw [← hqe, HQ5.out] at hl9
            simp only at hl9
            have HEQ2 := Lib.hid hEQ2
            have t3 : ¬ (q : Int) < ((h - j : Nat) : Int) := by omega
            clear hqe hEQ2 hop hnx hE0 y0 y1 y2 y3
            go_wp2_with (fail)
            go_loopg [53] E5.length (fun m iv w5 => ∃ (r : Nat) (pv6 : Value), r ≤ E5.length ∧ m = E5.length - r ∧ iv = .int .i64 (r : Int) ∧ CAt base w5 cp ((E5.take r).foldl (fun pr k => chooseP lz P5.length k pr) P5) M5 fl ln pv6 ∧ CStep cp A pv w5 pv6 ∧ EndsAt A.heap.size w5 cp pv6 (.slice ea E5.length ec) E5 P5.length)
            case atStart => exact ⟨0, pv5, Nat.zero_le _, rfl, rfl, HC5.out, HS5.out, HE5.out⟩
            case round =>
              obtain ⟨r, pv6, hr, hmr, rfl, hc6, hs6, hE6⟩ := hrel
              have hBT6 := HBT0.out.step hs6
              have y3 := hBT6.x3
              have lb6 := hBT6.lt
              have hsz6 := hs6.size
              have hpl := chooses_len lz P5.length (E5.take r) P5
              have HMR := Lib.hid hmr
              have HS6 := Lib.hid hs6
              clear hmr hs6 hBT6
              by_cases hre : r < E5.length
              · obtain ⟨e, he⟩ : ∃ e, E5[r]? = some e := ⟨_, List.getElem?_eq_getElem hre⟩
                have hel2 : e < P5.length := hE6.lt e (List.mem_of_getElem? he)
                obtain ⟨ge, ce, hge⟩ : ∃ ge ce, (Value.slice ea E5.length ec) = .slice (some ⟨ge, 0, none⟩) E5.length ce := by
                  rcases hE6.row.2 with ⟨h, h0⟩ | ⟨g, cap, cur, h, _⟩
                  · omega
                  · exact ⟨g, cap, h⟩
                cases hge
                have hce : wr.cell? ⟨ge, r, none⟩ = some (.int .i64 (e : Int)) := by
                  rw [hE6.row.cellAt r (by omega), List.getElem?_map, he]; rfl
                obtain ⟨g6, cap6, hpv6, _, hcap6, _⟩ := hc6.shape (k := e) (by omega)
                have q6 : wr.cell? ⟨cp, 0, none⟩ = some pv6 := (cell_of_blk hc6.blk 0).trans rfl
                rw [hpv6, hpl] at q6
                rw [hpl] at hcap6
                have hr2 : (r : Int) < E5.length := by omega
                have lc6 : cp < wr.heap.size := (Array.getElem?_eq_some_iff.1 hc6.blk).1
                have hnxt : (E5.take (r + 1)).foldl (fun pr k => chooseP lz P5.length k pr) P5 = chooseP lz P5.length e ((E5.take r).foldl (fun pr k => chooseP lz P5.length k pr) P5) := by
                  have h9 : E5.take (r + 1) = E5.take r ++ [e] := by rw [List.take_add_one, he]; rfl
                  rw [h9, List.foldl_append]; rfl
                have HC6 := Lib.hid hc6
                have HE6 := Lib.hid hE6
                have HNX := Lib.hid hnxt
                have HPL := Lib.hid hpl
                clear hc6 hE6 he hnxt hpl hpv6
                go_wp2_with (fail)
                go_region_with (first | (go_at_call 91; refine (choose_lz (k := e) (out := P5.length) (HC6.out.ext (by exact (Below.refl _ wr).drew)) (by rw [HPL.out]; exact hel2) (by rw [HPL.out]; omega) lz).mono ?_; rintro e9 w4 ⟨rfl, pv4, hc4, hs4⟩))
                all_goals
                  have hs5' := (CStep.ofBelow (Below.refl _ wr).drew).trans hs4
                  have HC4 := Lib.hid hc4
                  have HS4 := Lib.hid hs5'
                  clear hc4 hs4 hs5'
                  go_wp2
                  go_roundg (E5.length - (r + 1))
                  case measure => rw [HMR.out]; omega
                  case rel => exact ⟨r + 1, pv4, by omega, rfl, by go_num, by rw [HNX.out]; exact HC4.out, HS6.out.trans HS4.out, HE6.out.step HS4.out (Nat.le_refl _)⟩
              · have hrr : E5.take r = E5 := List.take_of_length_le (by omega)
                rw [hrr] at hc6
                have HC6 := Lib.hid hc6
                have t4 : ¬ (r : Int) < (E5.length : Int) := by omega
                clear hc6 hE6 hpl hrr
                go_wp2
                go_end0
                refine ⟨rfl, pv6, ?_, (CStep.ofBelow HB1.out).trans HS6.out⟩
                rw [HEQ2.out]
                exact HC6.out

end Go.Proofs.Ytfgghbideoehjaa

namespace Go.Proofs.Ytfgghbideoehjaa
open Go.ChangeShapes Go.WideShapes Go.ChangeAt Go.RowKit
set_option linter.unusedVariables false
set_option maxRecDepth 100000

variable {fl ln : Bool}

theorem miss121_124 (u : Value) (w : World) : (Instr.typeAssert (.iface 121 u) 62 124 true).run Try.prog w = .ok (.tuple #[.agg #[.int .u64 0, .int .u64 0, .int .u64 0, .int .u64 0, .int .u64 0, .int .u64 0, .int .u64 0, .int .u64 0], .bool false]) w := by kernel_rfl
theorem hit121 (u : Value) (w : World) : (Instr.typeAssert (.iface 121 u) 62 121 true).run Try.prog w = .ok (.tuple #[u, .bool true]) w := by kernel_rfl
theorem miss133_124 (u : Value) (w : World) : (Instr.typeAssert (.iface 133 u) 62 124 true).run Try.prog w = .ok (.tuple #[.agg #[.int .u64 0, .int .u64 0, .int .u64 0, .int .u64 0, .int .u64 0, .int .u64 0, .int .u64 0, .int .u64 0], .bool false]) w := by kernel_rfl
theorem miss133_121 (u : Value) (w : World) : (Instr.typeAssert (.iface 133 u) 62 121 true).run Try.prog w = .ok (.tuple #[.agg #[.int .u8 0], .bool false]) w := by kernel_rfl
theorem hit133 (u : Value) (w : World) : (Instr.typeAssert (.iface 133 u) 62 133 true).run Try.prog w = .ok (.tuple #[u, .bool true]) w := by kernel_rfl

set_option maxHeartbeats 1000000 in
theorem addX_one (base cp : Nat) (w0 : World) (s n : BSet) (hs : s.WF) (hn : n.WF) : AddX fl ln base cp w0 (.one s n) (.iface 124 (.agg (s.vals ++ n.vals).toArray)) := by
  intro w prog marks pv hB hC hbase hl hm
  simp only [cmp] at hl hm ⊢
  have hll : prog.length ≤ 1000000 := by simp at hl; omega
  have hca := hC
  have c2 : w.cell? ⟨cp, 2, none⟩ = some (.bool fl) := (cell_of_blk hca.blk 2).trans rfl
  have c3 : w.cell? ⟨cp, 3, none⟩ = some (.bool ln) := (cell_of_blk hca.blk 3).trans rfl
  have lcp : cp < w.heap.size := World.block_lt_of_cell? w _ c2
  have HC := Lib.hid hC
  clear hC hca
  show Calls Try.prog 70 #[.pointer (some ⟨cp, 0, none⟩), .iface 124 (.agg #[.int .u64 (s.a : Int), .int .u64 (s.b : Int), .int .u64 (s.c : Int), .int .u64 (s.d : Int), .int .u64 (n.a : Int), .int .u64 (n.b : Int), .int .u64 (n.c : Int), .int .u64 (n.d : Int)])] w _
  have hh := hit124
  generalize hS : bytesOf fl ln s n = S at *
  have HSS := Lib.hid hS
  clear hS
  go_enter Try.func70, Try.ntmps70
  go_wp2_with (fail)
  refine (bytes_any fl ln s n hs hn _ cp ((World.cell?_alloc_lt w _ _ lcp).trans c2) ((World.cell?_alloc_lt w _ _ lcp).trans c3)).mono ?_
  rw [HSS.out]
  rintro e w1 ⟨rfl, hb1⟩
  have HB1 := Lib.hid hb1
  clear hb1 c2 c3
  have B1 : Below w.heap.size w w1 := ((Below.refl _ w).alloc (Nat.le_refl _) _).trans (HB1.out.mono (by simp))
  have hs1 := B1.size
  have HBB := Lib.hid B1
  clear B1
  go_wp2_with (fail)
  refine (emit_any (HC.out.ext HBB.out) (by omega) hll ⟨0, 0, 0, S, 0⟩ rfl).mono ?_
  rintro e w2 ⟨rfl, hq⟩
  have HQ := Lib.hid hq
  clear hq
  go_wp2
  go_end0
  obtain ⟨pv', q1, q2⟩ := HQ.out
  exact ⟨rfl, pv', q1, (CStep.ofBelow HBB.out).trans q2⟩

set_option maxHeartbeats 1000000 in
theorem addX_place (base cp : Nat) (w0 : World) (k : UInt8) : AddX fl ln base cp w0 (.place k) (.iface 121 (.agg #[.int .u8 (k.toNat : Int)])) := by
  intro w prog marks pv hB hC hbase hl hm
  simp only [cmp] at hl hm ⊢
  have hll : prog.length ≤ 1000000 := by simp at hl; omega
  have HC := Lib.hid hC
  clear hC
  have a1 := miss121_124
  have a2 := hit121
  obtain ⟨A, hA, sA, aN, aO, bA⟩ := alloc_pack w #[.int .u8 (k.toNat : Int)] 121
  have HA := Lib.hid hA
  have HB1 := Lib.hid bA
  have HS := Lib.hid sA
  clear hA aN aO sA bA
  go_enter Try.func70, Try.ntmps70
  go_wp2_with (fail)
  rw [HA.out]
  refine (emit_any (HC.out.ext HB1.out) (by have := HS.out; omega) hll ⟨1, 0, 0, .zero, k.toNat⟩ (by simp [Ins.cells, BSet.zero])).mono ?_
  rintro e w2 ⟨rfl, hq⟩
  have HQ := Lib.hid hq
  clear hq
  go_wp2
  go_end0
  obtain ⟨pv', q1, q2⟩ := HQ.out
  exact ⟨rfl, pv', q1, (CStep.ofBelow HB1.out).trans q2⟩

set_option maxHeartbeats 1000000 in
theorem addX_back (base cp : Nat) (w0 : World) (n : Nat) : AddX fl ln base cp w0 (.back n) (.iface 133 (.agg #[.int .i64 (n : Int)])) := by
  intro w prog marks pv hB hC hbase hl hm
  simp only [cmp] at hl hm ⊢
  have hll : prog.length ≤ 1000000 := by simp at hl; omega
  have HC := Lib.hid hC
  clear hC
  have a1 := miss133_124
  have a2 := miss133_121
  have a3 := hit133
  obtain ⟨A, hA, sA, aN, aO, bA⟩ := alloc_pack w #[.int .i64 (n : Int)] 133
  have HA := Lib.hid hA
  have HB1 := Lib.hid bA
  have HS := Lib.hid sA
  clear hA aN aO sA bA
  go_enter Try.func70, Try.ntmps70
  go_wp2_with (fail)
  rw [HA.out]
  refine (emit_any (HC.out.ext HB1.out) (by have := HS.out; omega) hll (.mk1 8 n) (by simp [Ins.cells, BSet.zero])).mono ?_
  rintro e w2 ⟨rfl, hq⟩
  have HQ := Lib.hid hq
  clear hq
  go_wp2
  go_end0
  obtain ⟨pv', q1, q2⟩ := HQ.out
  exact ⟨rfl, pv', q1, (CStep.ofBelow HB1.out).trans q2⟩

set_option maxHeartbeats 1000000 in
theorem addX_group0 (base cp : Nat) (w0 : World) (i : Nd) (T : TypeId) (u : Value) (hin : AddX fl ln base cp w0 i (.iface T u)) : AddX fl ln base cp w0 (.group 0 i) (.iface 141 (.agg #[.int .i64 0, .iface T u])) := by
  intro w prog marks pv hB hC hbase hl hm
  simp only [cmp, Nat.lt_irrefl, gt_iff_lt, if_false] at hl hm ⊢
  have hin1 := fun (w1 : World) (h1 : Below base w0 w1) (h2 : CAt base w1 cp prog marks fl ln pv) (h3 : base ≤ w1.heap.size) => hin w1 _ _ pv h1 h2 h3 hl hm
  generalize cmp fl ln i (prog, marks) = r at *
  obtain ⟨rp, rm⟩ := r
  simp only at hl hm hin1 ⊢
  have lcp : cp < w.heap.size := (Array.getElem?_eq_some_iff.1 hC.blk).1
  have hpn : pv.ownBlock ≠ some w.heap.size := fun e => by have := (hC.row.lt _ e).2; omega
  have hcp : w.heap.size ≠ cp := by omega
  have HC := Lib.hid hC
  have HB := Lib.hid hB
  have HI := Lib.hid hin1
  clear hC hB hin hin1
  have a1 := miss141_124
  have a2 := miss141_121
  have a3 := miss141_133
  have a4 := miss141_135
  have a5 := miss141_109
  have a6 := miss141_108
  have a7 := miss141_139
  have a8 := hit141
  obtain ⟨A, hA, sA, aN, aO, bA⟩ := alloc_pack w #[.int .i64 0, .iface T u] 141
  have HA := Lib.hid hA
  have HN := Lib.hid aN
  have HS := Lib.hid sA
  have HB1 := Lib.hid bA
  clear hA aN aO sA bA
  go_enter Try.func70, Try.ntmps70
  go_wp2_with (fail)
  rw [HA.out]
  have x0 : A.cell? ⟨w.heap.size, 0, none⟩ = some (.int .i64 0) := (cell_of_blk HN.out 0).trans rfl
  have lA : w.heap.size < A.heap.size := by rw [HS.out]; omega
  refine (HI.out _ (HB.out.trans (HB1.out.mono hbase)) (HC.out.ext HB1.out) (by omega)).mono ?_
  rintro e w3 ⟨rfl, pv3, hc3, hs3⟩
  have z0 := hs3.cell x0 hcp hpn
  have HC3 := Lib.hid hc3
  have HS3 := Lib.hid hs3
  have l3 : w.heap.size < w3.heap.size := by have := hs3.size; omega
  clear hc3 hs3 x0
  go_wp2
  go_end0
  exact ⟨rfl, pv3, HC3.out, (CStep.ofBelow HB1.out).trans HS3.out⟩

set_option maxHeartbeats 1000000 in
theorem addX_times (base cp : Nat) (w0 : World) (i : Nd) (T : TypeId) (u : Value) {l : Nat} {hi : Int} {lz : Bool} (hlo : l ≤ 100) (hhi : hi = -1 ∨ (l : Int) ≤ hi ∧ hi ≤ 100) (hin : AddX fl ln base cp w0 i (.iface T u)) : AddX fl ln base cp w0 (.times i (l : Int) hi lz) (.iface 139 (.agg #[.iface T u, .int .i64 (l : Int), .int .i64 hi, .bool lz])) := by
  intro w prog marks pv hB hC hbase hl hm
  have hts := fun (w1 : World) (h1 : Below base w0 w1) (h2 : CAt base w1 cp prog marks fl ln pv) (h3 : base ≤ w1.heap.size) => times_any hin hlo hhi h1 h2 h3 (by simpa only [cmp] using hl) (by simpa only [cmp] using hm)
  simp only [cmp] at hl hm ⊢
  generalize timesP (cmp fl ln i) (l : Int) hi lz (prog, marks) = r at *
  obtain ⟨rp, rm⟩ := r
  simp only at hl hm hts ⊢
  have HC := Lib.hid hC
  have HB := Lib.hid hB
  have HI := Lib.hid hts
  clear hC hB hin hts hhi
  have a1 := miss139_124
  have a2 := miss139_121
  have a3 := miss139_133
  have a4 := miss139_135
  have a5 := miss139_109
  have a6 := miss139_108
  have a8 := hit139
  obtain ⟨A, hA, sA, aN, aO, bA⟩ := alloc_pack w #[.iface T u, .int .i64 (l : Int), .int .i64 hi, .bool lz] 139
  have HA := Lib.hid hA
  have HB1 := Lib.hid bA
  have HS := Lib.hid sA
  clear hA aN aO sA bA
  go_enter Try.func70, Try.ntmps70
  go_wp2_with (fail)
  rw [HA.out]
  refine (HI.out _ (HB.out.trans (HB1.out.mono hbase)) (HC.out.ext HB1.out) (by have := HS.out; omega)).mono ?_
  rintro e w2 ⟨rfl, pv2, hc2, hs2⟩
  have HC2 := Lib.hid hc2
  have HS2 := Lib.hid hs2
  clear hc2 hs2
  go_wp2
  go_end0
  exact ⟨rfl, pv2, HC2.out, (CStep.ofBelow HB1.out).trans HS2.out⟩

/-- A node that is not repeated as it stands. -/
def Nd.loose : Nd → Bool
  | .one _ _ => false
  | .place _ => false
  | .back _ => false
  | .group _ _ => false
  | _ => true

mutual
/-- The nodes that are covered: all but a look ahead. -/
def Nd.covX : Nd → Prop
  | .one s n => s.WF ∧ n.WF
  | .place _ => True
  | .look _ _ => False
  | .pieces l => l.length ≤ 1000000 ∧ Nd.covsX l
  | .branches l => 0 < l.length ∧ l.length ≤ 1000000 ∧ Nd.covsX l
  | .times i lo hi lz => (0 ≤ lo ∧ lo ≤ 100) ∧ (hi = -1 ∨ lo ≤ hi ∧ hi ≤ 100) ∧ i.loose = false ∧ i.covX
  | .group n i => n ≤ 100000 ∧ i.covX
  | .back n => n ≤ 100000
def Nd.covsX : List Nd → Prop
  | [] => True
  | t :: l => t.covX ∧ Nd.covsX l
end

mutual
theorem addX_node {G : Nat → Prop} {base cp : Nat} {w0 : World} (hG : ∀ b, G b → b < base) : ∀ (t : Nd) (v : Value), NodeAt G w0 t v → t.covX → AddX fl ln base cp w0 t v
  | .one s n, v, h, hc => by
    simp only [NodeAt] at h; subst h
    simp only [Nd.covX] at hc
    exact addX_one base cp w0 s n hc.1 hc.2
  | .place k, v, h, hc => by
    simp only [NodeAt] at h; subst h
    exact addX_place base cp w0 k
  | .back n, v, h, hc => by
    simp only [NodeAt] at h; subst h
    exact addX_back base cp w0 n
  | .look _ _, v, h, hc => by simp [Nd.covX] at hc
  | .group n i, v, h, hc => by
    simp only [NodeAt] at h
    obtain ⟨x, rfl, h⟩ := h
    simp only [Nd.covX] at hc
    obtain ⟨T, u, rfl⟩ := h.iface
    by_cases hn : 0 < n
    · exact addX_group base cp w0 n hn hc.1 i T u (addX_node hG i _ h hc.2)
    · obtain rfl : n = 0 := (by omega)
      exact addX_group0 base cp w0 i T u (addX_node hG i _ h hc.2)
  | .times i lo hi lz, v, h, hc => by
    simp only [NodeAt] at h
    obtain ⟨x, rfl, h⟩ := h
    simp only [Nd.covX] at hc
    obtain ⟨h1, h2, _, hc⟩ := hc
    obtain ⟨T, u, rfl⟩ := h.iface
    obtain ⟨l, rfl⟩ : ∃ l : Nat, lo = (l : Int) := ⟨lo.toNat, by omega⟩
    exact addX_times base cp w0 i T u (by omega) h2 (addX_node hG i _ h hc)
  | .pieces l, v, h, hc => by
    simp only [NodeAt] at h
    obtain ⟨sv, vs, rfl, hr, h⟩ := h
    simp only [Nd.covX] at hc
    have hl := h.length
    exact addX_pieces base cp w0 l sv vs hr.1 (fun k hk => hG k (hr.2 k hk)) hl.symm (by omega) (addX_nodes hG l vs h hc.2)
  | .branches l, v, h, hc => by
    simp only [NodeAt] at h
    obtain ⟨sv, vs, rfl, hr, h⟩ := h
    simp only [Nd.covX] at hc
    have hl := h.length
    exact addX_branches base cp w0 l sv vs hr.1 (fun k hk => hG k (hr.2 k hk)) hl.symm (by omega) (by omega) (addX_nodes hG l vs h hc.2.2)
theorem addX_nodes {G : Nat → Prop} {base cp : Nat} {w0 : World} (hG : ∀ b, G b → b < base) : ∀ (l : List Nd) (vs : List Value), NodesAt G w0 l vs → Nd.covsX l → ∀ (j : Nat) t v, l[j]? = some t → vs[j]? = some v → AddX fl ln base cp w0 t v ∧ ∃ T u, v = .iface T u
  | [], vs, h, hc, j, t, v, h1, h2 => by simp at h1
  | a :: l, vs, h, hc, j, t, v, h1, h2 => by
    simp only [NodesAt] at h
    obtain ⟨x, vs', rfl, hx, h⟩ := h
    simp only [Nd.covsX] at hc
    cases j with
    | zero =>
      simp at h1 h2
      subst h1; subst h2
      exact ⟨addX_node hG a x hx hc.1, hx.iface⟩
    | succ j =>
      simp at h1 h2
      exact addX_nodes hG l vs' h hc.2 j t v h1 h2
end

/-- A machine that has just been made. -/
structure MadeX (fl ln : Bool) (w : World) (T : TypeId) (u : Value) (groups : Int) (refsv : Value) (deep : Int) (prog : List Ins) (marks : Nat) (s : ByteArray) (mp tp : Nat) (pv : Value) (w' : World) : Prop where
  blk : w'.heap[mp]? = some (.cells #[.iface T u, .int .i64 groups, refsv, .int .i64 deep, pv, .int .i64 (marks : Int), .string s, .bool fl, .bool ln, .map (some tp), .bool false] 91 (0, 0))
  tried : w'.heap[tp]? = some (.map #[] 0)
  row : w'.ownsRow w.heap.size 99 8 pv prog.length (prog.flatMap Ins.cells)
  lm : w.heap.size ≤ mp
  lt : w.heap.size ≤ tp
  hm : mp < w'.heap.size
  ht : tp < w'.heap.size
  ne : mp ≠ tp
  pm : pv.ownBlock ≠ some mp
  pt : pv.ownBlock ≠ some tp
  below : Below w.heap.size w w'

set_option maxHeartbeats 1000000 in
theorem compiledX {G : Nat → Prop} (w : World) (s : ByteArray) (t : Nd) (T : TypeId) (u : Value) (groups deep : Int) (ra : Option Addr) (rn rc : Nat) (hG : ∀ b, G b → b < w.heap.size) (hN : NodeAt G w t (.iface T u)) (hcov : t.covX)
    (hl : (cmp fl ln t ([], 0)).1.length ≤ 999990) (hm : (cmp fl ln t ([], 0)).2 ≤ 1000000) :
    Calls Try.prog 44 #[.agg #[.iface T u, .int .i64 groups, .slice ra rn rc, .int .i64 deep], .string s, .bool fl, .bool ln] w fun e w' =>
      ∃ mp tp pv, e = .returned (.pointer (some ⟨mp, 0, none⟩)) ∧ MadeX fl ln w T u groups (.slice ra rn rc) deep ((cmp fl ln t ([], 0)).1 ++ [.mk1 9 0]) (cmp fl ln t ([], 0)).2 s mp tp pv w' := by
  obtain ⟨A, hA, sA, aN, aO, bA⟩ := alloc_pack w #[.iface T u, .int .i64 groups, .slice ra rn rc, .int .i64 deep] 65
  obtain ⟨B, hB, sB, bN, bO, bB⟩ := alloc_pack A #[.slice none 0 0, .int .i64 0, .bool fl, .bool ln] 144
  have hNA : NodeAt G A t (.iface T u) := NodeAt.agree (fun b hb => aO b (hG b hb)) (fun b hb => hb) _ _ hN
  have hadd := addX_node (fl := fl) (ln := ln) (base := A.heap.size) (cp := A.heap.size) (fun b hb => by have := hG b hb; omega) t _ hNA hcov
  have hc0 : CAt A.heap.size B A.heap.size [] 0 fl ln (.slice none 0 0) := ⟨Nat.le_refl _, bN, World.ownsRow_nil _ _ _ _, by simp [Value.ownBlock]⟩
  have hcall := hadd B [] 0 _ bB hc0 (by omega) (by omega) hm
  have HA := Lib.hid hA
  have HB := Lib.hid hB
  have HSA := Lib.hid sA
  have HSB := Lib.hid sB
  have HAN := Lib.hid aN
  have HBA := Lib.hid bA
  have HBB := Lib.hid bB
  have HBO := Lib.hid bO
  have HC0 := Lib.hid hc0
  have HCALL := Lib.hid hcall
  have HL := Lib.hid hl
  clear hA hB sA sB aN bN bA bB aO bO hc0 hcall hadd hNA hN hm hl
  go_enter Try.func44, Try.ntmps44
  go_wp2_with (fail)
  rw [HA.out, HB.out, ← HSA.out]
  refine HCALL.out.mono ?_
  rintro e w1 ⟨rfl, pv1, hc1, hs1⟩
  have hbox1 : w1.heap[w.heap.size]? = some (.cells #[.iface T u, .int .i64 groups, .slice ra rn rc, .int .i64 deep] 65 (0, 0)) := by
    rw [hs1.block w.heap.size (by have := HSA.out; have := HSB.out; omega) (by have := HSA.out; omega) (by simp [Value.ownBlock]), HBO.out _ (by have := HSA.out; omega)]
    exact HAN.out
  have HC1 := Lib.hid hc1
  have HS1 := Lib.hid hs1
  have HX1 := Lib.hid hbox1
  have hA1 : A.heap.size < w1.heap.size := by have := hs1.size; have := HSB.out; omega
  clear hc1 hs1 hbox1
  go_wp2_with (fail)
  refine (emit_any HC1.out (by omega) (by have := HL.out; omega) (.mk1 9 0) (by simp [Ins.cells, BSet.zero])).mono ?_
  rintro e w3 ⟨rfl, pv3, hc3, hs3⟩
  have hpn : pv1.ownBlock ≠ some w.heap.size := fun e => by have := (HC1.out.row.lt _ e).1; have := HSA.out; omega
  have hbox3 : w3.heap[w.heap.size]? = some (.cells #[.iface T u, .int .i64 groups, .slice ra rn rc, .int .i64 deep] 65 (0, 0)) := by
    rw [hs3.block w.heap.size (by have := HSA.out; omega) (by have := HSA.out; omega) hpn]
    exact HX1.out
  obtain ⟨pa, pn, pc, rfl⟩ := ownsRow_shape hc3.row
  have x0 : w3.cell? ⟨w.heap.size, 0, none⟩ = some (.iface T u) := (cell_of_blk hbox3 0).trans rfl
  have x1 : w3.cell? ⟨w.heap.size, 1, none⟩ = some (.int .i64 groups) := (cell_of_blk hbox3 1).trans rfl
  have x2 : w3.cell? ⟨w.heap.size, 2, none⟩ = some (.slice ra rn rc) := (cell_of_blk hbox3 2).trans rfl
  have x3 : w3.cell? ⟨w.heap.size, 3, none⟩ = some (.int .i64 deep) := (cell_of_blk hbox3 3).trans rfl
  have y0 : w3.cell? ⟨A.heap.size, 0, none⟩ = some (.slice pa pn pc) := (cell_of_blk hc3.blk 0).trans rfl
  have y1 : w3.cell? ⟨A.heap.size, 1, none⟩ = some (.int .i64 ((cmp fl ln t ([], 0)).2 : Int)) := (cell_of_blk hc3.blk 1).trans rfl
  have hmk := fun (w : World) => run_makeMap (P := Try.prog) 89 w
  have HC3 := Lib.hid hc3
  have HS3 := Lib.hid hs3
  have l3 : A.heap.size < w3.heap.size := by have := hs3.size; omega
  have l4 : w.heap.size < w3.heap.size := by have := HSA.out; omega
  clear hc3 hs3 hbox3 hpn
  generalize hM : ((cmp fl ln t ([], 0)).2 : Int) = M at *
  go_wp2_with (fail)
  go_region
  go_wp2
  go_ret
  subst hM
  have hs13 := HS1.out.trans HS3.out
  have hB3 := hs13.below HC0.out (by have := HSB.out; omega)
  have hBw : Below w.heap.size w w3 := (HBA.out.trans (HBB.out.mono (by have := HSA.out; omega))).trans (hB3.mono (by have := HSA.out; omega))
  have hr3 := HC3.out.row
  refine ⟨w3.heap.size + 1, w3.heap.size, .slice pa pn pc, rfl, ?_⟩
  exact {
    blk := by
      show ((w3.alloc (.map #[] 0)).alloc _).heap[_]? = _
      have := heap_alloc_new (w3.alloc (.map #[] 0)) (.cells #[.iface T u, .int .i64 groups, .slice ra rn rc, .int .i64 deep, .slice pa pn pc, .int .i64 ((cmp fl ln t ([], 0)).2 : Int), .string s, .bool fl, .bool ln, .map (some w3.heap.size), .bool false] 91)
      simpa using this
    tried := by
      show ((w3.alloc (.map #[] 0)).alloc _).heap[_]? = _
      rw [heap_alloc_old _ _ (by simp)]
      exact heap_alloc_new w3 _
    row := by
      refine ownsRow_agree (ownsRow_mono hr3 (by have := HSA.out; omega)) fun j hj => ?_
      have := (hr3.lt j hj).2
      show ((w3.alloc (.map #[] 0)).alloc _).heap[_]? = _
      rw [heap_alloc_old _ _ (by simp; omega), heap_alloc_old _ _ (by omega)]
    lm := by omega
    lt := by omega
    hm := by simp
    ht := by simp; omega
    ne := by omega
    pm := fun e => by have := (hr3.lt _ e).2; omega
    pt := fun e => by have := (hr3.lt _ e).2; omega
    below := ((hBw.alloc (by omega) _).alloc (by simp; omega) _).drew }

end Go.Proofs.Ytfgghbideoehjaa
