/-
  The compiler as a plain function, whatever the switches and the repetition.
  The compiler over the switches: add at a group, pieces, branches, one time more.
-/
import Derived.Test.YtfgghbideoehjaaCxAToCxB
namespace Go.Proofs.Ytfgghbideoehjaa
open Go.ChangeShapes Go.WideShapes Go.ChangeAt Go.RowKit
set_option linter.unusedVariables false
set_option maxRecDepth 100000

def iter {α : Type} (f : α → α) : Nat → α → α
  | 0, p => p
  | n + 1, p => f (iter f n p)

abbrev PM := List Ins × Nat

/-- One time more, which must come further. -/
def onceP (f : PM → PM) (p : PM) : PM := ((f (p.1 ++ [.mk1 3 0] ++ [.mk1 6 p.2], p.2 + 1)).1 ++ [.mk1 7 p.2], (f (p.1 ++ [.mk1 3 0] ++ [.mk1 6 p.2], p.2 + 1)).2)
/-- Both ways of a choice. -/
def chooseP (lz : Bool) (out k : Nat) (p : List Ins) : List Ins := if lz = true then setB (setA p k out) k (k + 1) else setB (setA p k (k + 1)) k out
def optP (f : PM → PM) (q : List Nat × PM) : List Nat × PM := (q.1 ++ [q.2.1.length], onceP f q.2)

def timesP (f : PM → PM) (lo hi : Int) (lz : Bool) (p : PM) : PM :=
  if hi = -1 then
    (chooseP lz ((onceP f (iter f lo.toNat p)).1.length + 1) (iter f lo.toNat p).1.length ((onceP f (iter f lo.toNat p)).1 ++ [.mk1 4 (iter f lo.toNat p).1.length]), (onceP f (iter f lo.toNat p)).2)
  else
    ((iter (optP f) (hi - lo).toNat ([], iter f lo.toNat p)).1.foldl (fun pr k => chooseP lz (iter (optP f) (hi - lo).toNat ([], iter f lo.toNat p)).2.1.length k pr) (iter (optP f) (hi - lo).toNat ([], iter f lo.toNat p)).2.1,
      (iter (optP f) (hi - lo).toNat ([], iter f lo.toNat p)).2.2)

mutual
def cmp (fl ln : Bool) : Nd → PM → PM
  | .one s n, p => (p.1 ++ [⟨0, 0, 0, bytesOf fl ln s n, 0⟩], p.2)
  | .place k, p => (p.1 ++ [⟨1, 0, 0, .zero, k.toNat⟩], p.2)
  | .back n, p => (p.1 ++ [.mk1 8 n], p.2)
  | .pieces l, p => cmpL fl ln l p
  | .branches l, p => cmpB fl ln l [] p
  | .times i lo hi lz, p => timesP (cmp fl ln i) lo hi lz p
  | .group n i, p =>
    if n > 0 then
      let r := cmp fl ln i (p.1 ++ [.mk1 5 (2 * n)], p.2)
      (r.1 ++ [.mk1 5 (2 * n + 1)], r.2)
    else cmp fl ln i p
  | .look i ng, p =>
    let q := setA (p.1 ++ [.mk1 2 0] ++ [.mk1 4 0]) p.1.length (p.1.length + 2)
    let r := cmp fl ln i (if ng = true then setB q p.1.length 1 else q, p.2)
    (setA (r.1 ++ [.mk1 9 0]) (p.1.length + 1) (r.1.length + 1), r.2)
def cmpL (fl ln : Bool) : List Nd → PM → PM
  | [], p => p
  | t :: l, p => cmpL fl ln l (cmp fl ln t p)
def cmpB (fl ln : Bool) : List Nd → List Nat → PM → PM
  | [], ends, p => (patch ends p.1, p.2)
  | [t], ends, p =>
    let r := cmp fl ln t p
    (patch ends r.1, r.2)
  | t :: l, ends, p =>
    let r := cmp fl ln t (setA (p.1 ++ [.mk1 3 0]) p.1.length (p.1.length + 1), p.2)
    cmpB fl ln l (ends ++ [r.1.length]) (setB (r.1 ++ [.mk1 4 0]) p.1.length (r.1.length + 1), r.2)
end

/-- A piece of the compiler that only adds. -/
def Grows (f : PM → PM) : Prop := ∀ p, p.1.length ≤ (f p).1.length ∧ p.2 ≤ (f p).2

theorem iter_grows {f : PM → PM} (h : Grows f) : ∀ n, Grows (iter f n)
  | 0, p => ⟨Nat.le_refl _, Nat.le_refl _⟩
  | n + 1, p => by
    have h1 := iter_grows h n p
    have h2 := h (iter f n p)
    exact ⟨Nat.le_trans h1.1 h2.1, Nat.le_trans h1.2 h2.2⟩

theorem once_grows {f : PM → PM} (h : Grows f) (p : PM) : p.1.length + 3 ≤ (onceP f p).1.length ∧ p.2 + 1 ≤ (onceP f p).2 := by
  have h1 := h (p.1 ++ [.mk1 3 0] ++ [.mk1 6 p.2], p.2 + 1)
  simp only [onceP, List.length_append, List.length_cons, List.length_nil] at h1 ⊢
  omega

@[simp] theorem choose_len (lz : Bool) (out k : Nat) (p : List Ins) : (chooseP lz out k p).length = p.length := by
  unfold chooseP; split <;> simp

theorem chooses_len (lz : Bool) (out : Nat) (ks : List Nat) : ∀ p : List Ins, (ks.foldl (fun pr k => chooseP lz out k pr) p).length = p.length := by
  induction ks with
  | nil => intro p; rfl
  | cons k l ih => intro p; simp only [List.foldl_cons]; rw [ih]; simp

theorem opt_grows {f : PM → PM} (h : Grows f) (n : Nat) (q : List Nat × PM) : q.2.1.length ≤ (iter (optP f) n q).2.1.length ∧ q.2.2 ≤ (iter (optP f) n q).2.2 := by
  induction n with
  | zero => exact ⟨Nat.le_refl _, Nat.le_refl _⟩
  | succ n ih =>
    have h1 := once_grows h (iter (optP f) n q).2
    show _ ≤ (optP f (iter (optP f) n q)).2.1.length ∧ _
    simp only [iter, optP]
    omega

theorem times_grows {f : PM → PM} (h : Grows f) (lo hi : Int) (lz : Bool) : Grows (timesP f lo hi lz) := by
  intro p
  have h1 := iter_grows h lo.toNat p
  unfold timesP
  split
  · have h2 := once_grows h (iter f lo.toNat p)
    simp only [choose_len, List.length_append, List.length_cons, List.length_nil]
    omega
  · have h2 := opt_grows h (hi - lo).toNat ([], iter f lo.toNat p)
    simp only [chooses_len] at h2 ⊢
    omega

mutual
theorem cmp_mono (fl ln : Bool) : ∀ (t : Nd) (p : PM), p.1.length ≤ (cmp fl ln t p).1.length ∧ p.2 ≤ (cmp fl ln t p).2
  | .one s n, p => by simp [cmp]
  | .place _, p => by simp [cmp]
  | .back _, p => by simp [cmp]
  | .look i ng, p => by
    simp only [cmp]
    have := cmp_mono fl ln i (if ng = true then setB (setA (p.1 ++ [.mk1 2 0] ++ [.mk1 4 0]) p.1.length (p.1.length + 2)) p.1.length 1 else setA (p.1 ++ [.mk1 2 0] ++ [.mk1 4 0]) p.1.length (p.1.length + 2), p.2)
    have hl : (if ng = true then setB (setA (p.1 ++ [.mk1 2 0] ++ [.mk1 4 0]) p.1.length (p.1.length + 2)) p.1.length 1 else setA (p.1 ++ [.mk1 2 0] ++ [.mk1 4 0]) p.1.length (p.1.length + 2)).length = p.1.length + 2 := by split <;> simp
    simp only [hl] at this
    simp only [setA_len, List.length_append, List.length_cons, List.length_nil]
    omega
  | .pieces l, p => by simp only [cmp]; exact cmpL_mono fl ln l p
  | .branches l, p => by simp only [cmp]; exact cmpB_mono fl ln l [] p
  | .times i lo hi lz, p => by
    simp only [cmp]
    exact times_grows (fun q => cmp_mono fl ln i q) lo hi lz p
  | .group n i, p => by
    simp only [cmp]
    split
    · have := cmp_mono fl ln i (p.1 ++ [.mk1 5 (2 * n)], p.2)
      simp at this ⊢
      omega
    · exact cmp_mono fl ln i p
theorem cmpL_mono (fl ln : Bool) : ∀ (l : List Nd) (p : PM), p.1.length ≤ (cmpL fl ln l p).1.length ∧ p.2 ≤ (cmpL fl ln l p).2
  | [], p => by simp [cmpL]
  | t :: l, p => by
    simp only [cmpL]
    have h1 := cmp_mono fl ln t p
    have h2 := cmpL_mono fl ln l (cmp fl ln t p)
    omega
theorem cmpB_mono (fl ln : Bool) : ∀ (l : List Nd) (ends : List Nat) (p : PM), p.1.length ≤ (cmpB fl ln l ends p).1.length ∧ p.2 ≤ (cmpB fl ln l ends p).2
  | [], ends, p => by simp [cmpB, patch_len]
  | [t], ends, p => by
    simp only [cmpB, patch_len]
    exact cmp_mono fl ln t p
  | t :: u :: l, ends, p => by
    simp only [cmpB]
    have h1 := cmp_mono fl ln t (setA (p.1 ++ [.mk1 3 0]) p.1.length (p.1.length + 1), p.2)
    generalize cmp fl ln t (setA (p.1 ++ [.mk1 3 0]) p.1.length (p.1.length + 1), p.2) = r at *
    have h2 := cmpB_mono fl ln (u :: l) (ends ++ [r.1.length]) (setB (r.1 ++ [.mk1 4 0]) p.1.length (r.1.length + 1), r.2)
    simp at h1 h2
    omega
end

/-- add at a node's value compiles it. -/
def AddX (fl ln : Bool) (base cp : Nat) (w0 : World) (t : Nd) (v : Value) : Prop :=
  ∀ (w : World) (prog : List Ins) (marks : Nat) (pv : Value), Below base w0 w → CAt base w cp prog marks fl ln pv → base ≤ w.heap.size → (cmp fl ln t (prog, marks)).1.length ≤ 1000000 → (cmp fl ln t (prog, marks)).2 ≤ 1000000 →
    Calls Try.prog 70 #[.pointer (some ⟨cp, 0, none⟩), v] w fun e w' => e = .returned (.tuple #[]) ∧ ∃ pv', CAt base w' cp (cmp fl ln t (prog, marks)).1 (cmp fl ln t (prog, marks)).2 fl ln pv' ∧ CStep cp w pv w' pv'

end Go.Proofs.Ytfgghbideoehjaa

namespace Go.Proofs.Ytfgghbideoehjaa
open Go.ChangeShapes Go.WideShapes Go.ChangeAt Go.RowKit
set_option linter.unusedVariables false
set_option maxRecDepth 100000

variable {fl ln : Bool}

set_option maxHeartbeats 1000000 in
theorem addX_group (base cp : Nat) (w0 : World) (n : Nat) (hn : 0 < n) (hn2 : n ≤ 100000) (i : Nd) (T : TypeId) (u : Value) (hin : AddX fl ln base cp w0 i (.iface T u)) : AddX fl ln base cp w0 (.group n i) (.iface 141 (.agg #[.int .i64 (n : Int), .iface T u])) := by
  intro w prog marks pv hB hC hbase hl hm
  simp only [cmp, if_pos hn] at hl hm ⊢
  have hmo := cmp_mono fl ln i (prog ++ [.mk1 5 (2 * n)], marks)
  simp only [List.length_append, List.length_cons, List.length_nil] at hl hmo
  have hin1 := fun (w1 : World) (pv1 : Value) (h1 : Below base w0 w1) (h2 : CAt base w1 cp (prog ++ [.mk1 5 (2 * n)]) marks fl ln pv1) (h3 : base ≤ w1.heap.size) => hin w1 _ _ pv1 h1 h2 h3 (by omega) hm
  generalize cmp fl ln i (prog ++ [.mk1 5 (2 * n)], marks) = r at *
  obtain ⟨rp, rm⟩ := r
  simp only at hl hm hmo hin1 ⊢
  have lcp : cp < w.heap.size := (Array.getElem?_eq_some_iff.1 hC.blk).1
  have hpn : pv.ownBlock ≠ some w.heap.size := fun e => by have := (hC.row.lt _ e).2; omega
  have HC := Lib.hid hC
  have HB := Lib.hid hB
  have HI := Lib.hid hin1
  clear hC hB hin hin1
  have a1 := miss141_124
  have a2 := miss141_121
  have a3 := miss141_133
  have a4 := miss141_135
  have a5 := miss141_109
  have a6 := miss141_108
  have a7 := miss141_139
  have a8 := hit141
  have t0 : (0 : Int) < n := by omega
  obtain ⟨A, hA, sA, aN, aO, bA⟩ := alloc_pack w #[.int .i64 (n : Int), .iface T u] 141
  have HA := Lib.hid hA
  have HN := Lib.hid aN
  have HS := Lib.hid sA
  have HB1 := Lib.hid bA
  clear hA aN aO sA bA
  go_enter Try.func70, Try.ntmps70
  go_wp2_with (fail)
  rw [HA.out]
  have x0 : A.cell? ⟨w.heap.size, 0, none⟩ = some (.int .i64 (n : Int)) := (cell_of_blk HN.out 0).trans rfl
  have x1 : A.cell? ⟨w.heap.size, 1, none⟩ = some (.iface T u) := (cell_of_blk HN.out 1).trans rfl
  have lA : w.heap.size < A.heap.size := by rw [HS.out]; omega
  have hcA := HC.out.ext HB1.out
  refine (emit_any hcA (by omega) (by omega) (.mk1 5 (2 * n)) (by simp [Ins.cells, BSet.zero])).mono ?_
  rintro e w2 ⟨rfl, pv2, hc2, hs2⟩
  have hcp : w.heap.size ≠ cp := by omega
  have y0 := hs2.cell x0 hcp hpn
  have y1 := hs2.cell x1 hcp hpn
  have HC2 := Lib.hid hc2
  have HS2 := Lib.hid hs2
  have HCA := Lib.hid hcA
  have l2 : w.heap.size < w2.heap.size := by have := hs2.size; omega
  have hpn2 : pv2.ownBlock ≠ some w.heap.size := by
    rcases hs2.tag with e | e
    · rw [e]; exact hpn
    · exact fun e2 => by have := e _ e2; omega
  clear hc2 hs2 hcA x0 x1
  go_wp2_with (fail)
  refine (HI.out _ pv2 ((HB.out.trans (HB1.out.mono hbase)).trans (HS2.out.below HCA.out (by omega))) HC2.out (by omega)).mono ?_
  rintro e w3 ⟨rfl, pv3, hc3, hs3⟩
  have z0 := hs3.cell y0 hcp hpn2
  have HC3 := Lib.hid hc3
  have HS3 := Lib.hid hs3
  have l3 : w.heap.size < w3.heap.size := by have := hs3.size; omega
  clear hc3 hs3 y0 y1
  go_wp2_with (fail)
  refine (emit_any HC3.out (by omega) (by omega) (.mk1 5 (2 * n + 1)) (by simp [Ins.cells, BSet.zero])).mono ?_
  rintro e w4 ⟨rfl, pv4, hc4, hs4⟩
  have HC4 := Lib.hid hc4
  have HS4 := Lib.hid hs4
  clear hc4 hs4
  go_wp2
  go_end0
  exact ⟨rfl, pv4, HC4.out, (((CStep.ofBelow HB1.out).trans HS2.out).trans HS3.out).trans HS4.out⟩

theorem cmpL_append (fl ln : Bool) : ∀ (l m : List Nd) (p : List Ins × Nat), cmpL fl ln (l ++ m) p = cmpL fl ln m (cmpL fl ln l p)
  | [], m, p => by simp [cmpL]
  | t :: l, m, p => by simp [cmpL, cmpL_append fl ln l m]

set_option maxHeartbeats 1000000 in
theorem addX_pieces (base cp : Nat) (w0 : World) (l : List Nd) (sv : Value) (vs : List Value) (hrow : w0.ownsRow 0 62 1 sv vs.length vs) (hbk : ∀ k, sv.ownBlock = some k → k < base) (hlen : l.length = vs.length) (hvl : vs.length ≤ 1000000)
    (hall : ∀ (j : Nat) t v, l[j]? = some t → vs[j]? = some v → AddX fl ln base cp w0 t v ∧ ∃ T u, v = .iface T u) : AddX fl ln base cp w0 (.pieces l) (.iface 109 sv) := by
  intro w prog marks pv hB hC hbase hl hm
  simp only [cmp] at hl hm ⊢
  have lcp : cp < w.heap.size := (Array.getElem?_eq_some_iff.1 hC.blk).1
  obtain ⟨a, k, c, rfl⟩ := ownsRow_shape hrow
  have hk : k = vs.length := by
    rcases hrow.2 with ⟨h, h0⟩ | ⟨g, cap, cur, h, _⟩
    · cases h; exact h0.symm
    · cases h; rfl
  subst hk
  have HR := Lib.hid hrow
  have HL := Lib.hid hlen
  have HALL := Lib.hid hall
  have HC := Lib.hid hC
  have HB := Lib.hid hB
  have HBK := Lib.hid hbk
  have HLL := Lib.hid hl
  have HMM := Lib.hid hm
  clear hC hB hrow hlen hall hbk hl hm
  have a1 := miss109_124
  have a2 := miss109_121
  have a3 := miss109_133
  have a4 := miss109_135
  have a8 := hit109
  go_enter Try.func70, Try.ntmps70
  go_wp2_with (fail)
  go_loopg [96] vs.length (fun k i wr => ∃ (j : Nat) (pv' : Value), j ≤ vs.length ∧ k = vs.length - j ∧ i = .int .i64 (j : Int) ∧ CAt base wr cp (cmpL fl ln (l.take j) (prog, marks)).1 (cmpL fl ln (l.take j) (prog, marks)).2 fl ln pv' ∧ CStep cp w pv wr pv')
  case atStart => exact ⟨0, pv, Nat.zero_le _, rfl, rfl, by simpa [cmpL] using HC.out, CStep.ofBelow (Below.refl _ _)⟩
  case round =>
    obtain ⟨j, pv', hj, hk, rfl, hc, hs⟩ := hrel
    have HK := Lib.hid hk
    have HCJ := Lib.hid hc
    have HSJ := Lib.hid hs
    have hsz := hs.size
    clear hk hc hs
    by_cases hlt : j < vs.length
    · obtain ⟨v, hv⟩ : ∃ v, vs[j]? = some v := ⟨_, List.getElem?_eq_getElem hlt⟩
      obtain ⟨t, ht⟩ : ∃ t, l[j]? = some t := ⟨_, List.getElem?_eq_getElem (by rw [HL.out]; exact hlt)⟩
      obtain ⟨hadd, T, u, rfl⟩ := HALL.out j t v ht hv
      have hbw : Below base w0 wr := HB.out.trans (HSJ.out.below HC.out hbase)
      obtain ⟨g, cap, ha⟩ : ∃ g cap, (Value.slice a vs.length c) = .slice (some ⟨g, 0, none⟩) vs.length cap := by
        rcases HR.out.2 with ⟨h, h0⟩ | ⟨g, cap, cur, h, _⟩
        · omega
        · exact ⟨g, cap, h⟩
      cases ha
      have hcell : wr.cell? ⟨g, j, none⟩ = some (.iface T u) := by
        have hr := HR.out
        rw [hbw.cell (p := ⟨g, j, none⟩) (HBK.out g rfl), hr.cellAt j (by omega)]; exact hv
      have hnext : cmpL fl ln (l.take (j + 1)) (prog, marks) = cmp fl ln t (cmpL fl ln (l.take j) (prog, marks)) := by
        rw [List.take_add_one, ht, cmpL_append fl ln]; simp [cmpL]
      have hfull : cmpL fl ln l (prog, marks) = cmpL fl ln (l.drop (j + 1)) (cmpL fl ln (l.take (j + 1)) (prog, marks)) := by rw [← cmpL_append fl ln, List.take_append_drop]
      have hmo := cmpL_mono fl ln (l.drop (j + 1)) (cmpL fl ln (l.take (j + 1)) (prog, marks))
      rw [← hfull] at hmo
      have hl1 : (cmp fl ln t (cmpL fl ln (l.take j) (prog, marks))).1.length ≤ 1000000 := by rw [← hnext]; have := HLL.out; omega
      have hm1 : (cmp fl ln t (cmpL fl ln (l.take j) (prog, marks))).2 ≤ 1000000 := by rw [← hnext]; have := HMM.out; omega
      have hcall := hadd wr _ _ pv' hbw HCJ.out (by omega) hl1 hm1
      have HCALL := Lib.hid hcall
      have HNX := Lib.hid hnext
      clear hcall hnext hfull hmo hl1 hm1 hv ht hadd hbw
      go_wp2_with (fail)
      refine HCALL.out.mono ?_
      rintro e w2 ⟨rfl, pv2, hc2, hs2⟩
      have HC2 := Lib.hid hc2
      have HS2 := Lib.hid hs2
      clear hc2 hs2
      go_wp2
      go_roundg (vs.length - (j + 1))
      case measure => rw [HK.out]; omega
      case rel =>
        refine ⟨j + 1, pv2, by omega, rfl, by go_num, ?_, HSJ.out.trans HS2.out⟩
        rw [HNX.out]; exact HC2.out
    · have hje : j = vs.length := by omega
      have HE := Lib.hid hje
      clear hje
      go_wp2
      go_end0
      have e1 : l.take j = l := List.take_of_length_le (by rw [HE.out, HL.out]; exact Nat.le_refl _)
      have hq := HCJ.out
      rw [e1] at hq
      exact ⟨rfl, pv', hq, HSJ.out⟩

set_option maxHeartbeats 1000000 in
theorem once_anyX {base cp : Nat} {w0 : World} {i : Nd} {T : TypeId} {u : Value} (hin : AddX fl ln base cp w0 i (.iface T u)) {lo hi : Int} {lz : Bool} {w : World} {prog : List Ins} {marks : Nat} {pv : Value}
    (hB : Below base w0 w) (hC : CAt base w cp prog marks fl ln pv) (hbase : base ≤ w.heap.size) (hl : (cmp fl ln i (prog ++ [.mk1 3 0] ++ [.mk1 6 marks], marks + 1)).1.length ≤ 999999) (hm : (cmp fl ln i (prog ++ [.mk1 3 0] ++ [.mk1 6 marks], marks + 1)).2 ≤ 1000000) :
    Calls Try.prog 90 #[.pointer (some ⟨cp, 0, none⟩), .agg #[.iface T u, .int .i64 lo, .int .i64 hi, .bool lz]] w fun e w' => e = .returned (.int .i64 (prog.length : Int)) ∧
      ∃ pv', CAt base w' cp ((cmp fl ln i (prog ++ [.mk1 3 0] ++ [.mk1 6 marks], marks + 1)).1 ++ [.mk1 7 marks]) (cmp fl ln i (prog ++ [.mk1 3 0] ++ [.mk1 6 marks], marks + 1)).2 fl ln pv' ∧ CStep cp w pv w' pv' := by
  have hmo := cmp_mono fl ln i (prog ++ [.mk1 3 0] ++ [.mk1 6 marks], marks + 1)
  simp only [List.length_append, List.length_cons, List.length_nil] at hmo
  have hin1 := fun (w1 : World) (pv1 : Value) (h1 : Below base w0 w1) (h2 : CAt base w1 cp (prog ++ [.mk1 3 0] ++ [.mk1 6 marks]) (marks + 1) fl ln pv1) (h3 : base ≤ w1.heap.size) => hin w1 _ _ pv1 h1 h2 h3 (by omega) hm
  generalize cmp fl ln i (prog ++ [.mk1 3 0] ++ [.mk1 6 marks], marks + 1) = r at *
  obtain ⟨rp, rm⟩ := r
  simp only at hl hm hmo hin1 ⊢
  have lcp : cp < w.heap.size := (Array.getElem?_eq_some_iff.1 hC.blk).1
  have hpn : pv.ownBlock ≠ some w.heap.size := fun e => by have := (hC.row.lt _ e).2; omega
  have hcp : w.heap.size ≠ cp := by omega
  have HC := Lib.hid hC
  have HB := Lib.hid hB
  have HI := Lib.hid hin1
  clear hC hB hin hin1
  obtain ⟨A, hA, sA, aN, aO, bA⟩ := alloc_pack w #[.iface T u, .int .i64 lo, .int .i64 hi, .bool lz] 139
  have HA := Lib.hid hA
  have HN := Lib.hid aN
  have HS := Lib.hid sA
  have HB1 := Lib.hid bA
  clear hA aN aO sA bA
  go_enter Try.func90, Try.ntmps90
  go_wp2_with (fail)
  rw [HA.out]
  have x0 : A.cell? ⟨w.heap.size, 0, none⟩ = some (.iface T u) := (cell_of_blk HN.out 0).trans rfl
  have lA : w.heap.size < A.heap.size := by rw [HS.out]; omega
  have hcA := HC.out.ext HB1.out
  refine (emit_any hcA (by omega) (by omega) (.mk1 3 0) (by simp [Ins.cells, BSet.zero])).mono ?_
  rintro e w2 ⟨rfl, pv2, hc2, hs2⟩
  have y0 := hs2.cell x0 hcp hpn
  have m2 : w2.cell? ⟨cp, 1, none⟩ = some (.int .i64 (marks : Int)) := (cell_of_blk hc2.blk 1).trans rfl
  have f2 := free_of_blk hc2.blk 1
  have l2 : w.heap.size < w2.heap.size := by have := hs2.size; omega
  have lc2 : cp < w2.heap.size := by omega
  have hpn2 : pv2.ownBlock ≠ some w.heap.size := by
    rcases hs2.tag with e | e
    · rw [e]; exact hpn
    · exact fun e2 => by have := e _ e2; omega
  have hc2' := hc2.mark (marks + 1)
  have hs2' := hs2.trans (CStep.mark (cp := cp) w2 pv2 (.int .i64 ((marks + 1 : Nat) : Int)))
  have y0' : (w2.setCell ⟨cp, 1, none⟩ (.int .i64 ((marks + 1 : Nat) : Int))).cell? ⟨w.heap.size, 0, none⟩ = some (.iface T u) := (CStep.mark (cp := cp) w2 pv2 _).cell y0 hcp hpn2
  have HC2 := Lib.hid hc2'
  have HS2 := Lib.hid hs2'
  have HCA := Lib.hid hcA
  have HY := Lib.hid y0'
  have mi : ((marks : Int) + 1) = ((marks + 1 : Nat) : Int) := by push_cast; rfl
  have hm' : marks ≤ 1000000 := by omega
  have HMI := Lib.hid mi
  clear hc2 hs2 hcA x0 hc2' hs2' y0' mi y0
  go_wp2_with (fail)
  rw [HMI.out]
  obtain ⟨W2, hW2⟩ : ∃ W2, (w2.setCell ⟨cp, 1, none⟩ (.int .i64 ((marks + 1 : Nat) : Int))) = W2 := ⟨_, rfl⟩
  rw [hW2]
  have hc2 := HC2.out
  have hs2 := HS2.out
  have y0 := HY.out
  rw [hW2] at hc2 hs2 y0
  have L2 : w.heap.size < W2.heap.size := by rw [← hW2]; simpa using l2
  clear hW2
  refine (emit_any hc2 (by omega) (by simp; omega) (.mk1 6 marks) (by simp [Ins.cells, BSet.zero])).mono ?_
  rintro e w3 ⟨rfl, pv3, hc3, hs3⟩
  have z0 := hs3.cell y0 hcp hpn2
  have hs3' := hs2.trans hs3
  have l3 : w.heap.size < w3.heap.size := by have := hs3.size; omega
  have HC3 := Lib.hid hc3
  have HS3 := Lib.hid hs3'
  clear hc3 hs3 hs3' hc2 hs2 y0 m2 f2
  go_wp2_with (fail)
  refine (HI.out _ pv3 ((HB.out.trans (HB1.out.mono hbase)).trans (HS3.out.below HCA.out (by omega))) HC3.out (by omega)).mono ?_
  rintro e w4 ⟨rfl, pv4, hc4, hs4⟩
  have HC4 := Lib.hid hc4
  have HS4 := Lib.hid hs4
  have l4 : w.heap.size < w4.heap.size := by have := hs4.size; omega
  clear hc4 hs4 z0
  go_wp2_with (fail)
  refine (emit_any HC4.out (by omega) (by omega) (.mk1 7 marks) (by simp [Ins.cells, BSet.zero])).mono ?_
  rintro e w5 ⟨rfl, pv5, hc5, hs5⟩
  have HC5 := Lib.hid hc5
  have HS5 := Lib.hid hs5
  clear hc5 hs5
  go_wp2
  go_ret
  exact ⟨rfl, pv5, HC5.out, (((CStep.ofBelow HB1.out).trans HS3.out).trans HS4.out).trans HS5.out⟩

structure BrRoundX (fl ln : Bool) (base cp : Nat) (w0 : World) (l : List Nd) (prog : List Ins) (marks : Nat) (w : World) (pv : Value) (j : Nat) (ends : List Nat) (p : List Ins × Nat) (pv' ev : Value) (wr : World) : Prop where
  at' : CAt base wr cp p.1 p.2 fl ln pv'
  step : CStep cp w pv wr pv'
  eq : cmpB fl ln l [] (prog, marks) = cmpB fl ln (l.drop j) ends p
  elen : ends.length ≤ j
  ends : EndsAt w.heap.size wr cp pv' ev ends p.1.length

set_option maxHeartbeats 1000000 in
theorem branches_walkX (base cp : Nat) (w0 : World) (l : List Nd) (sv : Value) (vs : List Value) (hrow : w0.ownsRow 0 62 1 sv vs.length vs) (hbk : ∀ k, sv.ownBlock = some k → k < base) (hlen : l.length = vs.length) (hvl : vs.length ≤ 1000000) (hv0 : 0 < vs.length)
    (hall : ∀ (j : Nat) t v, l[j]? = some t → vs[j]? = some v → AddX fl ln base cp w0 t v ∧ ∃ T u, v = .iface T u)
    (w : World) (prog : List Ins) (marks : Nat) (pv : Value) (hB : Below base w0 w) (hC : CAt base w cp prog marks fl ln pv) (hbase : base ≤ w.heap.size) (hl : (cmpB fl ln l [] (prog, marks)).1.length ≤ 1000000) (hm : (cmpB fl ln l [] (prog, marks)).2 ≤ 1000000) :
    Calls Try.prog 84 #[.pointer (some ⟨cp, 0, none⟩), sv] w fun e w' => e = .returned (.tuple #[]) ∧ ∃ pv', CAt base w' cp (cmpB fl ln l [] (prog, marks)).1 (cmpB fl ln l [] (prog, marks)).2 fl ln pv' ∧ CStep cp w pv w' pv' := by
  have lcp : cp < w.heap.size := (Array.getElem?_eq_some_iff.1 hC.blk).1
  obtain ⟨a, k, c, rfl⟩ := ownsRow_shape hrow
  obtain ⟨g, cap, ha⟩ : ∃ g cap, (Value.slice a k c) = .slice (some ⟨g, 0, none⟩) vs.length cap := by
    rcases hrow.2 with ⟨h, h0⟩ | ⟨g, cap, cur, h, _⟩
    · omega
    · exact ⟨g, cap, h⟩
  cases ha
  have hvi : (0 : Int) < vs.length := by omega
  obtain ⟨i3, h3, h30, h31, h32⟩ := info_parts info3
  have HR := Lib.hid hrow
  have HL := Lib.hid hlen
  have HALL := Lib.hid hall
  have HC := Lib.hid hC
  have HB := Lib.hid hB
  have HBK := Lib.hid hbk
  have HLL := Lib.hid hl
  have HMM := Lib.hid hm
  clear hC hB hrow hlen hall hbk hl hm
  go_enter Try.func84, Try.ntmps84
  go_wp2_with (fail)
  go_loopg [4, 12] vs.length (fun k ev i wr => ∃ (j : Nat) (ends : List Nat) (p : List Ins × Nat) (pv' : Value), j < vs.length ∧ k = vs.length - j ∧ i = .int .i64 (j : Int) ∧ BrRoundX fl ln base cp w0 l prog marks w pv j ends p pv' ev wr)
  case atStart =>
    exact ⟨0, [], (prog, marks), pv, hv0, rfl, rfl, HC.out, CStep.ofBelow (Below.refl _ _), by simp, Nat.zero_le _, ⟨World.ownsRow_nil _ _ _ _, (fun e => by cases e), (fun k hk => by cases hk), (fun e he => by cases he)⟩⟩
  case round =>
    obtain ⟨j, ends, p, pv', hj, hk, rfl, hBR⟩ := hrel
    obtain ⟨v, hv⟩ : ∃ v, vs[j]? = some v := ⟨_, List.getElem?_eq_getElem hj⟩
    obtain ⟨t, ht⟩ : ∃ t, l[j]? = some t := ⟨_, List.getElem?_eq_getElem (by rw [HL.out]; exact hj)⟩
    obtain ⟨hadd, T, u, rfl⟩ := HALL.out j t v ht hv
    have hbw : Below base w0 wr := HB.out.trans (hBR.step.below HC.out hbase)
    have hcell : wr.cell? ⟨g, j, none⟩ = some (.iface T u) := by
      have hr := HR.out
      rw [hbw.cell (p := ⟨g, j, none⟩) (HBK.out g rfl), hr.cellAt j (by omega)]; exact hv
    have hdrop : l.drop j = t :: l.drop (j + 1) := by
      obtain ⟨h1, h2⟩ := List.getElem?_eq_some_iff.1 ht
      rw [List.drop_eq_getElem_cons h1, h2]
    have hwsz : base ≤ wr.heap.size := by have := hBR.step.size; omega
    have hel := hBR.elen
    have hwr := hBR.step.size
    have HBR := Lib.hid hBR
    have HADD := Lib.hid hadd
    have HBW := Lib.hid hbw
    have HDROP := Lib.hid hdrop
    have HK := Lib.hid hk
    clear hBR hadd hbw hdrop hv ht hk
    by_cases hlast : j + 1 = vs.length
    · have t1 : ((j : Int) == (vs.length : Int) - 1) = true := by simp; omega
      obtain ⟨rp0, rm0⟩ := p
      have hd2 : l.drop (j + 1) = [] := List.drop_eq_nil_iff.2 (by have := HL.out; omega)
      have heq := HBR.out.eq
      rw [HDROP.out, hd2] at heq
      simp only [cmpB] at heq
      have hm1 := cmp_mono fl ln t (rp0, rm0)
      generalize hr : cmp fl ln t (rp0, rm0) = r at *
      obtain ⟨rp1, rm1⟩ := r
      simp only at heq hm1
      have hll := HLL.out
      have hmm := HMM.out
      rw [heq] at hll hmm
      simp only [patch_len] at hll hmm
      have hcall := HADD.out wr rp0 rm0 pv' HBW.out HBR.out.at' hwsz (by rw [hr]; exact hll) (by rw [hr]; exact hmm)
      rw [hr] at hcall
      simp only at hcall
      have HEQ := Lib.hid heq
      have HCALL := Lib.hid hcall
      clear heq hr hd2 hcall
      go_wp2_with (fail)
      refine HCALL.out.mono ?_
      rintro e w3 ⟨rfl, pv3, hc3, hs3⟩
      have hE3 := HBR.out.ends.step hs3 (n' := rp1.length) hm1.1
      have HC3 := Lib.hid hc3
      have HS3 := Lib.hid (HBR.out.step.trans hs3)
      obtain ⟨ea, en, ec, hev⟩ := ownsRow_shape hE3.row
      subst hev
      have HE3 := Lib.hid hE3
      clear hc3 hs3 hE3
      have hen : en = ends.length := by
        rcases HE3.out.row.2 with ⟨h, h0⟩ | ⟨g, cap, cur, h, _⟩
        · cases h; exact h0.symm
        · cases h; rfl
      subst hen
      go_wp2_with (fail)
      go_loopg [64] ends.length (fun k i w5 => ∃ (q : Nat) (pv5 : Value), q ≤ ends.length ∧ k = ends.length - q ∧ i = .int .i64 (q : Int) ∧ CAt base w5 cp (patch (ends.take q) rp1) rm1 fl ln pv5 ∧ CStep cp w pv w5 pv5 ∧ EndsAt w.heap.size w5 cp pv5 (.slice ea ends.length ec) ends rp1.length)
      case atStart => exact ⟨0, pv3, Nat.zero_le _, rfl, rfl, HC3.out, HS3.out, HE3.out⟩
      case round =>
        obtain ⟨q, pv5, hq, hk5, rfl, hc5, hs5, hE5⟩ := hrel
        have HK5 := Lib.hid hk5
        have HS5 := Lib.hid hs5
        have hpl : (patch (ends.take q) rp1).length = rp1.length := patch_len _ _
        by_cases hqe : q < ends.length
        · obtain ⟨e, he⟩ : ∃ e, ends[q]? = some e := ⟨_, List.getElem?_eq_getElem hqe⟩
          have hel2 : e < rp1.length := hE5.lt e (List.mem_of_getElem? he)
          obtain ⟨ge, ce, hge⟩ : ∃ ge ce, (Value.slice ea ends.length ec) = .slice (some ⟨ge, 0, none⟩) ends.length ce := by
            rcases hE5.row.2 with ⟨h, h0⟩ | ⟨g, cap, cur, h, _⟩
            · omega
            · exact ⟨g, cap, h⟩
          cases hge
          have hce : wr.cell? ⟨ge, q, none⟩ = some (.int .i64 (e : Int)) := by
            rw [hE5.row.cellAt q (by omega), List.getElem?_map, he]; rfl
          obtain ⟨g6, cap6, rfl, hgb6, hcap6, hgc6, hgs6, hcells6, hfr6⟩ := hc5.shape (k := e) (by omega)
          obtain ⟨v6, hv6⟩ := hcells6 1 (by decide)
          have z6 := hfr6 (e * 8 + 1)
          have q6 : wr.cell? ⟨cp, 0, none⟩ = some (.slice (some ⟨g6, 0, none⟩) (patch (ends.take q) rp1).length cap6) := (cell_of_blk hc5.blk 0).trans rfl
          rw [hpl] at q6 hcap6
          have hq2 : (q : Int) < ends.length := by omega
          have HC5 := Lib.hid hc5
          have HE5 := Lib.hid hE5
          have HEE := Lib.hid he
          have HPL := Lib.hid hpl
          clear hk5 hc5 hs5 hE5 hcells6 hfr6 he hpl
          go_wp2
          go_region
          have hnx : patch (ends.take (q + 1)) rp1 = setA (patch (ends.take q) rp1) e rp1.length := by
            have h9 : ends.take (q + 1) = ends.take q ++ [e] := by rw [List.take_add_one, HEE.out]; rfl
            rw [h9]
            simp only [patch, List.foldl_append, List.foldl_cons, List.foldl_nil]
            have := HPL.out
            simp only [patch] at this
            rw [this]
          have hs6 := (HS5.out.trans (CStep.own (cp := cp) wr g6 (patch (ends.take q) rp1).length cap6 (e * 8 + 1) (.int .i64 (rp1.length : Int)))).trans (CStep.ofBelow (Below.refl _ _).drew)
          have hc6 := (HC5.out.storeA e rp1.length).ext (Below.refl _ _).drew
          have hE6 := HE5.out.step ((CStep.own (cp := cp) wr g6 (patch (ends.take q) rp1).length cap6 (e * 8 + 1) (.int .i64 (rp1.length : Int))).trans (CStep.ofBelow (Below.refl _ _).drew)) (Nat.le_refl _)
          have HC6 := Lib.hid hc6
          have HS6 := Lib.hid hs6
          have HE6 := Lib.hid hE6
          have HNX := Lib.hid hnx
          clear hc6 hs6 hE6 hnx
          go_wp2
          go_roundg (ends.length - (q + 1))
          case measure => rw [HK5.out]; omega
          case rel => exact ⟨q + 1, _, by omega, rfl, by go_num, by rw [HNX.out]; exact HC6.out, HS6.out, HE6.out⟩
        · have hqq : ends.take q = ends := List.take_of_length_le (by omega)
          rw [hqq] at hc5
          have HC5 := Lib.hid hc5
          have HQ := Lib.hid (show q = ends.length by omega)
          clear hk5 hc5 hs5 hE5 hqq hpl
          go_wp2
          go_end0
          refine ⟨rfl, pv5, ?_, HS5.out⟩
          rw [HEQ.out]
          exact HC5.out
    · have t1 : ((j : Int) == (vs.length : Int) - 1) = false := by simp; omega
      have t2 : (j : Int) < vs.length := by omega
      obtain ⟨rp0, rm0⟩ := p
      obtain ⟨t', l', hd2⟩ : ∃ t' l', l.drop (j + 1) = t' :: l' := by
        cases hc : l.drop (j + 1) with
        | nil => have := List.drop_eq_nil_iff.1 hc; have := HL.out; omega
        | cons a b => exact ⟨a, b, rfl⟩
      have heq := HBR.out.eq
      rw [HDROP.out, hd2] at heq
      simp only [cmpB] at heq
      rw [← hd2] at heq
      have hm1 := cmp_mono fl ln t (setA (rp0 ++ [.mk1 3 0]) rp0.length (rp0.length + 1), rm0)
      generalize hr : cmp fl ln t (setA (rp0 ++ [.mk1 3 0]) rp0.length (rp0.length + 1), rm0) = r at *
      obtain ⟨rp1, rm1⟩ := r
      have hm2 := cmpB_mono fl ln (l.drop (j + 1)) (ends ++ [rp1.length]) (setB (rp1 ++ [.mk1 4 0]) rp0.length (rp1.length + 1), rm1)
      simp only at heq hm1 hm2
      rw [← heq] at hm2
      simp only [setA_len, setB_len, List.length_append, List.length_cons, List.length_nil] at hm1 hm2
      have hll := HLL.out
      have hmm := HMM.out
      have HEQ := Lib.hid heq
      have HRE := Lib.hid hr
      clear heq hr hd2
      go_wp2_with (fail)
      refine (emit_any HBR.out.at' hwsz (by simp only; omega) (.mk1 3 0) (by simp [Ins.cells, BSet.zero])).mono ?_
      rintro e w2 ⟨rfl, pv2, hc2, hs2⟩
      simp only at hc2 ⊢
      have hE2 := HBR.out.ends.step hs2 (n' := rp0.length + 1) (by simp)
      obtain ⟨g2, cap2, rfl, hgb2, hcap2, hgc2, hgs2, hcells2, hfr2⟩ := hc2.shape (k := rp0.length) (by simp)
      obtain ⟨v1, hv1⟩ := hcells2 1 (by decide)
      have z1 := hfr2 (rp0.length * 8 + 1)
      have q0 : w2.cell? ⟨cp, 0, none⟩ = some (.slice (some ⟨g2, 0, none⟩) (rp0 ++ [Ins.mk1 3 0]).length cap2) := (cell_of_blk hc2.blk 0).trans rfl
      simp only [List.length_append, List.length_cons, List.length_nil, Nat.zero_add] at q0 hcap2
      have HC2 := Lib.hid hc2
      have HS2 := Lib.hid hs2
      have HE2 := Lib.hid hE2
      clear hc2 hs2 hE2 hcells2 hfr2 hcell
      generalize hN : rp0.length = N at *
      have HNN := Lib.hid hN
      clear hN
      go_wp2
      go_region
      have hcA := (HC2.out.storeA N (N + 1)).ext (Below.refl _ _).drew
      have hsA := (HS2.out.trans (CStep.own (cp := cp) w2 g2 _ cap2 (N * 8 + 1) (.int .i64 ((N + 1 : Nat) : Int)))).trans (CStep.ofBelow (Below.refl _ _).drew)
      have hEA := HBR.out.ends.step hsA (n' := N + 1) (by simp only; have := HNN.out; omega)
      obtain ⟨WA, hWA⟩ : ∃ WA, ((w2.setCell ⟨g2, N * 8 + 1, none⟩ (.int .i64 ((N + 1 : Nat) : Int))).drew) = WA := ⟨_, rfl⟩
      rw [hWA] at hcA hsA hEA
      have hWA' : ((w2.setCell ⟨g2, N * 8 + 1, none⟩ (.int .i64 ((N : Int) + 1))).drew) = WA := hWA
      rw [hWA']
      have HCA := Lib.hid hcA
      have HSA := Lib.hid hsA
      have HEA := Lib.hid hEA
      have lWA := hsA.size
      clear hcA hsA hEA hWA hWA' q0 hv1 z1
      have hcall := HADD.out WA _ rm0 _ (HBW.out.trans (HSA.out.below HBR.out.at' hwsz)) HCA.out (by omega) (by rw [HRE.out]; simp only; omega) (by rw [HRE.out]; simp only; omega)
      have HCALL := Lib.hid hcall
      clear hcall
      go_wp2_with (fail)
      refine HCALL.out.mono ?_
      rintro e w3 ⟨rfl, pv3, hc3, hs3⟩
      rw [HRE.out] at hc3
      simp only at hc3 ⊢
      have hEA := HEA.out.step hs3 (n' := rp1.length) (by omega)
      have lw3 := hs3.size
      have HC3 := Lib.hid hc3
      have HS3 := Lib.hid hs3
      have HE3 := Lib.hid hEA
      clear hc3 hs3 hEA
      go_wp2_with (fail)
      refine (emit_any HC3.out (by omega) (by omega) (.mk1 4 0) (by simp [Ins.cells, BSet.zero])).mono ?_
      rintro e w4 ⟨rfl, pv4, hc4, hs4⟩
      have hE4 := HE3.out.step hs4 (n' := rp1.length + 1) (by omega)
      have lw4 := hs4.size
      obtain ⟨g4, cap4, rfl, hgb4, hcap4, hgc4, hgs4, hcells4, hfr4⟩ := hc4.shape (k := N) (by simp; omega)
      obtain ⟨v4, hv4⟩ := hcells4 2 (by decide)
      have z4 := hfr4 (N * 8 + 2)
      have q4 : w4.cell? ⟨cp, 0, none⟩ = some (.slice (some ⟨g4, 0, none⟩) (rp1 ++ [Ins.mk1 4 0]).length cap4) := (cell_of_blk hc4.blk 0).trans rfl
      simp only [List.length_append, List.length_cons, List.length_nil, Nat.zero_add] at q4 hcap4
      obtain ⟨ea, en, ec, hev⟩ := ownsRow_shape hE4.row
      have HC4 := Lib.hid hc4
      have HS4 := Lib.hid hs4
      have HE4 := Lib.hid hE4
      clear hc4 hs4 hE4 hcells4 hfr4
      subst hev
      have hne4 : (Value.slice ea en ec).ownBlock ≠ some cp := HE4.out.ne
      have hng4 : (Value.slice ea en ec).ownBlock ≠ some g4 := fun e => HE4.out.nep _ e rfl
      go_wp2_with (at_builtin; go_loud (refine wpList_append_tag rfl (.tmp 43) (.tmp 47) 58 rfl w.heap.size 3 i3 _ 1 8 Try.underlying58 h3 h30 h31 h32 rfl (by decide) (.slice ea en ec) ends.length _ rfl (World.ownsRow.alloc HE4.out.row _) ⟨w4.heap.size, 0, none⟩ 1 1 [.int .i64 (rp1.length : Int)] rfl rfl (int_new _ _) (int_cell _) (by simp only [maxLen]; omega) (by omega) (by simp; omega) ?_; intro ev' w5 ho5 hg5 ht5; obtain ⟨g5, cap5, rfl⟩ := ownsRow_succ' ho5; have hg6 := grown_past hg5; have ht6 := tag_past ht5; have q5 := grown_cellH hg6 rfl q4 hne4; have v5 := grown_cellH hg6 rfl hv4 hng4; have z5 := grown_frozenH hg6 rfl hv4 z4 hng4; have HG6 := Lib.hid hg6; have HT6 := Lib.hid ht6; have HO5 := Lib.hid ho5; clear hg5 ht5 hg6 ht6 ho5))
      have hc5 := HC4.out.grown HG6.out hne4 (fun k hk => HE4.out.nep k hk)
      have hs45 := ((HBR.out.step.trans HSA.out).trans HS3.out).trans HS4.out
      have hs5 := hs45.grown HG6.out (fun k hk => (HE4.out.row.lt k hk).1)
      have lw5 := HG6.out.size
      have HC5 := Lib.hid hc5
      have HS5 := Lib.hid hs5
      clear hc5 hs45 hs5 q4 hv4 z4
      go_wp2
      go_region
      have h5c : g5 ≠ cp := by
        rcases HT6.out with e | e
        · exact fun e2 => hne4 (by rw [← e, ← e2]; rfl)
        · have h9 : w4.heap.size ≤ g5 := e g5 rfl
          omega
      have h5g : g5 ≠ g4 := by
        rcases HT6.out with e | e
        · exact fun e2 => hng4 (by rw [← e, ← e2]; rfl)
        · have h9 : w4.heap.size ≤ g5 := e g5 rfl
          omega
      go_wp2
      go_roundg (vs.length - (j + 1))
      case measure => rw [HK.out]; omega
      case rel =>
        refine ⟨j + 1, ends ++ [rp1.length], (setB (rp1 ++ [.mk1 4 0]) N (rp1.length + 1), rm1), .slice (some ⟨g4, 0, none⟩) (rp1 ++ [Ins.mk1 4 0]).length cap4, by omega, rfl, by go_num, ?_⟩
        exact {
          at' := (HC5.out.storeB N (rp1.length + 1)).ext (Below.refl _ _).drew
          step := (HS5.out.trans (CStep.own (cp := cp) w5 g4 _ cap4 (N * 8 + 2) (.int .i64 ((rp1.length + 1 : Nat) : Int)))).trans (CStep.ofBelow (Below.refl _ _).drew)
          eq := HEQ.out
          elen := by simp; omega
          ends := by
            refine ⟨?_, (fun e => h5c (Option.some.inj e)), (fun k hk => by cases hk; exact fun e => h5g (Option.some.inj e).symm), ?_⟩
            · rw [List.length_append, List.map_append]
              refine ownsRow_agree HO5.out fun q hq => ?_
              cases hq
              exact heap_setCell_other _ _ _ _ (by exact h5g)
            · intro e he
              simp only [List.mem_append, List.mem_singleton] at he
              simp only [setB_len, List.length_append, List.length_cons, List.length_nil]
              rcases he with he | he
              · have := HE4.out.lt e he; omega
              · omega }

set_option maxHeartbeats 1000000 in
theorem addX_branches (base cp : Nat) (w0 : World) (l : List Nd) (sv : Value) (vs : List Value) (hrow : w0.ownsRow 0 62 1 sv vs.length vs) (hbk : ∀ k, sv.ownBlock = some k → k < base) (hlen : l.length = vs.length) (hvl : vs.length ≤ 1000000) (hv0 : 0 < vs.length)
    (hall : ∀ (j : Nat) t v, l[j]? = some t → vs[j]? = some v → AddX fl ln base cp w0 t v ∧ ∃ T u, v = .iface T u) : AddX fl ln base cp w0 (.branches l) (.iface 108 sv) := by
  intro w prog marks pv hB hC hbase hl hm
  simp only [cmp] at hl hm ⊢
  have hw := branches_walkX base cp w0 l sv vs hrow hbk hlen hvl hv0 hall w prog marks pv hB hC hbase hl hm
  obtain ⟨a, k, c, rfl⟩ := ownsRow_shape hrow
  have HW := Lib.hid hw
  clear hw hrow hall hB hC hl hm
  have a1 := miss108_124
  have a2 := miss108_121
  have a3 := miss108_133
  have a4 := miss108_135
  have a5 := miss108_109
  have a8 := hit108
  go_enter Try.func70, Try.ntmps70
  go_wp2_with (fail)
  refine HW.out.mono ?_
  rintro e w2 ⟨rfl, pv2, hc2, hs2⟩
  have HC2 := Lib.hid hc2
  have HS2 := Lib.hid hs2
  clear hc2 hs2
  go_wp2
  go_end0
  exact ⟨rfl, pv2, HC2.out, HS2.out⟩

end Go.Proofs.Ytfgghbideoehjaa
