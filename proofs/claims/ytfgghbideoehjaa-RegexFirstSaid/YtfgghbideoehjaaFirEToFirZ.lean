/-
  RegexFirst returns true, whatever the input: the walk.
  RegexFirst returns true, whatever the input; the input reads behind the call as it read before. No condition.
-/
import Derived.Test.YtfgghbideoehjaaFirAToFirD
import Derived.Test.YtfgghbideoehjaaAwakeAToAwakeB
import Derived.StillTailTactics
import Derived.Test.YtfgghbideoehjaaRepB
import Derived.ChangeSame
import Derived.ChangeMaps5
import Derived.JoinedOf
import Derived.JoinedAt
import Derived.RowKit3
namespace Go.Proofs.Ytfgghbideoehjaa
open Go.ChangeShapes Go.WideShapes Go.ChangeAt Go.RowKit
set_option linter.unusedVariables false
set_option linter.unusedSimpArgs false
set_option maxRecDepth 100000

/-- awake is true. -/
def AwakeHolds : Prop := ∀ w : World, Calls Try.prog 10 #[] w fun e w' => e = .returned (.bool true) ∧ Below w.heap.size w w'

/-- Find answers, whatever. -/
theorem FindA.some {p s : ByteArray} {a : Int} {fl ln : Bool} (h : FindA p s a fl ln) (w : World) : Calls Try.prog 11 #[.string p, .string s, .int .i64 a, .bool fl, .bool ln] w fun e w' => Below w.heap.size w w' ∧ ∃ sv c, e = .returned (.tuple #[sv, .int .i64 c]) := by
  cases h with
  | no _ _ call => exact (call w).mono fun e w' h => ⟨h.2, _, _, h.1⟩
  | yes _ _ _ _ _ call => exact (call w).mono fun e w' h => ⟨h.1, by obtain ⟨sv, h1, _⟩ := h.2; exact ⟨_, _, h1⟩⟩

/-- What is found at the joined text, where the second part reads. -/
theorem join_why {p q s : ByteArray} (hz : p.size + q.size ≤ 1000) (hs : s.size ≤ 100) (hp : Plain p) (hq : Plain q) {fin fq : PSt} {deep dq k : Nat} {gs : List Int} {fl ln : Bool} (h : readOf p = .ok fin deep) (h2 : readOf q = .ok fq dq) (hk : k ≤ s.size) (v : VFound (fin.progX fl ln) s fin.groups (fin.marksX fl ln) k [] (some gs))
    {c : Nat} (hw : FindWhy (joinB p q) s (k : Int) fl ln c) : c = 4 := by
  have hJ := joins_joinB p q
  have hJz := hJ.size
  cases hw with
  | read h3 =>
    rcases read_join hJ (by omega) hp hq h h2 with ⟨fin2, d2, h4, _⟩ | ⟨k2, h4⟩
    · rw [h3] at h4; cases h4
    · rw [h3] at h4; cases h4; rfl
  | range h3 => omega
  | @none finJ dJ kJ h3 hk2 v2 =>
    have hkk : k = kJ := by omega
    subst hkk
    obtain ⟨gsB, h5, _⟩ := first_law hJ (by omega) hp hq h h2 h3 fl ln v v2 rfl
    cases h5

/-- A walk of quiet operations in one world is a still one. -/
theorem still_of_quiet {P : Program} {ops : Array Oper} {w : World} {Q : Act → Prop} : ∀ (l : List Oper) (a : Act), wpQuiet P ops (fun w' => w' = w) Q l a → wpStill P ops w Q l a
  | [], a, h => h
  | o :: rest, a, h => by
    unfold wpQuiet at h
    unfold wpStill
    by_cases hw : Region.wanted o (yielded ops a.tmps) = true
    · rw [if_pos hw] at h ⊢
      obtain ⟨v, h1, h2⟩ := h
      have h3 := h1 w rfl
      unfold Oper.quietAt at h3
      unfold Oper.still
      generalize (execOp a.eval o).run P w = r at *
      cases r with
      | ok n w' =>
        cases n <;> simp only [Oper.quietUpon] at h3 <;> simp only [Oper.stillUpon]
        case value u =>
          obtain ⟨e1, e2⟩ := h3
          rw [e2]
          exact ⟨e1, still_of_quiet rest _ h2⟩
        case skip =>
          obtain ⟨e1, e2⟩ := h3
          rw [← e2]
          exact ⟨e1, still_of_quiet rest _ h2⟩
        case enter f args =>
          obtain ⟨e1, hc⟩ := h3
          exact ⟨e1, v, hc, still_of_quiet rest _ h2⟩
      | halt x w' => simp only [Oper.quietUpon] at h3
    · rw [if_neg hw] at h ⊢
      exact still_of_quiet rest _ h

/-- A region of reads before a call that ends it. -/
theorem region_tail {P : Program} {id : Nat} {Q : Exit → Act → World → Prop} {a : Act} {w : World} {l : List Oper} (n : Nat) (hm : P.follows .mixedOrders = true) (hB : Region.lexTailB .any l.toArray n = true)
    (h : wpQuiet P l.toArray (fun w' => w' = w.drew) (fun a' => wpList P l.toArray Q (l.drop n) a' w.drew) (l.take n) a) : (Code.region id l.toArray true).wp P Q a w :=
  wp_region_still_tail n hm hB (still_of_quiet _ _ h)

set_option maxHeartbeats 2000000 in
theorem first_any (hA : AwakeHolds) (w : World) (p q s : ByteArray) (a : Int) (fl ln : Bool) :
    Calls Try.prog 3 #[.string p, .string q, .string s, .int .i64 a, .bool fl, .bool ln] w fun e w' => e = .returned (.bool true) ∧ Below w.heap.size w w' := by
  have HA := Lib.hid hA
  clear hA
  go_enter Try.func3, Try.ntmps3
  go_wp2_with (fail)
  refine (light_any w p s).mono ?_
  rintro e w' ⟨⟨b1, rfl, hb1⟩, hw⟩
  subst w'
  dsimp only
  cases b1 with
  | false =>
    go_wp2_with (fail)
    refine (HA.out _).mono ?_
    rintro e w9 ⟨rfl, hb9⟩
    dsimp only
    have HB9 := Lib.hid hb9
    clear hb9
    go_wp2
    go_ret
    exact ⟨rfl, HB9.out⟩
  | true =>
  have z1 := Lib.hid (hb1 rfl)
  clear hb1
  go_wp2_with (fail)
  refine (light_any w q s).mono ?_
  rintro e w' ⟨⟨b1, rfl, hb1⟩, hw⟩
  subst w'
  dsimp only
  cases b1 with
  | false =>
    go_wp2_with (fail)
    refine (HA.out _).mono ?_
    rintro e w9 ⟨rfl, hb9⟩
    dsimp only
    have HB9 := Lib.hid hb9
    clear hb9
    go_wp2
    go_ret
    exact ⟨rfl, HB9.out⟩
  | true =>
  have z2 := Lib.hid (hb1 rfl)
  clear hb1
  have hs60 : s.size ≤ 60 := z1.out.2
  have hp40 : p.size ≤ 40 := z1.out.1
  have hq40 : q.size ≤ 40 := z2.out.1
  by_cases hlen : (p.size : Int) + (q.size : Int) > 34
  ·
    go_wp2_with (fail)
    refine (HA.out _).mono ?_
    rintro e w9 ⟨rfl, hb9⟩
    dsimp only
    have HB9 := Lib.hid hb9
    clear hb9
    go_wp2
    go_ret
    exact ⟨rfl, HB9.out⟩
  go_wp2_with (fail)
  refine (plainly_any w p (by have := z1.out; omega)).mono ?_
  rintro e w' ⟨b1, rfl, hb1, hw⟩
  subst w'
  dsimp only
  cases b1 with
  | false =>
    go_wp2_with (fail)
    refine (HA.out _).mono ?_
    rintro e w9 ⟨rfl, hb9⟩
    dsimp only
    have HB9 := Lib.hid hb9
    clear hb9
    go_wp2
    go_ret
    exact ⟨rfl, HB9.out⟩
  | true =>
  have HP := Lib.hid (hb1 rfl)
  clear hb1
  go_wp2_with (fail)
  refine (plainly_any w q (by have := z2.out; omega)).mono ?_
  rintro e w' ⟨b1, rfl, hb1, hw⟩
  subst w'
  dsimp only
  cases b1 with
  | false =>
    go_wp2_with (fail)
    refine (HA.out _).mono ?_
    rintro e w9 ⟨rfl, hb9⟩
    dsimp only
    have HB9 := Lib.hid hb9
    clear hb9
    go_wp2
    go_ret
    exact ⟨rfl, HB9.out⟩
  | true =>
  have HQ := Lib.hid (hb1 rfl)
  clear hb1
  have hJ := Lib.hid (joins_joinB p q)
  have hJz := hJ.out.size
  have FJ := Lib.hid (find_plain (p := joinB p q) (s := s) (by omega) (hJ.out.bare HP.out HQ.out) (hJ.out.noplace HP.out HQ.out) (by omega) a fl ln)
  have EJ : open3 ++ p ++ bar5 ++ q ++ shut1 = joinB p q := rfl
  have HEJ := Lib.hid EJ
  clear EJ
  rcases (find_plain (p := p) (s := s) (by omega) HP.out.bare HP.out.noplace (by omega) a fl ln) with ⟨hwhy, hc, call⟩ | ⟨hr, hk, hks, hv, hl, call⟩
  · rename_i c
    have HCALL := Lib.hid call
    have t1 : ((c : Int) == 0) = false := by simp; omega
    clear call hwhy
    go_wp2_with (fail)
    refine (HCALL.out w).mono ?_
    rintro e w1 ⟨rfl, hb1⟩
    dsimp only
    have HB1 := Lib.hid hb1
    clear hb1
    go_wp2_with (fail)
    refine (FindA.some FJ.out w1).mono ?_
    rintro e w2 ⟨hb2, sv, c2, rfl⟩
    dsimp only
    have HB2 := Lib.hid (HB1.out.trans (hb2.mono HB1.out.size))
    clear hb2
    go_wp2_with (fail)
    refine (HA.out _).mono ?_
    rintro e w9 ⟨rfl, hb9⟩
    dsimp only
    have HB9 := Lib.hid hb9
    clear hb9
    go_wp2
    go_ret
    exact ⟨rfl, HB2.out.trans (HB9.out.mono HB2.out.size)⟩
  · rename_i fin deep k gs
    subst hk
    have HCALL := Lib.hid call
    have HV := Lib.hid (⟨hr, hks, hv, hl⟩ : readOf p = .ok fin deep ∧ k ≤ s.size ∧ VFound (fin.progX fl ln) s fin.groups (fin.marksX fl ln) k [] (some gs) ∧ gs.length = 2 * fin.groups + 2)
    clear call hr hks hv hl
    go_wp2_with (fail)
    refine (HCALL.out w).mono ?_
    rintro e w1 ⟨hb1, sv, rfl, hrow⟩
    dsimp only
    have HB1 := Lib.hid hb1
    have HROW := Lib.hid hrow
    clear hb1 hrow
    cases hq : readOf q with
    | err kq cq =>
      have HVQ := Lib.hid (fun wx : World => valid_err wx q (by omega) hq)
      clear hq
      go_wp2_with (fail)
      refine (FindA.some FJ.out w1).mono ?_
      rintro e w2 ⟨hb2, sv2, c2, rfl⟩
      dsimp only
      have HB2 := Lib.hid (HB1.out.trans (hb2.mono HB1.out.size))
      clear hb2
      go_wp2_with (fail)
      refine (HVQ.out w2).mono ?_
      rintro e w3 ⟨rfl, hb3⟩
      dsimp only
      have HB3 := Lib.hid (HB2.out.trans (hb3.mono HB2.out.size))
      clear hb3
      go_wp2_with (fail)
      refine (HA.out _).mono ?_
      rintro e w9 ⟨rfl, hb9⟩
      dsimp only
      have HB9 := Lib.hid hb9
      clear hb9
      go_wp2
      go_ret
      exact ⟨rfl, HB3.out.trans (HB9.out.mono HB3.out.size)⟩
    | ok fq dq =>
      have HVQ := Lib.hid (fun wx : World => valid_ok wx q (by omega) hq)
      have HRQ := Lib.hid hq
      clear hq
      rcases FJ.out with ⟨hwhyj, hcj, callj⟩ | ⟨hrj, hkj, hksj, hvj, hlj, callj⟩
      · rename_i cj
        have e4 : cj = 4 := join_why (by omega) (by omega) HP.out HQ.out HV.out.1 HRQ.out HV.out.2.1 HV.out.2.2.1 hwhyj
        subst e4
        have HCJ := Lib.hid callj
        clear callj hwhyj hcj
        go_wp2_with (fail)
        refine (HCJ.out w1).mono ?_
        rintro e w2 ⟨rfl, hb2⟩
        dsimp only
        have HB2 := Lib.hid (HB1.out.trans (hb2.mono HB1.out.size))
        clear hb2
        go_wp2_with (fail)
        refine (HVQ.out w2).mono ?_
        rintro e w3 ⟨rfl, hb3⟩
        dsimp only
        have HB3 := Lib.hid (HB2.out.trans (hb3.mono HB2.out.size))
        clear hb3
        go_wp2_with (fail)
        refine (HA.out _).mono ?_
        rintro e w9 ⟨rfl, hb9⟩
        dsimp only
        have HB9 := Lib.hid hb9
        clear hb9
        go_wp2
        go_ret
        exact ⟨rfl, HB3.out.trans (HB9.out.mono HB3.out.size)⟩
      · rename_i finj deepj kj gsj
        have hkk : k = kj := by omega
        subst hkk
        have hlaw := first_law hJ.out (by omega) HP.out HQ.out HV.out.1 HRQ.out hrj fl ln HV.out.2.2.1 hvj rfl
        have hl := HV.out.2.2.2
        have HCJ := Lib.hid callj
        clear callj hvj hrj hkj hksj
        obtain ⟨gsB, eB, i, hi, hlaw⟩ := hlaw
        cases eB
        have HLAW := Lib.hid hlaw
        have HI := Lib.hid hi
        clear hlaw hi
        go_wp2_with (fail)
        refine (HCJ.out w1).mono ?_
        rintro e w2 ⟨hb2, svj, rfl, hrowj⟩
        dsimp only
        have HB12 := Lib.hid hb2
        have HB2 := Lib.hid (HB1.out.trans (hb2.mono HB1.out.size))
        have HROWJ := Lib.hid hrowj
        clear hb2 hrowj
        go_wp2_with (fail)
        refine (HVQ.out w2).mono ?_
        rintro e w3 ⟨rfl, hb3⟩
        dsimp only
        have HB23 := Lib.hid hb3
        have HB3 := Lib.hid (HB2.out.trans (hb3.mono HB2.out.size))
        clear hb3
        have e1 : gs.length / 2 = fin.groups + 1 := by omega
        have e2 : gsj.length / 2 = finj.groups + 1 := by omega
        have r1 : w3.ownsRow 0 30 2 sv (fin.groups + 1) (gs.map intV) := by
          have h0 := HROW.out
          rw [e1] at h0
          exact ownsRow_mono (ownsRow_agree h0 fun j hj => ((HB23.out.mono HB12.out.size).block j ((h0.lt j hj).2)).trans (HB12.out.block j ((h0.lt j hj).2))) (Nat.zero_le _)
        have r2 : w3.ownsRow 0 30 2 svj (finj.groups + 1) (gsj.map intV) := by
          have h0 := HROWJ.out
          rw [e2] at h0
          exact ownsRow_mono (ownsRow_agree h0 fun j hj => HB23.out.block j ((h0.lt j hj).2)) (Nat.zero_le _)
        obtain ⟨g1, c1, rfl⟩ := ownsRow_succ' r1
        obtain ⟨g2, c2, rfl⟩ := ownsRow_succ' r2
        obtain ⟨N1, hN1⟩ : ∃ N, N = fin.groups + 1 := ⟨_, rfl⟩
        obtain ⟨N2, hN2⟩ : ∃ N, N = finj.groups + 1 := ⟨_, rfl⟩
        rw [← hN1] at r1 ⊢
        rw [← hN2] at r2 ⊢
        clear HROW HROWJ
        obtain ⟨v1, hv1⟩ : ∃ v, gs[1]? = some v := ⟨_, List.getElem?_eq_getElem (by omega)⟩
        obtain ⟨u1, hu1⟩ : ∃ v, gsj[1]? = some v := ⟨_, List.getElem?_eq_getElem (by omega)⟩
        have l1 : g1 < w3.heap.size := (r1.lt g1 rfl).2
        have l2 : g2 < w3.heap.size := (r2.lt g2 rfl).2
        have x0 : w3.cell? ⟨g1, 0, none⟩ = some (.int .i64 (i : Int)) := by
          rw [World.ownsRow.cellAt r1 0 (by omega), List.getElem?_map, HI.out]; rfl
        have x1 : w3.cell? ⟨g1, 1, none⟩ = some (.int .i64 v1) := by
          rw [World.ownsRow.cellAt r1 1 (by omega), List.getElem?_map, hv1]; rfl
        have y1 : w3.cell? ⟨g2, 1, none⟩ = some (.int .i64 u1) := by
          rw [World.ownsRow.cellAt r2 1 (by omega), List.getElem?_map, hu1]; rfl
        have z3 : ((N1 : Int) == 0) = false := by simp; omega
        have z4 : ((N2 : Int) == 0) = false := by simp; omega
        have z5 : (0 : Int) < N1 := by omega
        have z6 : (0 : Int) < N2 := by omega
        have hlaw := HLAW.out
        rw [HI.out, hv1, hu1] at hlaw
        rcases hlaw with ⟨j, hji, hj⟩ | ⟨hj, hu⟩
        · have y0 : w3.cell? ⟨g2, 0, none⟩ = some (.int .i64 (j : Int)) := by
            rw [World.ownsRow.cellAt r2 0 (by omega), List.getElem?_map, hj]; rfl
          have t2 : decide ((j : Int) > (i : Int)) = false := by simp; omega
          have t3 : decide ((j : Int) < (i : Int)) = true := by simp; omega
          have t4 : decide ((i : Int) < (j : Int)) = false := by simp; omega
          have t5 : (j : Int) < (i : Int) := by omega
          clear r1 r2 hv1 hu1 hlen hl e1 e2 hj hN1 hN2
          go_wp2
          go_quiet (fail)
          go_wp2
          refine region_tail 19 (by kernel_rfl) (by kernel_rfl) ?_
          generalize hw4 : World.drew _ = w4
          have a0 : w4.cell? ⟨g1, 0, none⟩ = some (.int .i64 (i : Int)) := by rw [← hw4]; exact x0
          have b0 : w4.cell? ⟨g2, 0, none⟩ = some (.int .i64 (j : Int)) := by rw [← hw4]; exact y0
          have HB4 : Hid (Below w.heap.size w w4) := Lib.hid (by rw [← hw4]; exact ⟨HB3.out.os, HB3.out.tape, HB3.out.output, HB3.out.size, HB3.out.block⟩)
          have z7 : 0 < N1 := by omega
          have z8 : 0 < N2 := by omega
          clear hw4 x0 x1 y0 y1 z3 z4 t2 t4 l1 l2 hlj hs60 hp40 hq40 hJz
          simp only [List.take_succ_cons, List.take_zero, List.drop_succ_cons, List.drop_zero]
          repeat (go_big_quiet_step (fail))
          refine wpQuiet_nil ?_
          go_wp2_with (fail)
          refine (HA.out _).mono ?_
          rintro e w9 ⟨rfl, hb9⟩
          dsimp only
          have HB9 := Lib.hid hb9
          clear hb9
          go_wp2
          go_ret
          exact ⟨rfl, HB4.out.trans (HB9.out.mono HB4.out.size)⟩
        · have y0 : w3.cell? ⟨g2, 0, none⟩ = some (.int .i64 (i : Int)) := by
            rw [World.ownsRow.cellAt r2 0 (by omega), List.getElem?_map, hj]; rfl
          cases hu
          have t2 : decide ((i : Int) > (i : Int)) = false := by simp
          have t3 : decide ((i : Int) < (i : Int)) = false := by simp
          have heq := fun (wx : World) => span_eq (i : Int) v1 wx
          clear r1 r2 hv1 hu1 hlen hl e1 e2 hj hN1 hN2
          go_wp2
          go_quiet (fail)
          go_wp2
          have z7 : 0 < N1 := by omega
          have z8 : 0 < N2 := by omega
          go_region_held3 (fun W => W.cell? ⟨g1, 0, none⟩ = some (.int .i64 (i : Int)) ∧ W.cell? ⟨g1, 1, none⟩ = some (.int .i64 v1) ∧ W.cell? ⟨g2, 0, none⟩ = some (.int .i64 (i : Int)) ∧ W.cell? ⟨g2, 1, none⟩ = some (.int .i64 v1)) (first | exact ⟨x0, x1, y0, y1⟩ | exact ⟨p0, p1, p2, p3⟩) (first | (go_at_call 10; refine (HA.out _).mono ?_; rintro e w9 ⟨rfl, hb9⟩; dsimp only; have p0 := (hb9.cell (p := ⟨g1, 0, none⟩) l1).trans x0; have p1 := (hb9.cell (p := ⟨g1, 1, none⟩) l1).trans x1; have p2 := (hb9.cell (p := ⟨g2, 0, none⟩) l2).trans y0; have p3 := (hb9.cell (p := ⟨g2, 1, none⟩) l2).trans y1; have HB9 := Lib.hid hb9; clear hb9))
          all_goals
            go_wp2
            go_ret
            exact ⟨rfl, HB3.out.trans (Below.mono ⟨HB9.out.os, HB9.out.tape, HB9.out.output, HB9.out.size, HB9.out.block⟩ HB3.out.size)⟩

end Go.Proofs.Ytfgghbideoehjaa

namespace Go.Proofs.Ytfgghbideoehjaa
open Go.ChangeShapes Go.WideShapes Go.ChangeAt Go.RowKit
open Go.ChangeMaps (open_string shut_string)
set_option linter.unusedVariables false

section
variable {H : Type} {enc : TypeId × Value → H} {P : Program} {w : World} {base : Nat} {spare : Nat → Bool} {held : Bool}
theorem trodAll_six {t0 t1 t2 t3 t4 t5 : TypeId} {args : Array Value} {ds : List (DataW H)} {ps : List MemPlace} (h : DataW.TrodAll enc P w base spare held [t0, t1, t2, t3, t4, t5] args.toList ds ps) :
    ∃ v0 v1 v2 v3 v4 v5 d0 d1 d2 d3 d4 d5 p0 p1 p2 p3 p4 p5, args = #[v0, v1, v2, v3, v4, v5] ∧ ds = [d0, d1, d2, d3, d4, d5] ∧ ps = p0 ++ p1 ++ p2 ++ p3 ++ p4 ++ p5 ∧ DataW.Trod enc P w base spare held t0 v0 d0 p0 ∧ DataW.Trod enc P w base spare held t1 v1 d1 p1 ∧ DataW.Trod enc P w base spare held t2 v2 d2 p2 ∧ DataW.Trod enc P w base spare held t3 v3 d3 p3 ∧ DataW.Trod enc P w base spare held t4 v4 d4 p4 ∧ DataW.Trod enc P w base spare held t5 v5 d5 p5 := by
  obtain ⟨v0, vs0, d0, ds0, p0, q0, hargs, rfl, rfl, h0, hr0⟩ := trodAll_cons h
  obtain ⟨v1, vs1, d1, ds1, p1, q1, rfl, rfl, rfl, h1, hr1⟩ := trodAll_cons hr0
  obtain ⟨v2, vs2, d2, ds2, p2, q2, rfl, rfl, rfl, h2, hr2⟩ := trodAll_cons hr1
  obtain ⟨v3, vs3, d3, ds3, p3, q3, rfl, rfl, rfl, h3, hr3⟩ := trodAll_cons hr2
  obtain ⟨v4, vs4, d4, ds4, p4, q4, rfl, rfl, rfl, h4, hr4⟩ := trodAll_cons hr3
  obtain ⟨v5, vs5, d5, ds5, p5, q5, rfl, rfl, rfl, h5, hr5⟩ := trodAll_cons hr4
  obtain ⟨rfl, rfl, rfl⟩ := trodAll_nil hr5
  exact ⟨v0, v1, v2, v3, v4, v5, d0, d1, d2, d3, d4, d5, p0, p1, p2, p3, p4, p5, by cases args; simp_all, rfl, by simp, h0, h1, h2, h3, h4, h5⟩
theorem trodAll_mk6 {t0 t1 t2 t3 t4 t5 : TypeId} {v0 v1 v2 v3 v4 v5 : Value} {d0 d1 d2 d3 d4 d5 : DataW H} {p0 p1 p2 p3 p4 p5 : List MemPlace} (h0 : DataW.Trod enc P w base spare held t0 v0 d0 p0) (h1 : DataW.Trod enc P w base spare held t1 v1 d1 p1) (h2 : DataW.Trod enc P w base spare held t2 v2 d2 p2) (h3 : DataW.Trod enc P w base spare held t3 v3 d3 p3) (h4 : DataW.Trod enc P w base spare held t4 v4 d4 p4) (h5 : DataW.Trod enc P w base spare held t5 v5 d5 p5) :
    DataW.TrodAll enc P w base spare held [t0, t1, t2, t3, t4, t5] [v0, v1, v2, v3, v4, v5] [d0, d1, d2, d3, d4, d5] (p0 ++ (p1 ++ (p2 ++ (p3 ++ (p4 ++ p5))))) :=
  ⟨p0, _, h0, ⟨p1, _, h1, trodAll_mk4 h2 h3 h4 h5, rfl⟩, rfl⟩
end

theorem First.own : ownKnob Try.prog.godebug = none := by kernel_rfl
theorem First.awake_ok : AwakeHolds := fun w => awake_any replace_ex w

set_option maxRecDepth 100000 in
theorem first_lifted (os : Os) (started : os.Started) (H : Type) (enc : TypeId × Value → H) :
    ReturnsInHanded {} Try.checked os 3 .any (Rows.regexFirstSpec.pre6 enc Try.prog Try.f3 Rows.regexFirstRow.domain false) (Rows.regexFirstSpec.post enc Try.prog Try.f3 false true false false) := by
  refine returnsInHanded_of_change (C := Try.checked) First.own started (by kernel_rfl) Try.func3
    (ChangeSpec.witness6 (enc := enc) (C := Try.checked) false ⟨#[], #[.string ⟨#[]⟩, .string ⟨#[]⟩, .string ⟨#[]⟩, .int .i64 0, .bool false, .bool false], []⟩ 8 (by kernel_rfl) (by kernel_rfl) (by kernel_rfl) (by kernel_rfl)) ?_
  intro W base args ds gs before hval0 hW hcnd _
  have hval : ∀ (j : Nat) t v, Try.f3.params[j]? = some t → args[j]? = some v → Value.okWide Try.prog W .any base t v := hval0
  have hW' := hW
  obtain ⟨p, q, hA0, hV, rfl, hfz, hnd⟩ := hW
  have hA : DataW.TrodAll enc Try.prog W 0 (fun _ => true) true Try.f3.params.toList args.toList ds p := hA0
  rw [Try.params3] at hA hval
  obtain ⟨v0, v1, v2, v3, v4, v5, d0, d1, d2, d3, d4, d5, p0, p1, p2, p3, p4, p5, rfl, rfl, rfl, h0, h1, h2, h3, h4, h5⟩ := trodAll_six hA
  obtain ⟨rfl, rfl⟩ := trodVars_none hV
  obtain ⟨s0, rfl, rfl, rfl, z0⟩ := open_string Try.underlying9 (hval 0 9 v0 rfl rfl) h0
  obtain ⟨s1, rfl, rfl, rfl, z1⟩ := open_string Try.underlying9 (hval 1 9 v1 rfl rfl) h1
  obtain ⟨s2, rfl, rfl, rfl, z2⟩ := open_string Try.underlying9 (hval 2 9 v2 rfl rfl) h2
  obtain ⟨a, rfl, rfl, rfl, wa⟩ := open_int Try.underlying3 (hval 3 3 v3 rfl rfl) h3
  obtain ⟨fl, rfl, rfl, rfl⟩ := open_bool Try.underlying4 (hval 4 4 v4 rfl rfl) h4
  obtain ⟨ln, rfl, rfl, rfl⟩ := open_bool Try.underlying4 (hval 5 4 v5 rfl rfl) h5
  clear hA0 hval0
  simp only [List.append_nil] at hW'
  refine (first_any First.awake_ok W s0 s1 s2 a fl ln).mono fun e W' ⟨he, hb⟩ => ?_
  subst he
  exact ⟨_, rfl, _, _, _, [], [], [], hW', trodAll_mk1 (shut_bool Try.underlying4 true), trodAll_mk6 (shut_string Try.underlying9 z0) (shut_string Try.underlying9 z1) (shut_string Try.underlying9 z2) (shut_int Try.underlying3 wa) (shut_bool Try.underlying4 fl) (shut_bool Try.underlying4 ln), rfl, hb.frame _, fun h => by cases h⟩

theorem first_holds : Rows.RegexFirstSaid :=
  OpenClaim.holds_of_wide 3 Try.f3 rfl rfl rfl rfl rfl rfl rfl ⟨rfl, rfl, rfl, rfl, rfl⟩ rfl rfl rfl rfl rfl (by kernel_rfl) Try.func3 (by kernel_rfl)
    (of_decide_eq_true (by kernel_rfl)) (by unfold Func.isWrapper; first | (rw [if_pos (by decide +kernel)]; kernel_rfl) | (rw [if_neg (by decide +kernel)]; exact ⟨rfl, rfl⟩))
    (fun os started H enc _ => first_lifted os started H enc)

#print axioms first_holds

end Go.Proofs.Ytfgghbideoehjaa
