/-
  How many rounds there are: the iterator over rounds is made; The iterator over rounds; The program's Rounds: small laws for its walk; What the program's Rounds keeps while it ranges over the rounds. Conditions: none.
-/
import Derived.Test.YtjibdoofogmkcaaGreatDoorUnbToWr1
import Derived.RangeFuncNested
import Derived.RangeFuncBound
import Derived.RangeFuncCalls
import Derived.RangeFuncLeaves
import Derived.Shelf.Abstract
import Derived.Shelf.RegionOpen
import Derived.OwnWalkIn
import Derived.TacticsInMore
import Derived.LoopNIn
import Derived.LoopIn
set_option linter.unusedVariables false
set_option linter.unusedSimpArgs false
set_option linter.unusedSectionVars false
set_option linter.deprecated false
section
namespace Go.Proofs.YtjibdoofogmkcaaGreatDoor
open Go.ChangeShapes Go.WideShapes Go.ChangeAt Go.RowKit
set_option maxRecDepth 100000
def mst (vs ls : List (List (List UInt8))) (i : Nat) : Nat := ((vs.zip ls).take i).foldl (fun m p => max m ((p.2.length + p.1.length - 1) / p.1.length)) 0
theorem mst_succ {vs ls : List (List (List UInt8))} {i : Nat} {v l : List (List UInt8)} (h1 : vs[i]? = some v) (h2 : ls[i]? = some l) : mst vs ls (i + 1) = max (mst vs ls i) ((l.length + v.length - 1) / v.length) := by
  unfold mst
  have hz : (vs.zip ls)[i]? = some (v, l) := List.getElem?_zip_eq_some.2 ⟨h1, h2⟩
  rw [List.take_succ, hz, List.foldl_append]
  rfl
theorem mst_all {vs ls : List (List (List UInt8))} (h : vs.length = ls.length) : mst vs ls vs.length = most vs ls := by
  unfold mst most
  rw [List.take_of_length_le (by simp; omega)]
theorem mst_int (m x y : Nat) (hx : 1 ≤ x) : max (m : Int) (((y : Int) + (x : Int) - 1) / (x : Int)) = ((max m ((y + x - 1) / x) : Nat) : Int) := by
  have h : (y : Int) + (x : Int) - 1 = ((y + x - 1 : Nat) : Int) := by omega
  rw [h, ← Int.natCast_ediv]
  omega
set_option maxHeartbeats 2000000 in
theorem mk_rounds (w : World) (u v : Value) (vs ls : List (List (List UInt8))) (hu : Rows2 w u vs) (hv : Rows2 w v ls) (hl : vs.length = ls.length) (hl2 : vs.length ≤ 1000) (hne : ∀ x ∈ vs, 1 ≤ x.length) (hv1 : ∀ x ∈ vs, x.length ≤ 1000) (hv2 : ∀ x ∈ ls, x.length ≤ 1000) :
    Calls Tryz.prog 18 #[u, v] w fun e w' => e = .returned (.func (.func 29) #[] #[.pointer (some ⟨w.heap.size + 2, 0, none⟩), .pointer (some ⟨w.heap.size + 1, 0, none⟩), .pointer (some ⟨w.heap.size, 0, none⟩)]) ∧
      Boxed w' w.heap.size 28 u ∧ Boxed w' (w.heap.size + 1) 28 v ∧ Boxed w' (w.heap.size + 2) 3 (.int .i64 (most vs ls : Int)) ∧ Below w.heap.size w w' := by
  have hmf : ∀ (fn : Fn) (first cap : Array Value) (w : World), (Instr.makeFunc fn first cap).run Tryz.prog w = .ok (.func fn first cap) w := fun _ _ _ _ => rfl
  obtain ⟨a, c, rfl, ha⟩ := hu
  obtain ⟨b, d, rfl, hb⟩ := hv
  have HA := Lib.hid ha
  have HB := Lib.hid hb
  have HL := Lib.hid hl
  obtain ⟨A1, hA1, sA1, n1, o1, b1⟩ := alloc_pack w #[.slice a vs.length c] 28
  obtain ⟨A2, hA2, sA2, n2, o2, b2⟩ := alloc_pack A1 #[.slice b ls.length d] 28
  obtain ⟨A3, hA3, sA3, n3, o3, b3⟩ := alloc_pack A2 #[.int .i64 0] 3
  have hS : Boxed A3 w.heap.size 28 (.slice a vs.length c) ∧ Boxed A3 (w.heap.size + 1) 28 (.slice b ls.length d) ∧ Boxed A3 (w.heap.size + 2) 3 (.int .i64 0) ∧ Below w.heap.size w A3 :=
    ⟨by show A3.heap[_]? = _; rw [o3 _ (by omega), o2 _ (by omega)]; exact n1, by show A3.heap[_]? = _; rw [o3 _ (by omega), ← sA1]; exact n2, by show A3.heap[_]? = _; rw [show w.heap.size + 2 = A2.heap.size by omega]; exact n3, (b1.trans (b2.mono (by omega))).trans (b3.mono (by omega))⟩
  have HS := Lib.hid hS
  have HA1 := Lib.hid hA1
  have HA2 := Lib.hid hA2
  have HA3 := Lib.hid hA3
  have kk := hS.2.1.cell
  clear hA1 sA1 n1 o1 b1 hA2 sA2 n2 o2 b2 hA3 sA3 n3 o3 b3 hS ha hb hl
  go_enter Tryz.func18, Tryz.ntmps18
  go_wp2
  rw [HA1.out, HA2.out, HA3.out]
  go_loopg [11] ls.length (fun k iv wr => ∃ i : Nat, iv = .int .i64 (i : Int) ∧ k = ls.length - i ∧ i ≤ ls.length ∧ mst vs ls i ≤ 2000 ∧ Boxed wr w.heap.size 28 (.slice a vs.length c) ∧ Boxed wr (w.heap.size + 1) 28 (.slice b ls.length d) ∧ Boxed wr (w.heap.size + 2) 3 (.int .i64 (mst vs ls i : Int)) ∧ Below w.heap.size w wr)
  case atStart => exact ⟨0, rfl, rfl, by omega, by simp [mst], HS.out.1, HS.out.2.1, by simpa [mst] using HS.out.2.2.1, HS.out.2.2.2⟩
  case round =>
    obtain ⟨i, rfl, hk, hi, hm, hb1, hb2, hb3, hbel⟩ := hrel
    have HK := Lib.hid hk
    have H1 := Lib.hid hb1
    have H2 := Lib.hid hb2
    have H3 := Lib.hid hb3
    have HBEL := Lib.hid hbel
    have k1 := hb1.cell
    have k2 := hb3.cell
    have k3 := hb3.frozen
    have kk2 := hb2.cell
    clear hk hb1 hb2 hb3
    by_cases hlt : i < ls.length
    · have t1 : (i : Int) < (ls.length : Int) := by omega
      obtain ⟨y, hy⟩ : ∃ y, ls[i]? = some y := ⟨_, List.getElem?_eq_getElem hlt⟩
      obtain ⟨x, hx⟩ : ∃ x, vs[i]? = some x := ⟨_, List.getElem?_eq_getElem (by have := HL.out; omega)⟩
      obtain ⟨p, ux, rfl, hpx, hox⟩ := HA.out i x hx
      obtain ⟨q, uy, rfl, hqy, hoy⟩ := HB.out i y hy
      obtain ⟨xa, xc, rfl⟩ := ownsRow_form hox
      obtain ⟨ya, yc, rfl⟩ := ownsRow_form hoy
      have c1 := cell_later hpx hbel
      have c2 := cell_later hqy hbel
      have hx1 := hne x (List.mem_of_getElem? hx)
      have hx2 := hv1 x (List.mem_of_getElem? hx)
      have hy2 := hv2 y (List.mem_of_getElem? hy)
      have hms := mst_succ hx hy
      have HMS := Lib.hid hms
      clear hx hy hpx hqy hox hoy hbel hms
      have t2 : (i : Int) < (vs.length : Int) := by have := HL.out; omega
      have t3 : ¬ (x.length : Int) = 0 := by omega
      have t4 : i < vs.length := by have := HL.out; omega
      go_wp2
      go_region
      go_wp2
      go_roundg (ls.length - (i + 1))
      case measure => rw [HK.out]; omega
      case rel =>
        have hq := mst_int (mst vs ls i) x.length y.length hx1
        have hq2 : (y.length + x.length - 1) / x.length ≤ y.length + x.length - 1 := Nat.div_le_self _ _
        rw [← HMS.out] at hq
        refine ⟨i + 1, by go_num, rfl, by omega, by rw [HMS.out]; omega, ?_, ?_, ?_, (HBEL.out.setCell (p := ⟨w.heap.size + 1 + 1, 0, none⟩) (by simp; omega) _).drew⟩
        · exact H1.out.other (by omega) _
        · exact H2.out.other (by omega) _
        · rw [hq]; exact H3.out.set _
    · have t1 : ¬ (i : Int) < (ls.length : Int) := by omega
      have hil : i = ls.length := by omega
      have hm2 : mst vs ls i = most vs ls := by rw [hil, ← HL.out]; exact mst_all HL.out
      have HM := Lib.hid hm2
      clear hm2 hil hbel
      go_wp2
      go_ret
      exact ⟨rfl, H1.out, H2.out, by rw [← HM.out]; exact H3.out, HBEL.out⟩
end Go.Proofs.YtjibdoofogmkcaaGreatDoor
end
section
namespace Go.Proofs.YtjibdoofogmkcaaGreatDoor
open Go.RowKit Go.Shelf
open Go.ChangeShapes Go.WideShapes Go.ChangeAt
attribute [local go_sem] Oper.semAt_some
set_option maxRecDepth 100000
def rowUp (k : Nat) (vs ls : List (List (List UInt8))) (i : Nat) : List (List UInt8) := ((vs.zip ls).take i).flatMap fun p => rowOf k p.1 p.2
theorem rowOf_len (k : Nat) (v l : List (List UInt8)) : (rowOf k v l).length = v.length := by simp [rowOf]
theorem rowUp_succ {k : Nat} {vs ls : List (List (List UInt8))} {i : Nat} {v l : List (List UInt8)} (h1 : vs[i]? = some v) (h2 : ls[i]? = some l) : rowUp k vs ls (i + 1) = rowUp k vs ls i ++ rowOf k v l := by
  unfold rowUp
  have hz : (vs.zip ls)[i]? = some (v, l) := List.getElem?_zip_eq_some.2 ⟨h1, h2⟩
  rw [List.take_succ, hz, List.flatMap_append]
  simp
theorem rowUp_all {k : Nat} {vs ls : List (List (List UInt8))} (h : vs.length = ls.length) : rowUp k vs ls ls.length = rowAll k vs ls := by
  unfold rowUp rowAll
  rw [List.take_of_length_le (by simp; omega)]
theorem rowUp_len {k : Nat} {vs ls : List (List (List UInt8))} (hv : ∀ x ∈ vs, x.length ≤ 1000) : ∀ i, (rowUp k vs ls i).length ≤ i * 1000 := by
  intro i
  induction i with
  | zero => simp [rowUp]
  | succ i ih =>
    cases h : (vs.zip ls)[i]? with
    | none =>
      have : rowUp k vs ls (i + 1) = rowUp k vs ls i := by
        unfold rowUp
        rw [List.take_succ, h]; simp
      rw [this]; omega
    | some p =>
      obtain ⟨h1, h2⟩ := List.getElem?_zip_eq_some.1 h
      rw [rowUp_succ h1 h2, List.length_append, rowOf_len]
      have := hv _ (List.mem_of_getElem? h1)
      omega
theorem rowOf_take {k : Nat} {v l : List (List UInt8)} {j : Nat} (h : j < v.length) : (rowOf k v l).take (j + 1) = (rowOf k v l).take j ++ [(l[k * v.length + j]?).getD []] := by
  rw [List.take_succ]
  congr 1
  unfold rowOf
  rw [List.getElem?_map, List.getElem?_range h]
  rfl
set_option maxHeartbeats 8000000 in
theorem rounds_all (n : Nat) (hn : 1 ≤ n) (u v : Value) (vs ls : List (List (List UInt8))) (hlen : vs.length = ls.length) (hl2 : vs.length ≤ 1000) (hv1 : ∀ x ∈ vs, x.length ≤ 1000) (hv2 : ∀ x ∈ ls, x.length ≤ 1000) (M : Nat) (hM : M ≤ 2000)
    (J : Nat → World → Prop) (l Bm Bl Bn : Nat)
    (hJM : ∀ k W, J k W → Boxed W Bn 28 u ∧ Boxed W Bl 28 v ∧ Boxed W Bm 3 (.int .i64 (M : Int)) ∧ Rows2 W u vs ∧ Rows2 W v ls)
    (hJB : ∀ k W W', J k W → Below W.heap.size W W' → J k W')
    (hY : ∀ k W sv, J k W → k < M → OwnTx W 0 sv (rowAll k vs ls) → YieldAt Fence.wide (n - 1) Tryz.prog l #[sv] W fun e W' => e = .returned (.bool true) ∧ J (k + 1) W')
    (W : World) (h0 : J 0 W) : CallsIn Fence.wide n Tryz.prog 29 #[.func (.yield l) #[] #[], .pointer (some ⟨Bm, 0, none⟩), .pointer (some ⟨Bl, 0, none⟩), .pointer (some ⟨Bn, 0, none⟩)] W fun e W' => (∃ v, e = .returned v) ∧ J M W' := by
  have HJM := Lib.hid hJM
  have HJB := Lib.hid hJB
  have HY := Lib.hid hY
  have HL := Lib.hid hlen
  have H0 := Lib.hid h0
  have HV1 := Lib.hid hv1
  have HV2 := Lib.hid hv2
  obtain ⟨i0, hi, hz0, hz1, hz2⟩ := info_parts info9
  have k0 := (hJM 0 W h0).2.2.1.cell
  clear hJM hJB hY hlen h0 hv1 hv2
  refine callsIn_of_wp Tryz.func29 rfl trivial ?_ rfl
  simp only [Tryz.ntmps29, List.size_toArray, List.length_cons, List.length_nil, Nat.reduceAdd, Nat.reduceSub, Array.replicate_succ, Array.replicate_zero, List.push_toArray, List.append_toArray, List.nil_append, List.cons_append]
  gi_wp2
  gi_loopw [13] (fun kv wr => ∃ k : Nat, kv = .int .i64 (k : Int) ∧ k ≤ M ∧ J k wr) (fun kv wr => M - (intOf kv).toNat)
  case atStart => exact ⟨0, rfl, by omega, H0.out⟩
  case round =>
    obtain ⟨k, rfl, hk, hJ⟩ := hrel
    rename World => w0
    obtain ⟨hb1, hb2, hb3, hr1, hr2⟩ := HJM.out k _ hJ
    have HJ := Lib.hid hJ
    by_cases hlt : k < M
    · have t1 : (k : Int) < (M : Int) := by omega
      obtain ⟨a, c, rfl, ha⟩ := hr1
      obtain ⟨b, d, rfl, hbb⟩ := hr2
      have HA := Lib.hid ha
      have HB := Lib.hid hbb
      have H1 := Lib.hid hb1
      have H2 := Lib.hid hb2
      have c2 := hb2.cell
      clear hJ hb1 hb2 hb3 ha hbb
      gi_wp2
      gi_loopw [6, 18] (fun ov iv wq => ∃ i : Nat, iv = .int .i64 (i : Int) ∧ i ≤ ls.length ∧ OwnTx wq w0.heap.size ov (rowUp k vs ls i) ∧ Below w0.heap.size w0 wq) (fun ov iv wq => ls.length - (intOf iv).toNat)
      case atStart => exact ⟨0, rfl, by omega, OwnTx.nil _ _, Below.refl _ _⟩
      case round =>
        obtain ⟨i, rfl, hi2, hown, hbel⟩ := hrel
        rename World => w1
        have HO := Lib.hid hown
        have HBEL := Lib.hid hbel
        by_cases hli : i < ls.length
        · have t2 : (i : Int) < (ls.length : Int) := by omega
          obtain ⟨y, hy⟩ : ∃ y, ls[i]? = some y := ⟨_, List.getElem?_eq_getElem hli⟩
          obtain ⟨x, hx⟩ : ∃ x, vs[i]? = some x := ⟨_, List.getElem?_eq_getElem (by have := HL.out; omega)⟩
          obtain ⟨p, ux, rfl, hpx, hox⟩ := HA.out i x hx
          obtain ⟨q, uy, rfl, hqy, hoy⟩ := HB.out i y hy
          obtain ⟨xa, xc, rfl⟩ := ownsRow_form hox
          have hys := hoy.str
          obtain ⟨ya, yc, rfl, hyc⟩ := hys.form
          have c3 := cell_later hqy hbel
          have c4 := cell_later hpx hbel
          have c5 := cell_later H1.out.cell hbel
          have t3 : (i : Int) < (vs.length : Int) := by have := HL.out; omega
          have t4 : i < vs.length := by have := HL.out; omega
          have hx2 := HV1.out x (List.mem_of_getElem? hx)
          have HX := Lib.hid hx
          have HYY := Lib.hid hy
          have HPX := Lib.hid hpx
          have HYC := Lib.hid hyc
          have hrl := rowUp_len (k := k) (ls := ls) HV1.out i
          clear hx hy hpx hox hqy hoy hyc hbel hown hys
          gi_wp2
          gi_loopw [6, 28] (fun ov jv wz => ∃ j : Nat, jv = .int .i64 (j : Int) ∧ j ≤ x.length ∧ OwnTx wz w0.heap.size ov (rowUp k vs ls i ++ (rowOf k x y).take j) ∧ Below w0.heap.size w0 wz) (fun ov jv wz => x.length - (intOf jv).toNat)
          case atStart => exact ⟨0, rfl, by omega, by simpa using HO.out, HBEL.out⟩
          case round =>
            obtain ⟨j, rfl, hj, hown2, hbel2⟩ := hrel
            have HO2 := Lib.hid hown2
            have HBEL2 := Lib.hid hbel2
            have hsz2 := hbel2.size
            by_cases hlj : j < x.length
            · have t5 : (j : Int) < (x.length : Int) := by omega
              have d4 := cell_later HPX.out hbel2
              have d5 := cell_later H1.out.cell hbel2
              have hmx : k * x.length ≤ 2000 * 1000 := Nat.mul_le_mul (by omega) hx2
              obtain ⟨N, hN⟩ : ∃ N, N = k * x.length + j := ⟨_, rfl⟩
              have hNi : (k : Int) * (x.length : Int) + (j : Int) = (N : Int) := by rw [hN, Int.natCast_add, Int.natCast_mul]
              have hm0 : (0 : Int) ≤ (k : Int) * (x.length : Int) := by rw [← Int.natCast_mul]; omega
              have hm1 : (k : Int) * (x.length : Int) ≤ 2000000 := by rw [← Int.natCast_mul]; omega
              have hol : (rowUp k vs ls i ++ (rowOf k x y).take j).length ≤ 1001000 := by
                rw [List.length_append, List.length_take]; omega
              have htk := rowOf_take (k := k) (l := y) hlj
              rw [← hN] at htk
              have HTK := Lib.hid htk
              clear hown2 hN htk hmx hrl hbel2
              by_cases hNy : N < y.length
              · have t6 : (N : Int) < (y.length : Int) := by omega
                obtain ⟨z, hz⟩ : ∃ z, y[N]? = some z := ⟨_, List.getElem?_eq_getElem hNy⟩
                obtain ⟨r, rfl, hrc⟩ := HYC.out N z hz
                have d6 := cell_later hrc HBEL2.out
                unfold strV at d6
                have HZ := Lib.hid hz
                clear hrc hz
                gi_wp2_with (gi_at_builtin; refine wpListIn_append_own _ rfl _ _ 22 rfl w0.heap.size 9 i0 (.string ⟨#[]⟩) 1 16 Tryz.underlying22 hi hz0 hz1 hz2 rfl (by decide) _ _ _ rfl (HO2.out.alloc _) ⟨wr.heap.size, 0, none⟩ 1 1 [.string ⟨z.toArray⟩] rfl rfl (cell_one_new _ _ _) (by simp [Value.oneCell']) (by simp only [maxLen]; omega) (by omega) (by simp; omega) ?_; intro v' w3 o g _; have HO3 := Lib.hid (OwnTx.snoc o); have HB3 := Lib.hid (((Below.refl w0.heap.size wr).alloc hsz2 _).grown g (by simp; omega) (fun k hk => (HO2.out.lt k hk).1)); clear o g)
                go_roundw
                case rel => exact ⟨j + 1, by go_num, by omega, by rw [HTK.out, HZ.out, ← List.append_assoc]; exact HO3.out, HBEL2.out.trans HB3.out⟩
                case measure => simp [intOf]; omega
              · have t6 : ¬ (N : Int) < (y.length : Int) := by omega
                have HZ := Lib.hid (show y[N]? = none from List.getElem?_eq_none (by omega))
                gi_wp2_with (gi_at_builtin; refine wpListIn_append_own _ rfl _ _ 22 rfl w0.heap.size 9 i0 (.string ⟨#[]⟩) 1 16 Tryz.underlying22 hi hz0 hz1 hz2 rfl (by decide) _ _ _ rfl (HO2.out.alloc _) ⟨wr.heap.size, 0, none⟩ 1 1 [.string ⟨#[]⟩] rfl rfl (cell_one_new _ _ _) (by simp [Value.oneCell']) (by simp only [maxLen]; omega) (by omega) (by simp; omega) ?_; intro v' w3 o g _; have HO3 := Lib.hid (OwnTx.snoc (x := []) o); have HB3 := Lib.hid (((Below.refl w0.heap.size wr).alloc hsz2 _).grown g (by simp; omega) (fun k hk => (HO2.out.lt k hk).1)); clear o g)
                go_roundw
                case rel => exact ⟨j + 1, by go_num, by omega, by rw [HTK.out, HZ.out, ← List.append_assoc]; exact HO3.out, HBEL2.out.trans HB3.out⟩
                case measure => simp [intOf]; omega
            · have t5 : ¬ (j : Int) < (x.length : Int) := by omega
              have hall : rowUp k vs ls i ++ (rowOf k x y).take j = rowUp k vs ls (i + 1) := by
                rw [List.take_of_length_le (by rw [rowOf_len]; omega), rowUp_succ HX.out HYY.out]
              rw [hall] at hown2
              have HO3 := Lib.hid hown2
              clear hown2 hall hbel2
              gi_wp2
              go_roundw
              case rel => exact ⟨i + 1, by go_num, by omega, HO3.out, HBEL2.out⟩
              case measure => simp [intOf]; omega
        · have t2 : ¬ (i : Int) < (ls.length : Int) := by omega
          have hil : i = ls.length := by omega
          rw [hil, rowUp_all HL.out] at hown
          obtain ⟨fn, tmps, assign, body, hy, hR⟩ := HY.out k w1 _ (HJB.out k _ _ HJ.out hbel) hlt (ownsRow_mono hown (Nat.zero_le _))
          have HRR := Lib.hid hR
          clear hR hbel
          gi_wp2
          refine HRR.out.mono ?_
          rintro e W3 ⟨rfl, hJ3⟩
          dsimp only
          have HJ3 := Lib.hid hJ3
          clear hJ3
          gi_wp2
          go_roundw
          case rel => exact ⟨k + 1, by go_num, by omega, HJ3.out⟩
          case measure => simp [intOf]; omega
    · have t1 : ¬ (k : Int) < (M : Int) := by omega
      have hkM : k = M := by omega
      rw [hkM] at HJ
      clear hJ hb1 hb2 hb3 hr1 hr2
      gi_wp2
      refine bodyPost_end (results_none rfl _ _ _) rfl ?_
      exact ⟨⟨_, rfl⟩, HJ.out⟩
end Go.Proofs.YtjibdoofogmkcaaGreatDoor
end
section
namespace Go.Proofs.YtjibdoofogmkcaaGreatDoor
open Go.RowKit Go.Shelf
open Go.ChangeShapes Go.WideShapes Go.ChangeAt
set_option maxRecDepth 100000
abbrev recOf (fn : FuncId) (tmps : Array Value) (ps : Array Tmp) (assign body : Code) (D : Nat) (st : LoopState) (pe : Option Code) : Loop := { state := st, pending := pe, fn, tmps, params := ps, assign, body, defers := D }
set_option maxHeartbeats 1000000 in
theorem range_enter {F : Fence} {n : Nat} {P : Program} {g : Operand} {ps : Array Tmp} {assign body : Code} {Q : Exit → Act → World → Prop} {a : Act} {w : World}
    (hro : F.round = none) (h1 : 1 ≤ n) {gf : Nat} {lb : Array Value} (hg : a.eval g = .func (.func gf) #[] lb) (hFg : F.fn gf) (eg : ∀ args w, (callFunc gf args).run P w = .ok (.enter gf args) w)
    (h : ∀ (fn : FuncId), F.fn fn → CallsIn F (n - 1) P gf (#[.func (.yield (w.heap.size + 1)) #[] #[]] ++ lb) ((w.alloc (.deferred (some []))).alloc (.loop (recOf fn a.tmps ps assign body w.heap.size .ready none)))
      (rangePost F n P (w.heap.size + 1) Q { a with defers := [{ target := .collected w.heap.size, args := #[] }] ++ a.defers })) :
    (Code.rangeFunc g ps assign body).wpIn F n P Q a w := by
  refine wpIn_rangeFunc ?_
  intro fn hfn
  rw [hro]
  obtain ⟨rec, hrec⟩ : ∃ rec : Loop, rec = recOf fn a.tmps ps assign body w.heap.size .ready none := ⟨_, rfl⟩
  have hc := h fn hfn
  rw [← hrec] at hc
  obtain ⟨W1, hW1⟩ : ∃ W1, (w.alloc (.deferred (some []))).alloc (.loop rec) = W1 := ⟨_, rfl⟩
  rw [hW1] at hc
  clear h
  refine ⟨w.heap.size + 1, [{ target := .collected w.heap.size, args := #[] }], W1, { target := .fn (.func gf) lb, args := #[.func (.yield (w.heap.size + 1)) #[] #[]] }, W1, gf,
    #[.func (.yield (w.heap.size + 1)) #[] #[]] ++ lb, W1, ?_, ?_, ?_, ?_, fun _ => h1, ?_⟩
  · clear hc
    rw [← hW1, hrec]; exact run_enterLoop_outer _ _ _ _ _
  · clear hc
    simp only [resolve, hg]
    simp [go_sem]
  · clear hc
    intro f' hf'; simp [Target.leads] at hf'; subst hf'; exact hFg
  · clear hc
    simp [invoke, go_sem, eg]
  · exact hc
theorem range_round {F : Fence} {m : Nat} {P : Program} {fn : FuncId} {tmps : Array Value} {ps : Array Tmp} {assign body : Code} {D l : Nat} {v : Value} {W : World} {R : World → Prop} {a₁ : Act} (hps : ps.size = 1)
    (hfn : F.fn fn) (hl : W.heap[l]? = some (.loop (recOf fn tmps ps assign body D .ready none)))
    (hassign : ∀ (K : Act → World → Prop), K a₁ W → assign.wpIn (F.inRound l) m P (Exit.then K (fun _ _ _ => False)) { tmps := (ps.zip #[v]).foldl (fun t (p, v) => t.setIfInBounds p v) tmps, defers := [] } W)
    (hbody : body.wpIn (F.inRound l) m P (fun e _ W3 => e = .normal ∧ W3.heap[l]? = some (.loop (recOf fn tmps ps assign body D .busy none)) ∧ R (W3.putObj l (.loop (recOf fn tmps ps assign body D .ready none)))) a₁ (W.putObj l (.loop (recOf fn tmps ps assign body D .busy none)))) :
    YieldAt F m P l #[v] W fun e W' => e = .returned (.bool true) ∧ R W' := by
  have hy := run_yield (P := P) (args := #[v]) hl (by simp [hps])
  refine ⟨fn, _, assign, body, hy, roundIn_of_wpIn hfn (hassign _ ⟨_, run_beginRound hl rfl, ?_⟩)⟩
  refine wpIn_mono hbody ?_
  rintro e a3 W3 ⟨rfl, hl3, hR⟩
  exact ⟨_, _, run_endRound (P := P) none hl3, rfl, hR⟩
theorem split_ok {x : List UInt8} {xs : List (List UInt8)} (hs : x.length ≤ 1000) (h : spl x = some xs) (n : Nat) (w : World) :
    CallsIn Fence.wide n Tryz.prog 17 #[.string ⟨x.toArray⟩] w fun e w' => ∃ a c, e = .returned (.tuple #[.slice a xs.length c, .int .i64 0, .int .i64 0]) ∧ OwnTx w' w.heap.size (.slice a xs.length c) xs ∧ Below w.heap.size w w' :=
  callsIn_wide.2 (split_some (s := ⟨x.toArray⟩) (by simpa [ByteArray.size] using hs) (by simpa [L] using h) w)
theorem split_bad {x : List UInt8} (hs : x.length ≤ 1000) (h : spl x = none) (n : Nat) (w : World) :
    CallsIn Fence.wide n Tryz.prog 17 #[.string ⟨x.toArray⟩] w fun e w' => ∃ k : Int, e = .returned (.tuple #[.slice none 0 0, .int .i64 k, .int .i64 2]) ∧ Below w.heap.size w w' :=
  callsIn_wide.2 (split_none (s := ⟨x.toArray⟩) (by simpa [ByteArray.size] using hs) (by simpa [L] using h) w)
theorem OwnRows.app {W W2 : World} {m : Nat} {u u' v x : Value} {vs ls : List (List (List UInt8))} {us : List Value} {l : List (List UInt8)} {tmp : Obj} (h1 : W.ownsRow m 22 1 u vs.length us) (h2 : ∀ (i : Nat) (l : List (List UInt8)), vs[i]? = some l → ∃ u, us[i]? = some u ∧ OwnTx W 0 u l)
    (hv : OwnRows W m v ls) (ha : Apart u v) (hx : OwnTx W 0 x l) (hm : m ≤ W.heap.size) (o : W2.ownsRow m 22 1 u' (vs.length + 1) (us ++ [x])) (g : (W.alloc tmp).grownBy W2 u.ownBlock) (n : SameOrNew (W.alloc tmp) u u') :
    OwnRows W2 m u' (vs ++ [l]) ∧ OwnRows W2 m v ls ∧ Apart u' v ∧ (∀ y t, OwnTx W 0 y t → OwnTx W2 0 y t) ∧ Below m W W2 := by
  have keep : ∀ y t, OwnTx W 0 y t → OwnTx W2 0 y t := fun y t hy => by
    refine ownsRow_agree hy fun k hk => ?_
    have hlt := (hy.lt k hk).2
    rw [g.block k (by simp; omega) (fun e => apart_types h1 hy (by decide) k e.symm hk), heap_alloc_old W _ hlt]
  obtain ⟨vu, hv1, hv2⟩ := hv
  obtain ⟨k1, k2⟩ := row_apart hv1 ha (by simp) (fun k hk => heap_alloc_old _ _ hk) g n
  refine ⟨OwnRows.snoc h1 h2 (ownsRow_len h1) hx o g, ⟨vu, k1, fun i t hi => ?_⟩, k2, keep, ((Below.refl m W).alloc hm _).grown g (by simp; omega) (fun k hk => (h1.lt k hk).1)⟩
  obtain ⟨z, h3, h4⟩ := hv2 i t hi
  exact ⟨z, h3, keep _ _ h4⟩
theorem RI.later {w W W' : World} {names lists : List (List UInt8)} {i : Nat} {u v : Value} {vs ls : List (List (List UInt8))} (h : RI w names lists i u v vs ls W) (hb : Below W.heap.size W W') : RI w names lists i u v vs ls W' :=
  ⟨h.hi, h.hv, h.hl, h.en, h.el, h.ru.later hb, h.rv.later hb, h.ap, h.bel.trans (hb.mono h.bel.size)⟩
theorem splAll_bad {l : List (List UInt8)} {i : Nat} {t : List UInt8} (h : l[i]? = some t) (hs : spl t = none) (pre : List (List (List UInt8))) (e : splAll l = (splAll (l.drop i)).map (pre ++ ·)) : splAll l = none := by
  rw [e, splAll_drop h, hs]; rfl
theorem rnd_bad1 {names lists : List (List UInt8)} (hl : names.length = lists.length) (h0 : ¬ names.length = 0) (h : splAll names = none) : rnd names lists = .error 2 := by
  unfold rnd; rw [if_neg (by omega), h]
theorem rnd_bad2 {names lists : List (List UInt8)} (hl : names.length = lists.length) (h0 : ¬ names.length = 0) (h : splAll lists = none) : rnd names lists = .error 2 := by
  unfold rnd; rw [if_neg (by omega), h]; cases splAll names <;> rfl
theorem RI.bad1 {w W : World} {names lists : List (List UInt8)} {i : Nat} {u v : Value} {vs ls : List (List (List UInt8))} (h : RI w names lists i u v vs ls W) (hl : names.length = lists.length) {x : List UInt8} (hx : names[i]? = some x) (hs : spl x = none) (h0 : ¬ names.length = 0) : rnd names lists = .error 2 :=
  rnd_bad1 hl h0 (splAll_bad hx hs _ h.en)
theorem RI.bad2 {w W : World} {names lists : List (List UInt8)} {i : Nat} {u v : Value} {vs ls : List (List (List UInt8))} (h : RI w names lists i u v vs ls W) (hl : names.length = lists.length) {x y : List UInt8} (hx : names[i]? = some x) (hy : lists[i]? = some y) {xs : List (List UInt8)} (_ : spl x = some xs) (hs : spl y = none) (h0 : ¬ names.length = 0) : rnd names lists = .error 2 :=
  rnd_bad2 hl h0 (splAll_bad hy hs _ h.el)
theorem splAll_good {l : List (List UInt8)} {i : Nat} {t : List UInt8} {x : List (List UInt8)} (h : l[i]? = some t) (hs : spl t = some x) (pre : List (List (List UInt8))) (e : splAll l = (splAll (l.drop i)).map (pre ++ ·)) : splAll l = (splAll (l.drop (i + 1))).map ((pre ++ [x]) ++ ·) := by
  rw [e, splAll_drop h, hs]
  cases splAll (l.drop (i + 1)) <;> simp
theorem RI.next {w W W' : World} {names lists : List (List UInt8)} {i : Nat} {u v u' v' : Value} {vs ls : List (List (List UInt8))} (h : RI w names lists i u v vs ls W) {x y : List UInt8} {xs ys : List (List UInt8)} (hx : names[i]? = some x) (hsx : spl x = some xs) (hy : lists[i]? = some y) (hsy : spl y = some ys)
    (h1 : OwnRows W' w.heap.size u' (vs ++ [xs])) (h2 : OwnRows W' w.heap.size v' (ls ++ [ys])) (ha : Apart u' v') (hb : Below w.heap.size W W') : RI w names lists (i + 1) u' v' (vs ++ [xs]) (ls ++ [ys]) W' :=
  ⟨by have := (List.getElem?_eq_some_iff.1 hx).1; omega, by simp [h.hv], by simp [h.hl], splAll_good hx hsx vs h.en, splAll_good hy hsy ls h.el, h1, h2, ha, h.bel.trans hb⟩
end Go.Proofs.YtjibdoofogmkcaaGreatDoor
end
section
namespace Go.Proofs.YtjibdoofogmkcaaGreatDoor
open Go.RowKit Go.Shelf
open Go.ChangeShapes Go.WideShapes Go.ChangeAt
theorem ownsRow_keep {w w' : World} {base e size : Nat} {v : Value} {n : Nat} {xs : List Value} (h : w.ownsRow base e size v n xs) (hk : ∀ k c, v.ownBlock = some k → w.heap[k]? = some (.cells c e (0, 0)) → w'.heap[k]? = w.heap[k]?) : w'.ownsRow base e size v n xs :=
  ownsRow_agree h fun j hj => by obtain ⟨c, hc⟩ := ownsRow_blk h hj; exact hk j c hj hc
structure RJ (W1 : World) (Bo : Nat) (rec : Loop) (f : Nat → List (List UInt8)) (k : Nat) (W : World) : Prop where
  os : Below 0 W1 W
  oth : ∀ j, j < W1.heap.size → j ≠ Bo → W.heap[j]? = W1.heap[j]?
  rec' : W.heap[W1.heap.size + 1]? = some (.loop rec)
  dfr : W.heap[W1.heap.size]? = some (.deferred (some []))
  box : ∃ v vs, W.heap[Bo]? = some (.cells #[v] 28 (0, 0)) ∧ W.ownsRow W1.heap.size 22 1 v k vs ∧ ∀ i, i < k → ∃ u, vs[i]? = some u ∧ OwnTx W 0 u (f i)
theorem RJ.next {W1 : World} {Bo : Nat} {rec : Loop} {f : Nat → List (List UInt8)} {k : Nat} {W W' : World} (h : RJ W1 Bo rec f k W) (hb : Below W.heap.size W W') : RJ W1 Bo rec f k W' := by
  have key : ∀ {j : Nat} {o : Obj}, W.heap[j]? = some o → W'.heap[j]? = some o := fun {j o} hj => (hb.block j (Array.getElem?_eq_some_iff.1 hj).1).trans hj
  obtain ⟨v, vs, h1, h2, h3⟩ := h.box
  exact {
    os := h.os.trans (hb.mono (Nat.zero_le _))
    oth := fun j hj hn => (hb.block j (Nat.lt_of_lt_of_le hj h.os.size)).trans (h.oth j hj hn)
    rec' := key h.rec'
    dfr := key h.dfr
    box := ⟨v, vs, key h1, ownsRow_below h2 hb, fun i hi => by obtain ⟨u, h4, h5⟩ := h3 i hi; exact ⟨u, h4, h5.later hb⟩⟩ }
theorem RJ.step {W1 : World} {Bo : Nat} {rec busy : Loop} {f : Nat → List (List UInt8)} {k : Nat} {W w3 : World} {v v' sv : Value} {vs : List Value} (h : RJ W1 Bo rec f k W) (hBo : Bo < W1.heap.size)
    (h1 : W.heap[Bo]? = some (.cells #[v] 28 (0, 0))) (h2 : W.ownsRow W1.heap.size 22 1 v k vs) (h3 : ∀ i, i < k → ∃ u, vs[i]? = some u ∧ OwnTx W 0 u (f i)) (hrow : OwnTx W 0 sv (f k))
    (hg : ((W.putObj (W1.heap.size + 1) (.loop busy)).alloc (.cells #[sv] 22)).grownBy w3 v.ownBlock) (ho : w3.ownsRow W1.heap.size 22 1 v' (k + 1) (vs ++ [sv])) :
    (w3.setCell ⟨Bo, 0, none⟩ v').heap[W1.heap.size + 1]? = some (.loop busy) ∧ RJ W1 Bo rec f (k + 1) ((w3.setCell ⟨Bo, 0, none⟩ v').putObj (W1.heap.size + 1) (.loop rec)) := by
  have hl2 : W1.heap.size + 1 < W.heap.size := (Array.getElem?_eq_some_iff.1 h.rec').1
  have hvn : ∀ {j : Nat} {o : Obj}, W.heap[j]? = some o → (∀ c, o ≠ .cells c 22 (0, 0)) → some j ≠ v.ownBlock := by
    intro j o hj ho' e
    obtain ⟨c, hc⟩ := ownsRow_blk h2 e.symm
    rw [hj] at hc
    cases hc
    exact ho' _ rfl
  have keep0 : ∀ {j : Nat} {o : Obj}, W.heap[j]? = some o → j ≠ W1.heap.size + 1 → some j ≠ v.ownBlock → w3.heap[j]? = some o := by
    intro j o hj n1 n2
    have hlt := (Array.getElem?_eq_some_iff.1 hj).1
    rw [hg.block j (by simp; omega) n2, heap_alloc_old _ _ (by simpa using hlt), World.putObj_heap_other n1]
    exact hj
  have keep : ∀ {j : Nat} {o : Obj}, W.heap[j]? = some o → j ≠ W1.heap.size + 1 → j ≠ Bo → some j ≠ v.ownBlock → ((w3.setCell ⟨Bo, 0, none⟩ v').putObj (W1.heap.size + 1) (.loop rec)).heap[j]? = some o := by
    intro j o hj n1 n2 n3
    rw [World.putObj_heap_other n1, heap_setCell_other _ _ _ _ (by exact n2)]
    exact keep0 hj n1 n3
  have hbx : w3.heap[Bo]? = some (.cells #[v] 28 (0, 0)) := keep0 h1 (by omega) (hvn h1 (fun c e => by cases e))
  have hbx2 : (w3.setCell ⟨Bo, 0, none⟩ v').heap[Bo]? = some (.cells #[v'] 28 (0, 0)) := heap_setCell_same _ _ 0 _ _ v' hbx
  have hrc : w3.heap[W1.heap.size + 1]? = some (.loop busy) := by
    rw [hg.block _ (by simp; omega) (hvn h.rec' (fun c e => by cases e)), heap_alloc_old _ _ (by simpa using hl2)]
    exact World.putObj_heap_same hl2
  have hrc2 : (w3.setCell ⟨Bo, 0, none⟩ v').heap[W1.heap.size + 1]? = some (.loop busy) := by
    rw [heap_setCell_other _ _ _ _ (by simp; omega)]; exact hrc
  have hl3 : W1.heap.size + 1 < (w3.setCell ⟨Bo, 0, none⟩ v').heap.size := (Array.getElem?_eq_some_iff.1 hrc2).1
  have hr9 : ∀ (u : Value) (t : List (List UInt8)), OwnTx W 0 u t → OwnTx ((w3.setCell ⟨Bo, 0, none⟩ v').putObj (W1.heap.size + 1) (.loop rec)) 0 u t := by
    intro u t hu
    refine ownsRow_keep hu fun j c _ hc => ?_
    rw [hc]
    exact keep hc (by rintro rfl; rw [h.rec'] at hc; cases hc) (by rintro rfl; rw [h1] at hc; cases hc) (hvn hc (fun c e => by cases e))
  refine ⟨hrc2, ?_⟩
  have hsz : W.heap.size ≤ w3.heap.size := by have := hg.size; simp at this; omega
  have hlen := ownsRow_len h2
  exact {
    os := ⟨hg.os.trans h.os.os, hg.tape.trans h.os.tape, hg.output.trans h.os.output, by have := h.os.size; simp; omega, fun j hj => by omega⟩
    oth := by
      intro j hj hn
      have e1 := h.oth j hj hn
      obtain ⟨o, ho1⟩ : ∃ o, W1.heap[j]? = some o := ⟨_, Array.getElem?_eq_getElem hj⟩
      rw [ho1] at e1 ⊢
      exact keep e1 (by omega) hn (fun e => by have := (h2.lt j e.symm).1; omega)
    rec' := World.putObj_heap_same hl3
    dfr := keep h.dfr (by omega) (by omega) (hvn h.dfr (fun c e => by cases e))
    box := ⟨v', vs ++ [sv], (World.putObj_heap_other (by omega)).trans hbx2, ownsRow_keep ho fun j c _ hc => by
        have n1 : j ≠ W1.heap.size + 1 := by rintro rfl; rw [hrc] at hc; cases hc
        have n2 : j ≠ Bo := by rintro rfl; rw [hbx] at hc; cases hc
        rw [World.putObj_heap_other n1, heap_setCell_other _ _ _ _ (by exact n2)], by
        intro i hi
        by_cases hik : i < k
        · obtain ⟨u, h4, h5⟩ := h3 i hik
          exact ⟨u, by rw [List.getElem?_append_left (by omega)]; exact h4, hr9 _ _ h5⟩
        · have : i = k := by omega
          subst this
          exact ⟨sv, by rw [List.getElem?_append_right (by omega)]; simp [hlen], hr9 _ _ hrow⟩⟩ }
theorem RJ.rows {W1 : World} {Bo : Nat} {rec : Loop} {f : Nat → List (List UInt8)} {k : Nat} {W : World} (h : RJ W1 Bo rec f k W) {u : Value} {ls : List (List (List UInt8))} (hBo : ∃ v, W1.heap[Bo]? = some (.cells #[v] 28 (0, 0))) (hu : OwnRows W1 0 u ls) : OwnRows W 0 u ls := by
  obtain ⟨b, hb⟩ := hBo
  obtain ⟨us, h1, h2⟩ := hu
  have key : ∀ (j : Nat) (c : Array Value) (T : TypeId), T ≠ 28 → W1.heap[j]? = some (.cells c T (0, 0)) → W.heap[j]? = W1.heap[j]? := fun j c T hT hc =>
    h.oth j (Array.getElem?_eq_some_iff.1 hc).1 (by rintro rfl; rw [hb] at hc; cases hc; exact hT rfl)
  refine ⟨us, ownsRow_keep h1 fun j c _ hc => key j c _ (by decide) hc, fun i l hi => ?_⟩
  obtain ⟨z, h3, h4⟩ := h2 i l hi
  exact ⟨z, h3, ownsRow_keep h4 fun j c _ hc => key j c _ (by decide) hc⟩
theorem fold_le {α : Type} (g : α → Nat) (B : Nat) : ∀ (l : List α) (a : Nat), a ≤ B → (∀ x ∈ l, g x ≤ B) → l.foldl (fun m p => max m (g p)) a ≤ B := by
  intro l
  induction l with
  | nil => intro a ha _; exact ha
  | cons x l ih => intro a ha hx; exact ih _ (Nat.max_le.2 ⟨ha, hx x (by simp)⟩) fun y hy => hx y (by simp [hy])
theorem most_le {vs ls : List (List (List UInt8))} (hv : ∀ x ∈ vs, x.length ≤ 1000) (hl : ∀ x ∈ ls, x.length ≤ 1000) : most vs ls ≤ 2000 := by
  unfold most
  refine fold_le (fun p : List (List UInt8) × List (List UInt8) => (p.2.length + p.1.length - 1) / p.1.length) 2000 _ 0 (by omega) fun p hp => ?_
  have h1 := hv _ (List.of_mem_zip hp).1
  have h2 := hl _ (List.of_mem_zip hp).2
  exact Nat.le_trans (Nat.div_le_self _ _) (by omega)
theorem splAll_all {P : List (List UInt8) → Prop} : ∀ (l : List (List UInt8)) (vs : List (List (List UInt8))), (∀ t ∈ l, ∀ x, spl t = some x → P x) → splAll l = some vs → ∀ x ∈ vs, P x := by
  intro l
  induction l with
  | nil => intro vs _ h; cases h; intro x hx; cases hx
  | cons t l ih =>
    intro vs h e
    rw [splAll] at e
    cases h1 : spl t with
    | none => rw [h1] at e; cases e
    | some y =>
      cases h2 : splAll l with
      | none => rw [h1, h2] at e; cases e
      | some z =>
        rw [h1, h2] at e
        cases e
        intro x hx
        rcases List.mem_cons.1 hx with rfl | hx
        · exact h t (by simp) _ h1
        · exact ih z (fun t ht => h t (by simp [ht])) h2 x hx
theorem spl_len : ∀ (n : Nat) (l : List UInt8), l.length ≤ n → ∀ xs, spl l = some xs → xs.length ≤ l.length := by
  intro n
  induction n with
  | zero => intro l h xs hx; have : l = [] := List.eq_nil_of_length_eq_zero (by omega); subst this; simp [spl] at hx; subst hx; simp
  | succ n ih =>
    intro l h xs hx
    cases l with
    | nil => simp [spl] at hx; subst hx; simp
    | cons c r =>
      by_cases hw : wh c = true
      · rw [spl_white hw] at hx
        have := ih r (by simpa using h) xs hx
        simp; omega
      · have hw2 : wh c = false := by simpa using hw
        cases he : elm (c :: r) with
        | none => rw [spl_none hw2 he] at hx; cases hx
        | some p =>
          rw [spl_some hw2 he] at hx
          have hp := elm_pos hw2 he
          by_cases hk : endOk ((c :: r).drop p.2) = true
          · rw [if_pos hk] at hx
            cases hs : spl ((c :: r).drop p.2) with
            | none => rw [hs] at hx; cases hx
            | some ys =>
              rw [hs] at hx
              cases hx
              have := ih ((c :: r).drop p.2) (by simp only [List.length_drop, List.length_cons] at h ⊢; omega) ys hs
              simp only [List.length_drop, List.length_cons] at this ⊢
              omega
          · rw [if_neg hk] at hx; cases hx
theorem splAll_len {l : List (List UInt8)} {vs : List (List (List UInt8))} (hl : ∀ x ∈ l, x.length ≤ 1000) (h : splAll l = some vs) : ∀ x ∈ vs, x.length ≤ 1000 :=
  splAll_all (P := fun x => x.length ≤ 1000) l vs (fun t ht x hx => Nat.le_trans (spl_len _ t (Nat.le_refl _) x hx) (hl t ht)) h
theorem RI.done {w W : World} {names lists : List (List UInt8)} {u v : Value} {vs ls : List (List (List UInt8))} {i : Nat} (h : RI w names lists i u v vs ls W) (hi : i = names.length) (hl : names.length = lists.length) : splAll names = some vs ∧ splAll lists = some ls := by
  subst hi
  refine ⟨?_, ?_⟩
  · rw [h.en, List.drop_length]; simp [splAll]
  · rw [h.el, hl, List.drop_length]; simp [splAll]
theorem rnd_bare {names lists : List (List UInt8)} {vs ls : List (List (List UInt8))} (hl : names.length = lists.length) (h0 : ¬ names.length = 0) (h1 : splAll names = some vs) (h2 : splAll lists = some ls) (hb : vs.any (·.isEmpty) = true) : rnd names lists = .error 8 := by
  unfold rnd; rw [if_neg (by omega), h1, h2]; simp only [hb]; rfl
theorem rnd_ok {names lists : List (List UInt8)} {vs ls : List (List (List UInt8))} (hl : names.length = lists.length) (h0 : ¬ names.length = 0) (h1 : splAll names = some vs) (h2 : splAll lists = some ls) (hb : vs.any (·.isEmpty) = false) : rnd names lists = .ok ((List.range (most vs ls)).map fun k => rowAll k vs ls) := by
  unfold rnd; rw [if_neg (by omega), h1, h2]; simp only [hb]; rfl
theorem any_ne {vs : List (List (List UInt8))} (hb : vs.any (·.isEmpty) = false) : ∀ x ∈ vs, 1 ≤ x.length := by
  intro x hx
  have := List.any_eq_false.1 hb x hx
  cases x with
  | nil => simp at this
  | cons _ _ => simp
theorem OwnRows.mono {W : World} {m m' : Nat} {v : Value} {ls : List (List (List UInt8))} (h : OwnRows W m v ls) (hm : m' ≤ m) : OwnRows W m' v ls := by
  obtain ⟨us, h1, h2⟩ := h
  exact ⟨us, ownsRow_mono h1 hm, h2⟩
theorem RoundsR.ok {w w' : World} {names lists : List (List UInt8)} {rs : List (List (List UInt8))} {v : Value} (h : rnd names lists = .ok rs) (hv : OwnRows w' w.heap.size v rs) (hb : Below w.heap.size w w') : RoundsR w names lists (.returned (.tuple #[v, .int .i64 0])) w' :=
  ⟨fun rs' h' => by (rw [h] at h'; cases h'; exact ⟨v, rfl, hv⟩), fun k h' => by (rw [h] at h'; cases h'), hb⟩
theorem RJ.last {w W1 W W0 : World} {Bo : Nat} {rec rec2 : Loop} {f : Nat → List (List UInt8)} {M : Nat} (h : RJ W1 Bo rec f M W) (hb : Below w.heap.size w W1) (hBo : w.heap.size ≤ Bo) (hW0 : W.putObj (W1.heap.size + 1) (.loop rec2) = W0) :
    ∃ v, W0.cell? ⟨Bo, 0, none⟩ = some v ∧ W0.heap[W1.heap.size]? = some (.deferred (some [])) ∧ OwnRows (W0.putObj W1.heap.size (.deferred none)) w.heap.size v ((List.range M).map f) ∧ Below w.heap.size w (W0.putObj W1.heap.size (.deferred none)) := by
  obtain ⟨v, vs, h1, h2, h3⟩ := h.box
  have hBl : Bo ≠ W1.heap.size + 1 := by rintro rfl; rw [h.rec'] at h1; cases h1
  have hBd : Bo ≠ W1.heap.size := by rintro rfl; rw [h.dfr] at h1; cases h1
  have hne : ∀ (j : Nat) (c : Array Value) (T : TypeId), W.heap[j]? = some (.cells c T (0, 0)) → (W0.putObj W1.heap.size (.deferred none)).heap[j]? = W.heap[j]? := by
    intro j c T hj
    have n1 : j ≠ W1.heap.size + 1 := by rintro rfl; rw [h.rec'] at hj; cases hj
    have n2 : j ≠ W1.heap.size := by rintro rfl; rw [h.dfr] at hj; cases hj
    rw [World.putObj_heap_other n2, ← hW0, World.putObj_heap_other n1]
  have hbs := hb.size
  refine ⟨v, ?_, ?_, ⟨vs, ?_, ?_⟩, ?_⟩
  · rw [← hW0]; exact Boxed.cell (t := 28) ((World.putObj_heap_other hBl).trans h1)
  · rw [← hW0, World.putObj_heap_other (by omega)]; exact h.dfr
  · have h4 := ownsRow_mono h2 hbs
    rw [List.length_map, List.length_range]
    exact ownsRow_keep h4 fun j c _ hc => hne j c _ hc
  · intro i l hi
    have him : i < M := by have := (List.getElem?_eq_some_iff.1 hi).1; simpa using this
    obtain ⟨u, h4, h5⟩ := h3 i him
    rw [List.getElem?_map, List.getElem?_range him] at hi
    cases hi
    exact ⟨u, h4, ownsRow_keep h5 fun j c _ hc => hne j c _ hc⟩
  · refine ⟨?_, ?_, ?_, ?_, ?_⟩
    · show W0.os = w.os; rw [← hW0]; exact h.os.os.trans hb.os
    · show W0.tape = w.tape; rw [← hW0]; exact h.os.tape.trans hb.tape
    · show W0.output = w.output; rw [← hW0]; exact h.os.output.trans hb.output
    · have := h.os.size; rw [← hW0]; simp; omega
    · intro j hj
      rw [World.putObj_heap_other (by omega), ← hW0, World.putObj_heap_other (by omega), h.oth j (by omega) (by omega)]
      exact hb.block j hj
end Go.Proofs.YtjibdoofogmkcaaGreatDoor
end
