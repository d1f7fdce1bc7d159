/-
  The program's Conditions, walked. Conditions: none.
-/
import Derived.Test.YtfkeeieoapimlaaGreatDoorB1ToB5a
import Derived.RangeFuncNested
import Derived.Maps.AppendAt
set_option linter.unusedVariables false
set_option linter.unusedSimpArgs false
set_option linter.unusedSectionVars false
set_option linter.deprecated false
section
namespace Go.Proofs.YtfkeeieoapimlaaGreatDoor
open Go.ChangeShapes Go.WideShapes Go.ChangeAt Go.RowKit
set_option maxRecDepth 100000
set_option maxHeartbeats 8000000 in
theorem cond_any (w : World) (t : Value) (l : List (List UInt8)) (ht : StrRow w t l) (hl : l.length ≤ 1000) : Calls Tryz.prog 105 #[t] w fun e w' => CondR w l e w' := by
 obtain ⟨a, c, rfl, ha⟩ := ht.form
 have HA := Lib.hid ha
 clear ha ht
 have hmf : ∀ (fn : Fn) (first cap : Array Value) (w : World), (Instr.makeFunc fn first cap).run Tryz.prog w = .ok (.func fn first cap) w := fun _ _ _ _ => rfl
 obtain ⟨i0, hi, hz0, hz1, hz2⟩ := info_parts info9
 obtain ⟨A1, hA1, sA1, n1, o1, b1⟩ := zag w #[.slice a l.length c] 24
 obtain ⟨A2, hA2, sA2, n2, o2, b2⟩ := zag A1 #[.int .i64 0] 28
 obtain ⟨A3, hA3, sA3, n3, o3, b3⟩ := zag A2 #[.int .i64 0] 3
 have hS : CI w w.heap.size (.slice a l.length c) 0 0 (.slice none 0 0) (.slice none 0 0) [] [] A3 := ⟨by show A3.heap[_]? = _; rw [o3 _ (by omega), o2 _ (by omega)]; exact n1, by show A3.heap[_]? = _; rw [o3 _ (by omega), ← sA1]; exact n2,
  by show A3.heap[_]? = _; rw [show w.heap.size + 2 = A2.heap.size by omega]; exact n3, OwnTx.nil _ _, OwnTx.nil _ _, apart_nil _, (b1.trans (b2.mono (by omega))).trans (b3.mono (by omega)), Nat.le_refl _, by omega⟩
 have HS := Lib.hid hS
 have HA1 := Lib.hid hA1
 have HA2 := Lib.hid hA2
 have HA3 := Lib.hid hA3
 clear hA1 sA1 n1 o1 b1 hA2 sA2 n2 o2 b2 hA3 sA3 n3 o3 b3 hS
 go_enter Tryz.func105, Tryz.ntmps105
 go_wp2
 rw [HA1.out, HA2.out, HA3.out]
 go_loopg [2, 3] (l.length + 1) (fun k uv vv wr => ∃ (i : Nat) (cs bs : List (List UInt8)), k = l.length + 1 - i ∧ i ≤ l.length ∧ cs.length ≤ i ∧ bs.length ≤ i ∧
  cnd l = (cnd (l.drop i)).map (fun p => (cs ++ p.1, bs ++ p.2)) ∧ CI w w.heap.size (.slice a l.length c) (i : Int) 0 uv vv cs bs wr)
 case atStart => exact ⟨0, [], [], rfl, by omega, by simp, by simp, by simp, HS.out⟩
 case round =>
  obtain ⟨i, cs, bs, hk, hil, hcl, hbl, heq, hCI⟩ := hrel
  have HK := Lib.hid hk
  have HEQ := Lib.hid heq
  have S0 := Lib.hid hCI
  have k0 := hCI.wd.cell
  have k1 := hCI.er.cell
  have k2 := hCI.ix.cell
  have k3 := hCI.ix.frozen
  have k4 := hCI.er.frozen
  clear hk heq hCI
  cases hd : l.drop i with
  | nil =>
    have hlen := zbH hd
    have a0 : ¬ (i : Int) < (l.length : Int) := by omega
    have HZ := Lib.hid (show cnd l = none by rw [HEQ.out, hd, cnd_nil]; rfl)
    have hb4l : (bs ++ [[]]).length ≤ 1001 := by simp; omega
    clear hd hlen
    go_wp2_with (first | (go_at_call 168; refine (CI.miss S0.out (i) (by first | rfl | omega) (by omega) (by omega)).mono ?_; clear S0; rintro e w1 ⟨rfl, hS1⟩; dsimp only; have S1 := Lib.hid hS1; clear hS1) | (at_builtin; refine zaa rfl _ _ 24 rfl (w.heap.size + 3) 9 i0 (.string ⟨#[]⟩) 1 16 Tryz.underlying24 hi hz0 hz1 hz2 rfl (by decide) _ _ _ rfl (S1.out.ru.alloc _) ⟨w1.heap.size, 0, none⟩ 1 1 [.string ⟨#[]⟩] rfl rfl (cell_one_new _ _ _) (by simp [Value.oneCell']) (by simp only [maxLen]; omega) (by omega) (by have := S1.out.sz; simp; omega) ?_; intro v2 w2 o g n; have hS2 := (S1.out.app (x := []) o g n); clear S1 o g n; have k0_2 := hS2.wd.cell; have k1_2 := hS2.er.cell; have k2_2 := hS2.ix.cell; have k3_2 := hS2.ix.frozen; have k4_2 := hS2.er.frozen; have S2 := Lib.hid hS2; clear hS2) | (go_at_call 168; refine (CI.miss S2.out (i) (by first | rfl | omega) (by omega) (by omega)).mono ?_; clear S2; rintro e w3 ⟨rfl, hS3⟩; dsimp only; have S3 := Lib.hid hS3; clear hS3) | (at_builtin; refine zaa rfl _ _ 24 rfl (w.heap.size + 3) 9 i0 (.string ⟨#[]⟩) 1 16 Tryz.underlying24 hi hz0 hz1 hz2 rfl (by decide) _ _ _ rfl (S3.out.swap.ru.alloc _) ⟨w3.heap.size, 0, none⟩ 1 1 [.string ⟨#[]⟩] rfl rfl (cell_one_new _ _ _) (by simp [Value.oneCell']) (by simp only [maxLen]; omega) (by omega) (by have := S3.out.sz; simp; omega) ?_; intro v4 w4 o g n; have hS4 := (S3.out.swap.app (x := []) o g n).swap; clear S3 o g n; have k0_4 := hS4.wd.cell; have k1_4 := hS4.er.cell; have k2_4 := hS4.ix.cell; have k3_4 := hS4.ix.frozen; have k4_4 := hS4.er.frozen; have S4 := Lib.hid hS4; clear hS4))
    have hF := S4.out.fail
    refine bodyPost_ret (zaC rfl _ _ rfl hF.er.cell) rfl ?_
    exact CondR.none HZ.out hF.bel
  | cons x0 r0 =>
    obtain ⟨hx0, hd0, hi0⟩ := zbj hd
    obtain ⟨p, rfl, hp⟩ := HA.out i x0 hx0
    have CELL := Lib.hid (show CellsOf w p l from fun W hW j y hy => by
     obtain ⟨p', hp', hc⟩ := HA.out j y hy
     cases hp'
     exact zcv hc hW)
    have CELS := Lib.hid (show ∀ W, Below w.heap.size w W → ∀ j y, l[j + 1]? = some y → W.cell? ⟨p.block, p.off + (j + 1), none⟩ = some (.string ⟨y.toArray⟩) from fun W hW j y hy => by
     have := CELL.out W hW (j + 1) y hy
     rwa [Addr.add_succ'] at this)
    have hpb : p.block < w.heap.size := by
     obtain ⟨o, ho, _⟩ := cells_of_cell hp
     have := (Array.getElem?_eq_some_iff.1 ho).1
     rwa [show (p.add i).block = p.block by unfold Addr.add; split <;> rfl] at this
    clear hp
    cases r0 with
    | nil =>
      have hlen := zbH hd0
      have a0 : (i : Int) < (l.length : Int) := by omega
      have a1 : ¬ (i : Int) + 1 < (l.length : Int) := by omega
      have HZ := Lib.hid (show cnd l = none by rw [HEQ.out, hd, cnd_one]; rfl)
      have hb4l : (bs ++ [[]]).length ≤ 1001 := by simp; omega
      clear hd hd0 hi0 hlen
      go_wp2_with (first | (go_at_call 168; refine (CI.hit S0.out CELL.out hpb hl (i) (by first | rfl | omega) hx0).mono ?_; clear S0; rintro e w1 ⟨rfl, hS1⟩; dsimp only; have S1 := Lib.hid hS1; clear hS1) | (at_builtin; refine zaa rfl _ _ 24 rfl (w.heap.size + 3) 9 i0 (.string ⟨#[]⟩) 1 16 Tryz.underlying24 hi hz0 hz1 hz2 rfl (by decide) _ _ _ rfl (S1.out.ru.alloc _) ⟨w1.heap.size, 0, none⟩ 1 1 [.string ⟨x0.toArray⟩] rfl rfl (cell_one_new _ _ _) (by simp [Value.oneCell']) (by simp only [maxLen]; omega) (by omega) (by have := S1.out.sz; simp; omega) ?_; intro v2 w2 o g n; have hS2 := (S1.out.app (x := x0) o g n); clear S1 o g n; have k0_2 := hS2.wd.cell; have k1_2 := hS2.er.cell; have k2_2 := hS2.ix.cell; have k3_2 := hS2.ix.frozen; have k4_2 := hS2.er.frozen; have S2 := Lib.hid hS2; clear hS2) | (go_at_call 168; refine (CI.miss S2.out (i + 1) (by first | rfl | omega) (by omega) (by omega)).mono ?_; clear S2; rintro e w3 ⟨rfl, hS3⟩; dsimp only; have S3 := Lib.hid hS3; clear hS3) | (at_builtin; refine zaa rfl _ _ 24 rfl (w.heap.size + 3) 9 i0 (.string ⟨#[]⟩) 1 16 Tryz.underlying24 hi hz0 hz1 hz2 rfl (by decide) _ _ _ rfl (S3.out.swap.ru.alloc _) ⟨w3.heap.size, 0, none⟩ 1 1 [.string ⟨#[]⟩] rfl rfl (cell_one_new _ _ _) (by simp [Value.oneCell']) (by simp only [maxLen]; omega) (by omega) (by have := S3.out.sz; simp; omega) ?_; intro v4 w4 o g n; have hS4 := (S3.out.swap.app (x := []) o g n).swap; clear S3 o g n; have k0_4 := hS4.wd.cell; have k1_4 := hS4.er.cell; have k2_4 := hS4.ix.cell; have k3_4 := hS4.ix.frozen; have k4_4 := hS4.er.frozen; have S4 := Lib.hid hS4; clear hS4))
      have hF := S4.out.fail
      refine bodyPost_ret (zaC rfl _ _ rfl hF.er.cell) rfl ?_
      exact CondR.none HZ.out hF.bel
    | cons x1 r1 =>
      obtain ⟨hx1, hd1, hi1⟩ := zbj hd0
      by_cases hqt : x1 = zeR
      ·have qt : (x1 == [116, 104, 101, 110]) = true := by rw [hqt]; rfl
       cases r1 with
       | nil =>
         have hlen := zbH hd1
         have a0 : (i : Int) < (l.length : Int) := by omega
         have a1 : (i : Int) + 1 < (l.length : Int) := by omega
         have a2 : ¬ (i : Int) + 1 + 1 < (l.length : Int) := by omega
         have HZ := Lib.hid (show cnd l = none by rw [HEQ.out, hd, hqt, cnd_then_end]; rfl)
         have hb4l : (bs ++ [[]]).length ≤ 1001 := by simp; omega
         clear hd hd0 hi0 hd1 hi1 hlen
         go_wp2_with (first | (go_at_call 168; refine (CI.hit S0.out CELL.out hpb hl (i) (by first | rfl | omega) hx0).mono ?_; clear S0; rintro e w1 ⟨rfl, hS1⟩; dsimp only; have S1 := Lib.hid hS1; clear hS1) | (at_builtin; refine zaa rfl _ _ 24 rfl (w.heap.size + 3) 9 i0 (.string ⟨#[]⟩) 1 16 Tryz.underlying24 hi hz0 hz1 hz2 rfl (by decide) _ _ _ rfl (S1.out.ru.alloc _) ⟨w1.heap.size, 0, none⟩ 1 1 [.string ⟨x0.toArray⟩] rfl rfl (cell_one_new _ _ _) (by simp [Value.oneCell']) (by simp only [maxLen]; omega) (by omega) (by have := S1.out.sz; simp; omega) ?_; intro v2 w2 o g n; have hS2 := (S1.out.app (x := x0) o g n); clear S1 o g n; have k0_2 := hS2.wd.cell; have k1_2 := hS2.er.cell; have k2_2 := hS2.ix.cell; have k3_2 := hS2.ix.frozen; have k4_2 := hS2.er.frozen; have g_21 := CELS.out w2 hS2.bel (i) x1 hx1; have S2 := Lib.hid hS2; clear hS2) | (go_at_call 168; refine (CI.miss (S2.out.step ((i : Int) + 1 + 1)) (i + 1 + 1) (by first | rfl | omega) (by omega) (by omega)).mono ?_; clear S2; rintro e w4 ⟨rfl, hS4⟩; dsimp only; have S4 := Lib.hid hS4; clear hS4) | (at_builtin; refine zaa rfl _ _ 24 rfl (w.heap.size + 3) 9 i0 (.string ⟨#[]⟩) 1 16 Tryz.underlying24 hi hz0 hz1 hz2 rfl (by decide) _ _ _ rfl (S4.out.swap.ru.alloc _) ⟨w4.heap.size, 0, none⟩ 1 1 [.string ⟨#[]⟩] rfl rfl (cell_one_new _ _ _) (by simp [Value.oneCell']) (by simp only [maxLen]; omega) (by omega) (by have := S4.out.sz; simp; omega) ?_; intro v5 w5 o g n; have hS5 := (S4.out.swap.app (x := []) o g n).swap; clear S4 o g n; have k0_5 := hS5.wd.cell; have k1_5 := hS5.er.cell; have k2_5 := hS5.ix.cell; have k3_5 := hS5.ix.frozen; have k4_5 := hS5.er.frozen; have g_51 := CELS.out w5 hS5.bel (i) x1 hx1; have S5 := Lib.hid hS5; clear hS5))
         have hF := S5.out.fail
         refine bodyPost_ret (zaC rfl _ _ rfl hF.er.cell) rfl ?_
         exact CondR.none HZ.out hF.bel
       | cons x2 r2 =>
         obtain ⟨hx2, hd2, hi2⟩ := zbj hd1
         cases r2 with
         | nil =>
           have hlen := zbH hd2
           have a0 : (i : Int) < (l.length : Int) := by omega
           have a1 : (i : Int) + 1 < (l.length : Int) := by omega
           have a2 : (i : Int) + 1 + 1 < (l.length : Int) := by omega
           have a3 : ¬ (i : Int) + 1 + 1 + 1 < (l.length : Int) := by omega
           have HZ := Lib.hid (show cnd l = some (cs ++ [x0], bs ++ [x2]) by rw [HEQ.out, hd, zbg (by rw [hqt]; exact zaJ _ _)]; rfl)
           have hb3l : (bs ++ [x2]).length ≤ 1001 := by simp; omega
           have hb4l : (bs ++ [[]]).length ≤ 1001 := by simp; omega
           clear hd hd0 hi0 hd1 hi1 hd2 hi2 hlen
           go_wp2_with (first | (go_at_call 168; refine (CI.hit S0.out CELL.out hpb hl (i) (by first | rfl | omega) hx0).mono ?_; clear S0; rintro e w1 ⟨rfl, hS1⟩; dsimp only; have S1 := Lib.hid hS1; clear hS1) | (at_builtin; refine zaa rfl _ _ 24 rfl (w.heap.size + 3) 9 i0 (.string ⟨#[]⟩) 1 16 Tryz.underlying24 hi hz0 hz1 hz2 rfl (by decide) _ _ _ rfl (S1.out.ru.alloc _) ⟨w1.heap.size, 0, none⟩ 1 1 [.string ⟨x0.toArray⟩] rfl rfl (cell_one_new _ _ _) (by simp [Value.oneCell']) (by simp only [maxLen]; omega) (by omega) (by have := S1.out.sz; simp; omega) ?_; intro v2 w2 o g n; have hS2 := (S1.out.app (x := x0) o g n); clear S1 o g n; have k0_2 := hS2.wd.cell; have k1_2 := hS2.er.cell; have k2_2 := hS2.ix.cell; have k3_2 := hS2.ix.frozen; have k4_2 := hS2.er.frozen; have g_21 := CELS.out w2 hS2.bel (i) x1 hx1; have g_22 := CELS.out w2 hS2.bel (i + 1) x2 hx2; have S2 := Lib.hid hS2; clear hS2) | (go_at_call 168; refine (CI.hit (S2.out.step ((i : Int) + 1 + 1)) CELL.out hpb hl (i + 1 + 1) (by first | rfl | omega) hx2).mono ?_; clear S2; rintro e w4 ⟨rfl, hS4⟩; dsimp only; have S4 := Lib.hid hS4; clear hS4) | (at_builtin; refine zaa rfl _ _ 24 rfl (w.heap.size + 3) 9 i0 (.string ⟨#[]⟩) 1 16 Tryz.underlying24 hi hz0 hz1 hz2 rfl (by decide) _ _ _ rfl (S4.out.swap.ru.alloc _) ⟨w4.heap.size, 0, none⟩ 1 1 [.string ⟨x2.toArray⟩] rfl rfl (cell_one_new _ _ _) (by simp [Value.oneCell']) (by simp only [maxLen]; omega) (by omega) (by have := S4.out.sz; simp; omega) ?_; intro v5 w5 o g n; have hS5 := (S4.out.swap.app (x := x2) o g n).swap; clear S4 o g n; have k0_5 := hS5.wd.cell; have k1_5 := hS5.er.cell; have k2_5 := hS5.ix.cell; have k3_5 := hS5.ix.frozen; have k4_5 := hS5.er.frozen; have g_51 := CELS.out w5 hS5.bel (i) x1 hx1; have g_52 := CELS.out w5 hS5.bel (i + 1) x2 hx2; have S5 := Lib.hid hS5; clear hS5))
           have hF := S5.out.fail0
           refine bodyPost_ret (zaC rfl _ _ rfl hF.er.cell) rfl ?_
           exact CondR.some HZ.out (zaq hF.ru (by omega)) (by have := zaq hF.rv (show w.heap.size ≤ w.heap.size + 3 by omega); simpa [OwnTx] using this) hF.bel
         | cons x3 r3 =>
           obtain ⟨hx3, hd3, hi3⟩ := zbj hd2
           by_cases hqei : x3 = zft
           ·have qei : (x3 == [101, 108, 115, 101, 105, 102]) = true := by rw [hqei]; rfl
            have hlen := hi3
            have a0 : (i : Int) < (l.length : Int) := by omega
            have a1 : (i : Int) + 1 < (l.length : Int) := by omega
            have a2 : (i : Int) + 1 + 1 < (l.length : Int) := by omega
            have a3 : (i : Int) + 1 + 1 + 1 < (l.length : Int) := by omega
            have HZ := Lib.hid (show cnd l = (cnd (l.drop (i + 1 + 1 + 1 + 1))).map (fun p => (cs ++ [x0] ++ p.1, bs ++ [x2] ++ p.2)) by rw [HEQ.out, hd, zbg (by rw [hqt]; exact zaJ _ _)]; simp only; rw [if_pos hqei, hd3, Option.map_map]; congr 1; funext q; simp)
            have hb3l : (bs ++ [x2]).length ≤ 1001 := by simp; omega
            have hb4l : (bs ++ [[]]).length ≤ 1001 := by simp; omega
            clear hd hd0 hi0 hd1 hi1 hd2 hi2 hd3 hi3 hlen
            go_wp2_with (first | (go_at_call 168; refine (CI.hit S0.out CELL.out hpb hl (i) (by first | rfl | omega) hx0).mono ?_; clear S0; rintro e w1 ⟨rfl, hS1⟩; dsimp only; have S1 := Lib.hid hS1; clear hS1) | (at_builtin; refine zaa rfl _ _ 24 rfl (w.heap.size + 3) 9 i0 (.string ⟨#[]⟩) 1 16 Tryz.underlying24 hi hz0 hz1 hz2 rfl (by decide) _ _ _ rfl (S1.out.ru.alloc _) ⟨w1.heap.size, 0, none⟩ 1 1 [.string ⟨x0.toArray⟩] rfl rfl (cell_one_new _ _ _) (by simp [Value.oneCell']) (by simp only [maxLen]; omega) (by omega) (by have := S1.out.sz; simp; omega) ?_; intro v2 w2 o g n; have hS2 := (S1.out.app (x := x0) o g n); clear S1 o g n; have k0_2 := hS2.wd.cell; have k1_2 := hS2.er.cell; have k2_2 := hS2.ix.cell; have k3_2 := hS2.ix.frozen; have k4_2 := hS2.er.frozen; have g_21 := CELS.out w2 hS2.bel (i) x1 hx1; have g_22 := CELS.out w2 hS2.bel (i + 1) x2 hx2; have g_23 := CELS.out w2 hS2.bel (i + 1 + 1) x3 hx3; have S2 := Lib.hid hS2; clear hS2) | (go_at_call 168; refine (CI.hit (S2.out.step ((i : Int) + 1 + 1)) CELL.out hpb hl (i + 1 + 1) (by first | rfl | omega) hx2).mono ?_; clear S2; rintro e w4 ⟨rfl, hS4⟩; dsimp only; have S4 := Lib.hid hS4; clear hS4) | (at_builtin; refine zaa rfl _ _ 24 rfl (w.heap.size + 3) 9 i0 (.string ⟨#[]⟩) 1 16 Tryz.underlying24 hi hz0 hz1 hz2 rfl (by decide) _ _ _ rfl (S4.out.swap.ru.alloc _) ⟨w4.heap.size, 0, none⟩ 1 1 [.string ⟨x2.toArray⟩] rfl rfl (cell_one_new _ _ _) (by simp [Value.oneCell']) (by simp only [maxLen]; omega) (by omega) (by have := S4.out.sz; simp; omega) ?_; intro v5 w5 o g n; have hS5 := (S4.out.swap.app (x := x2) o g n).swap; clear S4 o g n; have k0_5 := hS5.wd.cell; have k1_5 := hS5.er.cell; have k2_5 := hS5.ix.cell; have k3_5 := hS5.ix.frozen; have k4_5 := hS5.er.frozen; have g_51 := CELS.out w5 hS5.bel (i) x1 hx1; have g_52 := CELS.out w5 hS5.bel (i + 1) x2 hx2; have g_53 := CELS.out w5 hS5.bel (i + 1 + 1) x3 hx3; have S5 := Lib.hid hS5; clear hS5))
            go_roundg (l.length + 1 - (i + 1 + 1 + 1 + 1))
            case measure => rw [HK.out]; omega
            case rel => exact ⟨i + 1 + 1 + 1 + 1, cs ++ [x0], bs ++ [x2], rfl, by omega, by simp; omega, by simp; omega, HZ.out, CI.cast (S5.out.step ((i : Int) + 1 + 1 + 1 + 1)) (by first | rfl | omega)⟩
           ·have qei : (x3 == [101, 108, 115, 101, 105, 102]) = false := by simp; exact hqei
            by_cases hqel : x3 = wElse
            ·have qel : (x3 == [101, 108, 115, 101]) = true := by rw [hqel]; rfl
             cases r3 with
             | nil =>
               have hlen := zbH hd3
               have a0 : (i : Int) < (l.length : Int) := by omega
               have a1 : (i : Int) + 1 < (l.length : Int) := by omega
               have a2 : (i : Int) + 1 + 1 < (l.length : Int) := by omega
               have a3 : (i : Int) + 1 + 1 + 1 < (l.length : Int) := by omega
               have a4 : ¬ (i : Int) + 1 + 1 + 1 + 1 < (l.length : Int) := by omega
               have HZ := Lib.hid (show cnd l = none by rw [HEQ.out, hd, zbg (by rw [hqt]; exact zaJ _ _)]; simp only; rw [if_neg hqei, hqel, zaJ]; rfl)
               have hb3l : (bs ++ [x2]).length ≤ 1001 := by simp; omega
               have hb4l : (bs ++ [[]]).length ≤ 1001 := by simp; omega
               clear hd hd0 hi0 hd1 hi1 hd2 hi2 hd3 hi3 hlen
               go_wp2_with (first | (go_at_call 168; refine (CI.hit S0.out CELL.out hpb hl (i) (by first | rfl | omega) hx0).mono ?_; clear S0; rintro e w1 ⟨rfl, hS1⟩; dsimp only; have S1 := Lib.hid hS1; clear hS1) | (at_builtin; refine zaa rfl _ _ 24 rfl (w.heap.size + 3) 9 i0 (.string ⟨#[]⟩) 1 16 Tryz.underlying24 hi hz0 hz1 hz2 rfl (by decide) _ _ _ rfl (S1.out.ru.alloc _) ⟨w1.heap.size, 0, none⟩ 1 1 [.string ⟨x0.toArray⟩] rfl rfl (cell_one_new _ _ _) (by simp [Value.oneCell']) (by simp only [maxLen]; omega) (by omega) (by have := S1.out.sz; simp; omega) ?_; intro v2 w2 o g n; have hS2 := (S1.out.app (x := x0) o g n); clear S1 o g n; have k0_2 := hS2.wd.cell; have k1_2 := hS2.er.cell; have k2_2 := hS2.ix.cell; have k3_2 := hS2.ix.frozen; have k4_2 := hS2.er.frozen; have g_21 := CELS.out w2 hS2.bel (i) x1 hx1; have g_22 := CELS.out w2 hS2.bel (i + 1) x2 hx2; have g_23 := CELS.out w2 hS2.bel (i + 1 + 1) x3 hx3; have S2 := Lib.hid hS2; clear hS2) | (go_at_call 168; refine (CI.hit (S2.out.step ((i : Int) + 1 + 1)) CELL.out hpb hl (i + 1 + 1) (by first | rfl | omega) hx2).mono ?_; clear S2; rintro e w4 ⟨rfl, hS4⟩; dsimp only; have S4 := Lib.hid hS4; clear hS4) | (at_builtin; refine zaa rfl _ _ 24 rfl (w.heap.size + 3) 9 i0 (.string ⟨#[]⟩) 1 16 Tryz.underlying24 hi hz0 hz1 hz2 rfl (by decide) _ _ _ rfl (S4.out.swap.ru.alloc _) ⟨w4.heap.size, 0, none⟩ 1 1 [.string ⟨x2.toArray⟩] rfl rfl (cell_one_new _ _ _) (by simp [Value.oneCell']) (by simp only [maxLen]; omega) (by omega) (by have := S4.out.sz; simp; omega) ?_; intro v5 w5 o g n; have hS5 := (S4.out.swap.app (x := x2) o g n).swap; clear S4 o g n; have k0_5 := hS5.wd.cell; have k1_5 := hS5.er.cell; have k2_5 := hS5.ix.cell; have k3_5 := hS5.ix.frozen; have k4_5 := hS5.er.frozen; have g_51 := CELS.out w5 hS5.bel (i) x1 hx1; have g_52 := CELS.out w5 hS5.bel (i + 1) x2 hx2; have g_53 := CELS.out w5 hS5.bel (i + 1 + 1) x3 hx3; have S5 := Lib.hid hS5; clear hS5) | (go_at_call 168; refine (CI.miss (S5.out.step ((i : Int) + 1 + 1 + 1 + 1)) (i + 1 + 1 + 1 + 1) (by first | rfl | omega) (by omega) (by omega)).mono ?_; clear S5; rintro e w7 ⟨rfl, hS7⟩; dsimp only; have S7 := Lib.hid hS7; clear hS7) | (at_builtin; refine zaa rfl _ _ 24 rfl (w.heap.size + 3) 9 i0 (.string ⟨#[]⟩) 1 16 Tryz.underlying24 hi hz0 hz1 hz2 rfl (by decide) _ _ _ rfl (S7.out.swap.ru.alloc _) ⟨w7.heap.size, 0, none⟩ 1 1 [.string ⟨#[]⟩] rfl rfl (cell_one_new _ _ _) (by simp [Value.oneCell']) (by simp only [maxLen]; omega) (by omega) (by have := S7.out.sz; simp; omega) ?_; intro v8 w8 o g n; have hS8 := (S7.out.swap.app (x := []) o g n).swap; clear S7 o g n; have k0_8 := hS8.wd.cell; have k1_8 := hS8.er.cell; have k2_8 := hS8.ix.cell; have k3_8 := hS8.ix.frozen; have k4_8 := hS8.er.frozen; have g_81 := CELS.out w8 hS8.bel (i) x1 hx1; have g_82 := CELS.out w8 hS8.bel (i + 1) x2 hx2; have g_83 := CELS.out w8 hS8.bel (i + 1 + 1) x3 hx3; have S8 := Lib.hid hS8; clear hS8))
               have hF := S8.out.fail
               refine bodyPost_ret (zaC rfl _ _ rfl hF.er.cell) rfl ?_
               exact CondR.none HZ.out hF.bel
             | cons x4 r4 =>
               obtain ⟨hx4, hd4, hi4⟩ := zbj hd3
               cases r4 with
               | nil =>
                 have hlen := zbH hd4
                 have a0 : (i : Int) < (l.length : Int) := by omega
                 have a1 : (i : Int) + 1 < (l.length : Int) := by omega
                 have a2 : (i : Int) + 1 + 1 < (l.length : Int) := by omega
                 have a3 : (i : Int) + 1 + 1 + 1 < (l.length : Int) := by omega
                 have a4 : (i : Int) + 1 + 1 + 1 + 1 < (l.length : Int) := by omega
                 have a5 : ¬ (i : Int) + 1 + 1 + 1 + 1 + 1 < (l.length : Int) := by omega
                 have HZ := Lib.hid (show cnd l = some (cs ++ [x0], bs ++ [x2] ++ [x4]) by rw [HEQ.out, hd, zbg (by rw [hqt]; exact zaJ _ _)]; simp only; rw [if_neg hqei, hqel, zaJ]; simp)
                 have hb3l : (bs ++ [x2]).length ≤ 1001 := by simp; omega
                 have hb4l : (bs ++ [[]]).length ≤ 1001 := by simp; omega
                 clear hd hd0 hi0 hd1 hi1 hd2 hi2 hd3 hi3 hd4 hi4 hlen
                 go_wp2_with (first | (go_at_call 168; refine (CI.hit S0.out CELL.out hpb hl (i) (by first | rfl | omega) hx0).mono ?_; clear S0; rintro e w1 ⟨rfl, hS1⟩; dsimp only; have S1 := Lib.hid hS1; clear hS1) | (at_builtin; refine zaa rfl _ _ 24 rfl (w.heap.size + 3) 9 i0 (.string ⟨#[]⟩) 1 16 Tryz.underlying24 hi hz0 hz1 hz2 rfl (by decide) _ _ _ rfl (S1.out.ru.alloc _) ⟨w1.heap.size, 0, none⟩ 1 1 [.string ⟨x0.toArray⟩] rfl rfl (cell_one_new _ _ _) (by simp [Value.oneCell']) (by simp only [maxLen]; omega) (by omega) (by have := S1.out.sz; simp; omega) ?_; intro v2 w2 o g n; have hS2 := (S1.out.app (x := x0) o g n); clear S1 o g n; have k0_2 := hS2.wd.cell; have k1_2 := hS2.er.cell; have k2_2 := hS2.ix.cell; have k3_2 := hS2.ix.frozen; have k4_2 := hS2.er.frozen; have g_21 := CELS.out w2 hS2.bel (i) x1 hx1; have g_22 := CELS.out w2 hS2.bel (i + 1) x2 hx2; have g_23 := CELS.out w2 hS2.bel (i + 1 + 1) x3 hx3; have g_24 := CELS.out w2 hS2.bel (i + 1 + 1 + 1) x4 hx4; have S2 := Lib.hid hS2; clear hS2) | (go_at_call 168; refine (CI.hit (S2.out.step ((i : Int) + 1 + 1)) CELL.out hpb hl (i + 1 + 1) (by first | rfl | omega) hx2).mono ?_; clear S2; rintro e w4 ⟨rfl, hS4⟩; dsimp only; have S4 := Lib.hid hS4; clear hS4) | (at_builtin; refine zaa rfl _ _ 24 rfl (w.heap.size + 3) 9 i0 (.string ⟨#[]⟩) 1 16 Tryz.underlying24 hi hz0 hz1 hz2 rfl (by decide) _ _ _ rfl (S4.out.swap.ru.alloc _) ⟨w4.heap.size, 0, none⟩ 1 1 [.string ⟨x2.toArray⟩] rfl rfl (cell_one_new _ _ _) (by simp [Value.oneCell']) (by simp only [maxLen]; omega) (by omega) (by have := S4.out.sz; simp; omega) ?_; intro v5 w5 o g n; have hS5 := (S4.out.swap.app (x := x2) o g n).swap; clear S4 o g n; have k0_5 := hS5.wd.cell; have k1_5 := hS5.er.cell; have k2_5 := hS5.ix.cell; have k3_5 := hS5.ix.frozen; have k4_5 := hS5.er.frozen; have g_51 := CELS.out w5 hS5.bel (i) x1 hx1; have g_52 := CELS.out w5 hS5.bel (i + 1) x2 hx2; have g_53 := CELS.out w5 hS5.bel (i + 1 + 1) x3 hx3; have g_54 := CELS.out w5 hS5.bel (i + 1 + 1 + 1) x4 hx4; have S5 := Lib.hid hS5; clear hS5) | (go_at_call 168; refine (CI.hit (S5.out.step ((i : Int) + 1 + 1 + 1 + 1)) CELL.out hpb hl (i + 1 + 1 + 1 + 1) (by first | rfl | omega) hx4).mono ?_; clear S5; rintro e w7 ⟨rfl, hS7⟩; dsimp only; have S7 := Lib.hid hS7; clear hS7) | (at_builtin; refine zaa rfl _ _ 24 rfl (w.heap.size + 3) 9 i0 (.string ⟨#[]⟩) 1 16 Tryz.underlying24 hi hz0 hz1 hz2 rfl (by decide) _ _ _ rfl (S7.out.swap.ru.alloc _) ⟨w7.heap.size, 0, none⟩ 1 1 [.string ⟨x4.toArray⟩] rfl rfl (cell_one_new _ _ _) (by simp [Value.oneCell']) (by simp only [maxLen]; omega) (by omega) (by have := S7.out.sz; simp; omega) ?_; intro v8 w8 o g n; have hS8 := (S7.out.swap.app (x := x4) o g n).swap; clear S7 o g n; have k0_8 := hS8.wd.cell; have k1_8 := hS8.er.cell; have k2_8 := hS8.ix.cell; have k3_8 := hS8.ix.frozen; have k4_8 := hS8.er.frozen; have g_81 := CELS.out w8 hS8.bel (i) x1 hx1; have g_82 := CELS.out w8 hS8.bel (i + 1) x2 hx2; have g_83 := CELS.out w8 hS8.bel (i + 1 + 1) x3 hx3; have g_84 := CELS.out w8 hS8.bel (i + 1 + 1 + 1) x4 hx4; have S8 := Lib.hid hS8; clear hS8))
                 have hF := S8.out.fail0
                 refine bodyPost_ret (zaC rfl _ _ rfl hF.er.cell) rfl ?_
                 exact CondR.some HZ.out (zaq hF.ru (by omega)) (by have := zaq hF.rv (show w.heap.size ≤ w.heap.size + 3 by omega); simpa [OwnTx] using this) hF.bel
               | cons x5 r5 =>
                 obtain ⟨hx5, hd5, hi5⟩ := zbj hd4
                 have hlen := hi5
                 have a0 : (i : Int) < (l.length : Int) := by omega
                 have a1 : (i : Int) + 1 < (l.length : Int) := by omega
                 have a2 : (i : Int) + 1 + 1 < (l.length : Int) := by omega
                 have a3 : (i : Int) + 1 + 1 + 1 < (l.length : Int) := by omega
                 have a4 : (i : Int) + 1 + 1 + 1 + 1 < (l.length : Int) := by omega
                 have a5 : (i : Int) + 1 + 1 + 1 + 1 + 1 < (l.length : Int) := by omega
                 have HZ := Lib.hid (show cnd l = none by rw [HEQ.out, hd, zbg (by rw [hqt]; exact zaJ _ _)]; simp only; rw [if_neg hqei, hqel, zaJ]; rfl)
                 have hb3l : (bs ++ [x2]).length ≤ 1001 := by simp; omega
                 have hb4l : (bs ++ [[]]).length ≤ 1001 := by simp; omega
                 clear hd hd0 hi0 hd1 hi1 hd2 hi2 hd3 hi3 hd4 hi4 hd5 hi5 hlen
                 go_wp2_with (first | (go_at_call 168; refine (CI.hit S0.out CELL.out hpb hl (i) (by first | rfl | omega) hx0).mono ?_; clear S0; rintro e w1 ⟨rfl, hS1⟩; dsimp only; have S1 := Lib.hid hS1; clear hS1) | (at_builtin; refine zaa rfl _ _ 24 rfl (w.heap.size + 3) 9 i0 (.string ⟨#[]⟩) 1 16 Tryz.underlying24 hi hz0 hz1 hz2 rfl (by decide) _ _ _ rfl (S1.out.ru.alloc _) ⟨w1.heap.size, 0, none⟩ 1 1 [.string ⟨x0.toArray⟩] rfl rfl (cell_one_new _ _ _) (by simp [Value.oneCell']) (by simp only [maxLen]; omega) (by omega) (by have := S1.out.sz; simp; omega) ?_; intro v2 w2 o g n; have hS2 := (S1.out.app (x := x0) o g n); clear S1 o g n; have k0_2 := hS2.wd.cell; have k1_2 := hS2.er.cell; have k2_2 := hS2.ix.cell; have k3_2 := hS2.ix.frozen; have k4_2 := hS2.er.frozen; have g_21 := CELS.out w2 hS2.bel (i) x1 hx1; have g_22 := CELS.out w2 hS2.bel (i + 1) x2 hx2; have g_23 := CELS.out w2 hS2.bel (i + 1 + 1) x3 hx3; have g_24 := CELS.out w2 hS2.bel (i + 1 + 1 + 1) x4 hx4; have g_25 := CELS.out w2 hS2.bel (i + 1 + 1 + 1 + 1) x5 hx5; have S2 := Lib.hid hS2; clear hS2) | (go_at_call 168; refine (CI.hit (S2.out.step ((i : Int) + 1 + 1)) CELL.out hpb hl (i + 1 + 1) (by first | rfl | omega) hx2).mono ?_; clear S2; rintro e w4 ⟨rfl, hS4⟩; dsimp only; have S4 := Lib.hid hS4; clear hS4) | (at_builtin; refine zaa rfl _ _ 24 rfl (w.heap.size + 3) 9 i0 (.string ⟨#[]⟩) 1 16 Tryz.underlying24 hi hz0 hz1 hz2 rfl (by decide) _ _ _ rfl (S4.out.swap.ru.alloc _) ⟨w4.heap.size, 0, none⟩ 1 1 [.string ⟨x2.toArray⟩] rfl rfl (cell_one_new _ _ _) (by simp [Value.oneCell']) (by simp only [maxLen]; omega) (by omega) (by have := S4.out.sz; simp; omega) ?_; intro v5 w5 o g n; have hS5 := (S4.out.swap.app (x := x2) o g n).swap; clear S4 o g n; have k0_5 := hS5.wd.cell; have k1_5 := hS5.er.cell; have k2_5 := hS5.ix.cell; have k3_5 := hS5.ix.frozen; have k4_5 := hS5.er.frozen; have g_51 := CELS.out w5 hS5.bel (i) x1 hx1; have g_52 := CELS.out w5 hS5.bel (i + 1) x2 hx2; have g_53 := CELS.out w5 hS5.bel (i + 1 + 1) x3 hx3; have g_54 := CELS.out w5 hS5.bel (i + 1 + 1 + 1) x4 hx4; have g_55 := CELS.out w5 hS5.bel (i + 1 + 1 + 1 + 1) x5 hx5; have S5 := Lib.hid hS5; clear hS5) | (go_at_call 168; refine (CI.hit (S5.out.step ((i : Int) + 1 + 1 + 1 + 1)) CELL.out hpb hl (i + 1 + 1 + 1 + 1) (by first | rfl | omega) hx4).mono ?_; clear S5; rintro e w7 ⟨rfl, hS7⟩; dsimp only; have S7 := Lib.hid hS7; clear hS7) | (at_builtin; refine zaa rfl _ _ 24 rfl (w.heap.size + 3) 9 i0 (.string ⟨#[]⟩) 1 16 Tryz.underlying24 hi hz0 hz1 hz2 rfl (by decide) _ _ _ rfl (S7.out.swap.ru.alloc _) ⟨w7.heap.size, 0, none⟩ 1 1 [.string ⟨x4.toArray⟩] rfl rfl (cell_one_new _ _ _) (by simp [Value.oneCell']) (by simp only [maxLen]; omega) (by omega) (by have := S7.out.sz; simp; omega) ?_; intro v8 w8 o g n; have hS8 := (S7.out.swap.app (x := x4) o g n).swap; clear S7 o g n; have k0_8 := hS8.wd.cell; have k1_8 := hS8.er.cell; have k2_8 := hS8.ix.cell; have k3_8 := hS8.ix.frozen; have k4_8 := hS8.er.frozen; have g_81 := CELS.out w8 hS8.bel (i) x1 hx1; have g_82 := CELS.out w8 hS8.bel (i + 1) x2 hx2; have g_83 := CELS.out w8 hS8.bel (i + 1 + 1) x3 hx3; have g_84 := CELS.out w8 hS8.bel (i + 1 + 1 + 1) x4 hx4; have g_85 := CELS.out w8 hS8.bel (i + 1 + 1 + 1 + 1) x5 hx5; have S8 := Lib.hid hS8; clear hS8))
                 have hF := S8.out.fail
                 refine bodyPost_ret (zaC rfl _ _ rfl hF.er.cell) rfl ?_
                 exact CondR.none HZ.out hF.bel
            ·have qel : (x3 == [101, 108, 115, 101]) = false := by simp; exact hqel
             cases r3 with
             | nil =>
               have hlen := zbH hd3
               have a0 : (i : Int) < (l.length : Int) := by omega
               have a1 : (i : Int) + 1 < (l.length : Int) := by omega
               have a2 : (i : Int) + 1 + 1 < (l.length : Int) := by omega
               have a3 : (i : Int) + 1 + 1 + 1 < (l.length : Int) := by omega
               have a4 : ¬ (i : Int) + 1 + 1 + 1 + 1 < (l.length : Int) := by omega
               have HZ := Lib.hid (show cnd l = some (cs ++ [x0], bs ++ [x2] ++ [x3]) by rw [HEQ.out, hd, zbg (by rw [hqt]; exact zaJ _ _)]; simp only; rw [if_neg hqei, zaP _ hqel]; simp)
               have hb3l : (bs ++ [x2]).length ≤ 1001 := by simp; omega
               have hb4l : (bs ++ [[]]).length ≤ 1001 := by simp; omega
               clear hd hd0 hi0 hd1 hi1 hd2 hi2 hd3 hi3 hlen
               go_wp2_with (first | (go_at_call 168; refine (CI.hit S0.out CELL.out hpb hl (i) (by first | rfl | omega) hx0).mono ?_; clear S0; rintro e w1 ⟨rfl, hS1⟩; dsimp only; have S1 := Lib.hid hS1; clear hS1) | (at_builtin; refine zaa rfl _ _ 24 rfl (w.heap.size + 3) 9 i0 (.string ⟨#[]⟩) 1 16 Tryz.underlying24 hi hz0 hz1 hz2 rfl (by decide) _ _ _ rfl (S1.out.ru.alloc _) ⟨w1.heap.size, 0, none⟩ 1 1 [.string ⟨x0.toArray⟩] rfl rfl (cell_one_new _ _ _) (by simp [Value.oneCell']) (by simp only [maxLen]; omega) (by omega) (by have := S1.out.sz; simp; omega) ?_; intro v2 w2 o g n; have hS2 := (S1.out.app (x := x0) o g n); clear S1 o g n; have k0_2 := hS2.wd.cell; have k1_2 := hS2.er.cell; have k2_2 := hS2.ix.cell; have k3_2 := hS2.ix.frozen; have k4_2 := hS2.er.frozen; have g_21 := CELS.out w2 hS2.bel (i) x1 hx1; have g_22 := CELS.out w2 hS2.bel (i + 1) x2 hx2; have g_23 := CELS.out w2 hS2.bel (i + 1 + 1) x3 hx3; have S2 := Lib.hid hS2; clear hS2) | (go_at_call 168; refine (CI.hit (S2.out.step ((i : Int) + 1 + 1)) CELL.out hpb hl (i + 1 + 1) (by first | rfl | omega) hx2).mono ?_; clear S2; rintro e w4 ⟨rfl, hS4⟩; dsimp only; have S4 := Lib.hid hS4; clear hS4) | (at_builtin; refine zaa rfl _ _ 24 rfl (w.heap.size + 3) 9 i0 (.string ⟨#[]⟩) 1 16 Tryz.underlying24 hi hz0 hz1 hz2 rfl (by decide) _ _ _ rfl (S4.out.swap.ru.alloc _) ⟨w4.heap.size, 0, none⟩ 1 1 [.string ⟨x2.toArray⟩] rfl rfl (cell_one_new _ _ _) (by simp [Value.oneCell']) (by simp only [maxLen]; omega) (by omega) (by have := S4.out.sz; simp; omega) ?_; intro v5 w5 o g n; have hS5 := (S4.out.swap.app (x := x2) o g n).swap; clear S4 o g n; have k0_5 := hS5.wd.cell; have k1_5 := hS5.er.cell; have k2_5 := hS5.ix.cell; have k3_5 := hS5.ix.frozen; have k4_5 := hS5.er.frozen; have g_51 := CELS.out w5 hS5.bel (i) x1 hx1; have g_52 := CELS.out w5 hS5.bel (i + 1) x2 hx2; have g_53 := CELS.out w5 hS5.bel (i + 1 + 1) x3 hx3; have S5 := Lib.hid hS5; clear hS5) | (go_at_call 168; refine (CI.hit S5.out CELL.out hpb hl (i + 1 + 1 + 1) (by first | rfl | omega) hx3).mono ?_; clear S5; rintro e w6 ⟨rfl, hS6⟩; dsimp only; have S6 := Lib.hid hS6; clear hS6) | (at_builtin; refine zaa rfl _ _ 24 rfl (w.heap.size + 3) 9 i0 (.string ⟨#[]⟩) 1 16 Tryz.underlying24 hi hz0 hz1 hz2 rfl (by decide) _ _ _ rfl (S6.out.swap.ru.alloc _) ⟨w6.heap.size, 0, none⟩ 1 1 [.string ⟨x3.toArray⟩] rfl rfl (cell_one_new _ _ _) (by simp [Value.oneCell']) (by simp only [maxLen]; omega) (by omega) (by have := S6.out.sz; simp; omega) ?_; intro v7 w7 o g n; have hS7 := (S6.out.swap.app (x := x3) o g n).swap; clear S6 o g n; have k0_7 := hS7.wd.cell; have k1_7 := hS7.er.cell; have k2_7 := hS7.ix.cell; have k3_7 := hS7.ix.frozen; have k4_7 := hS7.er.frozen; have g_71 := CELS.out w7 hS7.bel (i) x1 hx1; have g_72 := CELS.out w7 hS7.bel (i + 1) x2 hx2; have g_73 := CELS.out w7 hS7.bel (i + 1 + 1) x3 hx3; have S7 := Lib.hid hS7; clear hS7))
               have hF := S7.out.fail0
               refine bodyPost_ret (zaC rfl _ _ rfl hF.er.cell) rfl ?_
               exact CondR.some HZ.out (zaq hF.ru (by omega)) (by have := zaq hF.rv (show w.heap.size ≤ w.heap.size + 3 by omega); simpa [OwnTx] using this) hF.bel
             | cons x4 r4 =>
               obtain ⟨hx4, hd4, hi4⟩ := zbj hd3
               have hlen := hi4
               have a0 : (i : Int) < (l.length : Int) := by omega
               have a1 : (i : Int) + 1 < (l.length : Int) := by omega
               have a2 : (i : Int) + 1 + 1 < (l.length : Int) := by omega
               have a3 : (i : Int) + 1 + 1 + 1 < (l.length : Int) := by omega
               have a4 : (i : Int) + 1 + 1 + 1 + 1 < (l.length : Int) := by omega
               have HZ := Lib.hid (show cnd l = none by rw [HEQ.out, hd, zbg (by rw [hqt]; exact zaJ _ _)]; simp only; rw [if_neg hqei, zaP _ hqel]; rfl)
               have hb3l : (bs ++ [x2]).length ≤ 1001 := by simp; omega
               have hb4l : (bs ++ [[]]).length ≤ 1001 := by simp; omega
               clear hd hd0 hi0 hd1 hi1 hd2 hi2 hd3 hi3 hd4 hi4 hlen
               go_wp2_with (first | (go_at_call 168; refine (CI.hit S0.out CELL.out hpb hl (i) (by first | rfl | omega) hx0).mono ?_; clear S0; rintro e w1 ⟨rfl, hS1⟩; dsimp only; have S1 := Lib.hid hS1; clear hS1) | (at_builtin; refine zaa rfl _ _ 24 rfl (w.heap.size + 3) 9 i0 (.string ⟨#[]⟩) 1 16 Tryz.underlying24 hi hz0 hz1 hz2 rfl (by decide) _ _ _ rfl (S1.out.ru.alloc _) ⟨w1.heap.size, 0, none⟩ 1 1 [.string ⟨x0.toArray⟩] rfl rfl (cell_one_new _ _ _) (by simp [Value.oneCell']) (by simp only [maxLen]; omega) (by omega) (by have := S1.out.sz; simp; omega) ?_; intro v2 w2 o g n; have hS2 := (S1.out.app (x := x0) o g n); clear S1 o g n; have k0_2 := hS2.wd.cell; have k1_2 := hS2.er.cell; have k2_2 := hS2.ix.cell; have k3_2 := hS2.ix.frozen; have k4_2 := hS2.er.frozen; have g_21 := CELS.out w2 hS2.bel (i) x1 hx1; have g_22 := CELS.out w2 hS2.bel (i + 1) x2 hx2; have g_23 := CELS.out w2 hS2.bel (i + 1 + 1) x3 hx3; have g_24 := CELS.out w2 hS2.bel (i + 1 + 1 + 1) x4 hx4; have S2 := Lib.hid hS2; clear hS2) | (go_at_call 168; refine (CI.hit (S2.out.step ((i : Int) + 1 + 1)) CELL.out hpb hl (i + 1 + 1) (by first | rfl | omega) hx2).mono ?_; clear S2; rintro e w4 ⟨rfl, hS4⟩; dsimp only; have S4 := Lib.hid hS4; clear hS4) | (at_builtin; refine zaa rfl _ _ 24 rfl (w.heap.size + 3) 9 i0 (.string ⟨#[]⟩) 1 16 Tryz.underlying24 hi hz0 hz1 hz2 rfl (by decide) _ _ _ rfl (S4.out.swap.ru.alloc _) ⟨w4.heap.size, 0, none⟩ 1 1 [.string ⟨x2.toArray⟩] rfl rfl (cell_one_new _ _ _) (by simp [Value.oneCell']) (by simp only [maxLen]; omega) (by omega) (by have := S4.out.sz; simp; omega) ?_; intro v5 w5 o g n; have hS5 := (S4.out.swap.app (x := x2) o g n).swap; clear S4 o g n; have k0_5 := hS5.wd.cell; have k1_5 := hS5.er.cell; have k2_5 := hS5.ix.cell; have k3_5 := hS5.ix.frozen; have k4_5 := hS5.er.frozen; have g_51 := CELS.out w5 hS5.bel (i) x1 hx1; have g_52 := CELS.out w5 hS5.bel (i + 1) x2 hx2; have g_53 := CELS.out w5 hS5.bel (i + 1 + 1) x3 hx3; have g_54 := CELS.out w5 hS5.bel (i + 1 + 1 + 1) x4 hx4; have S5 := Lib.hid hS5; clear hS5) | (go_at_call 168; refine (CI.hit S5.out CELL.out hpb hl (i + 1 + 1 + 1) (by first | rfl | omega) hx3).mono ?_; clear S5; rintro e w6 ⟨rfl, hS6⟩; dsimp only; have S6 := Lib.hid hS6; clear hS6) | (at_builtin; refine zaa rfl _ _ 24 rfl (w.heap.size + 3) 9 i0 (.string ⟨#[]⟩) 1 16 Tryz.underlying24 hi hz0 hz1 hz2 rfl (by decide) _ _ _ rfl (S6.out.swap.ru.alloc _) ⟨w6.heap.size, 0, none⟩ 1 1 [.string ⟨x3.toArray⟩] rfl rfl (cell_one_new _ _ _) (by simp [Value.oneCell']) (by simp only [maxLen]; omega) (by omega) (by have := S6.out.sz; simp; omega) ?_; intro v7 w7 o g n; have hS7 := (S6.out.swap.app (x := x3) o g n).swap; clear S6 o g n; have k0_7 := hS7.wd.cell; have k1_7 := hS7.er.cell; have k2_7 := hS7.ix.cell; have k3_7 := hS7.ix.frozen; have k4_7 := hS7.er.frozen; have g_71 := CELS.out w7 hS7.bel (i) x1 hx1; have g_72 := CELS.out w7 hS7.bel (i + 1) x2 hx2; have g_73 := CELS.out w7 hS7.bel (i + 1 + 1) x3 hx3; have g_74 := CELS.out w7 hS7.bel (i + 1 + 1 + 1) x4 hx4; have S7 := Lib.hid hS7; clear hS7))
               have hF := S7.out.fail
               refine bodyPost_ret (zaC rfl _ _ rfl hF.er.cell) rfl ?_
               exact CondR.none HZ.out hF.bel
      ·have qt : (x1 == [116, 104, 101, 110]) = false := by simp; exact hqt
       cases r1 with
       | nil =>
         have hlen := zbH hd1
         have a0 : (i : Int) < (l.length : Int) := by omega
         have a1 : (i : Int) + 1 < (l.length : Int) := by omega
         have a2 : ¬ (i : Int) + 1 + 1 < (l.length : Int) := by omega
         have HZ := Lib.hid (show cnd l = some (cs ++ [x0], bs ++ [x1]) by rw [HEQ.out, hd, zbg (zaP _ hqt)]; rfl)
         have hb3l : (bs ++ [x1]).length ≤ 1001 := by simp; omega
         have hb4l : (bs ++ [[]]).length ≤ 1001 := by simp; omega
         clear hd hd0 hi0 hd1 hi1 hlen
         go_wp2_with (first | (go_at_call 168; refine (CI.hit S0.out CELL.out hpb hl (i) (by first | rfl | omega) hx0).mono ?_; clear S0; rintro e w1 ⟨rfl, hS1⟩; dsimp only; have S1 := Lib.hid hS1; clear hS1) | (at_builtin; refine zaa rfl _ _ 24 rfl (w.heap.size + 3) 9 i0 (.string ⟨#[]⟩) 1 16 Tryz.underlying24 hi hz0 hz1 hz2 rfl (by decide) _ _ _ rfl (S1.out.ru.alloc _) ⟨w1.heap.size, 0, none⟩ 1 1 [.string ⟨x0.toArray⟩] rfl rfl (cell_one_new _ _ _) (by simp [Value.oneCell']) (by simp only [maxLen]; omega) (by omega) (by have := S1.out.sz; simp; omega) ?_; intro v2 w2 o g n; have hS2 := (S1.out.app (x := x0) o g n); clear S1 o g n; have k0_2 := hS2.wd.cell; have k1_2 := hS2.er.cell; have k2_2 := hS2.ix.cell; have k3_2 := hS2.ix.frozen; have k4_2 := hS2.er.frozen; have g_21 := CELS.out w2 hS2.bel (i) x1 hx1; have S2 := Lib.hid hS2; clear hS2) | (go_at_call 168; refine (CI.hit S2.out CELL.out hpb hl (i + 1) (by first | rfl | omega) hx1).mono ?_; clear S2; rintro e w3 ⟨rfl, hS3⟩; dsimp only; have S3 := Lib.hid hS3; clear hS3) | (at_builtin; refine zaa rfl _ _ 24 rfl (w.heap.size + 3) 9 i0 (.string ⟨#[]⟩) 1 16 Tryz.underlying24 hi hz0 hz1 hz2 rfl (by decide) _ _ _ rfl (S3.out.swap.ru.alloc _) ⟨w3.heap.size, 0, none⟩ 1 1 [.string ⟨x1.toArray⟩] rfl rfl (cell_one_new _ _ _) (by simp [Value.oneCell']) (by simp only [maxLen]; omega) (by omega) (by have := S3.out.sz; simp; omega) ?_; intro v4 w4 o g n; have hS4 := (S3.out.swap.app (x := x1) o g n).swap; clear S3 o g n; have k0_4 := hS4.wd.cell; have k1_4 := hS4.er.cell; have k2_4 := hS4.ix.cell; have k3_4 := hS4.ix.frozen; have k4_4 := hS4.er.frozen; have g_41 := CELS.out w4 hS4.bel (i) x1 hx1; have S4 := Lib.hid hS4; clear hS4))
         have hF := S4.out.fail0
         refine bodyPost_ret (zaC rfl _ _ rfl hF.er.cell) rfl ?_
         exact CondR.some HZ.out (zaq hF.ru (by omega)) (by have := zaq hF.rv (show w.heap.size ≤ w.heap.size + 3 by omega); simpa [OwnTx] using this) hF.bel
       | cons x2 r2 =>
         obtain ⟨hx2, hd2, hi2⟩ := zbj hd1
         by_cases hqei : x2 = zft
         ·have qei : (x2 == [101, 108, 115, 101, 105, 102]) = true := by rw [hqei]; rfl
          have hlen := hi2
          have a0 : (i : Int) < (l.length : Int) := by omega
          have a1 : (i : Int) + 1 < (l.length : Int) := by omega
          have a2 : (i : Int) + 1 + 1 < (l.length : Int) := by omega
          have HZ := Lib.hid (show cnd l = (cnd (l.drop (i + 1 + 1 + 1))).map (fun p => (cs ++ [x0] ++ p.1, bs ++ [x1] ++ p.2)) by rw [HEQ.out, hd, zbg (zaP _ hqt)]; simp only; rw [if_pos hqei, hd2, Option.map_map]; congr 1; funext q; simp)
          have hb3l : (bs ++ [x1]).length ≤ 1001 := by simp; omega
          have hb4l : (bs ++ [[]]).length ≤ 1001 := by simp; omega
          clear hd hd0 hi0 hd1 hi1 hd2 hi2 hlen
          go_wp2_with (first | (go_at_call 168; refine (CI.hit S0.out CELL.out hpb hl (i) (by first | rfl | omega) hx0).mono ?_; clear S0; rintro e w1 ⟨rfl, hS1⟩; dsimp only; have S1 := Lib.hid hS1; clear hS1) | (at_builtin; refine zaa rfl _ _ 24 rfl (w.heap.size + 3) 9 i0 (.string ⟨#[]⟩) 1 16 Tryz.underlying24 hi hz0 hz1 hz2 rfl (by decide) _ _ _ rfl (S1.out.ru.alloc _) ⟨w1.heap.size, 0, none⟩ 1 1 [.string ⟨x0.toArray⟩] rfl rfl (cell_one_new _ _ _) (by simp [Value.oneCell']) (by simp only [maxLen]; omega) (by omega) (by have := S1.out.sz; simp; omega) ?_; intro v2 w2 o g n; have hS2 := (S1.out.app (x := x0) o g n); clear S1 o g n; have k0_2 := hS2.wd.cell; have k1_2 := hS2.er.cell; have k2_2 := hS2.ix.cell; have k3_2 := hS2.ix.frozen; have k4_2 := hS2.er.frozen; have g_21 := CELS.out w2 hS2.bel (i) x1 hx1; have g_22 := CELS.out w2 hS2.bel (i + 1) x2 hx2; have S2 := Lib.hid hS2; clear hS2) | (go_at_call 168; refine (CI.hit S2.out CELL.out hpb hl (i + 1) (by first | rfl | omega) hx1).mono ?_; clear S2; rintro e w3 ⟨rfl, hS3⟩; dsimp only; have S3 := Lib.hid hS3; clear hS3) | (at_builtin; refine zaa rfl _ _ 24 rfl (w.heap.size + 3) 9 i0 (.string ⟨#[]⟩) 1 16 Tryz.underlying24 hi hz0 hz1 hz2 rfl (by decide) _ _ _ rfl (S3.out.swap.ru.alloc _) ⟨w3.heap.size, 0, none⟩ 1 1 [.string ⟨x1.toArray⟩] rfl rfl (cell_one_new _ _ _) (by simp [Value.oneCell']) (by simp only [maxLen]; omega) (by omega) (by have := S3.out.sz; simp; omega) ?_; intro v4 w4 o g n; have hS4 := (S3.out.swap.app (x := x1) o g n).swap; clear S3 o g n; have k0_4 := hS4.wd.cell; have k1_4 := hS4.er.cell; have k2_4 := hS4.ix.cell; have k3_4 := hS4.ix.frozen; have k4_4 := hS4.er.frozen; have g_41 := CELS.out w4 hS4.bel (i) x1 hx1; have g_42 := CELS.out w4 hS4.bel (i + 1) x2 hx2; have S4 := Lib.hid hS4; clear hS4))
          go_roundg (l.length + 1 - (i + 1 + 1 + 1))
          case measure => rw [HK.out]; omega
          case rel => exact ⟨i + 1 + 1 + 1, cs ++ [x0], bs ++ [x1], rfl, by omega, by simp; omega, by simp; omega, HZ.out, CI.cast (S4.out.step ((i : Int) + 1 + 1 + 1)) (by first | rfl | omega)⟩
         ·have qei : (x2 == [101, 108, 115, 101, 105, 102]) = false := by simp; exact hqei
          by_cases hqel : x2 = wElse
          ·have qel : (x2 == [101, 108, 115, 101]) = true := by rw [hqel]; rfl
           cases r2 with
           | nil =>
             have hlen := zbH hd2
             have a0 : (i : Int) < (l.length : Int) := by omega
             have a1 : (i : Int) + 1 < (l.length : Int) := by omega
             have a2 : (i : Int) + 1 + 1 < (l.length : Int) := by omega
             have a3 : ¬ (i : Int) + 1 + 1 + 1 < (l.length : Int) := by omega
             have HZ := Lib.hid (show cnd l = none by rw [HEQ.out, hd, zbg (zaP _ hqt)]; simp only; rw [if_neg hqei, hqel, zaJ]; rfl)
             have hb3l : (bs ++ [x1]).length ≤ 1001 := by simp; omega
             have hb4l : (bs ++ [[]]).length ≤ 1001 := by simp; omega
             clear hd hd0 hi0 hd1 hi1 hd2 hi2 hlen
             go_wp2_with (first | (go_at_call 168; refine (CI.hit S0.out CELL.out hpb hl (i) (by first | rfl | omega) hx0).mono ?_; clear S0; rintro e w1 ⟨rfl, hS1⟩; dsimp only; have S1 := Lib.hid hS1; clear hS1) | (at_builtin; refine zaa rfl _ _ 24 rfl (w.heap.size + 3) 9 i0 (.string ⟨#[]⟩) 1 16 Tryz.underlying24 hi hz0 hz1 hz2 rfl (by decide) _ _ _ rfl (S1.out.ru.alloc _) ⟨w1.heap.size, 0, none⟩ 1 1 [.string ⟨x0.toArray⟩] rfl rfl (cell_one_new _ _ _) (by simp [Value.oneCell']) (by simp only [maxLen]; omega) (by omega) (by have := S1.out.sz; simp; omega) ?_; intro v2 w2 o g n; have hS2 := (S1.out.app (x := x0) o g n); clear S1 o g n; have k0_2 := hS2.wd.cell; have k1_2 := hS2.er.cell; have k2_2 := hS2.ix.cell; have k3_2 := hS2.ix.frozen; have k4_2 := hS2.er.frozen; have g_21 := CELS.out w2 hS2.bel (i) x1 hx1; have g_22 := CELS.out w2 hS2.bel (i + 1) x2 hx2; have S2 := Lib.hid hS2; clear hS2) | (go_at_call 168; refine (CI.hit S2.out CELL.out hpb hl (i + 1) (by first | rfl | omega) hx1).mono ?_; clear S2; rintro e w3 ⟨rfl, hS3⟩; dsimp only; have S3 := Lib.hid hS3; clear hS3) | (at_builtin; refine zaa rfl _ _ 24 rfl (w.heap.size + 3) 9 i0 (.string ⟨#[]⟩) 1 16 Tryz.underlying24 hi hz0 hz1 hz2 rfl (by decide) _ _ _ rfl (S3.out.swap.ru.alloc _) ⟨w3.heap.size, 0, none⟩ 1 1 [.string ⟨x1.toArray⟩] rfl rfl (cell_one_new _ _ _) (by simp [Value.oneCell']) (by simp only [maxLen]; omega) (by omega) (by have := S3.out.sz; simp; omega) ?_; intro v4 w4 o g n; have hS4 := (S3.out.swap.app (x := x1) o g n).swap; clear S3 o g n; have k0_4 := hS4.wd.cell; have k1_4 := hS4.er.cell; have k2_4 := hS4.ix.cell; have k3_4 := hS4.ix.frozen; have k4_4 := hS4.er.frozen; have g_41 := CELS.out w4 hS4.bel (i) x1 hx1; have g_42 := CELS.out w4 hS4.bel (i + 1) x2 hx2; have S4 := Lib.hid hS4; clear hS4) | (go_at_call 168; refine (CI.miss (S4.out.step ((i : Int) + 1 + 1 + 1)) (i + 1 + 1 + 1) (by first | rfl | omega) (by omega) (by omega)).mono ?_; clear S4; rintro e w6 ⟨rfl, hS6⟩; dsimp only; have S6 := Lib.hid hS6; clear hS6) | (at_builtin; refine zaa rfl _ _ 24 rfl (w.heap.size + 3) 9 i0 (.string ⟨#[]⟩) 1 16 Tryz.underlying24 hi hz0 hz1 hz2 rfl (by decide) _ _ _ rfl (S6.out.swap.ru.alloc _) ⟨w6.heap.size, 0, none⟩ 1 1 [.string ⟨#[]⟩] rfl rfl (cell_one_new _ _ _) (by simp [Value.oneCell']) (by simp only [maxLen]; omega) (by omega) (by have := S6.out.sz; simp; omega) ?_; intro v7 w7 o g n; have hS7 := (S6.out.swap.app (x := []) o g n).swap; clear S6 o g n; have k0_7 := hS7.wd.cell; have k1_7 := hS7.er.cell; have k2_7 := hS7.ix.cell; have k3_7 := hS7.ix.frozen; have k4_7 := hS7.er.frozen; have g_71 := CELS.out w7 hS7.bel (i) x1 hx1; have g_72 := CELS.out w7 hS7.bel (i + 1) x2 hx2; have S7 := Lib.hid hS7; clear hS7))
             have hF := S7.out.fail
             refine bodyPost_ret (zaC rfl _ _ rfl hF.er.cell) rfl ?_
             exact CondR.none HZ.out hF.bel
           | cons x3 r3 =>
             obtain ⟨hx3, hd3, hi3⟩ := zbj hd2
             cases r3 with
             | nil =>
               have hlen := zbH hd3
               have a0 : (i : Int) < (l.length : Int) := by omega
               have a1 : (i : Int) + 1 < (l.length : Int) := by omega
               have a2 : (i : Int) + 1 + 1 < (l.length : Int) := by omega
               have a3 : (i : Int) + 1 + 1 + 1 < (l.length : Int) := by omega
               have a4 : ¬ (i : Int) + 1 + 1 + 1 + 1 < (l.length : Int) := by omega
               have HZ := Lib.hid (show cnd l = some (cs ++ [x0], bs ++ [x1] ++ [x3]) by rw [HEQ.out, hd, zbg (zaP _ hqt)]; simp only; rw [if_neg hqei, hqel, zaJ]; simp)
               have hb3l : (bs ++ [x1]).length ≤ 1001 := by simp; omega
               have hb4l : (bs ++ [[]]).length ≤ 1001 := by simp; omega
               clear hd hd0 hi0 hd1 hi1 hd2 hi2 hd3 hi3 hlen
               go_wp2_with (first | (go_at_call 168; refine (CI.hit S0.out CELL.out hpb hl (i) (by first | rfl | omega) hx0).mono ?_; clear S0; rintro e w1 ⟨rfl, hS1⟩; dsimp only; have S1 := Lib.hid hS1; clear hS1) | (at_builtin; refine zaa rfl _ _ 24 rfl (w.heap.size + 3) 9 i0 (.string ⟨#[]⟩) 1 16 Tryz.underlying24 hi hz0 hz1 hz2 rfl (by decide) _ _ _ rfl (S1.out.ru.alloc _) ⟨w1.heap.size, 0, none⟩ 1 1 [.string ⟨x0.toArray⟩] rfl rfl (cell_one_new _ _ _) (by simp [Value.oneCell']) (by simp only [maxLen]; omega) (by omega) (by have := S1.out.sz; simp; omega) ?_; intro v2 w2 o g n; have hS2 := (S1.out.app (x := x0) o g n); clear S1 o g n; have k0_2 := hS2.wd.cell; have k1_2 := hS2.er.cell; have k2_2 := hS2.ix.cell; have k3_2 := hS2.ix.frozen; have k4_2 := hS2.er.frozen; have g_21 := CELS.out w2 hS2.bel (i) x1 hx1; have g_22 := CELS.out w2 hS2.bel (i + 1) x2 hx2; have g_23 := CELS.out w2 hS2.bel (i + 1 + 1) x3 hx3; have S2 := Lib.hid hS2; clear hS2) | (go_at_call 168; refine (CI.hit S2.out CELL.out hpb hl (i + 1) (by first | rfl | omega) hx1).mono ?_; clear S2; rintro e w3 ⟨rfl, hS3⟩; dsimp only; have S3 := Lib.hid hS3; clear hS3) | (at_builtin; refine zaa rfl _ _ 24 rfl (w.heap.size + 3) 9 i0 (.string ⟨#[]⟩) 1 16 Tryz.underlying24 hi hz0 hz1 hz2 rfl (by decide) _ _ _ rfl (S3.out.swap.ru.alloc _) ⟨w3.heap.size, 0, none⟩ 1 1 [.string ⟨x1.toArray⟩] rfl rfl (cell_one_new _ _ _) (by simp [Value.oneCell']) (by simp only [maxLen]; omega) (by omega) (by have := S3.out.sz; simp; omega) ?_; intro v4 w4 o g n; have hS4 := (S3.out.swap.app (x := x1) o g n).swap; clear S3 o g n; have k0_4 := hS4.wd.cell; have k1_4 := hS4.er.cell; have k2_4 := hS4.ix.cell; have k3_4 := hS4.ix.frozen; have k4_4 := hS4.er.frozen; have g_41 := CELS.out w4 hS4.bel (i) x1 hx1; have g_42 := CELS.out w4 hS4.bel (i + 1) x2 hx2; have g_43 := CELS.out w4 hS4.bel (i + 1 + 1) x3 hx3; have S4 := Lib.hid hS4; clear hS4) | (go_at_call 168; refine (CI.hit (S4.out.step ((i : Int) + 1 + 1 + 1)) CELL.out hpb hl (i + 1 + 1 + 1) (by first | rfl | omega) hx3).mono ?_; clear S4; rintro e w6 ⟨rfl, hS6⟩; dsimp only; have S6 := Lib.hid hS6; clear hS6) | (at_builtin; refine zaa rfl _ _ 24 rfl (w.heap.size + 3) 9 i0 (.string ⟨#[]⟩) 1 16 Tryz.underlying24 hi hz0 hz1 hz2 rfl (by decide) _ _ _ rfl (S6.out.swap.ru.alloc _) ⟨w6.heap.size, 0, none⟩ 1 1 [.string ⟨x3.toArray⟩] rfl rfl (cell_one_new _ _ _) (by simp [Value.oneCell']) (by simp only [maxLen]; omega) (by omega) (by have := S6.out.sz; simp; omega) ?_; intro v7 w7 o g n; have hS7 := (S6.out.swap.app (x := x3) o g n).swap; clear S6 o g n; have k0_7 := hS7.wd.cell; have k1_7 := hS7.er.cell; have k2_7 := hS7.ix.cell; have k3_7 := hS7.ix.frozen; have k4_7 := hS7.er.frozen; have g_71 := CELS.out w7 hS7.bel (i) x1 hx1; have g_72 := CELS.out w7 hS7.bel (i + 1) x2 hx2; have g_73 := CELS.out w7 hS7.bel (i + 1 + 1) x3 hx3; have S7 := Lib.hid hS7; clear hS7))
               have hF := S7.out.fail0
               refine bodyPost_ret (zaC rfl _ _ rfl hF.er.cell) rfl ?_
               exact CondR.some HZ.out (zaq hF.ru (by omega)) (by have := zaq hF.rv (show w.heap.size ≤ w.heap.size + 3 by omega); simpa [OwnTx] using this) hF.bel
             | cons x4 r4 =>
               obtain ⟨hx4, hd4, hi4⟩ := zbj hd3
               have hlen := hi4
               have a0 : (i : Int) < (l.length : Int) := by omega
               have a1 : (i : Int) + 1 < (l.length : Int) := by omega
               have a2 : (i : Int) + 1 + 1 < (l.length : Int) := by omega
               have a3 : (i : Int) + 1 + 1 + 1 < (l.length : Int) := by omega
               have a4 : (i : Int) + 1 + 1 + 1 + 1 < (l.length : Int) := by omega
               have HZ := Lib.hid (show cnd l = none by rw [HEQ.out, hd, zbg (zaP _ hqt)]; simp only; rw [if_neg hqei, hqel, zaJ]; rfl)
               have hb3l : (bs ++ [x1]).length ≤ 1001 := by simp; omega
               have hb4l : (bs ++ [[]]).length ≤ 1001 := by simp; omega
               clear hd hd0 hi0 hd1 hi1 hd2 hi2 hd3 hi3 hd4 hi4 hlen
               go_wp2_with (first | (go_at_call 168; refine (CI.hit S0.out CELL.out hpb hl (i) (by first | rfl | omega) hx0).mono ?_; clear S0; rintro e w1 ⟨rfl, hS1⟩; dsimp only; have S1 := Lib.hid hS1; clear hS1) | (at_builtin; refine zaa rfl _ _ 24 rfl (w.heap.size + 3) 9 i0 (.string ⟨#[]⟩) 1 16 Tryz.underlying24 hi hz0 hz1 hz2 rfl (by decide) _ _ _ rfl (S1.out.ru.alloc _) ⟨w1.heap.size, 0, none⟩ 1 1 [.string ⟨x0.toArray⟩] rfl rfl (cell_one_new _ _ _) (by simp [Value.oneCell']) (by simp only [maxLen]; omega) (by omega) (by have := S1.out.sz; simp; omega) ?_; intro v2 w2 o g n; have hS2 := (S1.out.app (x := x0) o g n); clear S1 o g n; have k0_2 := hS2.wd.cell; have k1_2 := hS2.er.cell; have k2_2 := hS2.ix.cell; have k3_2 := hS2.ix.frozen; have k4_2 := hS2.er.frozen; have g_21 := CELS.out w2 hS2.bel (i) x1 hx1; have g_22 := CELS.out w2 hS2.bel (i + 1) x2 hx2; have g_23 := CELS.out w2 hS2.bel (i + 1 + 1) x3 hx3; have g_24 := CELS.out w2 hS2.bel (i + 1 + 1 + 1) x4 hx4; have S2 := Lib.hid hS2; clear hS2) | (go_at_call 168; refine (CI.hit S2.out CELL.out hpb hl (i + 1) (by first | rfl | omega) hx1).mono ?_; clear S2; rintro e w3 ⟨rfl, hS3⟩; dsimp only; have S3 := Lib.hid hS3; clear hS3) | (at_builtin; refine zaa rfl _ _ 24 rfl (w.heap.size + 3) 9 i0 (.string ⟨#[]⟩) 1 16 Tryz.underlying24 hi hz0 hz1 hz2 rfl (by decide) _ _ _ rfl (S3.out.swap.ru.alloc _) ⟨w3.heap.size, 0, none⟩ 1 1 [.string ⟨x1.toArray⟩] rfl rfl (cell_one_new _ _ _) (by simp [Value.oneCell']) (by simp only [maxLen]; omega) (by omega) (by have := S3.out.sz; simp; omega) ?_; intro v4 w4 o g n; have hS4 := (S3.out.swap.app (x := x1) o g n).swap; clear S3 o g n; have k0_4 := hS4.wd.cell; have k1_4 := hS4.er.cell; have k2_4 := hS4.ix.cell; have k3_4 := hS4.ix.frozen; have k4_4 := hS4.er.frozen; have g_41 := CELS.out w4 hS4.bel (i) x1 hx1; have g_42 := CELS.out w4 hS4.bel (i + 1) x2 hx2; have g_43 := CELS.out w4 hS4.bel (i + 1 + 1) x3 hx3; have g_44 := CELS.out w4 hS4.bel (i + 1 + 1 + 1) x4 hx4; have S4 := Lib.hid hS4; clear hS4) | (go_at_call 168; refine (CI.hit (S4.out.step ((i : Int) + 1 + 1 + 1)) CELL.out hpb hl (i + 1 + 1 + 1) (by first | rfl | omega) hx3).mono ?_; clear S4; rintro e w6 ⟨rfl, hS6⟩; dsimp only; have S6 := Lib.hid hS6; clear hS6) | (at_builtin; refine zaa rfl _ _ 24 rfl (w.heap.size + 3) 9 i0 (.string ⟨#[]⟩) 1 16 Tryz.underlying24 hi hz0 hz1 hz2 rfl (by decide) _ _ _ rfl (S6.out.swap.ru.alloc _) ⟨w6.heap.size, 0, none⟩ 1 1 [.string ⟨x3.toArray⟩] rfl rfl (cell_one_new _ _ _) (by simp [Value.oneCell']) (by simp only [maxLen]; omega) (by omega) (by have := S6.out.sz; simp; omega) ?_; intro v7 w7 o g n; have hS7 := (S6.out.swap.app (x := x3) o g n).swap; clear S6 o g n; have k0_7 := hS7.wd.cell; have k1_7 := hS7.er.cell; have k2_7 := hS7.ix.cell; have k3_7 := hS7.ix.frozen; have k4_7 := hS7.er.frozen; have g_71 := CELS.out w7 hS7.bel (i) x1 hx1; have g_72 := CELS.out w7 hS7.bel (i + 1) x2 hx2; have g_73 := CELS.out w7 hS7.bel (i + 1 + 1) x3 hx3; have g_74 := CELS.out w7 hS7.bel (i + 1 + 1 + 1) x4 hx4; have S7 := Lib.hid hS7; clear hS7))
               have hF := S7.out.fail
               refine bodyPost_ret (zaC rfl _ _ rfl hF.er.cell) rfl ?_
               exact CondR.none HZ.out hF.bel
          ·have qel : (x2 == [101, 108, 115, 101]) = false := by simp; exact hqel
           cases r2 with
           | nil =>
             have hlen := zbH hd2
             have a0 : (i : Int) < (l.length : Int) := by omega
             have a1 : (i : Int) + 1 < (l.length : Int) := by omega
             have a2 : (i : Int) + 1 + 1 < (l.length : Int) := by omega
             have a3 : ¬ (i : Int) + 1 + 1 + 1 < (l.length : Int) := by omega
             have HZ := Lib.hid (show cnd l = some (cs ++ [x0], bs ++ [x1] ++ [x2]) by rw [HEQ.out, hd, zbg (zaP _ hqt)]; simp only; rw [if_neg hqei, zaP _ hqel]; simp)
             have hb3l : (bs ++ [x1]).length ≤ 1001 := by simp; omega
             have hb4l : (bs ++ [[]]).length ≤ 1001 := by simp; omega
             clear hd hd0 hi0 hd1 hi1 hd2 hi2 hlen
             go_wp2_with (first | (go_at_call 168; refine (CI.hit S0.out CELL.out hpb hl (i) (by first | rfl | omega) hx0).mono ?_; clear S0; rintro e w1 ⟨rfl, hS1⟩; dsimp only; have S1 := Lib.hid hS1; clear hS1) | (at_builtin; refine zaa rfl _ _ 24 rfl (w.heap.size + 3) 9 i0 (.string ⟨#[]⟩) 1 16 Tryz.underlying24 hi hz0 hz1 hz2 rfl (by decide) _ _ _ rfl (S1.out.ru.alloc _) ⟨w1.heap.size, 0, none⟩ 1 1 [.string ⟨x0.toArray⟩] rfl rfl (cell_one_new _ _ _) (by simp [Value.oneCell']) (by simp only [maxLen]; omega) (by omega) (by have := S1.out.sz; simp; omega) ?_; intro v2 w2 o g n; have hS2 := (S1.out.app (x := x0) o g n); clear S1 o g n; have k0_2 := hS2.wd.cell; have k1_2 := hS2.er.cell; have k2_2 := hS2.ix.cell; have k3_2 := hS2.ix.frozen; have k4_2 := hS2.er.frozen; have g_21 := CELS.out w2 hS2.bel (i) x1 hx1; have g_22 := CELS.out w2 hS2.bel (i + 1) x2 hx2; have S2 := Lib.hid hS2; clear hS2) | (go_at_call 168; refine (CI.hit S2.out CELL.out hpb hl (i + 1) (by first | rfl | omega) hx1).mono ?_; clear S2; rintro e w3 ⟨rfl, hS3⟩; dsimp only; have S3 := Lib.hid hS3; clear hS3) | (at_builtin; refine zaa rfl _ _ 24 rfl (w.heap.size + 3) 9 i0 (.string ⟨#[]⟩) 1 16 Tryz.underlying24 hi hz0 hz1 hz2 rfl (by decide) _ _ _ rfl (S3.out.swap.ru.alloc _) ⟨w3.heap.size, 0, none⟩ 1 1 [.string ⟨x1.toArray⟩] rfl rfl (cell_one_new _ _ _) (by simp [Value.oneCell']) (by simp only [maxLen]; omega) (by omega) (by have := S3.out.sz; simp; omega) ?_; intro v4 w4 o g n; have hS4 := (S3.out.swap.app (x := x1) o g n).swap; clear S3 o g n; have k0_4 := hS4.wd.cell; have k1_4 := hS4.er.cell; have k2_4 := hS4.ix.cell; have k3_4 := hS4.ix.frozen; have k4_4 := hS4.er.frozen; have g_41 := CELS.out w4 hS4.bel (i) x1 hx1; have g_42 := CELS.out w4 hS4.bel (i + 1) x2 hx2; have S4 := Lib.hid hS4; clear hS4) | (go_at_call 168; refine (CI.hit S4.out CELL.out hpb hl (i + 1 + 1) (by first | rfl | omega) hx2).mono ?_; clear S4; rintro e w5 ⟨rfl, hS5⟩; dsimp only; have S5 := Lib.hid hS5; clear hS5) | (at_builtin; refine zaa rfl _ _ 24 rfl (w.heap.size + 3) 9 i0 (.string ⟨#[]⟩) 1 16 Tryz.underlying24 hi hz0 hz1 hz2 rfl (by decide) _ _ _ rfl (S5.out.swap.ru.alloc _) ⟨w5.heap.size, 0, none⟩ 1 1 [.string ⟨x2.toArray⟩] rfl rfl (cell_one_new _ _ _) (by simp [Value.oneCell']) (by simp only [maxLen]; omega) (by omega) (by have := S5.out.sz; simp; omega) ?_; intro v6 w6 o g n; have hS6 := (S5.out.swap.app (x := x2) o g n).swap; clear S5 o g n; have k0_6 := hS6.wd.cell; have k1_6 := hS6.er.cell; have k2_6 := hS6.ix.cell; have k3_6 := hS6.ix.frozen; have k4_6 := hS6.er.frozen; have g_61 := CELS.out w6 hS6.bel (i) x1 hx1; have g_62 := CELS.out w6 hS6.bel (i + 1) x2 hx2; have S6 := Lib.hid hS6; clear hS6))
             have hF := S6.out.fail0
             refine bodyPost_ret (zaC rfl _ _ rfl hF.er.cell) rfl ?_
             exact CondR.some HZ.out (zaq hF.ru (by omega)) (by have := zaq hF.rv (show w.heap.size ≤ w.heap.size + 3 by omega); simpa [OwnTx] using this) hF.bel
           | cons x3 r3 =>
             obtain ⟨hx3, hd3, hi3⟩ := zbj hd2
             have hlen := hi3
             have a0 : (i : Int) < (l.length : Int) := by omega
             have a1 : (i : Int) + 1 < (l.length : Int) := by omega
             have a2 : (i : Int) + 1 + 1 < (l.length : Int) := by omega
             have a3 : (i : Int) + 1 + 1 + 1 < (l.length : Int) := by omega
             have HZ := Lib.hid (show cnd l = none by rw [HEQ.out, hd, zbg (zaP _ hqt)]; simp only; rw [if_neg hqei, zaP _ hqel]; rfl)
             have hb3l : (bs ++ [x1]).length ≤ 1001 := by simp; omega
             have hb4l : (bs ++ [[]]).length ≤ 1001 := by simp; omega
             clear hd hd0 hi0 hd1 hi1 hd2 hi2 hd3 hi3 hlen
             go_wp2_with (first | (go_at_call 168; refine (CI.hit S0.out CELL.out hpb hl (i) (by first | rfl | omega) hx0).mono ?_; clear S0; rintro e w1 ⟨rfl, hS1⟩; dsimp only; have S1 := Lib.hid hS1; clear hS1) | (at_builtin; refine zaa rfl _ _ 24 rfl (w.heap.size + 3) 9 i0 (.string ⟨#[]⟩) 1 16 Tryz.underlying24 hi hz0 hz1 hz2 rfl (by decide) _ _ _ rfl (S1.out.ru.alloc _) ⟨w1.heap.size, 0, none⟩ 1 1 [.string ⟨x0.toArray⟩] rfl rfl (cell_one_new _ _ _) (by simp [Value.oneCell']) (by simp only [maxLen]; omega) (by omega) (by have := S1.out.sz; simp; omega) ?_; intro v2 w2 o g n; have hS2 := (S1.out.app (x := x0) o g n); clear S1 o g n; have k0_2 := hS2.wd.cell; have k1_2 := hS2.er.cell; have k2_2 := hS2.ix.cell; have k3_2 := hS2.ix.frozen; have k4_2 := hS2.er.frozen; have g_21 := CELS.out w2 hS2.bel (i) x1 hx1; have g_22 := CELS.out w2 hS2.bel (i + 1) x2 hx2; have g_23 := CELS.out w2 hS2.bel (i + 1 + 1) x3 hx3; have S2 := Lib.hid hS2; clear hS2) | (go_at_call 168; refine (CI.hit S2.out CELL.out hpb hl (i + 1) (by first | rfl | omega) hx1).mono ?_; clear S2; rintro e w3 ⟨rfl, hS3⟩; dsimp only; have S3 := Lib.hid hS3; clear hS3) | (at_builtin; refine zaa rfl _ _ 24 rfl (w.heap.size + 3) 9 i0 (.string ⟨#[]⟩) 1 16 Tryz.underlying24 hi hz0 hz1 hz2 rfl (by decide) _ _ _ rfl (S3.out.swap.ru.alloc _) ⟨w3.heap.size, 0, none⟩ 1 1 [.string ⟨x1.toArray⟩] rfl rfl (cell_one_new _ _ _) (by simp [Value.oneCell']) (by simp only [maxLen]; omega) (by omega) (by have := S3.out.sz; simp; omega) ?_; intro v4 w4 o g n; have hS4 := (S3.out.swap.app (x := x1) o g n).swap; clear S3 o g n; have k0_4 := hS4.wd.cell; have k1_4 := hS4.er.cell; have k2_4 := hS4.ix.cell; have k3_4 := hS4.ix.frozen; have k4_4 := hS4.er.frozen; have g_41 := CELS.out w4 hS4.bel (i) x1 hx1; have g_42 := CELS.out w4 hS4.bel (i + 1) x2 hx2; have g_43 := CELS.out w4 hS4.bel (i + 1 + 1) x3 hx3; have S4 := Lib.hid hS4; clear hS4) | (go_at_call 168; refine (CI.hit S4.out CELL.out hpb hl (i + 1 + 1) (by first | rfl | omega) hx2).mono ?_; clear S4; rintro e w5 ⟨rfl, hS5⟩; dsimp only; have S5 := Lib.hid hS5; clear hS5) | (at_builtin; refine zaa rfl _ _ 24 rfl (w.heap.size + 3) 9 i0 (.string ⟨#[]⟩) 1 16 Tryz.underlying24 hi hz0 hz1 hz2 rfl (by decide) _ _ _ rfl (S5.out.swap.ru.alloc _) ⟨w5.heap.size, 0, none⟩ 1 1 [.string ⟨x2.toArray⟩] rfl rfl (cell_one_new _ _ _) (by simp [Value.oneCell']) (by simp only [maxLen]; omega) (by omega) (by have := S5.out.sz; simp; omega) ?_; intro v6 w6 o g n; have hS6 := (S5.out.swap.app (x := x2) o g n).swap; clear S5 o g n; have k0_6 := hS6.wd.cell; have k1_6 := hS6.er.cell; have k2_6 := hS6.ix.cell; have k3_6 := hS6.ix.frozen; have k4_6 := hS6.er.frozen; have g_61 := CELS.out w6 hS6.bel (i) x1 hx1; have g_62 := CELS.out w6 hS6.bel (i + 1) x2 hx2; have g_63 := CELS.out w6 hS6.bel (i + 1 + 1) x3 hx3; have S6 := Lib.hid hS6; clear hS6))
             have hF := S6.out.fail
             refine bodyPost_ret (zaC rfl _ _ rfl hF.er.cell) rfl ?_
             exact CondR.none HZ.out hF.bel
end Go.Proofs.YtfkeeieoapimlaaGreatDoor
end
