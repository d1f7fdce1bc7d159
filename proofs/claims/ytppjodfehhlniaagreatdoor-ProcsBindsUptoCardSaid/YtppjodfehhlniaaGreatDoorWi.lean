/-
  The iterator over a list's elements yields them. Conditions: none.
-/
import Derived.Test.YtppjodfehhlniaaGreatDoorWi141
import Derived.Test.YtppjodfehhlniaaGreatDoorWi142
import Derived.Test.YtppjodfehhlniaaGreatDoorWi143
set_option linter.unusedVariables false
set_option linter.unusedSimpArgs false
set_option linter.unusedSectionVars false
set_option linter.deprecated false
section
namespace Go.Proofs.YtppjodfehhlniaaGreatDoor
open Go.RowKit Go.Shelf
attribute [local go_sem] Oper.semAt_some
set_option maxRecDepth 100000
set_option maxHeartbeats 1000000 in
theorem zjn (n : Nat) (hn : 2 ≤ n) (s : ByteArray) (hs : s.size ≤ 1000000) (B1 B2 : Nat) (w : World) (hc : Caps s B1 B2 w) :
  SeqStopsK Fence.wide n Tryz.prog 99 #[.pointer (some ⟨B1, 0, none⟩), .pointer (some ⟨B2, 0, none⟩)] encE (Keep2 B1 B2) (fun xs => xs = evs (L s) 0) (fun pre => pre <+: evs (L s) 0) s.size w := by
 intro l J Jx W hW hJ hJx hY h0
 have hby := zam s
 have hn1 : 1 ≤ n := by omega
 refine callsIn_of_wp Tryz.func99 rfl trivial ?_ rfl
 simp only [Tryz.ntmps99, List.size_toArray, List.length_cons, List.length_nil, Nat.reduceAdd, Nat.reduceSub, Array.replicate_succ, Array.replicate_zero, List.push_toArray, List.append_toArray, List.nil_append, List.cons_append]
 have HC := Lib.hid (hc.below hW)
 have HJ := Lib.hid hJ
 have HJX := Lib.hid hJx
 have HY := Lib.hid hY
 have H0 := Lib.hid h0
 clear hc hJ hJx hY h0
 gi_wp2
 gi_loopw [4] (fun iv wr => ∃ (i : Nat) (pre : List El), iv = .int .i64 (i : Int) ∧ i ≤ s.size + 1 ∧ pre.length ≤ i ∧ evs (L s) 0 = pre ++ evs ((L s).drop i) i ∧ J pre wr ∧ Caps s B1 B2 wr)
  (fun iv wr => s.size + 1 - (intOf iv).toNat)
 case atStart => exact ⟨0, [], rfl, by omega, by simp, by simp, H0.out, HC.out⟩
 case round =>
  obtain ⟨i, pre, rfl, hi, hpl, heq, hJp, hcp⟩ := hrel
  have HEQ := Lib.hid heq
  have HJP := Lib.hid hJp
  have HCP := Lib.hid hcp
  have c1 := hcp.c1
  clear heq hJp hcp
  have hb := zaA s i
  by_cases hlt : i < s.size
  ·have t1 : (i : Int) < (s.size : Int) := by omega
   by_cases hw : whN (byte s i) = true
   ·have HZ := Lib.hid (show evs ((L s).drop i) i = evs ((L s).drop (i + 1)) (i + 1) by rw [zak s hlt, ziQ (by rw [zf7]; exact hw)])
    gi_wp2_with (refine ⟨trivial, ?_⟩; gi_at_call 100; refine (callsIn_wide.2 (zb5 _ hb _)).mono ?_; rintro e w' ⟨rfl, rfl⟩; rw [hw])
    go_roundw
    case rel => exact ⟨i + 1, pre, by go_num, by omega, by omega, by rw [HEQ.out, HZ.out], HJP.out, HCP.out⟩
    case measure => simp [intOf]; omega
   ·have hwf : whN (byte s i) = false := by simpa using hw
    clear hw
    gi_wp2_with (refine ⟨trivial, ?_⟩; gi_at_call 100; refine (callsIn_wide.2 (zb5 _ hb _)).mono ?_; rintro e w' ⟨rfl, rfl⟩; rw [hwf])
    obtain ⟨x, m, q, hr⟩ : ∃ (x : ByteArray) (m : Nat) (q : Bool), rdV (elm ((L s).drop i)) = .returned (.tuple #[.string x, .int .i64 (m : Int), .bool q]) ∧ (q = true → ∃ p, elm ((L s).drop i) = some p ∧ p.1 = L x ∧ p.2 = m) ∧ (q = false → elm ((L s).drop i) = none ∧ x = ⟨#[]⟩ ∧ m = 0) := by
     cases elm ((L s).drop i) with
     | none => exact ⟨⟨#[]⟩, 0, false, rfl, fun h => (by cases h), fun _ => ⟨rfl, rfl, rfl⟩⟩
     | some p => exact ⟨⟨p.1.toArray⟩, p.2, true, rfl, fun _ => ⟨p, rfl, rfl, rfl⟩, fun h => (by cases h)⟩
    obtain ⟨hr1, hr2, hr3⟩ := hr
    have hrd := fun W => zp0 s hs i hlt W
    rw [hr1] at hrd
    refine wpIn_mono (Q := (zeU fun a' W2 => (∃ v23 v24 v25, a' = { tmps := #[.func (.yield l) #[] #[], .pointer (some ⟨B1, 0, none⟩), .pointer (some ⟨B2, 0, none⟩), undef, .int .i64 (i : Int), .string x, .int .i64 (m : Int), .bool q, u8, .int .i64 (i : Int), .string s, .int .i64 (s.size : Int), .bool true, u13, u14, .string s, .int .i64 (i : Int), .int .u8 (byte s i : Int), .bool false, .tuple #[.string x, .int .i64 (m : Int), .bool q], .string s, .int .i64 (i : Int), .int .u8 (byte s i : Int), v23, v24, v25, .string s, .int .i64 (i : Int), .string (s.extract i s.size), .tuple #[.string x, .int .i64 (m : Int), .bool q], .string x, .int .i64 (m : Int), .bool q, u33, u34, u35, u36, u37, u38, u39, u40, u41, u42, u43, u44, u45, u46, u47, u48, u49, u50, u51, u52, u53, u54, u55, u56, u57, u58, u59, u60], defers := [] }) ∧ Below wr.heap.size wr W2)) (show Code.wpIn Fence.wide n Tryz.prog zfA _ _ _ from ?_) ?_
    ·clear hr1 hr2 hr3
     have hks : (byte s i = 123) ∨ (byte s i = 34) ∨ (¬ byte s i = 123 ∧ ¬ byte s i = 34) := by omega
     rcases hks with h1 | h1 | ⟨h1, h2⟩
     ·have hf : rdF (byte s i) = 214 := by unfold rdF; rw [if_pos h1]
      have hkc : kindN (byte s i) = 1 := by unfold kindN; rw [if_pos h1]
      rw [hf] at hrd
      exact zob n hn1 wr l B1 B2 i s x m q u5 u6 u7 u8 u13 u14 u19 u20 u21 u22 u23 u24 u25 u26 u27 u28 u29 u30 u31 u32 u33 u34 u35 u36 u37 u38 u39 u40 u41 u42 u43 u44 u45 u46 u47 u48 u49 u50 u51 u52 u53 u54 u55 u56 u57 u58 u59 u60 hlt HCP.out hkc hrd
     ·have hf : rdF (byte s i) = 215 := by unfold rdF; rw [if_neg (by omega), if_pos h1]
      have hkc : kindN (byte s i) = 2 := by unfold kindN; rw [if_neg (by omega), if_pos h1]
      rw [hf] at hrd
      exact zoc n hn1 wr l B1 B2 i s x m q u5 u6 u7 u8 u13 u14 u19 u20 u21 u22 u23 u24 u25 u26 u27 u28 u29 u30 u31 u32 u33 u34 u35 u36 u37 u38 u39 u40 u41 u42 u43 u44 u45 u46 u47 u48 u49 u50 u51 u52 u53 u54 u55 u56 u57 u58 u59 u60 hlt HCP.out hkc hrd
     ·have hf : rdF (byte s i) = 213 := by unfold rdF; rw [if_neg h1, if_neg h2]
      have hkc : kindN (byte s i) = 0 := by unfold kindN; rw [if_neg h1, if_neg h2]
      rw [hf] at hrd
      exact zoa n hn1 wr l B1 B2 i s x m q u5 u6 u7 u8 u13 u14 u19 u20 u21 u22 u23 u24 u25 u26 u27 u28 u29 u30 u31 u32 u33 u34 u35 u36 u37 u38 u39 u40 u41 u42 u43 u44 u45 u46 u47 u48 u49 u50 u51 u52 u53 u54 u55 u56 u57 u58 u59 u60 hlt HCP.out hkc hrd
    ·intro e a' W2 h
     cases e
     all_goals first | exact h.elim | skip
     obtain ⟨⟨v23, v24, v25, rfl⟩, hb2⟩ := h
     have hcp2 := HCP.out.below hb2
     have c2 := hcp2.c1
     have HCP2 := Lib.hid hcp2
     have hJ2 := HJ.out _ _ _ none HJP.out (zaT hb2) (fun r h => (by cases h))
     have HJ2 := Lib.hid hJ2
     have hsz2 := hb2.size
     have HR1 := Lib.hid hr1
     have HR2 := Lib.hid hr2
     have HR3 := Lib.hid hr3
     clear hcp2 hJ2 hr1 hr2 hr3 hrd hb2
     cases q with
     | false =>
       obtain ⟨he, rfl, rfl⟩ := HR3.out rfl
       obtain ⟨fn, tmps, assign, body, hy, hR⟩ := HY.out pre ⟨i, [], false⟩ W2 HJ2.out (by omega)
       dsimp only [encE] at hy
       have HRR := Lib.hid hR
       have HE := Lib.hid (show evs ((L s).drop i) i = [⟨i, [], false⟩] by rw [zak s hlt] at he ⊢; exact zpc (by rw [zf7]; exact hwf) he)
       clear he hR HR1 HR2 HR3
       gi_wp2
       all_goals (try (rename_i h _; exact absurd h (by intro e; cases e)))
       refine ⟨trivial, ?_⟩
       gi_wp2
       refine HRR.out.mono ?_
       rintro e W' (⟨rfl, hJ', hk⟩ | ⟨rfl, hJx'⟩)
       ·dsimp only
        have HJ' := Lib.hid hJ'
        clear hJ' hk
        gi_wp2
        refine bodyPost_ret (results_none rfl _ _ _) rfl ?_
        exact ⟨⟨_, rfl⟩, .inl ⟨_, by rw [HEQ.out, HE.out], HJ'.out⟩⟩
       ·dsimp only
        have HJ' := Lib.hid hJx'
        clear hJx'
        gi_wp2
        refine bodyPost_ret (results_none rfl _ _ _) rfl ?_
        exact ⟨⟨_, rfl⟩, .inr ⟨_, by rw [HEQ.out, HE.out]; exact List.prefix_rfl, HJ'.out⟩⟩
     | true =>
       obtain ⟨p, he, hp1, hp2⟩ := HR2.out rfl
       have hm1 : i + m ≤ s.size := by
        have := zn1 he
        rw [List.length_drop, za7, hp2] at this
        omega
       have hm0 : 1 ≤ m := by
        have he' := he
        rw [zak s hlt] at he'
        rw [← hp2]
        exact zfy (by rw [zf7]; exact hwf) he'
       have hbm := zaA s (i + m)
       by_cases hem : i + m = s.size
       ·have hend : zez ((L s).drop (i + m)) = true := by rw [zas s (by omega)]; rfl
        have t5 : ((i : Int) + (m : Int) == (s.size : Int)) = true := by simp; omega
        obtain ⟨fn, tmps, assign, body, hy, hR⟩ := HY.out pre ⟨i, L x, true⟩ W2 HJ2.out (by omega)
        dsimp only [encE] at hy
        rw [show (⟨(L x).toArray⟩ : ByteArray) = x from rfl] at hy
        have HRR := Lib.hid hR
        have HE := Lib.hid (show evs ((L s).drop i) i = ⟨i, L x, true⟩ :: evs ((L s).drop (i + m + 1)) (i + m + 1) by
         have hd : ((ub s i :: (L s).drop (i + 1))).drop p.2 = (L s).drop (i + m) := by rw [hp2, zeB s hlt]
         rw [zak s hlt] at he ⊢
         rw [zhD (by rw [zf7]; exact hwf) he, hd, if_pos hend, hp1, hp2, zrC hend, List.drop_drop])
        clear he hp1 hR HR1 HR2 HR3 hend
        gi_wp2
        all_goals (try (rename_i h _; exact absurd h (by intro e; cases e)))
        refine ⟨trivial, ?_⟩
        gi_wp2
        refine HRR.out.mono ?_
        rintro e W' (⟨rfl, hJ', hk⟩ | ⟨rfl, hJx'⟩)
        ·dsimp only
         have hcp3 := HCP2.out.keep hk
         skip
         have HJ' := Lib.hid hJ'
         have HC3 := Lib.hid hcp3
         clear hJ' hk hcp3
         gi_wp2
         go_roundw
         case rel => exact ⟨i + m + 1, pre ++ [⟨i, L x, true⟩], by go_num, by omega, by simp; omega, by rw [HEQ.out, HE.out]; simp, HJ'.out, HC3.out⟩
         case measure => simp [intOf]; omega
        ·dsimp only
         have HJ' := Lib.hid hJx'
         clear hJx'
         gi_wp2
         refine bodyPost_ret (results_none rfl _ _ _) rfl ?_
         exact ⟨⟨_, rfl⟩, .inr ⟨_, by rw [HEQ.out, HE.out]; exact ⟨_, List.append_assoc _ _ _⟩, HJ'.out⟩⟩
       ·have t5 : ((i : Int) + (m : Int) == (s.size : Int)) = false := by simp; omega
        have hmlt : i + m < s.size := by omega
        have t6 : (i : Int) + (m : Int) < (s.size : Int) := by omega
        cases hwm : whN (byte s (i + m)) with
        | true =>
          have hend : zez ((L s).drop (i + m)) = true := by rw [zak s hmlt]; show wh _ = true; rw [zf7]; exact hwm
          obtain ⟨fn, tmps, assign, body, hy, hR⟩ := HY.out pre ⟨i, L x, true⟩ W2 HJ2.out (by omega)
          dsimp only [encE] at hy
          rw [show (⟨(L x).toArray⟩ : ByteArray) = x from rfl] at hy
          have HRR := Lib.hid hR
          have HE := Lib.hid (show evs ((L s).drop i) i = ⟨i, L x, true⟩ :: evs ((L s).drop (i + m + 1)) (i + m + 1) by
           have hd : ((ub s i :: (L s).drop (i + 1))).drop p.2 = (L s).drop (i + m) := by rw [hp2, zeB s hlt]
           rw [zak s hlt] at he ⊢
           rw [zhD (by rw [zf7]; exact hwf) he, hd, if_pos hend, hp1, hp2, zrC hend, List.drop_drop])
          clear he hp1 hR HR1 HR2 HR3
          gi_wp2_with (refine ⟨trivial, ?_⟩; gi_at_call 100; refine (callsIn_wide.2 (zb5 _ hbm _)).mono ?_; rintro e w' ⟨rfl, rfl⟩; rw [hwm])
          refine HRR.out.mono ?_
          rintro e W' (⟨rfl, hJ', hk⟩ | ⟨rfl, hJx'⟩)
          ·dsimp only
           have hcp3 := HCP2.out.keep hk
           skip
           have HJ' := Lib.hid hJ'
           have HC3 := Lib.hid hcp3
           clear hJ' hk hcp3
           gi_wp2
           go_roundw
           case rel => exact ⟨i + m + 1, pre ++ [⟨i, L x, true⟩], by go_num, by omega, by simp; omega, by rw [HEQ.out, HE.out]; simp, HJ'.out, HC3.out⟩
           case measure => simp [intOf]; omega
          ·dsimp only
           have HJ' := Lib.hid hJx'
           clear hJx'
           gi_wp2
           refine bodyPost_ret (results_none rfl _ _ _) rfl ?_
           exact ⟨⟨_, rfl⟩, .inr ⟨_, by rw [HEQ.out, HE.out]; exact ⟨_, List.append_assoc _ _ _⟩, HJ'.out⟩⟩
        | false =>
          have hend : zez ((L s).drop (i + m)) = false := by rw [zak s hmlt]; show wh _ = false; rw [zf7]; exact hwm
          obtain ⟨fn, tmps, assign, body, hy, hR⟩ := HY.out pre ⟨i, L x, false⟩ W2 HJ2.out (by omega)
          dsimp only [encE] at hy
          rw [show (⟨(L x).toArray⟩ : ByteArray) = x from rfl] at hy
          have HRR := Lib.hid hR
          have HE := Lib.hid (show evs ((L s).drop i) i = [⟨i, L x, false⟩] by
           have hd : ((ub s i :: (L s).drop (i + 1))).drop p.2 = (L s).drop (i + m) := by rw [hp2, zeB s hlt]
           rw [zak s hlt] at he ⊢
           rw [zhD (by rw [zf7]; exact hwf) he, hd, if_neg (by rw [hend]; decide), hp1])
          clear he hp1 hR HR1 HR2 HR3
          gi_wp2_with (refine ⟨trivial, ?_⟩; gi_at_call 100; refine (callsIn_wide.2 (zb5 _ hbm _)).mono ?_; rintro e w' ⟨rfl, rfl⟩; rw [hwm])
          refine HRR.out.mono ?_
          rintro e W' (⟨rfl, hJ', hk⟩ | ⟨rfl, hJx'⟩)
          ·dsimp only
           have hcp3 := HCP2.out.keep hk
           skip
           have HJ' := Lib.hid hJ'
           have HC3 := Lib.hid hcp3
           clear hJ' hk hcp3
           gi_wp2
           refine bodyPost_ret (results_none rfl _ _ _) rfl ?_
           exact ⟨⟨_, rfl⟩, .inl ⟨_, by rw [HEQ.out, HE.out], HJ'.out⟩⟩
          ·dsimp only
           have HJ' := Lib.hid hJx'
           clear hJx'
           gi_wp2
           refine bodyPost_ret (results_none rfl _ _ _) rfl ?_
           exact ⟨⟨_, rfl⟩, .inr ⟨_, by rw [HEQ.out, HE.out]; exact List.prefix_rfl, HJ'.out⟩⟩
  ·have t1 : ¬ (i : Int) < (s.size : Int) := by omega
   have HZ := Lib.hid (show evs ((L s).drop i) i = [] by rw [zas s (by omega)]; simp [evs])
   gi_wp2
   refine bodyPost_end (results_none rfl _ _ _) rfl ?_
   exact ⟨⟨_, rfl⟩, .inl (by rw [HEQ.out, HZ.out, List.append_nil]; exact HJP.out)⟩
end Go.Proofs.YtppjodfehhlniaaGreatDoor
end
