/-
  The document's parameters, walked; The document's Params and Bind, as the law calls them; Levels: the document's digits; Levels: the document's way; L. Conditions: none.
-/
import Derived.Test.YtppjodfehhlniaaGreatDoorV28aToV8r
import Derived.Test.YtppjodfehhlniaaGreatDoorV6aToV26
import Derived.Test.YtppjodfehhlniaaGreatDoorV3ToV30a
import Derived.Test.YtppjodfehhlniaaGreatDoorV8ToWp
import Derived.Test.YtppjodfehhlniaaGreatDoorWkToV2
import Derived.Lib.AtoiErrMem
import Derived.Test.YtppjodfehhlniaaGreatDoorV4ToV31r
import Derived.Sort.KeysCollected
import Derived.Maps.Range
import Derived.Maps.RangeWalk
import Derived.Maps.Own
import Derived.WideMake
set_option linter.unusedVariables false
set_option linter.unusedSimpArgs false
set_option linter.unusedSectionVars false
set_option linter.deprecated false
section
namespace Go.Proofs.YtppjodfehhlniaaGreatDoor
open Go.ChangeShapes Go.WideShapes Go.ChangeAt Go.RowKit
set_option maxRecDepth 100000
theorem zgV (s : ByteArray) (hs : s.size ≤ 1000000) (q : ByteArray) (w : World) (hq : q = ⟨#[40]⟩ ∨ q = ⟨#[58, 58]⟩) :
  Calls Tryz.prog 104 #[.string q, .string s, .int .i64 0] w fun e w' => (∃ k : Int, e = .returned (.int .i64 k) ∧ (q = ⟨#[40]⟩ → FirstIs ((L s).contains 40) k) ∧ (q = ⟨#[58, 58]⟩ → FirstIs (two (L s)) k)) ∧ w = w' := by
 rcases hq with rfl | rfl
 ·refine (zrJ s hs w).mono ?_
  rintro e w' ⟨⟨k, rfl, hk⟩, rfl⟩
  exact ⟨⟨k, rfl, fun _ => hk, fun h => absurd h (by decide)⟩, rfl⟩
 ·refine (zth s hs w).mono ?_
  rintro e w' ⟨⟨k, rfl, hk⟩, rfl⟩
  exact ⟨⟨k, rfl, fun h => absurd h (by decide), fun _ => hk⟩, rfl⟩
set_option maxHeartbeats 8000000 in
theorem zd6 (s : ByteArray) (hs : s.size ≤ 1000) (w : World) : Calls Tryz.prog 38 #[.string s] w fun e w' => RPar s w e w' := by
 obtain ⟨i0, hi0, hz0, hz1, hz2⟩ := zmN
 go_enter Tryz.func38, Tryz.ntmps38
 cases hsp : spl (L s) with
 | none =>
   have hpo : zbu (L s) = .error 2 := by unfold zbu; rw [hsp]
   go_wp2_with (go_at_call 103; refine (zbJ s hs _).mono ?_; rintro e w1 ⟨_, hn, hb⟩; obtain ⟨at_, rfl⟩ := hn hsp; have HB := Lib.hid hb; clear hb hn; dsimp only)
   go_ret3
   exact ⟨none, 0, 0, s, 2, rfl, HB.out, .inr ⟨by decide, 2, hpo, rfl⟩⟩
 | some xs =>
   have hpo : zbu (L s) = prms [] xs := by unfold zbu; rw [hsp]
   have hLs : (L s).length = s.size := za7 s
   have hxl := zr1 _ _ (Nat.le_refl _) xs hsp
   have hxt := zph _ _ (Nat.le_refl _) xs hsp
   go_wp2_with (go_at_call 103; refine (zbJ s hs _).mono ?_; rintro e w1 ⟨hy, _, hb⟩; obtain ⟨sv, rfl, hrow⟩ := hy xs hsp; obtain ⟨sa, sc, rfl, hsa⟩ := (zaB hrow).form; have HB := Lib.hid hb; have HSA := Lib.hid hsa; clear hb hy hrow hsa; dsimp only)
   go_loopg [8, 28] xs.length (fun k ov iv wr => ∃ (i : Nat) (pre : List Prm) (va : Option Addr) (vc : Nat), ov = .slice va i vc ∧ iv = .int .i64 (i : Int) ∧ k = xs.length - i ∧ i ≤ xs.length ∧ pre.length = i ∧ Below w1.heap.size w1 wr ∧ PO wr w1.heap.size (.slice va i vc) (zd4 xs.length 0 pre) ∧ prms [] xs = zgL pre (prms (zfz pre) (xs.drop i)))
   case atStart => exact ⟨0, [], none, 0, rfl, rfl, rfl, Nat.zero_le _, rfl, Below.refl _ _, PO.nil _ _, by rw [zrt]; rfl⟩
   case round =>
    obtain ⟨i, pre, va, vc, rfl, rfl, hk, hi, hpl, hbel, hP, hall⟩ := hrel
    by_cases hlt : i < xs.length
    ·have t2 : (i : Int) < (xs.length : Int) := by omega
     obtain ⟨x, hx⟩ : ∃ x, xs[i]? = some x := ⟨_, List.getElem?_eq_getElem hlt⟩
     have hxs : (⟨x.toArray⟩ : ByteArray).size ≤ 1000 := by
      have := hxt x (List.mem_of_getElem? hx)
      rw [← za7, L_mk]; omega
     obtain ⟨p, rfl, hp⟩ := HSA.out i x hx
     have c1 := zaf hp hbel
     unfold strV at c1
     have HP := Lib.hid hP
     have HBL := Lib.hid hbel
     have HK := Lib.hid hk
     have HALL := Lib.hid hall
     have HX := Lib.hid hx
     clear hp hx hk hbel hall hP
     cases hm : spl x with
     | none =>
       go_wp2_with (go_at_call 103; refine (zbJ ⟨x.toArray⟩ hxs _).mono ?_; rintro e w2 ⟨_, hn, hb⟩; obtain ⟨at_, rfl⟩ := hn (by rw [L_mk]; exact hm); have HB2 := Lib.hid hb; clear hb hn; dsimp only)
       go_ret3
       refine ⟨none, 0, 0, ⟨x.toArray⟩, 2, rfl, HB.out.trans ((HBL.out.trans (HB2.out.mono HBL.out.size)).mono HB.out.size), .inr ⟨by decide, 2, ?_, rfl⟩⟩
       rw [hpo]; exact zc2 HALL.out HX.out (zk7 hm)
     | some m =>
       by_cases h0 : m.length < 1
       ·have hm0 : m = [] := List.eq_nil_of_length_eq_zero (by omega)
        subst hm0
        go_wp2_with (go_at_call 103; refine (zbJ ⟨x.toArray⟩ hxs _).mono ?_; rintro e w2 ⟨hy, _, hb⟩; obtain ⟨mv, rfl, hrow⟩ := hy [] (by rw [L_mk]; exact hm); obtain ⟨ma, mc, rfl, hma⟩ := (zaB hrow).form; have HB2 := Lib.hid hb; clear hb hy hrow hma; dsimp only)
        go_ret3
        refine ⟨none, 0, 0, ⟨x.toArray⟩, 5, rfl, HB.out.trans ((HBL.out.trans (HB2.out.mono HBL.out.size)).mono HB.out.size), .inr ⟨by decide, 5, ?_, rfl⟩⟩
        rw [hpo]; exact zc2 HALL.out HX.out (ziM hm)
       ·by_cases h2 : 2 < m.length
        ·have f1 : ¬ (m.length : Int) < 1 := by omega
         have f2 : (m.length : Int) > 2 := by omega
         go_wp2_with (go_at_call 103; refine (zbJ ⟨x.toArray⟩ hxs _).mono ?_; rintro e w2 ⟨hy, _, hb⟩; obtain ⟨mv, rfl, hrow⟩ := hy m (by rw [L_mk]; exact hm); obtain ⟨ma, mc, rfl, hma⟩ := (zaB hrow).form; have HB2 := Lib.hid hb; clear hb hy hrow hma; dsimp only)
         go_ret3
         refine ⟨none, 0, 0, ⟨x.toArray⟩, 5, rfl, HB.out.trans ((HBL.out.trans (HB2.out.mono HBL.out.size)).mono HB.out.size), .inr ⟨by decide, 5, ?_, rfl⟩⟩
         rw [hpo]; exact zc2 HALL.out HX.out (ziN hm h2)
        ·have f1 : ¬ (m.length : Int) < 1 := by omega
         have f2 : ¬ (m.length : Int) > 2 := by omega
         obtain ⟨y, hy0⟩ : ∃ y, m[0]? = some y := ⟨_, List.getElem?_eq_getElem (by omega)⟩
         have hys : (⟨y.toArray⟩ : ByteArray).size ≤ 1000000 := by
          have := zph _ _ (Nat.le_refl _) m hm y (List.mem_of_getElem? hy0)
          rw [← za7, L_mk] at hxs ⊢; omega
         by_cases h3 : y = []
         ·subst h3
          go_wp2_with (go_at_call 103; refine (zbJ ⟨x.toArray⟩ hxs _).mono ?_; rintro e w2 ⟨hy, _, hb⟩; obtain ⟨mv, rfl, hrow⟩ := hy m (by rw [L_mk]; exact hm); obtain ⟨ma, mc, rfl, hma⟩ := (zaB hrow).form; obtain ⟨mp, rfl, hmp⟩ := hma 0 _ hy0; have hmp : w2.cell? mp = some (.string ⟨#[]⟩) := hmp; have HB2 := Lib.hid hb; have HMA := Lib.hid hma; clear hb hy hrow hma; dsimp only)
          go_ret3
          refine ⟨none, 0, 0, ⟨x.toArray⟩, 5, rfl, HB.out.trans ((HBL.out.trans (HB2.out.mono HBL.out.size)).mono HB.out.size), .inr ⟨by decide, 5, ?_, rfl⟩⟩
          rw [hpo]; exact zc2 HALL.out HX.out (zbs hm (by omega) (by omega) hy0 (by unfold zbb; simp))
         ·have n3 : ((⟨y.toArray⟩ : ByteArray) == ⟨#[]⟩) = false := by
           rw [show (⟨#[]⟩ : ByteArray) = ⟨([] : List UInt8).toArray⟩ from rfl, ziR, L_mk, beq_eq_false_iff_ne]; exact fun e => h3 e.symm
          have n3b : y.isEmpty = false := by cases y with | nil => exact absurd rfl h3 | cons a b => rfl
          cases h4 : y.contains 40 with
          | true =>
            go_wp2_with (first | (go_at_call 103; refine (zbJ ⟨x.toArray⟩ hxs _).mono ?_; rintro e w2 ⟨hy, _, hb⟩; obtain ⟨mv, rfl, hrow⟩ := hy m (by rw [L_mk]; exact hm); obtain ⟨ma, mc, rfl, hma⟩ := (zaB hrow).form; obtain ⟨mp, rfl, hmp⟩ := hma 0 _ hy0; have hmp : w2.cell? mp = some (.string ⟨y.toArray⟩) := hmp; have HB2 := Lib.hid hb; have HMA := Lib.hid hma; clear hb hy hrow hma; dsimp only) | (go_at_call 104; refine (zgV ⟨y.toArray⟩ hys _ _ (by first | exact .inl rfl | exact .inr rfl)).mono ?_; rintro e w3 ⟨⟨k1, rfl, ha, hb⟩, rfl⟩; rw [L_mk] at ha hb; first | (have g1 := (ha rfl).ge h4; clear ha hb) | (have g1 := (hb rfl).nge h5; clear ha hb); dsimp only))
            go_ret3
            refine ⟨none, 0, 0, ⟨x.toArray⟩, 5, rfl, HB.out.trans ((HBL.out.trans (HB2.out.mono HBL.out.size)).mono HB.out.size), .inr ⟨by decide, 5, ?_, rfl⟩⟩
            rw [hpo]; exact zc2 HALL.out HX.out (zbs hm (by omega) (by omega) hy0 (by unfold zbb; rw [h4]; simp))
          | false =>
            cases h5 : two y with
            | true =>
              go_wp2_with (first | (go_at_call 103; refine (zbJ ⟨x.toArray⟩ hxs _).mono ?_; rintro e w2 ⟨hy, _, hb⟩; obtain ⟨mv, rfl, hrow⟩ := hy m (by rw [L_mk]; exact hm); obtain ⟨ma, mc, rfl, hma⟩ := (zaB hrow).form; obtain ⟨mp, rfl, hmp⟩ := hma 0 _ hy0; have hmp : w2.cell? mp = some (.string ⟨y.toArray⟩) := hmp; have HB2 := Lib.hid hb; have HMA := Lib.hid hma; clear hb hy hrow hma; dsimp only) | (go_at_call 104; refine (zgV ⟨y.toArray⟩ hys _ _ (by first | exact .inl rfl | exact .inr rfl)).mono ?_; rintro e w3 ⟨⟨k1, rfl, ha, hb⟩, rfl⟩; rw [L_mk] at ha hb; first | (have g1 := (ha rfl).nge h4; clear ha hb) | (have g1 := (hb rfl).ge h5; clear ha hb); dsimp only))
              go_ret3
              refine ⟨none, 0, 0, ⟨x.toArray⟩, 5, rfl, HB.out.trans ((HBL.out.trans (HB2.out.mono HBL.out.size)).mono HB.out.size), .inr ⟨by decide, 5, ?_, rfl⟩⟩
              rw [hpo]; exact zc2 HALL.out HX.out (zbs hm (by omega) (by omega) hy0 (by unfold zbb; rw [h5]; simp))
            | false =>
              go_wp2_with (first | (go_at_call 103; refine (zbJ ⟨x.toArray⟩ hxs _).mono ?_; rintro e w2 ⟨hy, _, hb⟩; obtain ⟨mv, rfl, hrow⟩ := hy m (by rw [L_mk]; exact hm); obtain ⟨ma, mc, rfl, hma⟩ := (zaB hrow).form; obtain ⟨mp, rfl, hmp⟩ := hma 0 _ hy0; have hmp : w2.cell? mp = some (.string ⟨y.toArray⟩) := hmp; have HB2 := Lib.hid hb; have HMA := Lib.hid hma; clear hb hy hrow hma; dsimp only) | (go_at_call 104; refine (zgV ⟨y.toArray⟩ hys _ _ (by first | exact .inl rfl | exact .inr rfl)).mono ?_; rintro e w3 ⟨⟨k1, rfl, ha, hb⟩, rfl⟩; rw [L_mk] at ha hb; first | (have g1 := (ha rfl).nge h4; clear ha hb) | (have g1 := (hb rfl).nge h5; clear ha hb); dsimp only))
              go_loopg [73] pre.length (fun k jv wq => ∃ (j : Nat), jv = .int .i64 (j : Int) ∧ k = pre.length - j ∧ j ≤ pre.length ∧ Below w2.heap.size w2 wq ∧ ∀ t, t < j → ∀ r, pre[t]? = some r → r.name ≠ y)
              case atStart => exact ⟨0, rfl, rfl, Nat.zero_le _, Below.refl _ _, fun t h => absurd h (by omega)⟩
              case round =>
               obtain ⟨j, rfl, hjk, hj, hbq, hne⟩ := hrel
               have cy := zaf hmp hbq
               have cyA : ∀ o : Obj, (wr.alloc o).cell? mp = some (.string ⟨y.toArray⟩) := fun o => zaf cy ((Below.refl _ _).alloc (Nat.le_refl _) o)
               by_cases hjl : j < pre.length
               ·have t3 : (j : Int) < (i : Int) := by omega
                have t4 : (j : Int) < (pre.length : Int) := by omega
                obtain ⟨q, hq⟩ : ∃ q, pre[j]? = some q := ⟨_, List.getElem?_eq_getElem hjl⟩
                obtain ⟨va', vc', he, hPF⟩ := HP.out.row.form
                simp only [Value.slice.injEq] at he
                obtain ⟨rfl, hz, rfl⟩ := he
                clear hz
                obtain ⟨g, rfl, d1, d2, d3, d4⟩ := hPF j _ (zr4 _ hq)
                have c1 := zaf (zaf d1 HB2.out) hbq
                have c2 := zaf (zaf d2 HB2.out) hbq
                have c3 := zaf (zaf d3 HB2.out) hbq
                have c4 := zaf (zaf d4 HB2.out) hbq
                unfold strV at c1 c2
                clear d1 d2 d3 d4 hPF
                have HJK := Lib.hid hjk
                have HBQ := Lib.hid hbq
                have HNE := Lib.hid hne
                have HQ := Lib.hid hq
                clear hjk hbq hne hq
                by_cases hqy : q.name = y
                ·have n4 : ((⟨q.name.toArray⟩ : ByteArray) == ⟨y.toArray⟩) = true := by rw [ziR, L_mk, beq_iff_eq]; exact hqy.symm
                 go_wp2
                 go_region
                 go_wp2
                 go_ret3
                 have hB3 : Below w.heap.size w _ := HB.out.trans ((HBL.out.trans (HB2.out.mono HBL.out.size)).mono HB.out.size)
                 refine ⟨none, 0, 0, ⟨x.toArray⟩, 5, rfl, hB3.trans ((HBQ.out.alloc HBQ.out.size _).drew.mono hB3.size), .inr ⟨by decide, 5, ?_, rfl⟩⟩
                 rw [hpo]
                 refine zc2 HALL.out HX.out (zbs hm (by omega) (by omega) hy0 ?_)
                 unfold zbb
                 have : (zfz pre).contains y = true := by
                  rw [zmv, List.any_eq_true]
                  exact ⟨q, List.mem_of_getElem? HQ.out, by simpa using hqy⟩
                 rw [this]; simp
                ·have n4 : ((⟨q.name.toArray⟩ : ByteArray) == ⟨y.toArray⟩) = false := by rw [ziR, L_mk, beq_eq_false_iff_ne]; exact fun e => hqy e.symm
                 have n4b : (q.name == y) = false := by simp [hqy]
                 have HQY := Lib.hid hqy
                 clear hqy
                 go_wp2
                 go_region
                 go_wp2
                 go_roundg (pre.length - (j + 1))
                 case measure => have := HJK.out; omega
                 case rel =>
                  refine ⟨j + 1, by go_num, rfl, by omega, (HBQ.out.alloc HBQ.out.size _).drew, fun t ht r hr => ?_⟩
                  by_cases e : t = j
                  ·subst e
                   rw [HQ.out] at hr; cases hr
                   exact HQY.out
                  ·exact HNE.out t (by omega) r hr
               ·have hjl2 : j = i := by omega
                have t3 : ¬ (j : Int) < (i : Int) := by omega
                have hbad : zbb (zfz pre) y = false := by
                 unfold zbb
                 have h6 : (zfz pre).contains y = false := by
                  rw [zmv, List.any_eq_false]
                  intro r hr
                  obtain ⟨t, ht, rfl⟩ := List.mem_iff_getElem.1 hr
                  have := hne t (by omega) _ (List.getElem?_eq_getElem ht)
                  simpa using this
                 rw [h6, h4, h5]
                 simp; exact h3
                have HJK := Lib.hid hjk
                have HBQ := Lib.hid hbq
                have HNE := Lib.hid hne
                clear hjk hbq hne
                have HOWN : Hid (wr.ownsRow w1.heap.size 76 4 (.slice va i vc) i ((zd4 xs.length 0 pre).flatMap zaw)) := by
                 have := HP.out.later (HB2.out.trans (HBQ.out.mono HB2.out.size))
                 unfold PO at this
                 rw [za9, hpl] at this
                 exact Lib.hid this
                by_cases hlen : m.length = 2
                ·obtain ⟨d, hd⟩ : ∃ d, m[1]? = some d := ⟨_, List.getElem?_eq_getElem (by omega)⟩
                 obtain ⟨mq, hmq, hmd⟩ := HMA.out 1 d hd
                 cases hmq
                 have cd := zaf hmd HBQ.out
                 have cd : wr.cell? ⟨mp.block, mp.off + 1, none⟩ = some (.string ⟨d.toArray⟩) := by simpa [Addr.add, strV] using cd
                 have cdA : ∀ o : Obj, (wr.alloc o).cell? ⟨mp.block, mp.off + 1, none⟩ = some (.string ⟨d.toArray⟩) := fun o => zaf cd ((Below.refl _ _).alloc (Nat.le_refl _) o)
                 have hm1 : m = [y, d] := by
                  cases m with
                  | nil => simp at hy0
                  | cons z r => cases r with
                    | nil => simp at hlen
                    | cons z2 r2 =>
                      cases r2 with
                      | nil => simp at hy0 hd; rw [hy0, hd]
                      | cons z3 r3 => simp at hlen
                 clear hmd
                 subst hm1
                 by_cases hlast : i + 1 = xs.length
                 ·have e3 : (xs.length : Int) - 1 = (i : Int) := by omega
                  by_cases ha : y = [97, 114, 103, 115]
                  ·subst ha
                   go_wp2_with (first | (at_builtin; refine zah rfl _ _ 72 rfl w1.heap.size 76 i0 (.agg #[.string ⟨#[]⟩, .string ⟨#[]⟩, .bool false, .bool false]) 4 40 Tryz.underlying72 hi0 hz0 hz1 hz2 rfl (by decide) _ _ _ rfl (World.ownsRow.alloc (World.ownsRow.alloc HOWN.out _) _) ⟨wr.heap.size + 1, 0, none⟩ 1 1 (zaw (⟨[97, 114, 103, 115], d, true⟩, false)) rfl rfl (by simpa [zaw, strV] using zdG (wr.alloc _) (zaw (⟨[97, 114, 103, 115], d, true⟩, false)) 76) (zgT _) (by simp [maxLen]; omega) (by omega) (by have := HBL.out.size; have := HB2.out.size; have := HBQ.out.size; simp; omega) ?_; intro v2 w4 o g n; obtain ⟨va2, vc2, rfl⟩ := zan o; have HO4 := Lib.hid o; have HG4 := Lib.hid g; clear o g n))
                   go_roundg (xs.length - (i + 1))
                   case measure => have := HK.out; omega
                   case rel =>
                    have hB4 := HBL.out.trans ((HB2.out.trans (HBQ.out.mono HB2.out.size)).mono HBL.out.size)
                    have hPO := HOWN.out
                    refine ⟨i + 1, pre ++ [⟨[97, 114, 103, 115], d, true⟩], va2, vc2, (by first | rfl | (congr 1; omega) | (simp [hpl]; done) | (simp [hpl]; omega)), by go_num, rfl, by omega, by simp [hpl], zd3 (hB4.alloc hB4.size _) (World.ownsRow.alloc hPO _) HG4.out, ?_, ?_⟩
                    ·rw [zcj, Nat.zero_add, hpl, zuX rfl]
                     exact PO.snoc (by rw [za9, hpl]; exact HO4.out)
                    ·exact zdz HALL.out HX.out (zf5 hm hbad)
                  ·have n5 : ((⟨y.toArray⟩ : ByteArray) == ⟨#[97, 114, 103, 115]⟩) = false := by
                    rw [show (⟨#[97, 114, 103, 115]⟩ : ByteArray) = ⟨([97, 114, 103, 115] : List UInt8).toArray⟩ from rfl, ziR, L_mk, beq_eq_false_iff_ne]; exact fun e => ha e.symm
                   have n5b : (y == [97, 114, 103, 115]) = false := by simp [ha]
                   go_wp2_with (first | (at_builtin; refine zah rfl _ _ 72 rfl w1.heap.size 76 i0 (.agg #[.string ⟨#[]⟩, .string ⟨#[]⟩, .bool false, .bool false]) 4 40 Tryz.underlying72 hi0 hz0 hz1 hz2 rfl (by decide) _ _ _ rfl (World.ownsRow.alloc (World.ownsRow.alloc HOWN.out _) _) ⟨wr.heap.size + 1, 0, none⟩ 1 1 (zaw (⟨y, d, true⟩, false)) rfl rfl (by simpa [zaw, strV] using zdG (wr.alloc _) (zaw (⟨y, d, true⟩, false)) 76) (zgT _) (by simp [maxLen]; omega) (by omega) (by have := HBL.out.size; have := HB2.out.size; have := HBQ.out.size; simp; omega) ?_; intro v2 w4 o g n; obtain ⟨va2, vc2, rfl⟩ := zan o; have HO4 := Lib.hid o; have HG4 := Lib.hid g; clear o g n))
                   go_roundg (xs.length - (i + 1))
                   case measure => have := HK.out; omega
                   case rel =>
                    have hB4 := HBL.out.trans ((HB2.out.trans (HBQ.out.mono HB2.out.size)).mono HBL.out.size)
                    have hPO := HOWN.out
                    refine ⟨i + 1, pre ++ [⟨y, d, true⟩], va2, vc2, (by first | rfl | (congr 1; omega) | (simp [hpl]; done) | (simp [hpl]; omega)), by go_num, rfl, by omega, by simp [hpl], zd3 (hB4.alloc hB4.size _) (World.ownsRow.alloc hPO _) HG4.out, ?_, ?_⟩
                    ·rw [zcj, Nat.zero_add, hpl, zpi ha]
                     exact PO.snoc (by rw [za9, hpl]; exact HO4.out)
                    ·exact zdz HALL.out HX.out (zf5 hm hbad)
                 ·have e3 : ¬ (i : Int) = (xs.length : Int) - 1 := by omega
                  go_wp2_with (first | (at_builtin; refine zah rfl _ _ 72 rfl w1.heap.size 76 i0 (.agg #[.string ⟨#[]⟩, .string ⟨#[]⟩, .bool false, .bool false]) 4 40 Tryz.underlying72 hi0 hz0 hz1 hz2 rfl (by decide) _ _ _ rfl (World.ownsRow.alloc (World.ownsRow.alloc HOWN.out _) _) ⟨wr.heap.size + 1, 0, none⟩ 1 1 (zaw (⟨y, d, true⟩, false)) rfl rfl (by simpa [zaw, strV] using zdG (wr.alloc _) (zaw (⟨y, d, true⟩, false)) 76) (zgT _) (by simp [maxLen]; omega) (by omega) (by have := HBL.out.size; have := HB2.out.size; have := HBQ.out.size; simp; omega) ?_; intro v2 w4 o g n; obtain ⟨va2, vc2, rfl⟩ := zan o; have HO4 := Lib.hid o; have HG4 := Lib.hid g; clear o g n))
                  go_roundg (xs.length - (i + 1))
                  case measure => have := HK.out; omega
                  case rel =>
                   have hB4 := HBL.out.trans ((HB2.out.trans (HBQ.out.mono HB2.out.size)).mono HBL.out.size)
                   have hPO := HOWN.out
                   refine ⟨i + 1, pre ++ [⟨y, d, true⟩], va2, vc2, (by first | rfl | (congr 1; omega) | (simp [hpl]; done) | (simp [hpl]; omega)), by go_num, rfl, by omega, by simp [hpl], zd3 (hB4.alloc hB4.size _) (World.ownsRow.alloc hPO _) HG4.out, ?_, ?_⟩
                   ·rw [zcj, Nat.zero_add, hpl, zr5 hlast]
                    exact PO.snoc (by rw [za9, hpl]; exact HO4.out)
                   ·exact zdz HALL.out HX.out (zf5 hm hbad)
                ·have hm1 : m = [y] := by
                  cases m with
                  | nil => simp at hy0
                  | cons z r => cases r with
                    | nil => simp at hy0; rw [hy0]
                    | cons z2 r2 => simp at h2 hlen; first | omega | exact absurd h2 hlen
                 subst hm1
                 by_cases hlast : i + 1 = xs.length
                 ·have e3 : (xs.length : Int) - 1 = (i : Int) := by omega
                  by_cases ha : y = [97, 114, 103, 115]
                  ·subst ha
                   go_wp2_with (first | (at_builtin; refine zah rfl _ _ 72 rfl w1.heap.size 76 i0 (.agg #[.string ⟨#[]⟩, .string ⟨#[]⟩, .bool false, .bool false]) 4 40 Tryz.underlying72 hi0 hz0 hz1 hz2 rfl (by decide) _ _ _ rfl (World.ownsRow.alloc (World.ownsRow.alloc HOWN.out _) _) ⟨wr.heap.size + 1, 0, none⟩ 1 1 (zaw (⟨[97, 114, 103, 115], [], false⟩, true)) rfl rfl (by simpa [zaw, strV] using zdG (wr.alloc _) (zaw (⟨[97, 114, 103, 115], [], false⟩, true)) 76) (zgT _) (by simp [maxLen]; omega) (by omega) (by have := HBL.out.size; have := HB2.out.size; have := HBQ.out.size; simp; omega) ?_; intro v2 w4 o g n; obtain ⟨va2, vc2, rfl⟩ := zan o; have HO4 := Lib.hid o; have HG4 := Lib.hid g; clear o g n))
                   go_roundg (xs.length - (i + 1))
                   case measure => have := HK.out; omega
                   case rel =>
                    have hB4 := HBL.out.trans ((HB2.out.trans (HBQ.out.mono HB2.out.size)).mono HBL.out.size)
                    have hPO := HOWN.out
                    refine ⟨i + 1, pre ++ [⟨[97, 114, 103, 115], [], false⟩], va2, vc2, (by first | rfl | (congr 1; omega) | (simp [hpl]; done) | (simp [hpl]; omega)), by go_num, rfl, by omega, by simp [hpl], zd3 (hB4.alloc hB4.size _) (World.ownsRow.alloc hPO _) HG4.out, ?_, ?_⟩
                    ·rw [zcj, Nat.zero_add, hpl, zuY hlast rfl rfl]
                     exact PO.snoc (by rw [za9, hpl]; exact HO4.out)
                    ·exact zdz HALL.out HX.out (zf4 hm hbad)
                  ·have n5 : ((⟨y.toArray⟩ : ByteArray) == ⟨#[97, 114, 103, 115]⟩) = false := by
                    rw [show (⟨#[97, 114, 103, 115]⟩ : ByteArray) = ⟨([97, 114, 103, 115] : List UInt8).toArray⟩ from rfl, ziR, L_mk, beq_eq_false_iff_ne]; exact fun e => ha e.symm
                   have n5b : (y == [97, 114, 103, 115]) = false := by simp [ha]
                   go_wp2_with (first | (at_builtin; refine zah rfl _ _ 72 rfl w1.heap.size 76 i0 (.agg #[.string ⟨#[]⟩, .string ⟨#[]⟩, .bool false, .bool false]) 4 40 Tryz.underlying72 hi0 hz0 hz1 hz2 rfl (by decide) _ _ _ rfl (World.ownsRow.alloc (World.ownsRow.alloc HOWN.out _) _) ⟨wr.heap.size + 1, 0, none⟩ 1 1 (zaw (⟨y, [], false⟩, false)) rfl rfl (by simpa [zaw, strV] using zdG (wr.alloc _) (zaw (⟨y, [], false⟩, false)) 76) (zgT _) (by simp [maxLen]; omega) (by omega) (by have := HBL.out.size; have := HB2.out.size; have := HBQ.out.size; simp; omega) ?_; intro v2 w4 o g n; obtain ⟨va2, vc2, rfl⟩ := zan o; have HO4 := Lib.hid o; have HG4 := Lib.hid g; clear o g n))
                   go_roundg (xs.length - (i + 1))
                   case measure => have := HK.out; omega
                   case rel =>
                    have hB4 := HBL.out.trans ((HB2.out.trans (HBQ.out.mono HB2.out.size)).mono HBL.out.size)
                    have hPO := HOWN.out
                    refine ⟨i + 1, pre ++ [⟨y, [], false⟩], va2, vc2, (by first | rfl | (congr 1; omega) | (simp [hpl]; done) | (simp [hpl]; omega)), by go_num, rfl, by omega, by simp [hpl], zd3 (hB4.alloc hB4.size _) (World.ownsRow.alloc hPO _) HG4.out, ?_, ?_⟩
                    ·rw [zcj, Nat.zero_add, hpl, zpi ha]
                     exact PO.snoc (by rw [za9, hpl]; exact HO4.out)
                    ·exact zdz HALL.out HX.out (zf4 hm hbad)
                 ·have e3 : ¬ (i : Int) = (xs.length : Int) - 1 := by omega
                  go_wp2_with (first | (at_builtin; refine zah rfl _ _ 72 rfl w1.heap.size 76 i0 (.agg #[.string ⟨#[]⟩, .string ⟨#[]⟩, .bool false, .bool false]) 4 40 Tryz.underlying72 hi0 hz0 hz1 hz2 rfl (by decide) _ _ _ rfl (World.ownsRow.alloc (World.ownsRow.alloc HOWN.out _) _) ⟨wr.heap.size + 1, 0, none⟩ 1 1 (zaw (⟨y, [], false⟩, false)) rfl rfl (by simpa [zaw, strV] using zdG (wr.alloc _) (zaw (⟨y, [], false⟩, false)) 76) (zgT _) (by simp [maxLen]; omega) (by omega) (by have := HBL.out.size; have := HB2.out.size; have := HBQ.out.size; simp; omega) ?_; intro v2 w4 o g n; obtain ⟨va2, vc2, rfl⟩ := zan o; have HO4 := Lib.hid o; have HG4 := Lib.hid g; clear o g n))
                  go_roundg (xs.length - (i + 1))
                  case measure => have := HK.out; omega
                  case rel =>
                   have hB4 := HBL.out.trans ((HB2.out.trans (HBQ.out.mono HB2.out.size)).mono HBL.out.size)
                   have hPO := HOWN.out
                   refine ⟨i + 1, pre ++ [⟨y, [], false⟩], va2, vc2, (by first | rfl | (congr 1; omega) | (simp [hpl]; done) | (simp [hpl]; omega)), by go_num, rfl, by omega, by simp [hpl], zd3 (hB4.alloc hB4.size _) (World.ownsRow.alloc hPO _) HG4.out, ?_, ?_⟩
                   ·rw [zcj, Nat.zero_add, hpl, zr5 hlast]
                    exact PO.snoc (by rw [za9, hpl]; exact HO4.out)
                   ·exact zdz HALL.out HX.out (zf4 hm hbad)
    ·have hil : i = xs.length := by omega
     have t2 : ¬ (i : Int) < (xs.length : Int) := by omega
     go_wp2
     go_ret3
     refine ⟨va, _, vc, _, 0, rfl, HB.out.trans (hbel.mono HB.out.size), .inl ⟨rfl, zd4 xs.length 0 pre, ?_, by rw [za9]; omega, pre, ?_, zmO _ _ _ (by omega)⟩⟩
     ·have := hP.row
      rw [hil] at this
      exact this
     ·rw [hpo]; exact zru hall (by omega)
end Go.Proofs.YtppjodfehhlniaaGreatDoor
end
section
namespace Go.Proofs.YtppjodfehhlniaaGreatDoor
open Go.ChangeShapes Go.WideShapes Go.ChangeAt Go.RowKit
set_option maxRecDepth 100000
theorem ParR.form {s : ByteArray} {w w' : World} {e : Ending} (h : ParR s w e w') : ∃ a b c d k, e = .returned (.tuple #[a, b, c, d, k]) := by
 cases hp : zbu (L s) with
 | error k => obtain ⟨_, h⟩ := h.2.1 k hp; exact ⟨_, _, _, _, _, h⟩
 | ok ps => obtain ⟨_, u, v, b, h, _⟩ := h.2.2 ps hp; exact ⟨_, _, _, _, _, h⟩
theorem BindR.form {s : ByteArray} {ws : List (List UInt8)} {w w' : World} {e : Ending} (h : BindR s ws w e w') : ∃ a k, e = .returned (.tuple #[a, k]) := by
 cases hp : zbu (L s) with
 | error k => obtain ⟨_, h⟩ := h.2.1 k hp; exact ⟨_, _, h⟩
 | ok ps =>
   obtain ⟨_, h1, h2⟩ := h.2.2 ps hp
   cases hb : zbS ps ws with
   | error k => obtain ⟨_, h⟩ := h1 k hb; exact ⟨_, _, h⟩
   | ok q => obtain ⟨v, h, _⟩ := h2 q hb; exact ⟨_, _, h⟩
set_option maxHeartbeats 1000000 in
theorem zmX (s : ByteArray) (w : World) (hpar : Calls Tryz.prog 38 #[.string s] w fun e w' => RPar s w e w') : Calls Tryz.prog 7 #[.string s] w fun e w' => ParR s w e w' := by
 have hb1 := zop s w hpar
 clear hpar
 go_enter Tryz.func7, Tryz.ntmps7
 go_wp2_with (go_at_call 19; refine hb1.mono ?_; rintro e w1 hb; obtain ⟨a, b, c, d, k, rfl⟩ := hb.form; have HB := Lib.hid hb; clear hb hb1; dsimp only)
 refine bodyPost_ret (zeE rfl _ _ _) rfl ?_
 exact HB.out
set_option maxHeartbeats 1000000 in
theorem zi7 (s : ByteArray) (wv : Value) (ws : List (List UInt8)) (w : World) (hws : StrRow w wv ws) (hcw : CapOk wv) (hsum : sumL ws ≤ 2000) (hpar : Calls Tryz.prog 38 #[.string s] w fun e w' => RPar s w e w') :
  Calls Tryz.prog 10 #[.string s, wv] w fun e w' => BindR s ws w e w' := by
 have hb1 := zoq s wv ws w hws hcw hsum hpar
 clear hpar hws
 go_enter Tryz.func10, Tryz.ntmps10
 go_wp2_with (go_at_call 21; refine hb1.mono ?_; rintro e w1 hb; obtain ⟨a, k, rfl⟩ := hb.form; have HB := Lib.hid hb; clear hb hb1; dsimp only)
 go_ret2
 exact HB.out
end Go.Proofs.YtppjodfehhlniaaGreatDoor
end
section
namespace Go.Proofs.YtppjodfehhlniaaGreatDoor
open Go.ChangeShapes Go.WideShapes Go.ChangeAt Go.RowKit
set_option maxRecDepth 100000
def numT (l : List UInt8) : Nat := l.foldl (fun n c => 10 * n + (c.toNat - 48)) 0
def isD (c : UInt8) : Bool := decide (48 ≤ c.toNat) && decide (c.toNat ≤ 57)
theorem zcJ (s : List UInt8) : zda s = if s.length = 0 ∨ 9 < s.length ∨ (s.all isD) = false then none else some (numT s) := rfl
theorem zmY (l : List UInt8) (c : UInt8) : numT (l ++ [c]) = 10 * numT l + (c.toNat - 48) := by
 unfold numT; rw [List.foldl_append]; rfl
theorem zp8 : ∀ (k : Nat) (l : List UInt8), l.length = k → (l.all isD) = true → numT l < 10 ^ k := by
 intro k
 induction k with
 | zero => intro l h _; rw [List.eq_nil_of_length_eq_zero h]; decide
 | succ k ih =>
   intro l h ha
   obtain ⟨m, c, rfl⟩ : ∃ m c, l = m ++ [c] := by
    refine ⟨l.dropLast, l.getLast (fun e => by rw [e] at h; simp at h), ?_⟩
    rw [List.dropLast_concat_getLast]
   rw [List.all_append] at ha
   simp only [Bool.and_eq_true, List.all_cons, List.all_nil, Bool.and_true] at ha
   have h1 := ih m (by simpa using h) ha.1
   rw [zmY, Nat.pow_succ]
   have h2 := ha.2
   unfold isD at h2
   simp only [Bool.and_eq_true, decide_eq_true_eq] at h2
   omega
theorem zke {l : List UInt8} (h9 : l.length ≤ 9) (ha : (l.all isD) = true) : numT l < 1000000000 := by
 have h1 := zp8 l.length l rfl ha
 have h2 : 10 ^ l.length ≤ 10 ^ 9 := Nat.pow_le_pow_right (by decide) h9
 exact Nat.lt_of_lt_of_le h1 h2
theorem zu2 (c : Nat) : (48 ≤ c ∧ c ≤ 57 ∧ rdg c 10 = ((c - 48 : Nat) : Int)) ∨ (¬ (48 ≤ c ∧ c ≤ 57) ∧ rdg c 10 = -1) := by
 unfold rdg digN
 by_cases h1 : 48 ≤ c ∧ c ≤ 57
 ·rw [if_pos h1, if_pos (by omega)]; exact .inl ⟨h1.1, h1.2, rfl⟩
 ·rw [if_neg h1]
  refine .inr ⟨h1, ?_⟩
  split
  ·rw [if_neg (by omega)]
  ·split
   ·rw [if_neg (by omega)]
   ·rw [if_neg (by omega)]
theorem zgW (c : Nat) (hc : c < 256) (w : World) : Calls Tryz.prog 119 #[.int .u8 (c : Int), .int .i64 10] w fun e w' => e = .returned (.int .i64 (rdg c 10)) ∧ w = w' := by
 go_enter Tryz.func119, Tryz.ntmps119
 go_wp2_with (go_at_call 230; refine (zch c 10 hc (by decide) (by decide) _).mono ?_; rintro e w' ⟨rfl, rfl⟩)
 go_ret
 exact ⟨rfl, rfl⟩
def zhs (o : Option Nat) : Value := match o with
 | none => .tuple #[.int .i64 0, .bool false]
 | some n => .tuple #[.int .i64 (n : Int), .bool true]
set_option maxHeartbeats 2000000 in
theorem zaO (s : ByteArray) (hs : s.size ≤ 1000000) (w : World) :
  Calls Tryz.prog 56 #[.string s] w fun e w' => e = .returned (zhs (zda (L s))) ∧ w = w' := by
 have hby := zam s
 go_enter Tryz.func56, Tryz.ntmps56
 go_wp2
 go_loopg [4, 9] s.size (fun k nv iv wr => ∃ (i : Nat), nv = .int .i64 ((numT ((L s).take i) : Nat) : Int) ∧ iv = .int .i64 (i : Int) ∧ k = s.size - i ∧ i ≤ s.size ∧ i ≤ 9 ∧ (((L s).take i).all isD) = true ∧ w = wr)
 case atStart => exact ⟨0, rfl, rfl, rfl, Nat.zero_le _, by decide, rfl, rfl⟩
 case round =>
  obtain ⟨i, rfl, rfl, hk, hi, h9, hall, rfl⟩ := hrel
  have HK := Lib.hid hk
  have HALL := Lib.hid hall
  have hb := zaA s i
  have hnum := zke (l := (L s).take i) (by rw [List.length_take, za7]; omega) hall
  clear hk hall
  generalize hN : numT ((L s).take i) = N at hnum
  have HN := Lib.hid hN
  clear hN
  by_cases hlt : i < s.size
  ·have t2 : (i : Int) < (s.size : Int) := by omega
   have htk : (L s).take (i + 1) = (L s).take i ++ [ub s i] := by
    rw [List.take_succ, show (L s)[i]? = some (ub s i) by rw [List.getElem?_eq_getElem (by rw [za7]; exact hlt), ztb s hlt]]; rfl
   have HT := Lib.hid htk
   clear htk
   rcases zu2 (byte s i) with ⟨a, b, hr⟩ | ⟨a, hr⟩
   ·by_cases h8 : i ≤ 8
    ·have t3 : ¬ (i : Int) > 8 := by omega
     have t4 : ¬ (((byte s i - 48 : Nat)) : Int) < 0 := by omega
     have hd : isD (ub s i) = true := by unfold isD; rw [zaE]; simp [a, b]
     have HD := Lib.hid hd
     have h10 : byte s i - 48 ≤ 9 := by omega
     clear hd
     go_wp2_with (go_at_call 119; refine (zgW _ hb _).mono ?_; rintro e w' ⟨rfl, rfl⟩; rw [hr])
     go_roundg (s.size - (i + 1))
     case measure => rw [HK.out]; omega
     case rel =>
      refine ⟨i + 1, ?_, by go_num, rfl, by omega, by omega, ?_, rfl⟩
      ·rw [HT.out, zmY, HN.out, zaE]
       go_num
      ·rw [HT.out, List.all_append, HALL.out]; simp [HD.out]
    ·have t3 : (i : Int) > 8 := by omega
     have t4 : ¬ (((byte s i - 48 : Nat)) : Int) < 0 := by omega
     have HZ := Lib.hid (show zda (L s) = none by rw [zcJ, if_pos]; right; left; rw [za7]; omega)
     go_wp2_with (go_at_call 119; refine (zgW _ hb _).mono ?_; rintro e w' ⟨rfl, rfl⟩; rw [hr])
     go_ret2
     exact ⟨by rw [HZ.out]; rfl, rfl⟩
   ·have t4 : (-1 : Int) < 0 := by decide
    have HZ := Lib.hid (show zda (L s) = none by
     rw [zcJ, if_pos]; right; right
     rw [List.all_eq_false]
     refine ⟨ub s i, ?_, ?_⟩
     ·have := List.getElem_mem (l := L s) (n := i) (by rw [za7]; exact hlt)
      rwa [ztb s hlt] at this
     ·unfold isD; rw [zaE]; simp; omega)
    go_wp2_with (go_at_call 119; refine (zgW _ hb _).mono ?_; rintro e w' ⟨rfl, rfl⟩; rw [hr])
    go_ret2
    exact ⟨by rw [HZ.out]; rfl, rfl⟩
  ·have t2 : ¬ (i : Int) < (s.size : Int) := by omega
   have hie : (L s).take i = L s := List.take_of_length_le (by rw [za7]; omega)
   rw [hie] at HN HALL
   by_cases h0 : s.size = 0
   ·have t0 := zd0 s h0
    have HZ := Lib.hid (show zda (L s) = none by rw [zcJ, if_pos]; left; rw [za7]; exact h0)
    have hN0 : N = 0 := by rw [← HN.out, zc4 s h0]; rfl
    subst hN0
    go_wp2
    go_ret2
    exact ⟨by rw [HZ.out]; rfl, rfl⟩
   ·have t0 := zaI s h0
    have HZ := Lib.hid (show zda (L s) = some N by
     rw [zcJ, if_neg, HN.out]
     rw [za7, HALL.out]
     intro h
     rcases h with h | h | h
     ·omega
     ·omega
     ·cases h)
    go_wp2
    go_ret2
    exact ⟨by rw [HZ.out]; rfl, rfl⟩
end Go.Proofs.YtppjodfehhlniaaGreatDoor
end
section
namespace Go.Proofs.YtppjodfehhlniaaGreatDoor
open Go.ChangeShapes Go.WideShapes Go.ChangeAt Go.RowKit
set_option maxRecDepth 100000
def ze1 (l : List UInt8) : List UInt8 := match l with
 | 35 :: r => r
 | l => l
theorem zd7 (r : List UInt8) : ze1 (35 :: r) = r := rfl
theorem zck {c : UInt8} (h : c ≠ 35) (r : List UInt8) : ze1 (c :: r) = c :: r := by
 unfold ze1
 split
 ·rename_i h2; cases h2; exact absurd rfl h
 ·rfl
theorem zi8 (r : List UInt8) (now : Int) : lvl (35 :: r) now = match zda r with
  | none => (0, 2)
  | some n => if now < 0 ∨ now < n then (0, 7) else ((n : Int), 0) := rfl
theorem zi9 {c : UInt8} (h : c ≠ 35) (r : List UInt8) (now : Int) : lvl (c :: r) now = match zda (c :: r) with
  | none => (0, 2)
  | some n => if now < 0 ∨ now < n then (0, 7) else (now - n, 0) := by
 unfold lvl
 split
 ·rename_i h2; cases h2; exact absurd rfl h
 ·rfl
def lvlV (p : Int × Nat) : Value := .tuple #[.int .i64 p.1, .int .i64 (p.2 : Int)]
theorem zug (s : ByteArray) : L (s.extract 1 s.size) = (L s).drop 1 := zdi s 1
theorem zsh (s : ByteArray) (h : 0 < s.size) : L s = ub s 0 :: (L s).drop 1 := by
 have := zak s h
 rwa [List.drop_zero] at this
set_option maxHeartbeats 1000000 in
theorem zbV (s : ByteArray) (hs : s.size ≤ 1000000) (w : World) :
  Calls Tryz.prog 55 #[.string s] w fun e w' => e = .returned (.bool (zda (ze1 (L s))).isSome) ∧ w = w' := by
 have hby := zam s
 by_cases h0 : s.size = 0
 ·have t0 := zd0 s h0
  have HX := Lib.hid (show zda (L s) = none by rw [zc4 s h0]; rfl)
  have HY := Lib.hid (show zda (ze1 (L s)) = none by rw [zc4 s h0]; rfl)
  go_enter Tryz.func55, Tryz.ntmps55
  go_wp2_with (go_at_call 56; refine (zaO s hs _).mono ?_; rintro e w' ⟨rfl, rfl⟩; rw [HX.out]; dsimp only [zhs])
  go_ret
  exact ⟨zap (by rw [HY.out]; rfl), rfl⟩
 ·have t0 := zaI s h0
  have t1 : (0 : Int) < (s.size : Int) := by omega
  have t2 : (1 : Int) ≤ (s.size : Int) := by omega
  have hf := zsh s (by omega)
  by_cases h35 : byte s 0 = 35
  ·have t3 : ((byte s 0 : Int) == 35) = true := by simp; omega
   have hc : ub s 0 = 35 := za3 s 0 (by decide) h35
   rw [hc] at hf
   have HY := Lib.hid (show ze1 (L s) = L (s.extract 1 s.size) by rw [zug, hf]; rfl)
   have hsz : (s.extract 1 s.size).size ≤ 1000000 := by rw [ByteArray.size_extract]; omega
   clear hf hc h35
   cases hn : zda (L (s.extract 1 s.size)) with
   | none =>
     have HN := Lib.hid hn
     clear hn
     go_enter Tryz.func55, Tryz.ntmps55
     go_wp2_with (go_at_call 56; refine (zaO _ hsz _).mono ?_; rintro e w' ⟨rfl, rfl⟩; rw [HN.out]; dsimp only [zhs])
     go_ret
     exact ⟨zap (by rw [HY.out, HN.out]; rfl), rfl⟩
   | some n =>
     have HN := Lib.hid hn
     clear hn
     go_enter Tryz.func55, Tryz.ntmps55
     go_wp2_with (go_at_call 56; refine (zaO _ hsz _).mono ?_; rintro e w' ⟨rfl, rfl⟩; rw [HN.out]; dsimp only [zhs])
     go_ret
     exact ⟨zap (by rw [HY.out, HN.out]; rfl), rfl⟩
  ·have t3 : ((byte s 0 : Int) == 35) = false := by simp; omega
   have hc : ub s 0 ≠ 35 := fun h => h35 ((zbv s 0 35 (by decide)).1 h)
   have HY := Lib.hid (show ze1 (L s) = L s by rw [hf, zck hc])
   clear hf hc h35
   cases hn : zda (L s) with
   | none =>
     have HN := Lib.hid hn
     clear hn
     go_enter Tryz.func55, Tryz.ntmps55
     go_wp2_with (go_at_call 56; refine (zaO _ hs _).mono ?_; rintro e w' ⟨rfl, rfl⟩; rw [HN.out]; dsimp only [zhs])
     go_ret
     exact ⟨zap (by rw [HY.out, HN.out]; rfl), rfl⟩
   | some n =>
     have HN := Lib.hid hn
     clear hn
     go_enter Tryz.func55, Tryz.ntmps55
     go_wp2_with (go_at_call 56; refine (zaO _ hs _).mono ?_; rintro e w' ⟨rfl, rfl⟩; rw [HN.out]; dsimp only [zhs])
     go_ret
     exact ⟨zap (by rw [HY.out, HN.out]; rfl), rfl⟩
set_option maxHeartbeats 2000000 in
theorem zp9 (s : ByteArray) (hs : s.size ≤ 1000000) (now : Int) (hnow1 : -9223372036854775808 ≤ now) (hnow2 : now ≤ 9223372036854775807) (w : World) :
  Calls Tryz.prog 25 #[.string s, .int .i64 now] w fun e w' => e = .returned (lvlV (lvl (L s) now)) ∧ w = w' := by
 have hby := zam s
 cases hn : zda (ze1 (L s)) with
 | none =>
   have HN := Lib.hid hn
   have HL := Lib.hid (show lvl (L s) now = (0, 2) by
    cases hl : L s with
    | nil => rfl
    | cons c r =>
      rw [hl] at hn
      by_cases hc : c = 35
      ·subst hc; rw [zi8]; rw [zd7] at hn; rw [hn]
      ·rw [zi9 hc]; rw [zck hc] at hn; rw [hn])
   clear hn
   go_enter Tryz.func25, Tryz.ntmps25
   go_wp2_with (go_at_call 55; refine (zbV s hs _).mono ?_; rintro e w' ⟨rfl, rfl⟩; rw [HN.out]; dsimp only [Option.isSome])
   go_ret2
   exact ⟨by rw [HL.out]; rfl, rfl⟩
 | some n =>
   have h0 : ¬ s.size = 0 := fun h => by rw [zc4 s h] at hn; cases hn
   have t1 : (0 : Int) < (s.size : Int) := by omega
   have t2 : (1 : Int) ≤ (s.size : Int) := by omega
   have hf := zsh s (by omega)
   have HN := Lib.hid hn
   by_cases h35 : byte s 0 = 35
   ·have t3 : ((byte s 0 : Int) == 35) = true := by simp; omega
    have hc : ub s 0 = 35 := za3 s 0 (by decide) h35
    rw [hc] at hf
    have hsz : (s.extract 1 s.size).size ≤ 1000000 := by rw [ByteArray.size_extract]; omega
    have hx : zda (L (s.extract 1 s.size)) = some n := by rw [zug]; rw [hf, zd7] at hn; exact hn
    have hl : lvl (L s) now = if now < 0 ∨ now < n then (0, 7) else ((n : Int), 0) := by
     rw [hf, zi8]; rw [hf, zd7] at hn; rw [hn]
    have HX := Lib.hid hx
    have HL := Lib.hid hl
    clear hn hf hc h35 hx hl
    by_cases ha : now < 0
    ·go_enter Tryz.func25, Tryz.ntmps25
     go_wp2_with (first | (go_at_call 55; refine (zbV s hs _).mono ?_; rintro e w' ⟨rfl, rfl⟩; rw [HN.out]; dsimp only [Option.isSome]) | (go_at_call 56; refine (zaO _ hsz _).mono ?_; rintro e w' ⟨rfl, rfl⟩; rw [HX.out]; dsimp only [zhs]))
     go_ret2
     exact ⟨by rw [HL.out, if_pos (.inl ha)]; rfl, rfl⟩
    ·by_cases hb : now < n
     ·have t5 : (n : Int) > now := hb
      go_enter Tryz.func25, Tryz.ntmps25
      go_wp2_with (first | (go_at_call 55; refine (zbV s hs _).mono ?_; rintro e w' ⟨rfl, rfl⟩; rw [HN.out]; dsimp only [Option.isSome]) | (go_at_call 56; refine (zaO _ hsz _).mono ?_; rintro e w' ⟨rfl, rfl⟩; rw [HX.out]; dsimp only [zhs]))
      go_ret2
      exact ⟨by rw [HL.out, if_pos (.inr hb)]; rfl, rfl⟩
     ·have t5 : ¬ (n : Int) > now := hb
      go_enter Tryz.func25, Tryz.ntmps25
      go_wp2_with (first | (go_at_call 55; refine (zbV s hs _).mono ?_; rintro e w' ⟨rfl, rfl⟩; rw [HN.out]; dsimp only [Option.isSome]) | (go_at_call 56; refine (zaO _ hsz _).mono ?_; rintro e w' ⟨rfl, rfl⟩; rw [HX.out]; dsimp only [zhs]))
      go_ret2
      exact ⟨by rw [HL.out, if_neg (by omega)]; rfl, rfl⟩
   ·have t3 : ((byte s 0 : Int) == 35) = false := by simp; omega
    have hc : ub s 0 ≠ 35 := fun h => h35 ((zbv s 0 35 (by decide)).1 h)
    have hx : zda (L s) = some n := by rw [hf, zck hc] at hn; rw [hf]; exact hn
    have hl : lvl (L s) now = if now < 0 ∨ now < n then (0, 7) else (now - n, 0) := by
     rw [hf, zi9 hc]; rw [hf, zck hc] at hn; rw [hn]
    have HX := Lib.hid hx
    have HL := Lib.hid hl
    clear hn hf hc h35 hx hl
    by_cases ha : now < 0
    ·go_enter Tryz.func25, Tryz.ntmps25
     go_wp2_with (first | (go_at_call 55; refine (zbV s hs _).mono ?_; rintro e w' ⟨rfl, rfl⟩; rw [HN.out]; dsimp only [Option.isSome]) | (go_at_call 56; refine (zaO _ hs _).mono ?_; rintro e w' ⟨rfl, rfl⟩; rw [HX.out]; dsimp only [zhs]))
     go_ret2
     exact ⟨by rw [HL.out, if_pos (.inl ha)]; rfl, rfl⟩
    ·by_cases hb : now < n
     ·have t5 : (n : Int) > now := hb
      go_enter Tryz.func25, Tryz.ntmps25
      go_wp2_with (first | (go_at_call 55; refine (zbV s hs _).mono ?_; rintro e w' ⟨rfl, rfl⟩; rw [HN.out]; dsimp only [Option.isSome]) | (go_at_call 56; refine (zaO _ hs _).mono ?_; rintro e w' ⟨rfl, rfl⟩; rw [HX.out]; dsimp only [zhs]))
      go_ret2
      exact ⟨by rw [HL.out, if_pos (.inr hb)]; rfl, rfl⟩
     ·have t5 : ¬ (n : Int) > now := hb
      go_enter Tryz.func25, Tryz.ntmps25
      go_wp2_with (first | (go_at_call 55; refine (zbV s hs _).mono ?_; rintro e w' ⟨rfl, rfl⟩; rw [HN.out]; dsimp only [Option.isSome]) | (go_at_call 56; refine (zaO _ hs _).mono ?_; rintro e w' ⟨rfl, rfl⟩; rw [HX.out]; dsimp only [zhs]))
      go_ret2
      exact ⟨by rw [HL.out, if_neg (by omega)]; rfl, rfl⟩
end Go.Proofs.YtppjodfehhlniaaGreatDoor
end
section
namespace Go.Proofs.YtppjodfehhlniaaGreatDoor
open Go.ChangeShapes Go.WideShapes Go.ChangeAt Go.RowKit
set_option maxRecDepth 100000
def tenD : List UInt8 := [48, 49, 50, 51, 52, 53, 54, 55, 56, 57]
theorem zsi : ∀ c : Fin 256, tenD.contains (UInt8.ofNat c.val) = (decide (48 ≤ c.val) && decide (c.val ≤ 57)) := by decide
theorem zpl (c : UInt8) : tenD.contains c = isD c := by
 have h := zsi ⟨c.toNat, c.toNat_lt⟩
 simpa [isD] using h
theorem zgi {α : Type} {p : α → Bool} : ∀ {l : List α}, l.all p = true → l.dropWhile p = []
 | [], _ => rfl
 | a :: l, h => by
   simp only [List.all_cons, Bool.and_eq_true] at h
   rw [List.dropWhile_cons, if_pos h.1, zgi h.2]
theorem zdq {α : Type} {p : α → Bool} : ∀ {l : List α}, l.all p = false → ∃ x, x ∈ l.dropWhile p ∧ p x = false
 | [], h => by cases h
 | a :: l, h => by
   rw [List.dropWhile_cons]
   cases ha : p a with
   | false => exact ⟨a, by simp, ha⟩
   | true =>
     rw [List.all_cons, ha, Bool.true_and] at h
     simpa using zdq h
theorem zsj {l : List UInt8} (h : l.all isD = true) : Lib.trimS l tenD = [] := by
 unfold Lib.trimS Lib.trimLeftS Lib.trimRightS
 rw [show (fun x => tenD.contains x) = isD from funext zpl]
 rw [zgi (l := l.reverse) (by rw [List.all_reverse]; exact h)]
 rfl
theorem zqa {l : List UInt8} (h : l.all isD = false) : Lib.trimS l tenD ≠ [] := by
 unfold Lib.trimS Lib.trimLeftS Lib.trimRightS
 rw [show (fun x => tenD.contains x) = isD from funext zpl]
 obtain ⟨x, hx, hp⟩ := zdq (l := l.reverse) (p := isD) (by rw [List.all_reverse]; exact h)
 have h2 : ((l.reverse.dropWhile isD).reverse).all isD = false := by
  rw [List.all_reverse, List.all_eq_false]
  exact ⟨x, hx, by rw [hp]; simp⟩
 obtain ⟨y, hy, _⟩ := zdq h2
 intro he
 rw [he] at hy; cases hy
theorem zja : ∀ (l : List UInt8) (a : Nat), l.all isD = true → Lib.decFrom a l = some (l.foldl (fun n c => 10 * n + (c.toNat - 48)) a)
 | [], a, _ => rfl
 | c :: r, a, h => by
   simp only [List.all_cons, Bool.and_eq_true] at h
   have hd : Lib.digitVal c = some (c.toNat - 48) := by
    have h1 := h.1
    unfold isD at h1
    simp only [Bool.and_eq_true, decide_eq_true_eq] at h1
    unfold Lib.digitVal; rw [if_pos h1]
   unfold Lib.decFrom
   rw [hd]
   simp only
   rw [zja r _ h.2, List.foldl_cons, Nat.mul_comm a 10]
theorem zov {l : List UInt8} {n : Nat} (h : zda l = some n) : Lib.atoi l = some (n : Int) := by
 rw [zcJ] at h
 split at h
 ·cases h
 ·rename_i hn
  cases h
  have ha : l.all isD = true := by
   cases hq : l.all isD with
   | true => rfl
   | false => exact absurd (.inr (.inr hq)) hn
  cases l with
  | nil => exact absurd (.inl rfl) hn
  | cons c r =>
    have h1 : isD c = true := by simp only [List.all_cons, Bool.and_eq_true] at ha; exact ha.1
    unfold isD at h1
    simp only [Bool.and_eq_true, decide_eq_true_eq] at h1
    have c1 : (c == 45) = false := by
     rw [beq_eq_false_iff_ne]; rintro rfl; exact absurd h1.1 (by decide)
    have c2 : (c == 43) = false := by
     rw [beq_eq_false_iff_ne]; rintro rfl; exact absurd h1.1 (by decide)
    unfold Lib.atoi
    dsimp only
    rw [c1, c2]
    simp only [Bool.false_eq_true, if_false]
    unfold Lib.decNat
    rw [show (c :: r).isEmpty = false from rfl]
    simp only [Bool.false_eq_true, if_false]
    rw [zja _ _ ha]
    rfl
theorem zsk (l : List UInt8) : Lib.trimPrefix l [35] = ze1 l := by
 unfold Lib.trimPrefix Lib.hasPrefix
 cases l with
 | nil => rfl
 | cons c r =>
   by_cases h : c = 35
   ·subst h; simp [List.isPrefixOf, ze1]
   ·rw [zck h]
    have : ((35 : UInt8) == c) = false := by rw [beq_eq_false_iff_ne]; exact fun e => h e.symm
    simp [List.isPrefixOf, this]
theorem zsl (c : UInt8) (r : List UInt8) : Lib.hasPrefix (c :: r) [35] = (c == 35) := by
 unfold Lib.hasPrefix
 simp only [List.isPrefixOf, Bool.and_true]
 exact BEq.comm
theorem zsm (l : List UInt8) (now : Int) : lvl l now = match zda (ze1 l) with
  | none => (0, 2)
  | some n => if now < 0 ∨ now < n then (0, 7) else (if Lib.hasPrefix l [35] = true then (n : Int) else now - n, 0) := by
 cases l with
 | nil => rfl
 | cons c r =>
   rw [zsl]
   by_cases h : c = 35
   ·subst h; rw [zi8, zd7]; rfl
   ·rw [zi9 h, zck h]
    have : (c == 35) = false := by rw [beq_eq_false_iff_ne]; exact h
    rw [this]; rfl
end Go.Proofs.YtppjodfehhlniaaGreatDoor
end
section
namespace Go.Proofs.YtppjodfehhlniaaGreatDoor
open Go.ChangeShapes Go.WideShapes Go.ChangeAt Go.RowKit
set_option maxRecDepth 100000
theorem zty (s : ByteArray) (w : World) : Calls Tryz.prog 22 #[.string s, .string ⟨#[35]⟩] w fun e w' => e = .returned (.tuple #[.string ⟨(ze1 (L s)).toArray⟩, .bool (Lib.hasPrefix (L s) [35])]) ∧ w = w' := by
 refine (Tryz.strings_CutPrefix s ⟨#[35]⟩ w).mono ?_
 rintro e w' ⟨rfl, rfl⟩
 refine ⟨?_, rfl⟩
 rw [show (⟨#[35]⟩ : ByteArray).data.toList = [35] from rfl, show s.data.toList = L s from rfl, zsk]
theorem zpm (d : ByteArray) (hd : d.size ≤ 1000000) (w : World) : Calls Tryz.prog 23 #[.string d, .string ⟨#[48, 49, 50, 51, 52, 53, 54, 55, 56, 57]⟩] w fun e w' => e = .returned (.string ⟨(Lib.trimS (L d) tenD).toArray⟩) ∧ Below w.heap.size w w' := by
 refine (Tryz.strings_Trim d ⟨#[48, 49, 50, 51, 52, 53, 54, 55, 56, 57]⟩ w (by omega) (by decide) ?_).mono ?_
 ·intro j b hj
  have hm : b ∈ tenD := List.mem_of_getElem? hj
  have : ∀ c ∈ tenD, c.toNat < 128 := by decide
  exact this b hm
 ·rintro e w' ⟨rfl, hb⟩
  exact ⟨rfl, hb⟩
theorem ztz (d : ByteArray) (n : Nat) (hn : zda (L d) = some n) (w : World) : Calls Tryz.prog 24 #[.string d] w fun e w' => e = .returned (.tuple #[.int .i64 (n : Int), .nilIface]) ∧ Below w.heap.size w w' := by
 have hl : d.size ≤ 18 := by
  rw [zcJ] at hn
  split at hn
  ·cases hn
  ·rename_i h
   rw [za7] at h
   omega
 refine (Tryz.strconv_Atoi d n hl (zov hn) w).mono ?_
 rintro e w' ⟨rfl, t, rfl⟩
 exact ⟨rfl, Lib.bytesWorld_below _ _ _⟩
set_option maxHeartbeats 4000000 in
theorem zmZ (s : ByteArray) (hs : s.size ≤ 1000000) (now : Int) (hnow1 : -9223372036854775808 ≤ now) (hnow2 : now ≤ 9223372036854775807) (w : World) :
  Calls Tryz.prog 11 #[.string s, .int .i64 now] w fun e w' => e = .returned (lvlV (lvl (L s) now)) ∧ Below w.heap.size w w' := by
 obtain ⟨d, hd⟩ : ∃ d : ByteArray, (⟨(ze1 (L s)).toArray⟩ : ByteArray) = d := ⟨_, rfl⟩
 have hLd : L d = ze1 (L s) := by rw [← hd]; rfl
 have hds : d.size ≤ 1000000 := by
  rw [← za7, hLd]
  have : (ze1 (L s)).length ≤ (L s).length := by
   unfold ze1
   split
   ·rename_i h
    rw [h]; simp
   ·exact Nat.le_refl _
  rw [za7] at this
  omega
 have HLV := Lib.hid (zsm (L s) now)
 obtain ⟨b, hb⟩ : ∃ b, Lib.hasPrefix (L s) [35] = b := ⟨_, rfl⟩
 have hcut : ∀ W, Calls Tryz.prog 22 #[.string s, .string ⟨#[35]⟩] W fun e w' => e = .returned (.tuple #[.string d, .bool b]) ∧ W = w' := fun W => by
  rw [← hd, ← hb]; exact zty s W
 rw [hb, ← hLd] at HLV
 have HC := Lib.hid hcut
 clear hcut hd hLd hb
 cases hn : zda (L d) with
 | none =>
   rw [hn] at HLV
   by_cases h0 : d.size < 1
   ·have t1 : (d.size : Int) < 1 := by omega
    clear hn
    go_enter Tryz.func11, Tryz.ntmps11
    go_wp2_with (go_at_call 22; refine (HC.out _).mono ?_; rintro e w' ⟨rfl, rfl⟩)
    go_ret2
    exact ⟨by rw [HLV.out]; rfl, Below.refl _ _⟩
   ·have t1 : ¬ (d.size : Int) < 1 := by omega
    by_cases h9 : 9 < d.size
    ·have t2 : (d.size : Int) > 9 := by omega
     clear hn
     go_enter Tryz.func11, Tryz.ntmps11
     go_wp2_with (go_at_call 22; refine (HC.out _).mono ?_; rintro e w' ⟨rfl, rfl⟩)
     go_ret2
     exact ⟨by rw [HLV.out]; rfl, Below.refl _ _⟩
    ·have t2 : ¬ (d.size : Int) > 9 := by omega
     have ha : (L d).all isD = false := by
      rw [zcJ, za7] at hn
      split at hn
      ·rename_i h
       rcases h with h | h | h
       ·omega
       ·omega
       ·exact h
      ·cases hn
     obtain ⟨x, hx⟩ : ∃ x : ByteArray, (⟨(Lib.trimS (L d) tenD).toArray⟩ : ByteArray) = x := ⟨_, rfl⟩
     have t3 : x.toList.isEmpty = false := zaI x fun h => zqa ha (by
      have : L x = Lib.trimS (L d) tenD := by rw [← hx]; rfl
      rw [← this]; exact zc4 x h)
     have htr : ∀ W, Calls Tryz.prog 23 #[.string d, .string ⟨#[48, 49, 50, 51, 52, 53, 54, 55, 56, 57]⟩] W fun e w' => e = .returned (.string x) ∧ Below W.heap.size W w' := fun W => by rw [← hx]; exact zpm d hds W
     have HT := Lib.hid htr
     clear hn htr hx ha
     go_enter Tryz.func11, Tryz.ntmps11
     go_wp2_with (first | (go_at_call 22; refine (HC.out _).mono ?_; rintro e w' ⟨rfl, rfl⟩) | (go_at_call 23; refine (HT.out _).mono ?_; rintro e w1 ⟨rfl, hb1⟩; have HB1 := Lib.hid hb1; clear hb1))
     go_ret2
     exact ⟨by rw [HLV.out]; rfl, HB1.out⟩
 | some n =>
   rw [hn] at HLV
   have h3 : 1 ≤ d.size ∧ d.size ≤ 9 ∧ (L d).all isD = true := by
    have hn' := hn
    rw [zcJ, za7] at hn'
    split at hn'
    ·cases hn'
    ·rename_i h
     refine ⟨by omega, by omega, ?_⟩
     cases hq : (L d).all isD with
     | true => rfl
     | false => exact absurd (.inr (.inr hq)) h
   have hnb : n < 1000000000 := by
    have hn' := hn
    rw [zcJ] at hn'
    split at hn'
    ·cases hn'
    ·cases hn'
     exact zke (by rw [za7]; omega) h3.2.2
   have t1 : ¬ (d.size : Int) < 1 := by omega
   have t2 : ¬ (d.size : Int) > 9 := by omega
   have htr : ∀ W, Calls Tryz.prog 23 #[.string d, .string ⟨#[48, 49, 50, 51, 52, 53, 54, 55, 56, 57]⟩] W fun e w' => e = .returned (.string ⟨#[]⟩) ∧ Below W.heap.size W w' := fun W => by
    have := zpm d hds W
    rw [zsj h3.2.2] at this
    exact this
   have HT := Lib.hid htr
   have HA := Lib.hid (fun W => ztz d n hn W)
   have t4 : ¬ (n : Int) < 0 := by omega
   clear hn htr h3
   cases b with
   | true =>
     by_cases ha : now < 0
     ·go_enter Tryz.func11, Tryz.ntmps11
      go_wp2_with (first | (go_at_call 22; refine (HC.out _).mono ?_; rintro e w' ⟨rfl, rfl⟩) | (go_at_call 23; refine (HT.out _).mono ?_; rintro e w1 ⟨rfl, hb1⟩; have HB1 := Lib.hid hb1; have hs1 := hb1.size; clear hb1) | (go_at_call 24; refine (HA.out _).mono ?_; rintro e w2 ⟨rfl, hb2⟩; have HB2 := Lib.hid hb2; clear hb2))
      go_ret2
      exact ⟨by rw [HLV.out]; dsimp only; rw [if_pos (.inl ha)]; rfl, HB1.out.trans (HB2.out.mono hs1)⟩
     ·by_cases hb : now < n
      ·have t5 : (n : Int) > now := hb
       go_enter Tryz.func11, Tryz.ntmps11
       go_wp2_with (first | (go_at_call 22; refine (HC.out _).mono ?_; rintro e w' ⟨rfl, rfl⟩) | (go_at_call 23; refine (HT.out _).mono ?_; rintro e w1 ⟨rfl, hb1⟩; have HB1 := Lib.hid hb1; have hs1 := hb1.size; clear hb1) | (go_at_call 24; refine (HA.out _).mono ?_; rintro e w2 ⟨rfl, hb2⟩; have HB2 := Lib.hid hb2; clear hb2))
       go_ret2
       exact ⟨by rw [HLV.out]; dsimp only; rw [if_pos (.inr hb)]; rfl, HB1.out.trans (HB2.out.mono hs1)⟩
      ·have t5 : ¬ (n : Int) > now := hb
       go_enter Tryz.func11, Tryz.ntmps11
       go_wp2_with (first | (go_at_call 22; refine (HC.out _).mono ?_; rintro e w' ⟨rfl, rfl⟩) | (go_at_call 23; refine (HT.out _).mono ?_; rintro e w1 ⟨rfl, hb1⟩; have HB1 := Lib.hid hb1; have hs1 := hb1.size; clear hb1) | (go_at_call 24; refine (HA.out _).mono ?_; rintro e w2 ⟨rfl, hb2⟩; have HB2 := Lib.hid hb2; clear hb2))
       go_ret2
       exact ⟨by rw [HLV.out]; dsimp only; rw [if_neg (by omega)]; rfl, HB1.out.trans (HB2.out.mono hs1)⟩
   | false =>
     by_cases ha : now < 0
     ·go_enter Tryz.func11, Tryz.ntmps11
      go_wp2_with (first | (go_at_call 22; refine (HC.out _).mono ?_; rintro e w' ⟨rfl, rfl⟩) | (go_at_call 23; refine (HT.out _).mono ?_; rintro e w1 ⟨rfl, hb1⟩; have HB1 := Lib.hid hb1; have hs1 := hb1.size; clear hb1) | (go_at_call 24; refine (HA.out _).mono ?_; rintro e w2 ⟨rfl, hb2⟩; have HB2 := Lib.hid hb2; clear hb2))
      go_ret2
      exact ⟨by rw [HLV.out]; dsimp only; rw [if_pos (.inl ha)]; rfl, HB1.out.trans (HB2.out.mono hs1)⟩
     ·by_cases hb : now < n
      ·have t5 : now - (n : Int) < 0 := by omega
       go_enter Tryz.func11, Tryz.ntmps11
       go_wp2_with (first | (go_at_call 22; refine (HC.out _).mono ?_; rintro e w' ⟨rfl, rfl⟩) | (go_at_call 23; refine (HT.out _).mono ?_; rintro e w1 ⟨rfl, hb1⟩; have HB1 := Lib.hid hb1; have hs1 := hb1.size; clear hb1) | (go_at_call 24; refine (HA.out _).mono ?_; rintro e w2 ⟨rfl, hb2⟩; have HB2 := Lib.hid hb2; clear hb2))
       go_ret2
       exact ⟨by rw [HLV.out]; dsimp only; rw [if_pos (.inr hb)]; rfl, HB1.out.trans (HB2.out.mono hs1)⟩
      ·have t5 : ¬ now - (n : Int) < 0 := by omega
       have t6 : ¬ now - (n : Int) > now := by omega
       go_enter Tryz.func11, Tryz.ntmps11
       go_wp2_with (first | (go_at_call 22; refine (HC.out _).mono ?_; rintro e w' ⟨rfl, rfl⟩) | (go_at_call 23; refine (HT.out _).mono ?_; rintro e w1 ⟨rfl, hb1⟩; have HB1 := Lib.hid hb1; have hs1 := hb1.size; clear hb1) | (go_at_call 24; refine (HA.out _).mono ?_; rintro e w2 ⟨rfl, hb2⟩; have HB2 := Lib.hid hb2; clear hb2))
       go_ret2
       exact ⟨by rw [HLV.out]; dsimp only; rw [if_neg (by omega)]; rfl, HB1.out.trans (HB2.out.mono hs1)⟩
end Go.Proofs.YtppjodfehhlniaaGreatDoor
end
section
namespace Go.Proofs.YtppjodfehhlniaaGreatDoor
open Go.ChangeShapes Go.WideShapes Go.ChangeAt Go.RowKit
set_option maxRecDepth 100000
set_option maxHeartbeats 1000000 in
theorem zhh (s : ByteArray) (hs : s.size ≤ 1000000) (now : Int) (hnow1 : -9223372036854775808 ≤ now) (hnow2 : now ≤ 9223372036854775807) (w : World) :
  Calls Tryz.prog 12 #[.string s, .int .i64 now] w fun e w' => e = .returned (lvlV (lvl (L s) now)) ∧ w = w' := by
 go_enter Tryz.func12, Tryz.ntmps12
 go_wp2_with (go_at_call 25; refine (zp9 s hs now hnow1 hnow2 _).mono ?_; rintro e w' ⟨rfl, rfl⟩; dsimp only [lvlV])
 go_ret2
 exact ⟨rfl, rfl⟩
end Go.Proofs.YtppjodfehhlniaaGreatDoor
end
section
namespace Go.Proofs.YtppjodfehhlniaaGreatDoor
open Go.RowKit Go.Shelf
open Go.ChangeShapes Go.WideShapes Go.ChangeAt
open Go.Maps (Keyed string_keyed)
open Go.WideMaps (keyOf_string_mk)
set_option maxRecDepth 100000
theorem law9 : Keyed Tryz.prog 9 := string_keyed Tryz.underlying9
def cmdR (v : Value) : Option (DataW Unit × List MemPlace) := match v with
 | .func f a b => if a = #[] ∧ b = #[] then (match f with
   | .func i => some (.lit (.int .i64 i), [])
   | _ => none) else none
 | _ => none
theorem ztA {v : Value} {y : DataW Unit × List MemPlace} (h : cmdR v = some y) : ∃ i : Nat, v = .func (.func i) #[] #[] := by
 unfold cmdR at h
 split at h
 ·split at h
  ·rename_i f a b hab
   obtain ⟨rfl, rfl⟩ := hab
   split at h
   ·exact ⟨_, rfl⟩
   ·cases h
  ·cases h
 ·cases h
theorem zgX {H : Type} {P : Program} (w : World) {ops : Array Oper} {rest : List Oper} {o : Oper} {a : Act} {Q : Exit → Act → World → Prop}
  (hg : o.guard = none) (m x v : Operand) (t : TypeId) (hop : o.op = Op.insert t m x v)
  (k e : TypeId) (K : Keyed P k) (ht : P.underlying t = some (.map k e)) (R : Value → Option (DataW H × List MemPlace)) (b n : Nat) (D : DataW H)
  (hm : a.eval m = .map (some b)) (hown : w.ownsMap P k R b n D) (hn : n < maxLen) (key val : Value) (kl : Lit) (hx : a.eval x = key) (hv : a.eval v = val) (hkey : keyOf P k key = some kl)
  (d : DataW H) (ps : List MemPlace) (hval : R val = some (d, ps))
  (hK : ∀ w', w'.ownsMap P k R b (n + 1) (D.put kl d) → w.grownBy w' (some b) → wpList P ops Q rest (a.put o.dst undef) w') :
  wpList P ops Q (o :: rest) a w := by
 refine wpList_plain hg fun K' hK' => ?_
 obtain ⟨w', hrun, r1, r2⟩ := hown.update K ht hn hkey hval
 unfold Oper.wp
 simp [execOp, hop, hm, hx, hv, hrun, Result.andThen]
 exact hK' _ _ (hK w' r1 r2)
theorem key9 (s : ByteArray) (hs : s.size ≤ maxLen) : keyOf Tryz.prog 9 (.string s) = some (.string s.data.toList) := keyOf_string_mk Tryz.underlying9 hs
theorem zvP (t : TypeId) (P : Program) (w : World) : (Instr.makeMap t none).run P w = .ok (.map (some w.heap.size)) (w.alloc (.map #[] 0)) := by simp [Instr.makeMap]
attribute [local go_sem] zvP
def names21 : List (List UInt8) := [[97, 112, 112, 108, 121], [97, 114, 114, 97, 121], [103, 108, 111, 98, 97, 108], [105, 110, 102, 111], [112, 114, 111, 99], [116, 97, 105, 108, 99, 97, 108, 108], [117, 112, 108, 101, 118, 101, 108], [117, 112, 118, 97, 114]]
set_option maxHeartbeats 1000000 in
theorem zqb (w : World) : Calls Tryz.prog 26 #[] w fun e w' => e = .returned (.map (some w.heap.size)) ∧ (∃ D n, w'.ownsMap Tryz.prog 9 cmdR w.heap.size n D ∧ (strKeys D).Perm names21 ∧ n ≤ 8) ∧ Below w.heap.size w w' := by
 have HO := Lib.hid (World.ownsMap_made w Tryz.prog 9 cmdR)
 have HB := Lib.hid ((Below.refl w.heap.size w).alloc (Nat.le_refl _) (.map #[] 0))
 go_enter Tryz.func26, Tryz.ntmps26
 go_wp2_with (refine zgX _ rfl _ _ _ 56 rfl 9 _ law9 Tryz.underlying56 cmdR w.heap.size _ _ rfl HO.out (by decide) _ _ _ rfl rfl (key9 _ (by decide)) _ [] rfl ?_; clear HO; intro wn o g; have HO := Lib.hid o; have HB2 := Lib.hid (HB.out.grown g (by have := HB.out.size; exact this) (fun k e => by cases e; exact Nat.le_refl _)); clear o g HB; have HB := Lib.hid HB2.out; clear HB2)
 go_ret
 exact ⟨rfl, ⟨_, _, HO.out, List.isPerm_iff.1 (by kernel_rfl), by decide⟩, HB.out⟩
end Go.Proofs.YtppjodfehhlniaaGreatDoor
end
