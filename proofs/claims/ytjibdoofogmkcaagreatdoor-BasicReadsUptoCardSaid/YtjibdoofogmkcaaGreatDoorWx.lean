/-
  The document's Conditions, walked. Conditions: none.
-/
import Derived.Test.YtjibdoofogmkcaaGreatDoorWkToWy0
set_option linter.unusedVariables false
set_option linter.unusedSimpArgs false
set_option linter.unusedSectionVars false
set_option linter.deprecated false
section
namespace Go.Proofs.YtjibdoofogmkcaaGreatDoor
open Go.ChangeShapes Go.WideShapes Go.ChangeAt Go.RowKit
set_option maxRecDepth 100000
set_option maxHeartbeats 8000000 in
theorem rcond_any (w : World) (t : Value) (l : List (List UInt8)) (ht : StrRow w t l) (hl : l.length ≤ 1000) : Calls Tryz.prog 16 #[t] w fun e w' => CondR w l e w' := by
  obtain ⟨a, c, rfl, ha⟩ := ht.form
  have HA := Lib.hid ha
  clear ha ht
  obtain ⟨i0, hi, hz0, hz1, hz2⟩ := info_parts info9
  go_enter Tryz.func16, Tryz.ntmps16
  go_wp2
  go_loopg [2, 3, 5] (l.length + 1) (fun k uv vv iv wr => ∃ (i : Nat) (cs bs : List (List UInt8)), iv = .int .i64 (i : Int) ∧ k = l.length + 1 - i ∧ i ≤ l.length ∧ cs.length ≤ i ∧ bs.length ≤ i ∧
    cnd l = (cnd (l.drop i)).map (fun p => (cs ++ p.1, bs ++ p.2)) ∧ OwnTx wr w.heap.size uv cs ∧ OwnTx wr w.heap.size vv bs ∧ Apart uv vv ∧ Below w.heap.size w wr)
  case atStart => exact ⟨0, [], [], rfl, rfl, by omega, by simp, by simp, by simp, OwnTx.nil _ _, OwnTx.nil _ _, apart_nil _, Below.refl _ _⟩
  case round =>
    obtain ⟨i, cs, bs, rfl, hk, hil, hcl, hbl, heq, hU, hV, hap, hbel⟩ := hrel
    have HK := Lib.hid hk
    have HEQ := Lib.hid heq
    have U1 := Lib.hid hU
    have V1 := Lib.hid hV
    have AP1 := Lib.hid hap
    have B1 := Lib.hid hbel
    have hsz := hbel.size
    clear hk heq hU hV hap
    cases hd : l.drop i with
    | nil =>
      have hge := drop_nil hd
      have t1 : (l.length : Int) ≤ (i : Int) := by omega
      have HZ := Lib.hid (show cnd l = none by rw [HEQ.out, hd, cnd_nil]; rfl)
      clear hd
      go_wp2
      go_ret3
      exact CondR.none HZ.out B1.out
    | cons x0 r0 =>
      obtain ⟨hx0, hd0, hi0⟩ := drop_head hd
      obtain ⟨p, rfl, hp⟩ := HA.out i x0 hx0
      have CELL := Lib.hid (show ∀ W, Below w.heap.size w W → ∀ j y, l[j]? = some y → W.cell? (p.add j) = some (.string ⟨y.toArray⟩) from fun W hW j y hy => by
        obtain ⟨p', hp', hc⟩ := HA.out j y hy
        cases hp'
        exact cell_later hc hW)
      have CELS := Lib.hid (show ∀ W, Below w.heap.size w W → ∀ j y, l[j + 1]? = some y → W.cell? ⟨p.block, p.off + (j + 1), none⟩ = some (.string ⟨y.toArray⟩) from fun W hW j y hy => by
        have := CELL.out W hW (j + 1) y hy
        rwa [Addr.add_succ'] at this)
      have f0 := CELL.out wr hbel i x0 hx0
      have t1 : ¬ (l.length : Int) ≤ (i : Int) := by omega
      clear hp hbel
      cases r0 with
      | nil =>
        have hlen := drop_nil hd0
        have a1 : ¬ (i : Int) + 1 < (l.length : Int) := by omega
        have b1 : (l.length : Int) ≤ (i : Int) + 1 := by omega
        have c1 : ((i : Int) + 1 == (l.length : Int)) = true := by simp; omega
        have e1 : ((i : Int) + 1 == (l.length : Int) - 1) = false := by simp; omega
        have HZ := Lib.hid (show cnd l = none by rw [HEQ.out, hd, cnd_one]; rfl)
        clear hd hd0 hi0 hlen
        go_wp2_with (first | (at_builtin; refine wpList_append_tag rfl _ _ 22 rfl w.heap.size 9 i0 (.string ⟨#[]⟩) 1 16 Tryz.underlying22 hi hz0 hz1 hz2 rfl (by decide) _ _ _ rfl (U1.out.alloc _) ⟨wr.heap.size, 0, none⟩ 1 1 [.string ⟨x0.toArray⟩] rfl rfl (cell_one_new _ _ _) (by simp [Value.oneCell']) (by simp only [maxLen]; omega) (by omega) (by simp; omega) ?_; intro v1 w2 o g n; obtain ⟨hV2, ap2⟩ := apart_grown V1.out AP1.out (by simp) (fun k hk => heap_alloc_old _ _ hk) g n; have hb2 := own_below B1.out U1.out g; have hs2 := hb2.size; have U2 := Lib.hid (OwnTx.snoc o); have V2 := Lib.hid hV2; have AP2 := Lib.hid ap2; have B2 := Lib.hid hb2; clear U1 V1 AP1 hV2 ap2 hb2; clear o g n))
        go_ret3
        exact CondR.none HZ.out B2.out
      | cons x1 r1 =>
        obtain ⟨hx1, hd1, hi1⟩ := drop_head hd0
        by_cases hqt : x1 = wThen
        · have qt : (x1 == [116, 104, 101, 110]) = true := by rw [hqt]; rfl
          cases r1 with
          | nil =>
            have hlen := drop_nil hd1
            have a1 : (i : Int) + 1 < (l.length : Int) := by omega
            have b1 : ¬ (l.length : Int) ≤ (i : Int) + 1 := by omega
            have c1 : ((i : Int) + 1 == (l.length : Int)) = false := by simp; omega
            have a2 : ¬ (i : Int) + 1 + 1 < (l.length : Int) := by omega
            have b2 : (l.length : Int) ≤ (i : Int) + 1 + 1 := by omega
            have c2 : ((i : Int) + 1 + 1 == (l.length : Int)) = true := by simp; omega
            have e1 : ((i : Int) + 1 == (l.length : Int) - 1) = true := by simp; omega
            have e2 : ((i : Int) + 1 + 1 == (l.length : Int) - 1) = false := by simp; omega
            have HZ := Lib.hid (show cnd l = none by rw [HEQ.out, hd, hqt, cnd_then_end]; rfl)
            clear hd hd0 hi0 hd1 hi1 hlen
            go_wp2_with (first | (at_builtin; refine wpList_append_tag rfl _ _ 22 rfl w.heap.size 9 i0 (.string ⟨#[]⟩) 1 16 Tryz.underlying22 hi hz0 hz1 hz2 rfl (by decide) _ _ _ rfl (U1.out.alloc _) ⟨wr.heap.size, 0, none⟩ 1 1 [.string ⟨x0.toArray⟩] rfl rfl (cell_one_new _ _ _) (by simp [Value.oneCell']) (by simp only [maxLen]; omega) (by omega) (by simp; omega) ?_; intro v1 w2 o g n; obtain ⟨hV2, ap2⟩ := apart_grown V1.out AP1.out (by simp) (fun k hk => heap_alloc_old _ _ hk) g n; have hb2 := own_below B1.out U1.out g; have hs2 := hb2.size; have gw21 := CELS.out w2 hb2 (i) x1 hx1; have U2 := Lib.hid (OwnTx.snoc o); have V2 := Lib.hid hV2; have AP2 := Lib.hid ap2; have B2 := Lib.hid hb2; clear U1 V1 AP1 hV2 ap2 hb2; clear o g n))
            go_ret3
            exact CondR.none HZ.out B2.out
          | cons x2 r2 =>
            obtain ⟨hx2, hd2, hi2⟩ := drop_head hd1
            cases r2 with
            | nil =>
              have hlen := drop_nil hd2
              have a1 : (i : Int) + 1 < (l.length : Int) := by omega
              have b1 : ¬ (l.length : Int) ≤ (i : Int) + 1 := by omega
              have c1 : ((i : Int) + 1 == (l.length : Int)) = false := by simp; omega
              have a2 : (i : Int) + 1 + 1 < (l.length : Int) := by omega
              have b2 : ¬ (l.length : Int) ≤ (i : Int) + 1 + 1 := by omega
              have c2 : ((i : Int) + 1 + 1 == (l.length : Int)) = false := by simp; omega
              have a3 : ¬ (i : Int) + 1 + 1 + 1 < (l.length : Int) := by omega
              have b3 : (l.length : Int) ≤ (i : Int) + 1 + 1 + 1 := by omega
              have c3 : ((i : Int) + 1 + 1 + 1 == (l.length : Int)) = true := by simp; omega
              have e1 : ((i : Int) + 1 == (l.length : Int) - 1) = false := by simp; omega
              have e2 : ((i : Int) + 1 + 1 == (l.length : Int) - 1) = true := by simp; omega
              have e3 : ((i : Int) + 1 + 1 + 1 == (l.length : Int) - 1) = false := by simp; omega
              have HZ := Lib.hid (show cnd l = some (cs ++ [x0], bs ++ [x2]) by rw [HEQ.out, hd, cnd_body (by rw [hqt]; exact dropIf_hit _ _)]; rfl)
              clear hd hd0 hi0 hd1 hi1 hd2 hi2 hlen
              go_wp2_with (first | (at_builtin; refine wpList_append_tag rfl _ _ 22 rfl w.heap.size 9 i0 (.string ⟨#[]⟩) 1 16 Tryz.underlying22 hi hz0 hz1 hz2 rfl (by decide) _ _ _ rfl (U1.out.alloc _) ⟨wr.heap.size, 0, none⟩ 1 1 [.string ⟨x0.toArray⟩] rfl rfl (cell_one_new _ _ _) (by simp [Value.oneCell']) (by simp only [maxLen]; omega) (by omega) (by simp; omega) ?_; intro v1 w2 o g n; obtain ⟨hV2, ap2⟩ := apart_grown V1.out AP1.out (by simp) (fun k hk => heap_alloc_old _ _ hk) g n; have hb2 := own_below B1.out U1.out g; have hs2 := hb2.size; have gw21 := CELS.out w2 hb2 (i) x1 hx1; have gw22 := CELS.out w2 hb2 (i + 1) x2 hx2; have U2 := Lib.hid (OwnTx.snoc o); have V2 := Lib.hid hV2; have AP2 := Lib.hid ap2; have B2 := Lib.hid hb2; clear U1 V1 AP1 hV2 ap2 hb2; clear o g n) | (at_builtin; refine wpList_append_tag rfl _ _ 22 rfl w.heap.size 9 i0 (.string ⟨#[]⟩) 1 16 Tryz.underlying22 hi hz0 hz1 hz2 rfl (by decide) _ _ _ rfl (V2.out.alloc _) ⟨w2.heap.size, 0, none⟩ 1 1 [.string ⟨x2.toArray⟩] rfl rfl (cell_one_new _ _ _) (by simp [Value.oneCell']) (by simp only [maxLen]; omega) (by omega) (by simp; omega) ?_; intro v2 w3 o g n; obtain ⟨hV3, ap3⟩ := apart_grown U2.out AP2.out.symm (by simp) (fun k hk => heap_alloc_old _ _ hk) g n; have hb3 := own_below B2.out V2.out g; have hs3 := hb3.size; have gw31 := CELS.out w3 hb3 (i) x1 hx1; have gw32 := CELS.out w3 hb3 (i + 1) x2 hx2; have V3 := Lib.hid (OwnTx.snoc o); have U3 := Lib.hid hV3; have AP3 := Lib.hid ap3.symm; have B3 := Lib.hid hb3; clear U2 V2 AP2 hV3 ap3 hb3; clear o g n))
              go_ret3
              exact CondR.some HZ.out U3.out (by simpa using V3.out) B3.out
            | cons x3 r3 =>
              obtain ⟨hx3, hd3, hi3⟩ := drop_head hd2
              by_cases hqei : x3 = wElseif
              · have qei : (x3 == [101, 108, 115, 101, 105, 102]) = true := by rw [hqei]; rfl
                have hlen := hi3
                have a1 : (i : Int) + 1 < (l.length : Int) := by omega
                have b1 : ¬ (l.length : Int) ≤ (i : Int) + 1 := by omega
                have c1 : ((i : Int) + 1 == (l.length : Int)) = false := by simp; omega
                have a2 : (i : Int) + 1 + 1 < (l.length : Int) := by omega
                have b2 : ¬ (l.length : Int) ≤ (i : Int) + 1 + 1 := by omega
                have c2 : ((i : Int) + 1 + 1 == (l.length : Int)) = false := by simp; omega
                have a3 : (i : Int) + 1 + 1 + 1 < (l.length : Int) := by omega
                have b3 : ¬ (l.length : Int) ≤ (i : Int) + 1 + 1 + 1 := by omega
                have c3 : ((i : Int) + 1 + 1 + 1 == (l.length : Int)) = false := by simp; omega
                have e1 : ((i : Int) + 1 == (l.length : Int) - 1) = false := by simp; omega
                have e2 : ((i : Int) + 1 + 1 == (l.length : Int) - 1) = false := by simp; omega
                have HZ := Lib.hid (show cnd l = (cnd (l.drop (i + 1 + 1 + 1 + 1))).map (fun p => (cs ++ [x0] ++ p.1, bs ++ [x2] ++ p.2)) by rw [HEQ.out, hd, cnd_body (by rw [hqt]; exact dropIf_hit _ _)]; simp only; rw [if_pos hqei, hd3, Option.map_map]; congr 1; funext q; simp)
                clear hd hd0 hi0 hd1 hi1 hd2 hi2 hd3 hi3 hlen
                go_wp2_with (first | (at_builtin; refine wpList_append_tag rfl _ _ 22 rfl w.heap.size 9 i0 (.string ⟨#[]⟩) 1 16 Tryz.underlying22 hi hz0 hz1 hz2 rfl (by decide) _ _ _ rfl (U1.out.alloc _) ⟨wr.heap.size, 0, none⟩ 1 1 [.string ⟨x0.toArray⟩] rfl rfl (cell_one_new _ _ _) (by simp [Value.oneCell']) (by simp only [maxLen]; omega) (by omega) (by simp; omega) ?_; intro v1 w2 o g n; obtain ⟨hV2, ap2⟩ := apart_grown V1.out AP1.out (by simp) (fun k hk => heap_alloc_old _ _ hk) g n; have hb2 := own_below B1.out U1.out g; have hs2 := hb2.size; have gw21 := CELS.out w2 hb2 (i) x1 hx1; have gw22 := CELS.out w2 hb2 (i + 1) x2 hx2; have gw23 := CELS.out w2 hb2 (i + 1 + 1) x3 hx3; have U2 := Lib.hid (OwnTx.snoc o); have V2 := Lib.hid hV2; have AP2 := Lib.hid ap2; have B2 := Lib.hid hb2; clear U1 V1 AP1 hV2 ap2 hb2; clear o g n) | (at_builtin; refine wpList_append_tag rfl _ _ 22 rfl w.heap.size 9 i0 (.string ⟨#[]⟩) 1 16 Tryz.underlying22 hi hz0 hz1 hz2 rfl (by decide) _ _ _ rfl (V2.out.alloc _) ⟨w2.heap.size, 0, none⟩ 1 1 [.string ⟨x2.toArray⟩] rfl rfl (cell_one_new _ _ _) (by simp [Value.oneCell']) (by simp only [maxLen]; omega) (by omega) (by simp; omega) ?_; intro v2 w3 o g n; obtain ⟨hV3, ap3⟩ := apart_grown U2.out AP2.out.symm (by simp) (fun k hk => heap_alloc_old _ _ hk) g n; have hb3 := own_below B2.out V2.out g; have hs3 := hb3.size; have gw31 := CELS.out w3 hb3 (i) x1 hx1; have gw32 := CELS.out w3 hb3 (i + 1) x2 hx2; have gw33 := CELS.out w3 hb3 (i + 1 + 1) x3 hx3; have V3 := Lib.hid (OwnTx.snoc o); have U3 := Lib.hid hV3; have AP3 := Lib.hid ap3.symm; have B3 := Lib.hid hb3; clear U2 V2 AP2 hV3 ap3 hb3; clear o g n))
                go_roundg (l.length + 1 - (i + 1 + 1 + 1 + 1))
                case measure => rw [HK.out]; omega
                case rel => exact ⟨i + 1 + 1 + 1 + 1, cs ++ [x0], bs ++ [x2], by go_num, rfl, by omega, by simp; omega, by simp; omega, HZ.out, U3.out, V3.out, AP3.out, B3.out⟩
              · have qei : (x3 == [101, 108, 115, 101, 105, 102]) = false := by simp; exact hqei
                by_cases hqel : x3 = wElse
                · have qel : (x3 == [101, 108, 115, 101]) = true := by rw [hqel]; rfl
                  cases r3 with
                  | nil =>
                    have hlen := drop_nil hd3
                    have a1 : (i : Int) + 1 < (l.length : Int) := by omega
                    have b1 : ¬ (l.length : Int) ≤ (i : Int) + 1 := by omega
                    have c1 : ((i : Int) + 1 == (l.length : Int)) = false := by simp; omega
                    have a2 : (i : Int) + 1 + 1 < (l.length : Int) := by omega
                    have b2 : ¬ (l.length : Int) ≤ (i : Int) + 1 + 1 := by omega
                    have c2 : ((i : Int) + 1 + 1 == (l.length : Int)) = false := by simp; omega
                    have a3 : (i : Int) + 1 + 1 + 1 < (l.length : Int) := by omega
                    have b3 : ¬ (l.length : Int) ≤ (i : Int) + 1 + 1 + 1 := by omega
                    have c3 : ((i : Int) + 1 + 1 + 1 == (l.length : Int)) = false := by simp; omega
                    have a4 : ¬ (i : Int) + 1 + 1 + 1 + 1 < (l.length : Int) := by omega
                    have b4 : (l.length : Int) ≤ (i : Int) + 1 + 1 + 1 + 1 := by omega
                    have c4 : ((i : Int) + 1 + 1 + 1 + 1 == (l.length : Int)) = true := by simp; omega
                    have e1 : ((i : Int) + 1 == (l.length : Int) - 1) = false := by simp; omega
                    have e2 : ((i : Int) + 1 + 1 == (l.length : Int) - 1) = false := by simp; omega
                    have e3 : ((i : Int) + 1 + 1 + 1 == (l.length : Int) - 1) = true := by simp; omega
                    have e4 : ((i : Int) + 1 + 1 + 1 + 1 == (l.length : Int) - 1) = false := by simp; omega
                    have HZ := Lib.hid (show cnd l = none by rw [HEQ.out, hd, cnd_body (by rw [hqt]; exact dropIf_hit _ _)]; simp only; rw [if_neg hqei, hqel, dropIf_hit]; rfl)
                    clear hd hd0 hi0 hd1 hi1 hd2 hi2 hd3 hi3 hlen
                    go_wp2_with (first | (at_builtin; refine wpList_append_tag rfl _ _ 22 rfl w.heap.size 9 i0 (.string ⟨#[]⟩) 1 16 Tryz.underlying22 hi hz0 hz1 hz2 rfl (by decide) _ _ _ rfl (U1.out.alloc _) ⟨wr.heap.size, 0, none⟩ 1 1 [.string ⟨x0.toArray⟩] rfl rfl (cell_one_new _ _ _) (by simp [Value.oneCell']) (by simp only [maxLen]; omega) (by omega) (by simp; omega) ?_; intro v1 w2 o g n; obtain ⟨hV2, ap2⟩ := apart_grown V1.out AP1.out (by simp) (fun k hk => heap_alloc_old _ _ hk) g n; have hb2 := own_below B1.out U1.out g; have hs2 := hb2.size; have gw21 := CELS.out w2 hb2 (i) x1 hx1; have gw22 := CELS.out w2 hb2 (i + 1) x2 hx2; have gw23 := CELS.out w2 hb2 (i + 1 + 1) x3 hx3; have U2 := Lib.hid (OwnTx.snoc o); have V2 := Lib.hid hV2; have AP2 := Lib.hid ap2; have B2 := Lib.hid hb2; clear U1 V1 AP1 hV2 ap2 hb2; clear o g n) | (at_builtin; refine wpList_append_tag rfl _ _ 22 rfl w.heap.size 9 i0 (.string ⟨#[]⟩) 1 16 Tryz.underlying22 hi hz0 hz1 hz2 rfl (by decide) _ _ _ rfl (V2.out.alloc _) ⟨w2.heap.size, 0, none⟩ 1 1 [.string ⟨x2.toArray⟩] rfl rfl (cell_one_new _ _ _) (by simp [Value.oneCell']) (by simp only [maxLen]; omega) (by omega) (by simp; omega) ?_; intro v2 w3 o g n; obtain ⟨hV3, ap3⟩ := apart_grown U2.out AP2.out.symm (by simp) (fun k hk => heap_alloc_old _ _ hk) g n; have hb3 := own_below B2.out V2.out g; have hs3 := hb3.size; have gw31 := CELS.out w3 hb3 (i) x1 hx1; have gw32 := CELS.out w3 hb3 (i + 1) x2 hx2; have gw33 := CELS.out w3 hb3 (i + 1 + 1) x3 hx3; have V3 := Lib.hid (OwnTx.snoc o); have U3 := Lib.hid hV3; have AP3 := Lib.hid ap3.symm; have B3 := Lib.hid hb3; clear U2 V2 AP2 hV3 ap3 hb3; clear o g n))
                    go_ret3
                    exact CondR.none HZ.out B3.out
                  | cons x4 r4 =>
                    obtain ⟨hx4, hd4, hi4⟩ := drop_head hd3
                    cases r4 with
                    | nil =>
                      have hlen := drop_nil hd4
                      have a1 : (i : Int) + 1 < (l.length : Int) := by omega
                      have b1 : ¬ (l.length : Int) ≤ (i : Int) + 1 := by omega
                      have c1 : ((i : Int) + 1 == (l.length : Int)) = false := by simp; omega
                      have a2 : (i : Int) + 1 + 1 < (l.length : Int) := by omega
                      have b2 : ¬ (l.length : Int) ≤ (i : Int) + 1 + 1 := by omega
                      have c2 : ((i : Int) + 1 + 1 == (l.length : Int)) = false := by simp; omega
                      have a3 : (i : Int) + 1 + 1 + 1 < (l.length : Int) := by omega
                      have b3 : ¬ (l.length : Int) ≤ (i : Int) + 1 + 1 + 1 := by omega
                      have c3 : ((i : Int) + 1 + 1 + 1 == (l.length : Int)) = false := by simp; omega
                      have a4 : (i : Int) + 1 + 1 + 1 + 1 < (l.length : Int) := by omega
                      have b4 : ¬ (l.length : Int) ≤ (i : Int) + 1 + 1 + 1 + 1 := by omega
                      have c4 : ((i : Int) + 1 + 1 + 1 + 1 == (l.length : Int)) = false := by simp; omega
                      have a5 : ¬ (i : Int) + 1 + 1 + 1 + 1 + 1 < (l.length : Int) := by omega
                      have b5 : (l.length : Int) ≤ (i : Int) + 1 + 1 + 1 + 1 + 1 := by omega
                      have c5 : ((i : Int) + 1 + 1 + 1 + 1 + 1 == (l.length : Int)) = true := by simp; omega
                      have e1 : ((i : Int) + 1 == (l.length : Int) - 1) = false := by simp; omega
                      have e2 : ((i : Int) + 1 + 1 == (l.length : Int) - 1) = false := by simp; omega
                      have e3 : ((i : Int) + 1 + 1 + 1 == (l.length : Int) - 1) = false := by simp; omega
                      have e4 : ((i : Int) + 1 + 1 + 1 + 1 == (l.length : Int) - 1) = true := by simp; omega
                      have e5 : ((i : Int) + 1 + 1 + 1 + 1 + 1 == (l.length : Int) - 1) = false := by simp; omega
                      have hb3l : (bs ++ [x2]).length ≤ 1001 := by simp; omega
                      have HZ := Lib.hid (show cnd l = some (cs ++ [x0], bs ++ [x2] ++ [x4]) by rw [HEQ.out, hd, cnd_body (by rw [hqt]; exact dropIf_hit _ _)]; simp only; rw [if_neg hqei, hqel, dropIf_hit]; simp)
                      clear hd hd0 hi0 hd1 hi1 hd2 hi2 hd3 hi3 hd4 hi4 hlen
                      go_wp2_with (first | (at_builtin; refine wpList_append_tag rfl _ _ 22 rfl w.heap.size 9 i0 (.string ⟨#[]⟩) 1 16 Tryz.underlying22 hi hz0 hz1 hz2 rfl (by decide) _ _ _ rfl (U1.out.alloc _) ⟨wr.heap.size, 0, none⟩ 1 1 [.string ⟨x0.toArray⟩] rfl rfl (cell_one_new _ _ _) (by simp [Value.oneCell']) (by simp only [maxLen]; omega) (by omega) (by simp; omega) ?_; intro v1 w2 o g n; obtain ⟨hV2, ap2⟩ := apart_grown V1.out AP1.out (by simp) (fun k hk => heap_alloc_old _ _ hk) g n; have hb2 := own_below B1.out U1.out g; have hs2 := hb2.size; have gw21 := CELS.out w2 hb2 (i) x1 hx1; have gw22 := CELS.out w2 hb2 (i + 1) x2 hx2; have gw23 := CELS.out w2 hb2 (i + 1 + 1) x3 hx3; have gw24 := CELS.out w2 hb2 (i + 1 + 1 + 1) x4 hx4; have U2 := Lib.hid (OwnTx.snoc o); have V2 := Lib.hid hV2; have AP2 := Lib.hid ap2; have B2 := Lib.hid hb2; clear U1 V1 AP1 hV2 ap2 hb2; clear o g n) | (at_builtin; refine wpList_append_tag rfl _ _ 22 rfl w.heap.size 9 i0 (.string ⟨#[]⟩) 1 16 Tryz.underlying22 hi hz0 hz1 hz2 rfl (by decide) _ _ _ rfl (V2.out.alloc _) ⟨w2.heap.size, 0, none⟩ 1 1 [.string ⟨x2.toArray⟩] rfl rfl (cell_one_new _ _ _) (by simp [Value.oneCell']) (by simp only [maxLen]; omega) (by omega) (by simp; omega) ?_; intro v2 w3 o g n; obtain ⟨hV3, ap3⟩ := apart_grown U2.out AP2.out.symm (by simp) (fun k hk => heap_alloc_old _ _ hk) g n; have hb3 := own_below B2.out V2.out g; have hs3 := hb3.size; have gw31 := CELS.out w3 hb3 (i) x1 hx1; have gw32 := CELS.out w3 hb3 (i + 1) x2 hx2; have gw33 := CELS.out w3 hb3 (i + 1 + 1) x3 hx3; have gw34 := CELS.out w3 hb3 (i + 1 + 1 + 1) x4 hx4; have V3 := Lib.hid (OwnTx.snoc o); have U3 := Lib.hid hV3; have AP3 := Lib.hid ap3.symm; have B3 := Lib.hid hb3; clear U2 V2 AP2 hV3 ap3 hb3; clear o g n) | (at_builtin; refine wpList_append_tag rfl _ _ 22 rfl w.heap.size 9 i0 (.string ⟨#[]⟩) 1 16 Tryz.underlying22 hi hz0 hz1 hz2 rfl (by decide) _ _ _ rfl (V3.out.alloc _) ⟨w3.heap.size, 0, none⟩ 1 1 [.string ⟨x4.toArray⟩] rfl rfl (cell_one_new _ _ _) (by simp [Value.oneCell']) (by simp only [maxLen]; omega) (by omega) (by simp; omega) ?_; intro v3 w4 o g n; obtain ⟨hV4, ap4⟩ := apart_grown U3.out AP3.out.symm (by simp) (fun k hk => heap_alloc_old _ _ hk) g n; have hb4 := own_below B3.out V3.out g; have V4 := Lib.hid (OwnTx.snoc o); have U4 := Lib.hid hV4; have B4 := Lib.hid hb4; clear U3 V3 AP3 hV4 ap4 hb4; clear o g n))
                      go_ret3
                      exact CondR.some HZ.out U4.out (by simpa using V4.out) B4.out
                    | cons x5 r5 =>
                      obtain ⟨hx5, hd5, hi5⟩ := drop_head hd4
                      have hlen := hi5
                      have a1 : (i : Int) + 1 < (l.length : Int) := by omega
                      have b1 : ¬ (l.length : Int) ≤ (i : Int) + 1 := by omega
                      have c1 : ((i : Int) + 1 == (l.length : Int)) = false := by simp; omega
                      have a2 : (i : Int) + 1 + 1 < (l.length : Int) := by omega
                      have b2 : ¬ (l.length : Int) ≤ (i : Int) + 1 + 1 := by omega
                      have c2 : ((i : Int) + 1 + 1 == (l.length : Int)) = false := by simp; omega
                      have a3 : (i : Int) + 1 + 1 + 1 < (l.length : Int) := by omega
                      have b3 : ¬ (l.length : Int) ≤ (i : Int) + 1 + 1 + 1 := by omega
                      have c3 : ((i : Int) + 1 + 1 + 1 == (l.length : Int)) = false := by simp; omega
                      have a4 : (i : Int) + 1 + 1 + 1 + 1 < (l.length : Int) := by omega
                      have b4 : ¬ (l.length : Int) ≤ (i : Int) + 1 + 1 + 1 + 1 := by omega
                      have c4 : ((i : Int) + 1 + 1 + 1 + 1 == (l.length : Int)) = false := by simp; omega
                      have a5 : (i : Int) + 1 + 1 + 1 + 1 + 1 < (l.length : Int) := by omega
                      have b5 : ¬ (l.length : Int) ≤ (i : Int) + 1 + 1 + 1 + 1 + 1 := by omega
                      have c5 : ((i : Int) + 1 + 1 + 1 + 1 + 1 == (l.length : Int)) = false := by simp; omega
                      have e1 : ((i : Int) + 1 == (l.length : Int) - 1) = false := by simp; omega
                      have e2 : ((i : Int) + 1 + 1 == (l.length : Int) - 1) = false := by simp; omega
                      have e3 : ((i : Int) + 1 + 1 + 1 == (l.length : Int) - 1) = false := by simp; omega
                      have e4 : ((i : Int) + 1 + 1 + 1 + 1 == (l.length : Int) - 1) = false := by simp; omega
                      have HZ := Lib.hid (show cnd l = none by rw [HEQ.out, hd, cnd_body (by rw [hqt]; exact dropIf_hit _ _)]; simp only; rw [if_neg hqei, hqel, dropIf_hit]; rfl)
                      clear hd hd0 hi0 hd1 hi1 hd2 hi2 hd3 hi3 hd4 hi4 hd5 hi5 hlen
                      go_wp2_with (first | (at_builtin; refine wpList_append_tag rfl _ _ 22 rfl w.heap.size 9 i0 (.string ⟨#[]⟩) 1 16 Tryz.underlying22 hi hz0 hz1 hz2 rfl (by decide) _ _ _ rfl (U1.out.alloc _) ⟨wr.heap.size, 0, none⟩ 1 1 [.string ⟨x0.toArray⟩] rfl rfl (cell_one_new _ _ _) (by simp [Value.oneCell']) (by simp only [maxLen]; omega) (by omega) (by simp; omega) ?_; intro v1 w2 o g n; obtain ⟨hV2, ap2⟩ := apart_grown V1.out AP1.out (by simp) (fun k hk => heap_alloc_old _ _ hk) g n; have hb2 := own_below B1.out U1.out g; have hs2 := hb2.size; have gw21 := CELS.out w2 hb2 (i) x1 hx1; have gw22 := CELS.out w2 hb2 (i + 1) x2 hx2; have gw23 := CELS.out w2 hb2 (i + 1 + 1) x3 hx3; have gw24 := CELS.out w2 hb2 (i + 1 + 1 + 1) x4 hx4; have gw25 := CELS.out w2 hb2 (i + 1 + 1 + 1 + 1) x5 hx5; have U2 := Lib.hid (OwnTx.snoc o); have V2 := Lib.hid hV2; have AP2 := Lib.hid ap2; have B2 := Lib.hid hb2; clear U1 V1 AP1 hV2 ap2 hb2; clear o g n) | (at_builtin; refine wpList_append_tag rfl _ _ 22 rfl w.heap.size 9 i0 (.string ⟨#[]⟩) 1 16 Tryz.underlying22 hi hz0 hz1 hz2 rfl (by decide) _ _ _ rfl (V2.out.alloc _) ⟨w2.heap.size, 0, none⟩ 1 1 [.string ⟨x2.toArray⟩] rfl rfl (cell_one_new _ _ _) (by simp [Value.oneCell']) (by simp only [maxLen]; omega) (by omega) (by simp; omega) ?_; intro v2 w3 o g n; obtain ⟨hV3, ap3⟩ := apart_grown U2.out AP2.out.symm (by simp) (fun k hk => heap_alloc_old _ _ hk) g n; have hb3 := own_below B2.out V2.out g; have hs3 := hb3.size; have gw31 := CELS.out w3 hb3 (i) x1 hx1; have gw32 := CELS.out w3 hb3 (i + 1) x2 hx2; have gw33 := CELS.out w3 hb3 (i + 1 + 1) x3 hx3; have gw34 := CELS.out w3 hb3 (i + 1 + 1 + 1) x4 hx4; have gw35 := CELS.out w3 hb3 (i + 1 + 1 + 1 + 1) x5 hx5; have V3 := Lib.hid (OwnTx.snoc o); have U3 := Lib.hid hV3; have AP3 := Lib.hid ap3.symm; have B3 := Lib.hid hb3; clear U2 V2 AP2 hV3 ap3 hb3; clear o g n))
                      go_ret3
                      exact CondR.none HZ.out B3.out
                · have qel : (x3 == [101, 108, 115, 101]) = false := by simp; exact hqel
                  cases r3 with
                  | nil =>
                    have hlen := drop_nil hd3
                    have a1 : (i : Int) + 1 < (l.length : Int) := by omega
                    have b1 : ¬ (l.length : Int) ≤ (i : Int) + 1 := by omega
                    have c1 : ((i : Int) + 1 == (l.length : Int)) = false := by simp; omega
                    have a2 : (i : Int) + 1 + 1 < (l.length : Int) := by omega
                    have b2 : ¬ (l.length : Int) ≤ (i : Int) + 1 + 1 := by omega
                    have c2 : ((i : Int) + 1 + 1 == (l.length : Int)) = false := by simp; omega
                    have a3 : (i : Int) + 1 + 1 + 1 < (l.length : Int) := by omega
                    have b3 : ¬ (l.length : Int) ≤ (i : Int) + 1 + 1 + 1 := by omega
                    have c3 : ((i : Int) + 1 + 1 + 1 == (l.length : Int)) = false := by simp; omega
                    have a4 : ¬ (i : Int) + 1 + 1 + 1 + 1 < (l.length : Int) := by omega
                    have b4 : (l.length : Int) ≤ (i : Int) + 1 + 1 + 1 + 1 := by omega
                    have c4 : ((i : Int) + 1 + 1 + 1 + 1 == (l.length : Int)) = true := by simp; omega
                    have e1 : ((i : Int) + 1 == (l.length : Int) - 1) = false := by simp; omega
                    have e2 : ((i : Int) + 1 + 1 == (l.length : Int) - 1) = false := by simp; omega
                    have e3 : ((i : Int) + 1 + 1 + 1 == (l.length : Int) - 1) = true := by simp; omega
                    have e4 : ((i : Int) + 1 + 1 + 1 + 1 == (l.length : Int) - 1) = false := by simp; omega
                    have hb3l : (bs ++ [x2]).length ≤ 1001 := by simp; omega
                    have HZ := Lib.hid (show cnd l = some (cs ++ [x0], bs ++ [x2] ++ [x3]) by rw [HEQ.out, hd, cnd_body (by rw [hqt]; exact dropIf_hit _ _)]; simp only; rw [if_neg hqei, dropIf_miss _ hqel]; simp)
                    clear hd hd0 hi0 hd1 hi1 hd2 hi2 hd3 hi3 hlen
                    go_wp2_with (first | (at_builtin; refine wpList_append_tag rfl _ _ 22 rfl w.heap.size 9 i0 (.string ⟨#[]⟩) 1 16 Tryz.underlying22 hi hz0 hz1 hz2 rfl (by decide) _ _ _ rfl (U1.out.alloc _) ⟨wr.heap.size, 0, none⟩ 1 1 [.string ⟨x0.toArray⟩] rfl rfl (cell_one_new _ _ _) (by simp [Value.oneCell']) (by simp only [maxLen]; omega) (by omega) (by simp; omega) ?_; intro v1 w2 o g n; obtain ⟨hV2, ap2⟩ := apart_grown V1.out AP1.out (by simp) (fun k hk => heap_alloc_old _ _ hk) g n; have hb2 := own_below B1.out U1.out g; have hs2 := hb2.size; have gw21 := CELS.out w2 hb2 (i) x1 hx1; have gw22 := CELS.out w2 hb2 (i + 1) x2 hx2; have gw23 := CELS.out w2 hb2 (i + 1 + 1) x3 hx3; have U2 := Lib.hid (OwnTx.snoc o); have V2 := Lib.hid hV2; have AP2 := Lib.hid ap2; have B2 := Lib.hid hb2; clear U1 V1 AP1 hV2 ap2 hb2; clear o g n) | (at_builtin; refine wpList_append_tag rfl _ _ 22 rfl w.heap.size 9 i0 (.string ⟨#[]⟩) 1 16 Tryz.underlying22 hi hz0 hz1 hz2 rfl (by decide) _ _ _ rfl (V2.out.alloc _) ⟨w2.heap.size, 0, none⟩ 1 1 [.string ⟨x2.toArray⟩] rfl rfl (cell_one_new _ _ _) (by simp [Value.oneCell']) (by simp only [maxLen]; omega) (by omega) (by simp; omega) ?_; intro v2 w3 o g n; obtain ⟨hV3, ap3⟩ := apart_grown U2.out AP2.out.symm (by simp) (fun k hk => heap_alloc_old _ _ hk) g n; have hb3 := own_below B2.out V2.out g; have hs3 := hb3.size; have gw31 := CELS.out w3 hb3 (i) x1 hx1; have gw32 := CELS.out w3 hb3 (i + 1) x2 hx2; have gw33 := CELS.out w3 hb3 (i + 1 + 1) x3 hx3; have V3 := Lib.hid (OwnTx.snoc o); have U3 := Lib.hid hV3; have AP3 := Lib.hid ap3.symm; have B3 := Lib.hid hb3; clear U2 V2 AP2 hV3 ap3 hb3; clear o g n) | (at_builtin; refine wpList_append_tag rfl _ _ 22 rfl w.heap.size 9 i0 (.string ⟨#[]⟩) 1 16 Tryz.underlying22 hi hz0 hz1 hz2 rfl (by decide) _ _ _ rfl (V3.out.alloc _) ⟨w3.heap.size, 0, none⟩ 1 1 [.string ⟨x3.toArray⟩] rfl rfl (cell_one_new _ _ _) (by simp [Value.oneCell']) (by simp only [maxLen]; omega) (by omega) (by simp; omega) ?_; intro v3 w4 o g n; obtain ⟨hV4, ap4⟩ := apart_grown U3.out AP3.out.symm (by simp) (fun k hk => heap_alloc_old _ _ hk) g n; have hb4 := own_below B3.out V3.out g; have V4 := Lib.hid (OwnTx.snoc o); have U4 := Lib.hid hV4; have B4 := Lib.hid hb4; clear U3 V3 AP3 hV4 ap4 hb4; clear o g n))
                    go_ret3
                    exact CondR.some HZ.out U4.out (by simpa using V4.out) B4.out
                  | cons x4 r4 =>
                    obtain ⟨hx4, hd4, hi4⟩ := drop_head hd3
                    have hlen := hi4
                    have a1 : (i : Int) + 1 < (l.length : Int) := by omega
                    have b1 : ¬ (l.length : Int) ≤ (i : Int) + 1 := by omega
                    have c1 : ((i : Int) + 1 == (l.length : Int)) = false := by simp; omega
                    have a2 : (i : Int) + 1 + 1 < (l.length : Int) := by omega
                    have b2 : ¬ (l.length : Int) ≤ (i : Int) + 1 + 1 := by omega
                    have c2 : ((i : Int) + 1 + 1 == (l.length : Int)) = false := by simp; omega
                    have a3 : (i : Int) + 1 + 1 + 1 < (l.length : Int) := by omega
                    have b3 : ¬ (l.length : Int) ≤ (i : Int) + 1 + 1 + 1 := by omega
                    have c3 : ((i : Int) + 1 + 1 + 1 == (l.length : Int)) = false := by simp; omega
                    have a4 : (i : Int) + 1 + 1 + 1 + 1 < (l.length : Int) := by omega
                    have b4 : ¬ (l.length : Int) ≤ (i : Int) + 1 + 1 + 1 + 1 := by omega
                    have c4 : ((i : Int) + 1 + 1 + 1 + 1 == (l.length : Int)) = false := by simp; omega
                    have e1 : ((i : Int) + 1 == (l.length : Int) - 1) = false := by simp; omega
                    have e2 : ((i : Int) + 1 + 1 == (l.length : Int) - 1) = false := by simp; omega
                    have e3 : ((i : Int) + 1 + 1 + 1 == (l.length : Int) - 1) = false := by simp; omega
                    have HZ := Lib.hid (show cnd l = none by rw [HEQ.out, hd, cnd_body (by rw [hqt]; exact dropIf_hit _ _)]; simp only; rw [if_neg hqei, dropIf_miss _ hqel]; rfl)
                    clear hd hd0 hi0 hd1 hi1 hd2 hi2 hd3 hi3 hd4 hi4 hlen
                    go_wp2_with (first | (at_builtin; refine wpList_append_tag rfl _ _ 22 rfl w.heap.size 9 i0 (.string ⟨#[]⟩) 1 16 Tryz.underlying22 hi hz0 hz1 hz2 rfl (by decide) _ _ _ rfl (U1.out.alloc _) ⟨wr.heap.size, 0, none⟩ 1 1 [.string ⟨x0.toArray⟩] rfl rfl (cell_one_new _ _ _) (by simp [Value.oneCell']) (by simp only [maxLen]; omega) (by omega) (by simp; omega) ?_; intro v1 w2 o g n; obtain ⟨hV2, ap2⟩ := apart_grown V1.out AP1.out (by simp) (fun k hk => heap_alloc_old _ _ hk) g n; have hb2 := own_below B1.out U1.out g; have hs2 := hb2.size; have gw21 := CELS.out w2 hb2 (i) x1 hx1; have gw22 := CELS.out w2 hb2 (i + 1) x2 hx2; have gw23 := CELS.out w2 hb2 (i + 1 + 1) x3 hx3; have gw24 := CELS.out w2 hb2 (i + 1 + 1 + 1) x4 hx4; have U2 := Lib.hid (OwnTx.snoc o); have V2 := Lib.hid hV2; have AP2 := Lib.hid ap2; have B2 := Lib.hid hb2; clear U1 V1 AP1 hV2 ap2 hb2; clear o g n) | (at_builtin; refine wpList_append_tag rfl _ _ 22 rfl w.heap.size 9 i0 (.string ⟨#[]⟩) 1 16 Tryz.underlying22 hi hz0 hz1 hz2 rfl (by decide) _ _ _ rfl (V2.out.alloc _) ⟨w2.heap.size, 0, none⟩ 1 1 [.string ⟨x2.toArray⟩] rfl rfl (cell_one_new _ _ _) (by simp [Value.oneCell']) (by simp only [maxLen]; omega) (by omega) (by simp; omega) ?_; intro v2 w3 o g n; obtain ⟨hV3, ap3⟩ := apart_grown U2.out AP2.out.symm (by simp) (fun k hk => heap_alloc_old _ _ hk) g n; have hb3 := own_below B2.out V2.out g; have hs3 := hb3.size; have gw31 := CELS.out w3 hb3 (i) x1 hx1; have gw32 := CELS.out w3 hb3 (i + 1) x2 hx2; have gw33 := CELS.out w3 hb3 (i + 1 + 1) x3 hx3; have gw34 := CELS.out w3 hb3 (i + 1 + 1 + 1) x4 hx4; have V3 := Lib.hid (OwnTx.snoc o); have U3 := Lib.hid hV3; have AP3 := Lib.hid ap3.symm; have B3 := Lib.hid hb3; clear U2 V2 AP2 hV3 ap3 hb3; clear o g n))
                    go_ret3
                    exact CondR.none HZ.out B3.out
        · have qt : (x1 == [116, 104, 101, 110]) = false := by simp; exact hqt
          cases r1 with
          | nil =>
            have hlen := drop_nil hd1
            have a1 : (i : Int) + 1 < (l.length : Int) := by omega
            have b1 : ¬ (l.length : Int) ≤ (i : Int) + 1 := by omega
            have c1 : ((i : Int) + 1 == (l.length : Int)) = false := by simp; omega
            have a2 : ¬ (i : Int) + 1 + 1 < (l.length : Int) := by omega
            have b2 : (l.length : Int) ≤ (i : Int) + 1 + 1 := by omega
            have c2 : ((i : Int) + 1 + 1 == (l.length : Int)) = true := by simp; omega
            have e1 : ((i : Int) + 1 == (l.length : Int) - 1) = true := by simp; omega
            have e2 : ((i : Int) + 1 + 1 == (l.length : Int) - 1) = false := by simp; omega
            have HZ := Lib.hid (show cnd l = some (cs ++ [x0], bs ++ [x1]) by rw [HEQ.out, hd, cnd_body (dropIf_miss _ hqt)]; rfl)
            clear hd hd0 hi0 hd1 hi1 hlen
            go_wp2_with (first | (at_builtin; refine wpList_append_tag rfl _ _ 22 rfl w.heap.size 9 i0 (.string ⟨#[]⟩) 1 16 Tryz.underlying22 hi hz0 hz1 hz2 rfl (by decide) _ _ _ rfl (U1.out.alloc _) ⟨wr.heap.size, 0, none⟩ 1 1 [.string ⟨x0.toArray⟩] rfl rfl (cell_one_new _ _ _) (by simp [Value.oneCell']) (by simp only [maxLen]; omega) (by omega) (by simp; omega) ?_; intro v1 w2 o g n; obtain ⟨hV2, ap2⟩ := apart_grown V1.out AP1.out (by simp) (fun k hk => heap_alloc_old _ _ hk) g n; have hb2 := own_below B1.out U1.out g; have hs2 := hb2.size; have gw21 := CELS.out w2 hb2 (i) x1 hx1; have U2 := Lib.hid (OwnTx.snoc o); have V2 := Lib.hid hV2; have AP2 := Lib.hid ap2; have B2 := Lib.hid hb2; clear U1 V1 AP1 hV2 ap2 hb2; clear o g n) | (at_builtin; refine wpList_append_tag rfl _ _ 22 rfl w.heap.size 9 i0 (.string ⟨#[]⟩) 1 16 Tryz.underlying22 hi hz0 hz1 hz2 rfl (by decide) _ _ _ rfl (V2.out.alloc _) ⟨w2.heap.size, 0, none⟩ 1 1 [.string ⟨x1.toArray⟩] rfl rfl (cell_one_new _ _ _) (by simp [Value.oneCell']) (by simp only [maxLen]; omega) (by omega) (by simp; omega) ?_; intro v2 w3 o g n; obtain ⟨hV3, ap3⟩ := apart_grown U2.out AP2.out.symm (by simp) (fun k hk => heap_alloc_old _ _ hk) g n; have hb3 := own_below B2.out V2.out g; have hs3 := hb3.size; have gw31 := CELS.out w3 hb3 (i) x1 hx1; have V3 := Lib.hid (OwnTx.snoc o); have U3 := Lib.hid hV3; have AP3 := Lib.hid ap3.symm; have B3 := Lib.hid hb3; clear U2 V2 AP2 hV3 ap3 hb3; clear o g n))
            go_ret3
            exact CondR.some HZ.out U3.out (by simpa using V3.out) B3.out
          | cons x2 r2 =>
            obtain ⟨hx2, hd2, hi2⟩ := drop_head hd1
            by_cases hqei : x2 = wElseif
            · have qei : (x2 == [101, 108, 115, 101, 105, 102]) = true := by rw [hqei]; rfl
              have hlen := hi2
              have a1 : (i : Int) + 1 < (l.length : Int) := by omega
              have b1 : ¬ (l.length : Int) ≤ (i : Int) + 1 := by omega
              have c1 : ((i : Int) + 1 == (l.length : Int)) = false := by simp; omega
              have a2 : (i : Int) + 1 + 1 < (l.length : Int) := by omega
              have b2 : ¬ (l.length : Int) ≤ (i : Int) + 1 + 1 := by omega
              have c2 : ((i : Int) + 1 + 1 == (l.length : Int)) = false := by simp; omega
              have e1 : ((i : Int) + 1 == (l.length : Int) - 1) = false := by simp; omega
              have HZ := Lib.hid (show cnd l = (cnd (l.drop (i + 1 + 1 + 1))).map (fun p => (cs ++ [x0] ++ p.1, bs ++ [x1] ++ p.2)) by rw [HEQ.out, hd, cnd_body (dropIf_miss _ hqt)]; simp only; rw [if_pos hqei, hd2, Option.map_map]; congr 1; funext q; simp)
              clear hd hd0 hi0 hd1 hi1 hd2 hi2 hlen
              go_wp2_with (first | (at_builtin; refine wpList_append_tag rfl _ _ 22 rfl w.heap.size 9 i0 (.string ⟨#[]⟩) 1 16 Tryz.underlying22 hi hz0 hz1 hz2 rfl (by decide) _ _ _ rfl (U1.out.alloc _) ⟨wr.heap.size, 0, none⟩ 1 1 [.string ⟨x0.toArray⟩] rfl rfl (cell_one_new _ _ _) (by simp [Value.oneCell']) (by simp only [maxLen]; omega) (by omega) (by simp; omega) ?_; intro v1 w2 o g n; obtain ⟨hV2, ap2⟩ := apart_grown V1.out AP1.out (by simp) (fun k hk => heap_alloc_old _ _ hk) g n; have hb2 := own_below B1.out U1.out g; have hs2 := hb2.size; have gw21 := CELS.out w2 hb2 (i) x1 hx1; have gw22 := CELS.out w2 hb2 (i + 1) x2 hx2; have U2 := Lib.hid (OwnTx.snoc o); have V2 := Lib.hid hV2; have AP2 := Lib.hid ap2; have B2 := Lib.hid hb2; clear U1 V1 AP1 hV2 ap2 hb2; clear o g n) | (at_builtin; refine wpList_append_tag rfl _ _ 22 rfl w.heap.size 9 i0 (.string ⟨#[]⟩) 1 16 Tryz.underlying22 hi hz0 hz1 hz2 rfl (by decide) _ _ _ rfl (V2.out.alloc _) ⟨w2.heap.size, 0, none⟩ 1 1 [.string ⟨x1.toArray⟩] rfl rfl (cell_one_new _ _ _) (by simp [Value.oneCell']) (by simp only [maxLen]; omega) (by omega) (by simp; omega) ?_; intro v2 w3 o g n; obtain ⟨hV3, ap3⟩ := apart_grown U2.out AP2.out.symm (by simp) (fun k hk => heap_alloc_old _ _ hk) g n; have hb3 := own_below B2.out V2.out g; have hs3 := hb3.size; have gw31 := CELS.out w3 hb3 (i) x1 hx1; have gw32 := CELS.out w3 hb3 (i + 1) x2 hx2; have V3 := Lib.hid (OwnTx.snoc o); have U3 := Lib.hid hV3; have AP3 := Lib.hid ap3.symm; have B3 := Lib.hid hb3; clear U2 V2 AP2 hV3 ap3 hb3; clear o g n))
              go_roundg (l.length + 1 - (i + 1 + 1 + 1))
              case measure => rw [HK.out]; omega
              case rel => exact ⟨i + 1 + 1 + 1, cs ++ [x0], bs ++ [x1], by go_num, rfl, by omega, by simp; omega, by simp; omega, HZ.out, U3.out, V3.out, AP3.out, B3.out⟩
            · have qei : (x2 == [101, 108, 115, 101, 105, 102]) = false := by simp; exact hqei
              by_cases hqel : x2 = wElse
              · have qel : (x2 == [101, 108, 115, 101]) = true := by rw [hqel]; rfl
                cases r2 with
                | nil =>
                  have hlen := drop_nil hd2
                  have a1 : (i : Int) + 1 < (l.length : Int) := by omega
                  have b1 : ¬ (l.length : Int) ≤ (i : Int) + 1 := by omega
                  have c1 : ((i : Int) + 1 == (l.length : Int)) = false := by simp; omega
                  have a2 : (i : Int) + 1 + 1 < (l.length : Int) := by omega
                  have b2 : ¬ (l.length : Int) ≤ (i : Int) + 1 + 1 := by omega
                  have c2 : ((i : Int) + 1 + 1 == (l.length : Int)) = false := by simp; omega
                  have a3 : ¬ (i : Int) + 1 + 1 + 1 < (l.length : Int) := by omega
                  have b3 : (l.length : Int) ≤ (i : Int) + 1 + 1 + 1 := by omega
                  have c3 : ((i : Int) + 1 + 1 + 1 == (l.length : Int)) = true := by simp; omega
                  have e1 : ((i : Int) + 1 == (l.length : Int) - 1) = false := by simp; omega
                  have e2 : ((i : Int) + 1 + 1 == (l.length : Int) - 1) = true := by simp; omega
                  have e3 : ((i : Int) + 1 + 1 + 1 == (l.length : Int) - 1) = false := by simp; omega
                  have HZ := Lib.hid (show cnd l = none by rw [HEQ.out, hd, cnd_body (dropIf_miss _ hqt)]; simp only; rw [if_neg hqei, hqel, dropIf_hit]; rfl)
                  clear hd hd0 hi0 hd1 hi1 hd2 hi2 hlen
                  go_wp2_with (first | (at_builtin; refine wpList_append_tag rfl _ _ 22 rfl w.heap.size 9 i0 (.string ⟨#[]⟩) 1 16 Tryz.underlying22 hi hz0 hz1 hz2 rfl (by decide) _ _ _ rfl (U1.out.alloc _) ⟨wr.heap.size, 0, none⟩ 1 1 [.string ⟨x0.toArray⟩] rfl rfl (cell_one_new _ _ _) (by simp [Value.oneCell']) (by simp only [maxLen]; omega) (by omega) (by simp; omega) ?_; intro v1 w2 o g n; obtain ⟨hV2, ap2⟩ := apart_grown V1.out AP1.out (by simp) (fun k hk => heap_alloc_old _ _ hk) g n; have hb2 := own_below B1.out U1.out g; have hs2 := hb2.size; have gw21 := CELS.out w2 hb2 (i) x1 hx1; have gw22 := CELS.out w2 hb2 (i + 1) x2 hx2; have U2 := Lib.hid (OwnTx.snoc o); have V2 := Lib.hid hV2; have AP2 := Lib.hid ap2; have B2 := Lib.hid hb2; clear U1 V1 AP1 hV2 ap2 hb2; clear o g n) | (at_builtin; refine wpList_append_tag rfl _ _ 22 rfl w.heap.size 9 i0 (.string ⟨#[]⟩) 1 16 Tryz.underlying22 hi hz0 hz1 hz2 rfl (by decide) _ _ _ rfl (V2.out.alloc _) ⟨w2.heap.size, 0, none⟩ 1 1 [.string ⟨x1.toArray⟩] rfl rfl (cell_one_new _ _ _) (by simp [Value.oneCell']) (by simp only [maxLen]; omega) (by omega) (by simp; omega) ?_; intro v2 w3 o g n; obtain ⟨hV3, ap3⟩ := apart_grown U2.out AP2.out.symm (by simp) (fun k hk => heap_alloc_old _ _ hk) g n; have hb3 := own_below B2.out V2.out g; have hs3 := hb3.size; have gw31 := CELS.out w3 hb3 (i) x1 hx1; have gw32 := CELS.out w3 hb3 (i + 1) x2 hx2; have V3 := Lib.hid (OwnTx.snoc o); have U3 := Lib.hid hV3; have AP3 := Lib.hid ap3.symm; have B3 := Lib.hid hb3; clear U2 V2 AP2 hV3 ap3 hb3; clear o g n))
                  go_ret3
                  exact CondR.none HZ.out B3.out
                | cons x3 r3 =>
                  obtain ⟨hx3, hd3, hi3⟩ := drop_head hd2
                  cases r3 with
                  | nil =>
                    have hlen := drop_nil hd3
                    have a1 : (i : Int) + 1 < (l.length : Int) := by omega
                    have b1 : ¬ (l.length : Int) ≤ (i : Int) + 1 := by omega
                    have c1 : ((i : Int) + 1 == (l.length : Int)) = false := by simp; omega
                    have a2 : (i : Int) + 1 + 1 < (l.length : Int) := by omega
                    have b2 : ¬ (l.length : Int) ≤ (i : Int) + 1 + 1 := by omega
                    have c2 : ((i : Int) + 1 + 1 == (l.length : Int)) = false := by simp; omega
                    have a3 : (i : Int) + 1 + 1 + 1 < (l.length : Int) := by omega
                    have b3 : ¬ (l.length : Int) ≤ (i : Int) + 1 + 1 + 1 := by omega
                    have c3 : ((i : Int) + 1 + 1 + 1 == (l.length : Int)) = false := by simp; omega
                    have a4 : ¬ (i : Int) + 1 + 1 + 1 + 1 < (l.length : Int) := by omega
                    have b4 : (l.length : Int) ≤ (i : Int) + 1 + 1 + 1 + 1 := by omega
                    have c4 : ((i : Int) + 1 + 1 + 1 + 1 == (l.length : Int)) = true := by simp; omega
                    have e1 : ((i : Int) + 1 == (l.length : Int) - 1) = false := by simp; omega
                    have e2 : ((i : Int) + 1 + 1 == (l.length : Int) - 1) = false := by simp; omega
                    have e3 : ((i : Int) + 1 + 1 + 1 == (l.length : Int) - 1) = true := by simp; omega
                    have e4 : ((i : Int) + 1 + 1 + 1 + 1 == (l.length : Int) - 1) = false := by simp; omega
                    have hb3l : (bs ++ [x1]).length ≤ 1001 := by simp; omega
                    have HZ := Lib.hid (show cnd l = some (cs ++ [x0], bs ++ [x1] ++ [x3]) by rw [HEQ.out, hd, cnd_body (dropIf_miss _ hqt)]; simp only; rw [if_neg hqei, hqel, dropIf_hit]; simp)
                    clear hd hd0 hi0 hd1 hi1 hd2 hi2 hd3 hi3 hlen
                    go_wp2_with (first | (at_builtin; refine wpList_append_tag rfl _ _ 22 rfl w.heap.size 9 i0 (.string ⟨#[]⟩) 1 16 Tryz.underlying22 hi hz0 hz1 hz2 rfl (by decide) _ _ _ rfl (U1.out.alloc _) ⟨wr.heap.size, 0, none⟩ 1 1 [.string ⟨x0.toArray⟩] rfl rfl (cell_one_new _ _ _) (by simp [Value.oneCell']) (by simp only [maxLen]; omega) (by omega) (by simp; omega) ?_; intro v1 w2 o g n; obtain ⟨hV2, ap2⟩ := apart_grown V1.out AP1.out (by simp) (fun k hk => heap_alloc_old _ _ hk) g n; have hb2 := own_below B1.out U1.out g; have hs2 := hb2.size; have gw21 := CELS.out w2 hb2 (i) x1 hx1; have gw22 := CELS.out w2 hb2 (i + 1) x2 hx2; have gw23 := CELS.out w2 hb2 (i + 1 + 1) x3 hx3; have U2 := Lib.hid (OwnTx.snoc o); have V2 := Lib.hid hV2; have AP2 := Lib.hid ap2; have B2 := Lib.hid hb2; clear U1 V1 AP1 hV2 ap2 hb2; clear o g n) | (at_builtin; refine wpList_append_tag rfl _ _ 22 rfl w.heap.size 9 i0 (.string ⟨#[]⟩) 1 16 Tryz.underlying22 hi hz0 hz1 hz2 rfl (by decide) _ _ _ rfl (V2.out.alloc _) ⟨w2.heap.size, 0, none⟩ 1 1 [.string ⟨x1.toArray⟩] rfl rfl (cell_one_new _ _ _) (by simp [Value.oneCell']) (by simp only [maxLen]; omega) (by omega) (by simp; omega) ?_; intro v2 w3 o g n; obtain ⟨hV3, ap3⟩ := apart_grown U2.out AP2.out.symm (by simp) (fun k hk => heap_alloc_old _ _ hk) g n; have hb3 := own_below B2.out V2.out g; have hs3 := hb3.size; have gw31 := CELS.out w3 hb3 (i) x1 hx1; have gw32 := CELS.out w3 hb3 (i + 1) x2 hx2; have gw33 := CELS.out w3 hb3 (i + 1 + 1) x3 hx3; have V3 := Lib.hid (OwnTx.snoc o); have U3 := Lib.hid hV3; have AP3 := Lib.hid ap3.symm; have B3 := Lib.hid hb3; clear U2 V2 AP2 hV3 ap3 hb3; clear o g n) | (at_builtin; refine wpList_append_tag rfl _ _ 22 rfl w.heap.size 9 i0 (.string ⟨#[]⟩) 1 16 Tryz.underlying22 hi hz0 hz1 hz2 rfl (by decide) _ _ _ rfl (V3.out.alloc _) ⟨w3.heap.size, 0, none⟩ 1 1 [.string ⟨x3.toArray⟩] rfl rfl (cell_one_new _ _ _) (by simp [Value.oneCell']) (by simp only [maxLen]; omega) (by omega) (by simp; omega) ?_; intro v3 w4 o g n; obtain ⟨hV4, ap4⟩ := apart_grown U3.out AP3.out.symm (by simp) (fun k hk => heap_alloc_old _ _ hk) g n; have hb4 := own_below B3.out V3.out g; have V4 := Lib.hid (OwnTx.snoc o); have U4 := Lib.hid hV4; have B4 := Lib.hid hb4; clear U3 V3 AP3 hV4 ap4 hb4; clear o g n))
                    go_ret3
                    exact CondR.some HZ.out U4.out (by simpa using V4.out) B4.out
                  | cons x4 r4 =>
                    obtain ⟨hx4, hd4, hi4⟩ := drop_head hd3
                    have hlen := hi4
                    have a1 : (i : Int) + 1 < (l.length : Int) := by omega
                    have b1 : ¬ (l.length : Int) ≤ (i : Int) + 1 := by omega
                    have c1 : ((i : Int) + 1 == (l.length : Int)) = false := by simp; omega
                    have a2 : (i : Int) + 1 + 1 < (l.length : Int) := by omega
                    have b2 : ¬ (l.length : Int) ≤ (i : Int) + 1 + 1 := by omega
                    have c2 : ((i : Int) + 1 + 1 == (l.length : Int)) = false := by simp; omega
                    have a3 : (i : Int) + 1 + 1 + 1 < (l.length : Int) := by omega
                    have b3 : ¬ (l.length : Int) ≤ (i : Int) + 1 + 1 + 1 := by omega
                    have c3 : ((i : Int) + 1 + 1 + 1 == (l.length : Int)) = false := by simp; omega
                    have a4 : (i : Int) + 1 + 1 + 1 + 1 < (l.length : Int) := by omega
                    have b4 : ¬ (l.length : Int) ≤ (i : Int) + 1 + 1 + 1 + 1 := by omega
                    have c4 : ((i : Int) + 1 + 1 + 1 + 1 == (l.length : Int)) = false := by simp; omega
                    have e1 : ((i : Int) + 1 == (l.length : Int) - 1) = false := by simp; omega
                    have e2 : ((i : Int) + 1 + 1 == (l.length : Int) - 1) = false := by simp; omega
                    have e3 : ((i : Int) + 1 + 1 + 1 == (l.length : Int) - 1) = false := by simp; omega
                    have HZ := Lib.hid (show cnd l = none by rw [HEQ.out, hd, cnd_body (dropIf_miss _ hqt)]; simp only; rw [if_neg hqei, hqel, dropIf_hit]; rfl)
                    clear hd hd0 hi0 hd1 hi1 hd2 hi2 hd3 hi3 hd4 hi4 hlen
                    go_wp2_with (first | (at_builtin; refine wpList_append_tag rfl _ _ 22 rfl w.heap.size 9 i0 (.string ⟨#[]⟩) 1 16 Tryz.underlying22 hi hz0 hz1 hz2 rfl (by decide) _ _ _ rfl (U1.out.alloc _) ⟨wr.heap.size, 0, none⟩ 1 1 [.string ⟨x0.toArray⟩] rfl rfl (cell_one_new _ _ _) (by simp [Value.oneCell']) (by simp only [maxLen]; omega) (by omega) (by simp; omega) ?_; intro v1 w2 o g n; obtain ⟨hV2, ap2⟩ := apart_grown V1.out AP1.out (by simp) (fun k hk => heap_alloc_old _ _ hk) g n; have hb2 := own_below B1.out U1.out g; have hs2 := hb2.size; have gw21 := CELS.out w2 hb2 (i) x1 hx1; have gw22 := CELS.out w2 hb2 (i + 1) x2 hx2; have gw23 := CELS.out w2 hb2 (i + 1 + 1) x3 hx3; have gw24 := CELS.out w2 hb2 (i + 1 + 1 + 1) x4 hx4; have U2 := Lib.hid (OwnTx.snoc o); have V2 := Lib.hid hV2; have AP2 := Lib.hid ap2; have B2 := Lib.hid hb2; clear U1 V1 AP1 hV2 ap2 hb2; clear o g n) | (at_builtin; refine wpList_append_tag rfl _ _ 22 rfl w.heap.size 9 i0 (.string ⟨#[]⟩) 1 16 Tryz.underlying22 hi hz0 hz1 hz2 rfl (by decide) _ _ _ rfl (V2.out.alloc _) ⟨w2.heap.size, 0, none⟩ 1 1 [.string ⟨x1.toArray⟩] rfl rfl (cell_one_new _ _ _) (by simp [Value.oneCell']) (by simp only [maxLen]; omega) (by omega) (by simp; omega) ?_; intro v2 w3 o g n; obtain ⟨hV3, ap3⟩ := apart_grown U2.out AP2.out.symm (by simp) (fun k hk => heap_alloc_old _ _ hk) g n; have hb3 := own_below B2.out V2.out g; have hs3 := hb3.size; have gw31 := CELS.out w3 hb3 (i) x1 hx1; have gw32 := CELS.out w3 hb3 (i + 1) x2 hx2; have gw33 := CELS.out w3 hb3 (i + 1 + 1) x3 hx3; have gw34 := CELS.out w3 hb3 (i + 1 + 1 + 1) x4 hx4; have V3 := Lib.hid (OwnTx.snoc o); have U3 := Lib.hid hV3; have AP3 := Lib.hid ap3.symm; have B3 := Lib.hid hb3; clear U2 V2 AP2 hV3 ap3 hb3; clear o g n))
                    go_ret3
                    exact CondR.none HZ.out B3.out
              · have qel : (x2 == [101, 108, 115, 101]) = false := by simp; exact hqel
                cases r2 with
                | nil =>
                  have hlen := drop_nil hd2
                  have a1 : (i : Int) + 1 < (l.length : Int) := by omega
                  have b1 : ¬ (l.length : Int) ≤ (i : Int) + 1 := by omega
                  have c1 : ((i : Int) + 1 == (l.length : Int)) = false := by simp; omega
                  have a2 : (i : Int) + 1 + 1 < (l.length : Int) := by omega
                  have b2 : ¬ (l.length : Int) ≤ (i : Int) + 1 + 1 := by omega
                  have c2 : ((i : Int) + 1 + 1 == (l.length : Int)) = false := by simp; omega
                  have a3 : ¬ (i : Int) + 1 + 1 + 1 < (l.length : Int) := by omega
                  have b3 : (l.length : Int) ≤ (i : Int) + 1 + 1 + 1 := by omega
                  have c3 : ((i : Int) + 1 + 1 + 1 == (l.length : Int)) = true := by simp; omega
                  have e1 : ((i : Int) + 1 == (l.length : Int) - 1) = false := by simp; omega
                  have e2 : ((i : Int) + 1 + 1 == (l.length : Int) - 1) = true := by simp; omega
                  have e3 : ((i : Int) + 1 + 1 + 1 == (l.length : Int) - 1) = false := by simp; omega
                  have hb3l : (bs ++ [x1]).length ≤ 1001 := by simp; omega
                  have HZ := Lib.hid (show cnd l = some (cs ++ [x0], bs ++ [x1] ++ [x2]) by rw [HEQ.out, hd, cnd_body (dropIf_miss _ hqt)]; simp only; rw [if_neg hqei, dropIf_miss _ hqel]; simp)
                  clear hd hd0 hi0 hd1 hi1 hd2 hi2 hlen
                  go_wp2_with (first | (at_builtin; refine wpList_append_tag rfl _ _ 22 rfl w.heap.size 9 i0 (.string ⟨#[]⟩) 1 16 Tryz.underlying22 hi hz0 hz1 hz2 rfl (by decide) _ _ _ rfl (U1.out.alloc _) ⟨wr.heap.size, 0, none⟩ 1 1 [.string ⟨x0.toArray⟩] rfl rfl (cell_one_new _ _ _) (by simp [Value.oneCell']) (by simp only [maxLen]; omega) (by omega) (by simp; omega) ?_; intro v1 w2 o g n; obtain ⟨hV2, ap2⟩ := apart_grown V1.out AP1.out (by simp) (fun k hk => heap_alloc_old _ _ hk) g n; have hb2 := own_below B1.out U1.out g; have hs2 := hb2.size; have gw21 := CELS.out w2 hb2 (i) x1 hx1; have gw22 := CELS.out w2 hb2 (i + 1) x2 hx2; have U2 := Lib.hid (OwnTx.snoc o); have V2 := Lib.hid hV2; have AP2 := Lib.hid ap2; have B2 := Lib.hid hb2; clear U1 V1 AP1 hV2 ap2 hb2; clear o g n) | (at_builtin; refine wpList_append_tag rfl _ _ 22 rfl w.heap.size 9 i0 (.string ⟨#[]⟩) 1 16 Tryz.underlying22 hi hz0 hz1 hz2 rfl (by decide) _ _ _ rfl (V2.out.alloc _) ⟨w2.heap.size, 0, none⟩ 1 1 [.string ⟨x1.toArray⟩] rfl rfl (cell_one_new _ _ _) (by simp [Value.oneCell']) (by simp only [maxLen]; omega) (by omega) (by simp; omega) ?_; intro v2 w3 o g n; obtain ⟨hV3, ap3⟩ := apart_grown U2.out AP2.out.symm (by simp) (fun k hk => heap_alloc_old _ _ hk) g n; have hb3 := own_below B2.out V2.out g; have hs3 := hb3.size; have gw31 := CELS.out w3 hb3 (i) x1 hx1; have gw32 := CELS.out w3 hb3 (i + 1) x2 hx2; have V3 := Lib.hid (OwnTx.snoc o); have U3 := Lib.hid hV3; have AP3 := Lib.hid ap3.symm; have B3 := Lib.hid hb3; clear U2 V2 AP2 hV3 ap3 hb3; clear o g n) | (at_builtin; refine wpList_append_tag rfl _ _ 22 rfl w.heap.size 9 i0 (.string ⟨#[]⟩) 1 16 Tryz.underlying22 hi hz0 hz1 hz2 rfl (by decide) _ _ _ rfl (V3.out.alloc _) ⟨w3.heap.size, 0, none⟩ 1 1 [.string ⟨x2.toArray⟩] rfl rfl (cell_one_new _ _ _) (by simp [Value.oneCell']) (by simp only [maxLen]; omega) (by omega) (by simp; omega) ?_; intro v3 w4 o g n; obtain ⟨hV4, ap4⟩ := apart_grown U3.out AP3.out.symm (by simp) (fun k hk => heap_alloc_old _ _ hk) g n; have hb4 := own_below B3.out V3.out g; have V4 := Lib.hid (OwnTx.snoc o); have U4 := Lib.hid hV4; have B4 := Lib.hid hb4; clear U3 V3 AP3 hV4 ap4 hb4; clear o g n))
                  go_ret3
                  exact CondR.some HZ.out U4.out (by simpa using V4.out) B4.out
                | cons x3 r3 =>
                  obtain ⟨hx3, hd3, hi3⟩ := drop_head hd2
                  have hlen := hi3
                  have a1 : (i : Int) + 1 < (l.length : Int) := by omega
                  have b1 : ¬ (l.length : Int) ≤ (i : Int) + 1 := by omega
                  have c1 : ((i : Int) + 1 == (l.length : Int)) = false := by simp; omega
                  have a2 : (i : Int) + 1 + 1 < (l.length : Int) := by omega
                  have b2 : ¬ (l.length : Int) ≤ (i : Int) + 1 + 1 := by omega
                  have c2 : ((i : Int) + 1 + 1 == (l.length : Int)) = false := by simp; omega
                  have a3 : (i : Int) + 1 + 1 + 1 < (l.length : Int) := by omega
                  have b3 : ¬ (l.length : Int) ≤ (i : Int) + 1 + 1 + 1 := by omega
                  have c3 : ((i : Int) + 1 + 1 + 1 == (l.length : Int)) = false := by simp; omega
                  have e1 : ((i : Int) + 1 == (l.length : Int) - 1) = false := by simp; omega
                  have e2 : ((i : Int) + 1 + 1 == (l.length : Int) - 1) = false := by simp; omega
                  have HZ := Lib.hid (show cnd l = none by rw [HEQ.out, hd, cnd_body (dropIf_miss _ hqt)]; simp only; rw [if_neg hqei, dropIf_miss _ hqel]; rfl)
                  clear hd hd0 hi0 hd1 hi1 hd2 hi2 hd3 hi3 hlen
                  go_wp2_with (first | (at_builtin; refine wpList_append_tag rfl _ _ 22 rfl w.heap.size 9 i0 (.string ⟨#[]⟩) 1 16 Tryz.underlying22 hi hz0 hz1 hz2 rfl (by decide) _ _ _ rfl (U1.out.alloc _) ⟨wr.heap.size, 0, none⟩ 1 1 [.string ⟨x0.toArray⟩] rfl rfl (cell_one_new _ _ _) (by simp [Value.oneCell']) (by simp only [maxLen]; omega) (by omega) (by simp; omega) ?_; intro v1 w2 o g n; obtain ⟨hV2, ap2⟩ := apart_grown V1.out AP1.out (by simp) (fun k hk => heap_alloc_old _ _ hk) g n; have hb2 := own_below B1.out U1.out g; have hs2 := hb2.size; have gw21 := CELS.out w2 hb2 (i) x1 hx1; have gw22 := CELS.out w2 hb2 (i + 1) x2 hx2; have gw23 := CELS.out w2 hb2 (i + 1 + 1) x3 hx3; have U2 := Lib.hid (OwnTx.snoc o); have V2 := Lib.hid hV2; have AP2 := Lib.hid ap2; have B2 := Lib.hid hb2; clear U1 V1 AP1 hV2 ap2 hb2; clear o g n) | (at_builtin; refine wpList_append_tag rfl _ _ 22 rfl w.heap.size 9 i0 (.string ⟨#[]⟩) 1 16 Tryz.underlying22 hi hz0 hz1 hz2 rfl (by decide) _ _ _ rfl (V2.out.alloc _) ⟨w2.heap.size, 0, none⟩ 1 1 [.string ⟨x1.toArray⟩] rfl rfl (cell_one_new _ _ _) (by simp [Value.oneCell']) (by simp only [maxLen]; omega) (by omega) (by simp; omega) ?_; intro v2 w3 o g n; obtain ⟨hV3, ap3⟩ := apart_grown U2.out AP2.out.symm (by simp) (fun k hk => heap_alloc_old _ _ hk) g n; have hb3 := own_below B2.out V2.out g; have hs3 := hb3.size; have gw31 := CELS.out w3 hb3 (i) x1 hx1; have gw32 := CELS.out w3 hb3 (i + 1) x2 hx2; have gw33 := CELS.out w3 hb3 (i + 1 + 1) x3 hx3; have V3 := Lib.hid (OwnTx.snoc o); have U3 := Lib.hid hV3; have AP3 := Lib.hid ap3.symm; have B3 := Lib.hid hb3; clear U2 V2 AP2 hV3 ap3 hb3; clear o g n))
                  go_ret3
                  exact CondR.none HZ.out B3.out
end Go.Proofs.YtjibdoofogmkcaaGreatDoor
end
