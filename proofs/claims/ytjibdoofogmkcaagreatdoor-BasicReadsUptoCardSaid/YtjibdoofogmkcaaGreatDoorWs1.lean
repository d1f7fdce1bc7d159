/-
  The document's Rounds20. Conditions: none.
-/
import Derived.Test.YtjibdoofogmkcaaGreatDoorWr5ToWs0
set_option linter.unusedVariables false
set_option linter.unusedSimpArgs false
set_option linter.unusedSectionVars false
set_option linter.deprecated false
section
namespace Go.Proofs.YtjibdoofogmkcaaGreatDoor
open Go.RowKit Go.Shelf
open Go.ChangeShapes Go.WideShapes Go.ChangeAt
set_option maxRecDepth 100000
set_option maxHeartbeats 4000000 in
theorem rrounds_any (w : World) (u v : Value) (names lists : List (List UInt8)) (hu : StrRow w u names) (hv : StrRow w v lists) (hlen : names.length = lists.length) (h0 : ¬ names.length = 0) (hn : names.length ≤ 1000) (hb1 : ∀ x ∈ names, x.length ≤ 1000) (hb2 : ∀ x ∈ lists, x.length ≤ 1000) :
    Calls Tryz.prog 30 #[u, v] w (RRoundsR w names lists) := by
  obtain ⟨a, c, rfl, ha⟩ := hu.form
  obtain ⟨b, d, rfl, hb⟩ := hv.form
  obtain ⟨i0, hi, hz0, hz1, hz2⟩ := info_parts info22
  obtain ⟨j0, hj, hy0, hy1, hy2⟩ := info_parts info9
  have HA := Lib.hid ha
  have HB := Lib.hid hb
  have HB1 := Lib.hid hb1
  have HB2 := Lib.hid hb2
  have HL := Lib.hid hlen
  have H0 := Lib.hid h0
  clear hu hv ha hb hb1 hb2 hlen h0
  go_enter Tryz.func30, Tryz.ntmps30
  go_wp2
  go_loopg [8, 9, 10, 30] names.length (fun k nv lv av iv wr => ∃ (i : Nat) (vs ls : List (List (List UInt8))), iv = .int .i64 (i : Int) ∧ k = names.length - i ∧ SI w names lists i nv lv av vs ls wr)
  case atStart => exact ⟨0, [], [], rfl, rfl, ⟨by omega, rfl, rfl, by simp, by simp, ⟨RowsA.nil _ _ _, RowsA.nil _ _ _, OwnTx.nil _ _, apart_nil _, Nat.le_refl _⟩, by simp, Below.refl _ _⟩⟩
  case round =>
    obtain ⟨i, vs, ls, rfl, hk, hR⟩ := hrel
    rename World => w0
    have R := Lib.hid hR
    have HK := Lib.hid hk
    have hi2 := hR.hi
    have hbel := hR.bel
    clear hk
    by_cases hlt : i < names.length
    · have t1 : (i : Int) < (names.length : Int) := by omega
      have t2 : (i : Int) < (lists.length : Int) := by have := HL.out; omega
      obtain ⟨x, hx⟩ : ∃ x, names[i]? = some x := ⟨_, List.getElem?_eq_getElem hlt⟩
      obtain ⟨y, hy⟩ : ∃ y, lists[i]? = some y := ⟨_, List.getElem?_eq_getElem (by have := HL.out; omega)⟩
      obtain ⟨p, rfl, hpx⟩ := HA.out i x hx
      obtain ⟨q, rfl, hqy⟩ := HB.out i y hy
      have c1 := cell_later hpx hbel
      unfold strV at c1
      have HXL := Lib.hid (HB1.out x (List.mem_of_getElem? hx))
      have HYL := Lib.hid (HB2.out y (List.mem_of_getElem? hy))
      have HX := Lib.hid hx
      have HY := Lib.hid hy
      have HP := Lib.hid hpx
      have HQ := Lib.hid hqy
      clear hx hy hpx hqy hR hbel
      cases hsx : spl x with
      | none =>
        have HSX := Lib.hid hsx
        have HE := Lib.hid (R.out.bad1 HL.out HX.out hsx H0.out)
        clear hsx
        go_wp2_with (go_at_call 84; refine (rsplit_bad HXL.out HSX.out _).mono ?_; rintro e w1 ⟨k1, rfl, hb1⟩; dsimp only; have c3 := cell_later HP.out (R.out.bel.trans (hb1.mono R.out.bel.size)); unfold strV at c3; have HB1x := Lib.hid hb1; clear hb1)
        go_region
        go_wp2
        refine bodyPost_ret (results_tmp4 rfl _ _ _) rfl ?_
        exact RRoundsR.error HE.out (R.out.bel.trans (HB1x.out.mono R.out.bel.size)).drew
      | some xs =>
        have HSX := Lib.hid hsx
        have HSXc := Lib.hid hsx
        clear hsx
        cases hsy : spl y with
        | none =>
          have HSY := Lib.hid hsy
          have HE := Lib.hid (R.out.bad2 HL.out HY.out hsy H0.out)
          clear hsy
          go_wp2_with (first | (go_at_call 84; refine (rsplit_ok HXL.out HSXc.out _).mono ?_; clear HSXc; rintro e w1 ⟨xa, xc, rfl, ho1, hb1⟩; dsimp only; have c2 := cell_later HQ.out (R.out.bel.trans (hb1.mono R.out.bel.size)); unfold strV at c2; have HB1x := Lib.hid hb1; clear hb1 ho1) | (go_at_call 84; refine (rsplit_bad HYL.out HSY.out _).mono ?_; rintro e w2 ⟨k2, rfl, hb2⟩; dsimp only; have c3 := cell_later HQ.out ((R.out.bel.trans (HB1x.out.mono R.out.bel.size)).trans (hb2.mono (R.out.bel.trans (HB1x.out.mono R.out.bel.size)).size)); unfold strV at c3; have HB2x := Lib.hid hb2; clear hb2))
          go_region
          go_wp2
          refine bodyPost_ret (results_tmp4 rfl _ _ _) rfl ?_
          exact RRoundsR.error HE.out ((R.out.bel.trans (HB1x.out.mono R.out.bel.size)).trans (HB2x.out.mono (R.out.bel.trans (HB1x.out.mono R.out.bel.size)).size)).drew
        | some ys =>
          have HSY := Lib.hid hsy
          have HSYc := Lib.hid hsy
          have hxsl : xs.length ≤ 1000 := Nat.le_trans (spl_len _ x (Nat.le_refl _) xs HSX.out) HXL.out
          clear hsy
          go_wp2_with (first | (go_at_call 84; refine (rsplit_ok HXL.out HSXc.out _).mono ?_; clear HSXc; rintro e w1 ⟨xa, xc, rfl, ho1, hb1⟩; dsimp only; have c2 := cell_later HQ.out (R.out.bel.trans (hb1.mono R.out.bel.size)); unfold strV at c2; have HO1 := Lib.hid ho1; have AX := Lib.hid (apart_newer R.out.ai.ra ho1); have A1 := Lib.hid (R.out.ai.later hb1); have HBa := Lib.hid (hb1.mono R.out.bel.size); clear hb1 ho1) | (go_at_call 84; refine (rsplit_ok HYL.out HSYc.out _).mono ?_; clear HSYc c2; rintro e w2 ⟨ya, yc, rfl, ho2, hb2⟩; dsimp only; have HX0 := Lib.hid (ownsRow_mono (HO1.out.later hb2) (Nat.zero_le _)); have AY := Lib.hid (apart_newer A1.out.ra ho2); have A2 := Lib.hid (A1.out.later hb2); have HY0 := Lib.hid (ownsRow_mono ho2 (Nat.zero_le _)); have HBb := Lib.hid (HBa.out.trans (hb2.mono A1.out.sz)); have hvl := R.out.hv; have hll := R.out.hl; have hsz2 := A2.out.sz; obtain ⟨us, hu1, hu2⟩ := A2.out.ru; have HU1 := Lib.hid hu1; have HU2 := Lib.hid hu2; clear ho2 hb2 HO1 A1 HBa hu1 hu2) | (at_builtin; refine wpList_append_tag rfl _ _ 28 rfl w.heap.size 22 i0 (.slice none 0 0) 1 24 Tryz.underlying28 hi hz0 hz1 hz2 rfl (by decide) _ _ _ rfl (HU1.out.alloc _) ⟨w2.heap.size, 0, none⟩ 1 1 [.slice xa xs.length xc] rfl rfl (cell_one_new _ _ _) (by simp [Value.oneCell']) (by simp only [maxLen]; omega) (by omega) (by simp; omega) ?_; intro u' w3 o g n; obtain ⟨a3, g4, g5⟩ := AI.app A2.out HU1.out HU2.out HX0.out AX.out o g n; have hsz3 := a3.sz; have HX1 := Lib.hid (g4 _ _ HX0.out); have HY1 := Lib.hid (g4 _ _ HY0.out); have A3 := Lib.hid a3; obtain ⟨vu, hv1, hv2⟩ := a3.rv; have HV1 := Lib.hid hv1; have HV2 := Lib.hid hv2; have HBc := Lib.hid (HBb.out.trans g5); clear o g n a3 g4 g5 hv1 hv2 HU1 HU2 HX0 HY0 A2 HBb) | (at_builtin; refine wpList_append_tag rfl _ _ 28 rfl w.heap.size 22 i0 (.slice none 0 0) 1 24 Tryz.underlying28 hi hz0 hz1 hz2 rfl (by decide) _ _ _ rfl (HV1.out.alloc _) ⟨w3.heap.size, 0, none⟩ 1 1 [.slice ya ys.length yc] rfl rfl (cell_one_new _ _ _) (by simp [Value.oneCell']) (by simp only [maxLen]; omega) (by omega) (by simp; omega) ?_; intro v' w4 o g n; obtain ⟨a4, k4, k5⟩ := AI.app A3.out.swap HV1.out HV2.out HY1.out AY.out o g n; have hsz4 := a4.sz; have hal := R.out.al; have A4 := Lib.hid a4.swap; have HX2 := Lib.hid (k4 _ _ HX1.out); have HBd := Lib.hid (HBc.out.trans k5); clear o g n a4 k4 k5 HV1 HV2 HX1 HY1 A3 HBc) | (at_builtin; refine wpList_append_row rfl _ _ rfl w.heap.size j0 (.string ⟨#[]⟩) Tryz.underlying22 hj hy0 hy1 hy2 rfl _ _ _ _ rfl rfl A4.out.ra HX2.out (by omega) hxsl (by omega) ?_; intro av' w5 o g n; obtain ⟨a5, k5⟩ := A4.out.all o g n; have RN := Lib.hid (R.out.next HX.out HSX.out hxsl HY.out HSY.out a5 (HBd.out.trans k5)); clear o g n a5 k5 A4 HX2 HBd))
          go_roundg (names.length - (i + 1))
          case measure => rw [HK.out]; omega
          case rel => exact ⟨i + 1, _, _, by go_num, rfl, RN.out⟩
    · have t1 : ¬ (i : Int) < (names.length : Int) := by omega
      obtain ⟨hs1, hs2⟩ := hR.done (by omega) HL.out
      have HS1 := Lib.hid hs1
      have HS2 := Lib.hid hs2
      obtain ⟨us, hu1, hu2⟩ := hR.ai.ru.own
      obtain ⟨ua, uc, rfl⟩ := ownsRow_form hu1
      obtain ⟨vu, hv1, hv2⟩ := hR.ai.rv.own
      obtain ⟨va, vc, rfl⟩ := ownsRow_form hv1
      have hlen : vs.length = ls.length := by have := hR.hv; have := hR.hl; omega
      have HLEN := Lib.hid hlen
      have hr1 := hR.ai.ru.own.rows
      have hr2 := hR.ai.rv.own.rows
      obtain ⟨a9, c9, e9, hru⟩ := hr1
      obtain ⟨b9, d9, f9, hrv⟩ := hr2
      simp only [Value.slice.injEq, true_and] at e9 f9
      obtain ⟨rfl, rfl⟩ := e9
      obtain ⟨rfl, rfl⟩ := f9
      have HRU := Lib.hid hru
      have HRV := Lib.hid hrv
      have hvl : vs.length ≤ 1000 := by have := hR.hv; have := hR.hi; omega
      clear hs1 hs2 hR hbel hu1 hu2 hv1 hv2 hru hrv hlen
      go_wp2_with fail
      go_loopg [11, 77] vs.length (fun k mv iv wr => ∃ i : Nat, iv = .int .i64 (i : Int) ∧ mv = .int .i64 (mst vs ls i : Int) ∧ k = vs.length - i ∧ i ≤ vs.length ∧ mst vs ls i ≤ 2000 ∧ (∀ j x, j < i → vs[j]? = some x → 1 ≤ x.length) ∧ w0 = wr)
      case atStart => exact ⟨0, rfl, by simp [mst], rfl, by omega, by simp [mst], fun j x hj _ => by omega, rfl⟩
      case round =>
        obtain ⟨m, rfl, rfl, hk, hm, hmx, hne, rfl⟩ := hrel
        have HM := Lib.hid hk
        have HNE := Lib.hid hne
        clear hk hne
        by_cases hml : m < vs.length
        · have t2 : (m : Int) < (vs.length : Int) := by omega
          have t3 : m < ls.length := by have := HLEN.out; omega
          have t4 : (m : Int) < (ls.length : Int) := by omega
          obtain ⟨x, hx⟩ : ∃ x, vs[m]? = some x := ⟨_, List.getElem?_eq_getElem hml⟩
          obtain ⟨y, hy⟩ : ∃ y, ls[m]? = some y := ⟨_, List.getElem?_eq_getElem t3⟩
          obtain ⟨p, ux, rfl, hpx, hox⟩ := HRU.out m x hx
          obtain ⟨q, uy, rfl, hqy, hoy⟩ := HRV.out m y hy
          obtain ⟨xa, xc, rfl⟩ := ownsRow_form hox
          obtain ⟨ya, yc, rfl⟩ := ownsRow_form hoy
          have hx2 := splAll_len HB1.out HS1.out x (List.mem_of_getElem? hx)
          have hy2 := splAll_len HB2.out HS2.out y (List.mem_of_getElem? hy)
          have hms := mst_succ hx hy
          have HMS := Lib.hid hms
          have HX := Lib.hid hx
          clear hx hy hox hoy hms
          by_cases hxe : x.length = 0
          · have t5 : ((x.length : Int) == 0) = true := by simp [hxe]
            have HE := Lib.hid (rnd_bare HL.out H0.out HS1.out HS2.out (List.any_eq_true.2 ⟨x, List.mem_of_getElem? HX.out, by rw [List.eq_nil_of_length_eq_zero hxe]; rfl⟩))
            clear hxe
            go_wp2_with fail
            (try simp only [Exit.inBlock, Exit.then])
            refine bodyPost_ret (results_tmp4 rfl _ _ _) rfl ?_
            exact RRoundsR.error HE.out R.out.bel
          · have t5 : ((x.length : Int) == 0) = false := beq_eq_false_iff_ne.2 (by omega)
            have t6 : ¬ (x.length : Int) = 0 := by omega
            have HXE := Lib.hid hxe
            clear hxe
            go_wp2_with fail
            have hq := mst_int (mst vs ls m) x.length y.length (by have := HXE.out; omega)
            have hq2 : (y.length + x.length - 1) / x.length ≤ y.length + x.length - 1 := Nat.div_le_self _ _
            go_roundg (vs.length - (m + 1))
            case measure => rw [HM.out]; omega
            case rel => exact ⟨m + 1, by go_num, by rw [HMS.out, ← hq], rfl, by omega, by rw [HMS.out]; omega, fun j z hj hz => by
                by_cases hjm : j < m
                · exact HNE.out j z hjm hz
                · have : j = m := by omega
                  subst this
                  rw [HX.out] at hz
                  cases hz
                  have := HXE.out; omega, rfl⟩
        · have t2 : ¬ (m : Int) < (vs.length : Int) := by omega
          have hme : m = vs.length := by omega
          rw [hme, mst_all HLEN.out] at hmx ⊢
          have hno : vs.any (·.isEmpty) = false := List.any_eq_false.2 fun z hz => by
            obtain ⟨j, hj⟩ := List.mem_iff_getElem?.1 hz
            have h1 := (List.getElem?_eq_some_iff.1 hj).1
            have := HNE.out j z (by omega) hj
            cases z with
            | nil => simp at this
            | cons _ _ => simp
          have HE := Lib.hid (rnd_ok HL.out H0.out HS1.out HS2.out hno)
          clear hno
          have hmost := most_le (splAll_len HB1.out HS1.out) (splAll_len HB2.out HS2.out)
          go_wp2_with fail
          go_loopg [20, 101] (most vs ls) (fun k ov rv wq => ∃ r : Nat, rv = .int .i64 (r : Int) ∧ k = most vs ls - r ∧ r ≤ most vs ls ∧ OwnRows wq w0.heap.size ov ((List.range r).map fun k => rowAll k vs ls) ∧ Below w0.heap.size w0 wq)
          case atStart => exact ⟨0, rfl, by omega, by omega, OwnRows.nil _ _, Below.refl _ _⟩
          case round =>
            obtain ⟨r, rfl, hk, hr, hrows, hbel⟩ := hrel
            rename World => w3
            have HK3 := Lib.hid hk
            have HROWS := Lib.hid hrows
            have HB3 := Lib.hid hbel
            have hsz3 := hbel.size
            clear hk hrows hbel
            by_cases hrl : r < most vs ls
            · have t7 : (r : Int) < (most vs ls : Int) := by omega
              go_wp2_with fail
              go_loopg [22, 106] vs.length (fun k ov iv wq => ∃ i : Nat, iv = .int .i64 (i : Int) ∧ k = vs.length - i ∧ i ≤ vs.length ∧ OwnTx wq w3.heap.size ov (rowUp r vs ls i) ∧ Below w3.heap.size w3 wq)
              case atStart => exact ⟨0, rfl, by omega, by omega, OwnTx.nil _ _, Below.refl _ _⟩
              case round =>
                obtain ⟨j, rfl, hk, hj2, hown, hbel⟩ := hrel
                rename World => w4
                have HK4 := Lib.hid hk
                have HO := Lib.hid hown
                have HB4 := Lib.hid hbel
                have hsz4 := hbel.size
                have HB04 := Lib.hid (HB3.out.trans (hbel.mono hsz3))
                clear hk hown hbel
                by_cases hjl : j < vs.length
                · have t2 : (j : Int) < (vs.length : Int) := by omega
                  have t3 : j < ls.length := by have := HLEN.out; omega
                  have t4 : (j : Int) < (ls.length : Int) := by omega
                  obtain ⟨x, hx⟩ : ∃ x, vs[j]? = some x := ⟨_, List.getElem?_eq_getElem hjl⟩
                  obtain ⟨y, hy⟩ : ∃ y, ls[j]? = some y := ⟨_, List.getElem?_eq_getElem t3⟩
                  obtain ⟨p, ux, rfl, hpx, hox⟩ := HRU.out j x hx
                  obtain ⟨q, uy, rfl, hqy, hoy⟩ := HRV.out j y hy
                  obtain ⟨xa, xc, rfl⟩ := ownsRow_form hox
                  have hys := hoy.str
                  obtain ⟨ya, yc, rfl, hyc⟩ := hys.form
                  have c4 := cell_later hpx HB04.out
                  have hx2 := splAll_len HB1.out HS1.out x (List.mem_of_getElem? hx)
                  have HX := Lib.hid hx
                  have HY := Lib.hid hy
                  have HQY := Lib.hid hqy
                  have HYC := Lib.hid hyc
                  have hrl0 := rowUp_len (k := r) (ls := ls) (splAll_len HB1.out HS1.out) j
                  clear hx hy hpx hqy hox hoy hys hyc
                  go_wp2_with fail
                  go_loopg [22, 113] x.length (fun k ov jv wz => ∃ n : Nat, jv = .int .i64 (n : Int) ∧ k = x.length - n ∧ n ≤ x.length ∧ OwnTx wz w3.heap.size ov (rowUp r vs ls j ++ (rowOf r x y).take n) ∧ Below w3.heap.size w3 wz)
                  case atStart => exact ⟨0, rfl, by omega, by omega, by simpa using HO.out, HB4.out⟩
                  case round =>
                    obtain ⟨n, rfl, hk, hn2, hown, hbel⟩ := hrel
                    rename World => w5
                    have HK5 := Lib.hid hk
                    have HO5 := Lib.hid hown
                    have HB5 := Lib.hid hbel
                    have hsz5 := hbel.size
                    have c5 := cell_later HQY.out (HB3.out.trans (hbel.mono hsz3))
                    clear hk hown hbel
                    by_cases hnl : n < x.length
                    · have t5 : (n : Int) < (x.length : Int) := by omega
                      have hmx : r * x.length ≤ 2000 * 1000 := Nat.mul_le_mul (by omega) hx2
                      obtain ⟨N, hN⟩ : ∃ N, N = r * x.length + n := ⟨_, rfl⟩
                      have hNi : (r : Int) * (x.length : Int) + (n : Int) = (N : Int) := by rw [hN, Int.natCast_add, Int.natCast_mul]
                      have hm0 : (0 : Int) ≤ (r : Int) * (x.length : Int) := by rw [← Int.natCast_mul]; omega
                      have hm1 : (r : Int) * (x.length : Int) ≤ 2000000 := by rw [← Int.natCast_mul]; omega
                      have hol : (rowUp r vs ls j ++ (rowOf r x y).take n).length ≤ 1001000 := by
                        have := HLEN.out
                        have := R.out.hi
                        have := R.out.hv
                        rw [List.length_append, List.length_take]; omega
                      have htk := rowOf_take (k := r) (l := y) hnl
                      rw [← hN] at htk
                      have HTK := Lib.hid htk
                      clear hN htk hmx
                      by_cases hNy : N < y.length
                      · have t6 : (N : Int) < (y.length : Int) := by omega
                        obtain ⟨z, hz⟩ : ∃ z, y[N]? = some z := ⟨_, List.getElem?_eq_getElem hNy⟩
                        obtain ⟨o, rfl, hrc⟩ := HYC.out N z hz
                        have d6 := cell_later hrc (HB3.out.trans (HB5.out.mono hsz3))
                        unfold strV at d6
                        have HZ := Lib.hid hz
                        clear hrc hz
                        go_wp2_with (at_builtin; refine wpList_append_tag rfl _ _ 22 rfl w3.heap.size 9 j0 (.string ⟨#[]⟩) 1 16 Tryz.underlying22 hj hy0 hy1 hy2 rfl (by decide) _ _ _ rfl (HO5.out.alloc _) ⟨w5.heap.size, 0, none⟩ 1 1 [.string ⟨z.toArray⟩] rfl rfl (cell_one_new _ _ _) (by simp [Value.oneCell']) (by simp only [maxLen]; omega) (by omega) (by simp; omega) ?_; intro v' w6 o g _; have HO6 := Lib.hid (OwnTx.snoc o); have HB6 := Lib.hid (((Below.refl w3.heap.size w5).alloc hsz5 _).grown g (by simp; omega) (fun k hk => (HO5.out.lt k hk).1)); clear o g)
                        go_roundg (x.length - (n + 1))
                        case measure => rw [HK5.out]; omega
                        case rel => exact ⟨n + 1, by go_num, rfl, by omega, by rw [HTK.out, HZ.out, ← List.append_assoc]; exact HO6.out, HB5.out.trans HB6.out⟩
                      · have t6 : ¬ (N : Int) < (y.length : Int) := by omega
                        have HZ := Lib.hid (show y[N]? = none from List.getElem?_eq_none (by omega))
                        go_wp2_with (at_builtin; refine wpList_append_tag rfl _ _ 22 rfl w3.heap.size 9 j0 (.string ⟨#[]⟩) 1 16 Tryz.underlying22 hj hy0 hy1 hy2 rfl (by decide) _ _ _ rfl (HO5.out.alloc _) ⟨w5.heap.size, 0, none⟩ 1 1 [.string ⟨#[]⟩] rfl rfl (cell_one_new _ _ _) (by simp [Value.oneCell']) (by simp only [maxLen]; omega) (by omega) (by simp; omega) ?_; intro v' w6 o g _; have HO6 := Lib.hid (OwnTx.snoc (x := []) o); have HB6 := Lib.hid (((Below.refl w3.heap.size w5).alloc hsz5 _).grown g (by simp; omega) (fun k hk => (HO5.out.lt k hk).1)); clear o g)
                        go_roundg (x.length - (n + 1))
                        case measure => rw [HK5.out]; omega
                        case rel => exact ⟨n + 1, by go_num, rfl, by omega, by rw [HTK.out, HZ.out, ← List.append_assoc]; exact HO6.out, HB5.out.trans HB6.out⟩
                    · have t5 : ¬ (n : Int) < (x.length : Int) := by omega
                      have hown := HO5.out
                      have hall : rowUp r vs ls j ++ (rowOf r x y).take n = rowUp r vs ls (j + 1) := by
                        rw [List.take_of_length_le (by rw [rowOf_len]; omega), rowUp_succ HX.out HY.out]
                      rw [hall] at hown
                      have HO6 := Lib.hid hown
                      clear hown hall
                      go_wp2_with fail
                      go_roundg (vs.length - (j + 1))
                      case measure => rw [HK4.out]; omega
                      case rel => exact ⟨j + 1, by go_num, rfl, by omega, HO6.out, HB5.out⟩
                · have t2 : ¬ (j : Int) < (vs.length : Int) := by omega
                  have hjl2 : j = ls.length := by have := HLEN.out; omega
                  have hown := HO.out
                  rw [hjl2, rowUp_all HLEN.out] at hown
                  obtain ⟨ra, rc, rfl⟩ := ownsRow_form hown
                  have HO6 := Lib.hid (ownsRow_mono hown (Nat.zero_le _))
                  obtain ⟨us, hu1, hu2⟩ := HROWS.out.later HB4.out
                  have HU1 := Lib.hid hu1
                  have HU2 := Lib.hid hu2
                  have hrl3 : ((List.range r).map fun k => rowAll k vs ls).length = r := by simp
                  clear hown hjl2 hu1 hu2
                  go_wp2_with (at_builtin; refine wpList_append_tag rfl _ _ 28 rfl w0.heap.size 22 i0 (.slice none 0 0) 1 24 Tryz.underlying28 hi hz0 hz1 hz2 rfl (by decide) _ _ _ rfl (HU1.out.alloc _) ⟨w4.heap.size, 0, none⟩ 1 1 [.slice ra (rowAll r vs ls).length rc] rfl rfl (cell_one_new _ _ _) (by simp [Value.oneCell']) (by simp only [maxLen]; omega) (by omega) (by simp; omega) ?_; intro v' w6 o g _; have HO7 := Lib.hid (OwnRows.snoc HU1.out HU2.out (ownsRow_len HU1.out) HO6.out o g); have HB6 := Lib.hid (((Below.refl w0.heap.size w4).alloc (by omega) _).grown g (by simp; omega) (fun k hk => (HU1.out.lt k hk).1)); clear o g)
                  go_roundg (most vs ls - (r + 1))
                  case measure => rw [HK3.out]; omega
                  case rel => exact ⟨r + 1, by go_num, rfl, by omega, by rw [List.range_succ, List.map_append]; exact HO7.out, HB04.out.trans HB6.out⟩
            · have t7 : ¬ (r : Int) < (most vs ls : Int) := by omega
              have hre : r = most vs ls := by omega
              rw [hre] at HROWS
              clear hre
              go_wp2_with fail
              (try simp only [Exit.inBlock, Exit.then])
              refine bodyPost_ret (results_tmp4 rfl _ _ _) rfl ?_
              exact RRoundsR.ok HE.out (HROWS.out.mono R.out.bel.size) (R.out.bel.trans (HB3.out.mono R.out.bel.size))
end Go.Proofs.YtjibdoofogmkcaaGreatDoor
end
