/-
  The walk of Light.
  RegexParts: the matches of any pattern ascend and lie in the text, and the parts of Split and the matches that are not empty are the text by turns. No condition.
-/
import Derived.Test.YtfgghbideoehjaaLitCToLitF
import Derived.Test.YtfgghbideoehjaaWmKToPrtS
import Derived.Test.YtfgghbideoehjaaPrtR
namespace Go.Proofs.Ytfgghbideoehjaa
open Go.ChangeShapes Go.WideShapes Go.ChangeAt Go.RowKit
set_option linter.unusedVariables false
set_option linter.unusedSimpArgs false
set_option maxRecDepth 100000

/-- What Light answers. -/
def LightP (p s : ByteArray) (e : Ending) : Prop := ∃ b, e = .returned (.bool b) ∧ (b = true → p.size ≤ 40 ∧ s.size ≤ 60)
theorem light_mk {p s : ByteArray} (b : Bool) (h : b = true → p.size ≤ 40 ∧ s.size ≤ 60) : LightP p s (.returned (.bool b)) := ⟨b, rfl, h⟩

set_option maxHeartbeats 4000000 in
theorem light_any (w : World) (p s : ByteArray) : Calls Try.prog 8 #[.string p, .string s] w fun e w' => LightP p s e ∧ w' = w := by
  have hby := get_byte p
  by_cases hp : ¬ p.size ≤ 40
  · have t1 : (p.size : Int) > 40 := by omega
    go_enter Try.func8, Try.ntmps8
    go_wp2
    go_ret
    first | exact ⟨light_mk false (fun h => (by cases h)), rfl⟩ | exact light_mk false (fun h => (by cases h))
  replace hp : p.size ≤ 40 := (by omega)
  by_cases hs : ¬ s.size ≤ 60
  · have t1 : ¬ (p.size : Int) > 40 := by omega
    have t2 : (s.size : Int) > 60 := by omega
    go_enter Try.func8, Try.ntmps8
    go_wp2
    go_ret
    first | exact ⟨light_mk false (fun h => (by cases h)), rfl⟩ | exact light_mk false (fun h => (by cases h))
  replace hs : s.size ≤ 60 := (by omega)
  have t1 : ¬ (p.size : Int) > 40 := by omega
  have t2 : ¬ (s.size : Int) > 60 := by omega
  go_enter Try.func8, Try.ntmps8
  go_wp2
  go_loopg [5, 6] (p.size + 1) (fun k bv iv wr => ∃ (i : Nat) (b : Bool), bv = .bool b ∧ iv = .int .i64 ((i + 1 : Nat) : Int) ∧ k = p.size + 1 - i ∧ i ≤ p.size ∧ wr = w)
  case atStart => exact ⟨0, false, rfl, rfl, rfl, Nat.zero_le _, rfl⟩
  case round =>
    obtain ⟨i, b, rfl, rfl, hk, hi, rfl⟩ := hrel
    have HK := Lib.hid hk
    clear hk
    by_cases hlt : i + 1 < p.size
    · have t3 : ((i + 1 : Nat) : Int) < (p.size : Int) := by omega
      have t4 : ((i + 1 : Nat) : Int) - 1 = (i : Int) := by omega
      have t5 : i < p.size := by omega
      cases b with
      | true =>
        go_wp2
        go_roundg (p.size + 1 - (i + 1))
        case measure => rw [HK.out]; omega
        case rel => exact ⟨i + 1, true, rfl, by go_num, rfl, by omega, rfl⟩
      | false =>
        by_cases h1 : byte p i = 92
        · have u1 : (byte p i : Int) = 92 := by omega
          by_cases h2 : 49 ≤ byte p (i + 1)
          · have u2 : (byte p (i + 1) : Int) ≥ 49 := by omega
            by_cases h3 : byte p (i + 1) ≤ 57
            · have u3 : (byte p (i + 1) : Int) ≤ 57 := by omega
              go_wp2
              go_roundg (p.size + 1 - (i + 1))
              case measure => rw [HK.out]; omega
              case rel => exact ⟨i + 1, true, rfl, by go_num, rfl, by omega, rfl⟩
            · have u3 : ¬ (byte p (i + 1) : Int) ≤ 57 := by omega
              go_wp2
              go_roundg (p.size + 1 - (i + 1))
              case measure => rw [HK.out]; omega
              case rel => exact ⟨i + 1, false, rfl, by go_num, rfl, by omega, rfl⟩
          · have u2 : ¬ (byte p (i + 1) : Int) ≥ 49 := by omega
            go_wp2
            go_roundg (p.size + 1 - (i + 1))
            case measure => rw [HK.out]; omega
            case rel => exact ⟨i + 1, false, rfl, by go_num, rfl, by omega, rfl⟩
        · have u1 : ¬ (byte p i : Int) = 92 := by omega
          go_wp2
          go_roundg (p.size + 1 - (i + 1))
          case measure => rw [HK.out]; omega
          case rel => exact ⟨i + 1, false, rfl, by go_num, rfl, by omega, rfl⟩
    · have t3 : ¬ ((i + 1 : Nat) : Int) < (p.size : Int) := by omega
      cases b with
      | false =>
        go_wp2
        go_ret
        first | exact ⟨light_mk true (fun _ => ⟨hp, hs⟩), rfl⟩ | exact light_mk true (fun _ => ⟨hp, hs⟩)
      | true =>
        by_cases h1 : p.size ≤ 24
        · have u1 : (p.size : Int) ≤ 24 := by omega
          by_cases h2 : s.size ≤ 10
          · have u2 : (s.size : Int) ≤ 10 := by omega
            go_wp2
            go_ret
            first | exact ⟨light_mk true (fun _ => ⟨hp, hs⟩), rfl⟩ | exact light_mk true (fun _ => ⟨hp, hs⟩)
          · have u2 : ¬ (s.size : Int) ≤ 10 := by omega
            go_wp2
            go_ret
            first | exact ⟨light_mk false (fun h => (by cases h)), rfl⟩ | exact light_mk false (fun h => (by cases h))
        · have u1 : ¬ (p.size : Int) ≤ 24 := by omega
          go_wp2
          go_ret
          first | exact ⟨light_mk false (fun h => (by cases h)), rfl⟩ | exact light_mk false (fun h => (by cases h))

end Go.Proofs.Ytfgghbideoehjaa

namespace Go.Proofs.Ytfgghbideoehjaa
open Go.ChangeShapes Go.WideShapes Go.ChangeAt Go.RowKit
set_option linter.unusedVariables false
set_option linter.unusedSimpArgs false
set_option maxRecDepth 100000

def AwakeGood : Prop := ∀ w : World, Calls Try.prog 10 #[] w fun e w' => e = .returned (.bool true) ∧ Below w.heap.size w w'

theorem ext_app (s : ByteArray) {a b c : Nat} (h : a ≤ b) (h2 : b ≤ c) (h3 : c ≤ s.size) : s.extract a b ++ s.extract b c = s.extract a c := by
  apply ByteArray.ext
  have h4 : s.size = s.data.size := rfl
  rw [ByteArray.data_append]
  simp only [ByteArray.data_extract]
  rw [Array.extract_append_extract, Nat.min_eq_left h, Nat.max_eq_right h2]
theorem ext_all (s : ByteArray) : s.extract 0 s.size = s := by
  apply ByteArray.ext
  rw [ByteArray.data_extract]
  exact Array.extract_size

set_option maxHeartbeats 8000000 in
theorem parts_any (hA : AwakeGood) (w : World) (p s : ByteArray) (fl ln : Bool) :
    Calls Try.prog 6 #[.string p, .string s, .bool fl, .bool ln] w fun e w' => e = .returned (.bool true) ∧ Below w.heap.size w w' := by
  have HA := Lib.hid hA
  clear hA
  go_enter Try.func6, Try.ntmps6
  go_wp2_with (fail)
  refine (light_any w p s).mono ?_
  rintro e w0 ⟨⟨b, rfl, hb⟩, rfl⟩
  dsimp only
  cases b
  · clear hb
    go_wp2_with (fail)
    refine (HA.out _).mono ?_
    rintro e w9 ⟨rfl, hb9⟩
    dsimp only
    have HB9 := Lib.hid hb9
    clear hb9
    go_wp2
    go_ret
    exact ⟨rfl, HB9.out⟩
  · obtain ⟨hp, hs⟩ := hb rfl
    clear hb
    cases hr : readOf p with
    | err k c =>
      have hc := read_err hr
      have t1 : ((c : Int) == 0) = false := by simp; omega
      have t2 : c ≠ 0 := by omega
      have HE := Lib.hid (all_err · p s fl ln (by omega) hr : ∀ w, _)
      have HS := Lib.hid (split_err · p s fl ln (by omega) hr : ∀ w, _)
      clear hr hc
      go_wp2_with (fail)
      refine (HE.out w0).mono ?_
      rintro e w1 ⟨rfl, hb1⟩
      dsimp only
      have HB1 := Lib.hid hb1
      clear hb1
      go_wp2_with (fail)
      refine (HS.out w1).mono ?_
      rintro e w2 ⟨rfl, hb2⟩
      dsimp only
      have HB2 := Lib.hid hb2
      clear hb2
      go_wp2_with (fail)
      refine (HA.out _).mono ?_
      rintro e w9 ⟨rfl, hb9⟩
      dsimp only
      have HB9 := Lib.hid hb9
      clear hb9
      go_wp2
      go_ret
      have h12 := HB1.out.trans (HB2.out.mono HB1.out.size)
      exact ⟨rfl, h12.trans (HB9.out.mono h12.size)⟩
    | ok fin deep =>
      have hP := patG_of (by omega) hr
      obtain ⟨D, hD⟩ := mach_found hP fl ln hs
      obtain ⟨L, hL⟩ := gall_ends hD _ 0 (Nat.le_refl _)
      have HASC := Lib.hid (show Asc s.size 0 L from gall_asc hL)
      have hLl : L.length ≤ 61 := by have h := gall_len hL; have : (fin.mc fl ln s).s = s := rfl; rw [this] at h; omega
      have HE := Lib.hid fun w => all_ok w p s fl ln fin deep hP hs D L hL
      have HS := Lib.hid fun w => split_ok w p s fl ln fin deep hP hs D L hL
      clear hr hP hD hL
      go_wp2_with (fail)
      refine (HE.out w0).mono ?_
      rintro e w1 ⟨v, vs, rfl, hrow, hrows, hb1⟩
      dsimp only
      obtain ⟨ra, rc, rfl⟩ := ownsRow_slice hrow
      have HB1 := Lib.hid hb1
      have HROW := Lib.hid hrow
      have HROWS := Lib.hid hrows
      clear hb1 hrow hrows
      go_wp2_with (fail)
      refine (HS.out w1).mono ?_
      rintro e w2 ⟨pv, rfl, hpr, hb2⟩
      dsimp only
      obtain ⟨pa, pc, rfl⟩ := ownsRow_slice hpr
      have HB2 := Lib.hid hb2
      have HPR := Lib.hid hpr
      clear hb2 hpr HE HS
      have hpl : (partsOf s 0 L).length ≤ 62 := parts_len s 0 L |> fun h => by omega
      generalize hPP : partsOf s 0 L = PP at *
      go_wp2_with (fail)
      go_loopw [13, 14, 15, 16, 54] (fun qv env atv outv iv wr => ∃ (j q en f a : Nat) (at' : Int) (acc : List ByteArray), iv = .int .i64 (j : Int) ∧ qv = .int .i64 (q : Int) ∧ env = .int .i64 (en : Int) ∧ atv = .int .i64 at' ∧ outv = .string (s.extract 0 a) ∧ j ≤ L.length ∧ en ≤ f ∧ at' < (f : Int) ∧ a ≤ f ∧ a ≤ s.size ∧ Asc s.size f (L.drop j) ∧ acc ++ partsOf s a (L.drop j) = PP ∧ acc.length = q ∧ q ≤ j ∧ (∃ m, wr = w2.drewN m)) (fun qv env atv outv iv wr => L.length - (intOf iv).toNat)
      case atStart => exact ⟨0, 0, 0, 0, 0, -1, [], rfl, rfl, rfl, rfl, by rw [show s.extract 0 0 = ⟨#[]⟩ from by apply ByteArray.ext; simp [ByteArray.data_extract]], Nat.zero_le _, Nat.le_refl _, by omega, Nat.le_refl _, Nat.zero_le _, HASC.out, hPP, rfl, Nat.le_refl _, 0, rfl⟩
      case round =>
        obtain ⟨j, q, en, f, a, at', acc, rfl, rfl, rfl, rfl, rfl, hj, hen, hat, haf, haz, hasc, hacc, hq, hqj, m, rfl⟩ := hrel
        by_cases hlt : j < L.length
        · obtain ⟨gs, i, e, hgk, hd, h0, h1, hi, he, hz, hn⟩ := asc_at hasc hlt
          obtain ⟨x, hx⟩ : ∃ x, vs[j]? = some x := ⟨_, List.getElem?_eq_getElem (by have := HROW.out.1; omega)⟩
          have hr := HROWS.out j x gs hx hgk
          obtain ⟨g, c, rfl⟩ := ownsRow_succ' hr
          have hge : ∃ ga gc, (Value.slice ra L.length rc) = .slice (some ⟨ga, 0, none⟩) L.length gc := by
            rcases HROW.out.2 with ⟨h, h0⟩ | ⟨g, cap, cur, h, _⟩
            · omega
            · exact ⟨g, cap, h⟩
          obtain ⟨ga, gc, hge⟩ := hge
          cases hge
          have hx1 : w2.cell? ⟨ga, j, none⟩ = some (.slice (some ⟨g, 0, none⟩) (fin.groups + 1) c) := by
            rw [HB2.out.cell (p := ⟨ga, j, none⟩) (World.ownsRow.lt HROW.out ga rfl).2, HROW.out.cellAt j (by omega), hx]
          have hgl := (World.ownsRow.lt hr g rfl).2
          have y0 : w2.cell? ⟨g, 0, none⟩ = some (.int .i64 (i : Int)) := by
            rw [HB2.out.cell (p := ⟨g, 0, none⟩) hgl, World.ownsRow.cellAt hr 0 (by omega), List.getElem?_map, h0]; rfl
          have y1 : w2.cell? ⟨g, 1, none⟩ = some (.int .i64 (e : Int)) := by
            rw [HB2.out.cell (p := ⟨g, 1, none⟩) hgl, World.ownsRow.cellAt hr 1 (by omega), List.getElem?_map, h1]; rfl
          have t1 : (j : Int) < (L.length : Int) := by omega
          obtain ⟨n1, hn1⟩ : ∃ n1, fin.groups + 1 = n1 := ⟨_, rfl⟩
          rw [hn1] at hx1
          have hgi : (0 : Int) < ((n1 : Nat) : Int) := by omega
          have hgi2 : 0 < n1 := by omega
          have hge0 : (((n1 : Nat) : Int) == 0) = false := by simp; omega
          have hge1 : ¬ (n1 = 0) := by omega
          have hge2 : decide (n1 = 0) = false := decide_eq_false hge1
          have hge3 : decide (((n1 : Nat) : Int) = 0) = false := decide_eq_false (by omega)
          clear hn1
          have c1 : ¬ ((i : Int) < (en : Int)) := by omega
          have c2 : ¬ ((e : Int) < (i : Int)) := by omega
          have c3 : ¬ ((e : Int) > (s.size : Int)) := by omega
          have c4 : ¬ ((i : Int) ≤ at') := by omega
          have d1 := decide_eq_false c1
          have d2 := decide_eq_false c2
          have d3 := decide_eq_false c3
          have d3b : decide ((s.size : Int) < (e : Int)) = false := decide_eq_false (by omega)
          have d4 := decide_eq_false c4
          have n1' : decide (i < en) = false := decide_eq_false (by omega)
          have n2' : decide (e < i) = false := decide_eq_false (by omega)
          have n3' : decide (s.size < e) = false := decide_eq_false (by omega)
          rw [hd] at hacc
          have HN := Lib.hid hn
          have HACC := Lib.hid hacc
          have H01 := Lib.hid (And.intro h0 h1)
          clear hasc hd h0 h1 hn hacc hr hx hgk
          by_cases hie : i < e
          · have e3 : ((i : Int) == (e : Int)) = false := by simp; omega
            have hacc2 := HACC.out
            rw [partsOf_lt H01.out.1 H01.out.2 hie] at hacc2
            have hn2 := HN.out
            rw [if_neg (by omega)] at hn2
            have hpq : PP[q]? = some (s.extract a i) := by rw [← hacc2, List.getElem?_append_right (by omega), hq]; simp
            have hqp : q < PP.length := (List.getElem?_eq_some_iff.1 hpq).1
            obtain ⟨pg, pgc, hpe⟩ : ∃ pg pgc, (Value.slice pa PP.length pc) = .slice (some ⟨pg, 0, none⟩) PP.length pgc := by
              rcases HPR.out.2 with ⟨h, h0⟩ | ⟨g, cap, cur, h, _⟩
              · omega
              · exact ⟨g, cap, h⟩
            cases hpe
            have z0 : w2.cell? ⟨pg, q, none⟩ = some (.string (s.extract a i)) := by
              rw [World.ownsRow.cellAt HPR.out q (by omega), List.getElem?_map, hpq]; rfl
            have c5 : ¬ ((q : Int) ≥ (PP.length : Int)) := by omega
            have c6 : (q : Int) < (PP.length : Int) := by omega
            have hsl : ∀ wx : World, (Instr.slice 9 (.string s) (some (.int .i64 (i : Int))) (some (.int .i64 (e : Int))) none).run Try.prog wx = .ok (.string (s.extract i e)) wx := fun wx => by
              have := run_slice_string (P := Try.prog) wx 9 s .i64 .i64 (i : Int) (e : Int) Try.underlying9 (by omega) (by omega) (by omega)
              rw [this, Int.toNat_natCast, Int.toNat_natCast]
            have hcat : s.extract 0 a ++ (s.extract a i ++ s.extract i e) = s.extract 0 e := by
              rw [ext_app s (by omega) he hz, ext_app s (by omega) (by omega) hz]
            have hacc3 : (acc ++ [s.extract a i]) ++ partsOf s e (L.drop (j + 1)) = PP := by simpa using hacc2
            have HX := Lib.hid (And.intro hacc3 hn2)
            have HCAT := Lib.hid hcat
            clear hacc2 hacc3 hn2 hpq hcat
            go_wp2_with (fail)
            go_quiet (fail)
            go_wp2_with (fail)
            go_quiet (fail)
            go_wp2_with (fail)
            go_quiet (fail)
            go_wp2_with (fail)
            go_quiet (fail)
            go_wp2_with (fail)
            go_roundw
            case rel => exact ⟨j + 1, q + 1, e, _, e, (i : Int), acc ++ [s.extract a i], by go_num, by go_num, rfl, rfl, by rw [Nat.min_eq_left (show a ≤ i by omega), ext_app s (Nat.zero_le _) (show a ≤ e by omega) hz], by omega, Nat.le_refl _, by omega, Nat.le_refl _, hz, HX.out.2, HX.out.1, by simp; omega, by omega, _, rfl⟩
            case measure => simp [intOf]; omega
          · obtain rfl : i = e := by omega
            have hacc2 := HACC.out
            rw [partsOf_eq H01.out.1 H01.out.2] at hacc2
            have hn2 := HN.out
            rw [if_pos rfl] at hn2
            have HX := Lib.hid (And.intro hacc2 hn2)
            clear hacc2 hn2
            go_wp2_with (fail)
            go_quiet (fail)
            go_wp2_with (fail)
            go_quiet (fail)
            go_wp2_with (fail)
            go_quiet (fail)
            go_wp2_with (fail)
            go_roundw
            case rel => exact ⟨j + 1, q, i, _, a, (i : Int), acc, by go_num, rfl, rfl, rfl, rfl, by omega, by omega, by omega, by omega, haz, HX.out.2, HX.out.1, hq, by omega, _, rfl⟩
            case measure => simp [intOf]; omega
        · have t1 : ¬ (j : Int) < (L.length : Int) := by omega
          obtain rfl : j = L.length := by omega
          rw [List.drop_length, partsOf_nil] at hacc
          have hpq : PP[q]? = some (s.extract a s.size) := by rw [← hacc, List.getElem?_append_right (by omega), hq]; simp
          have hqp : q + 1 = PP.length := by rw [← hacc]; simp; omega
          obtain ⟨pg, pgc, hpe⟩ : ∃ pg pgc, (Value.slice pa PP.length pc) = .slice (some ⟨pg, 0, none⟩) PP.length pgc := by
            rcases HPR.out.2 with ⟨h, h0⟩ | ⟨g, cap, cur, h, _⟩
            · omega
            · exact ⟨g, cap, h⟩
          cases hpe
          have z0 : w2.cell? ⟨pg, q, none⟩ = some (.string (s.extract a s.size)) := by
            rw [World.ownsRow.cellAt HPR.out q (by omega), List.getElem?_map, hpq]; rfl
          have c6 : (q : Int) < (PP.length : Int) := by omega
          have c7 : ((q : Int) == (PP.length : Int) - 1) = true := by simp; omega
          have hcat : s.extract 0 a ++ s.extract a s.size = s := by rw [ext_app s (Nat.zero_le _) haz (Nat.le_refl _), ext_all]
          clear hacc hasc hpq
          go_wp2_with (fail)
          refine (HA.out _).mono ?_
          rintro e w9 ⟨rfl, hb9⟩
          dsimp only
          have HB9 := Lib.hid hb9
          clear hb9
          go_wp2
          go_ret
          have h12 := below_drewN (HB1.out.trans (HB2.out.mono HB1.out.size)) m
          exact ⟨rfl, h12.trans (HB9.out.mono h12.size)⟩

end Go.Proofs.Ytfgghbideoehjaa

namespace Go.Proofs.Ytfgghbideoehjaa
open Go.ChangeShapes Go.WideShapes Go.ChangeAt Go.RowKit
open Go.ChangeMaps (open_string shut_string)
set_option linter.unusedVariables false

theorem Parts.own : ownKnob Try.prog.godebug = none := by kernel_rfl
theorem Parts.awake_ok : AwakeGood := fun w => awake_any replace_ex w

set_option maxRecDepth 100000 in
theorem parts_lifted (os : Os) (started : os.Started) (H : Type) (enc : TypeId × Value → H) :
    ReturnsInHanded {} Try.checked os 6 .any (Rows.regexPartsSpec.pre6 enc Try.prog Try.f6 Rows.regexPartsRow.domain false) (Rows.regexPartsSpec.post enc Try.prog Try.f6 false true false false) := by
  refine returnsInHanded_of_change (C := Try.checked) Parts.own started (by kernel_rfl) Try.func6
    (ChangeSpec.witness6 (enc := enc) (C := Try.checked) false ⟨#[], #[.string ⟨#[]⟩, .string ⟨#[]⟩, .bool false, .bool false], []⟩ 8 (by kernel_rfl) (by kernel_rfl) (by kernel_rfl) (by kernel_rfl)) ?_
  intro W base args ds gs before hval0 hW hcnd _
  have hval : ∀ (j : Nat) t v, Try.f6.params[j]? = some t → args[j]? = some v → Value.okWide Try.prog W .any base t v := hval0
  have hW' := hW
  obtain ⟨p, q, hA0, hV, rfl, hfz, hnd⟩ := hW
  have hA : DataW.TrodAll enc Try.prog W 0 (fun _ => true) true Try.f6.params.toList args.toList ds p := hA0
  rw [Try.params6] at hA hval
  obtain ⟨v0, v1, v2, v3, d0, d1, d2, d3, p0, p1, p2, p3, rfl, rfl, rfl, h0, h1, h2, h3⟩ := trodAll_four hA
  obtain ⟨rfl, rfl⟩ := trodVars_none hV
  obtain ⟨s0, rfl, rfl, rfl, z0⟩ := open_string Try.underlying9 (hval 0 9 v0 rfl rfl) h0
  obtain ⟨s1, rfl, rfl, rfl, z1⟩ := open_string Try.underlying9 (hval 1 9 v1 rfl rfl) h1
  obtain ⟨fl, rfl, rfl, rfl⟩ := open_bool Try.underlying4 (hval 2 4 v2 rfl rfl) h2
  obtain ⟨ln, rfl, rfl, rfl⟩ := open_bool Try.underlying4 (hval 3 4 v3 rfl rfl) h3
  clear hA0 hval0
  simp only [List.append_nil] at hW'
  refine (parts_any Parts.awake_ok W s0 s1 fl ln).mono fun e W' ⟨he, hb⟩ => ?_
  subst he
  exact ⟨_, rfl, _, _, _, [], [], [], hW', trodAll_mk1 (shut_bool Try.underlying4 true), trodAll_mk4 (shut_string Try.underlying9 z0) (shut_string Try.underlying9 z1) (shut_bool Try.underlying4 fl) (shut_bool Try.underlying4 ln), rfl, hb.frame _, fun h => by cases h⟩

theorem parts_holds : Rows.RegexPartsSaid :=
  OpenClaim.holds_of_wide 6 Try.f6 rfl rfl rfl rfl rfl rfl rfl ⟨rfl, rfl, rfl, rfl, rfl⟩ rfl rfl rfl rfl rfl (by kernel_rfl) Try.func6 (by kernel_rfl)
    (of_decide_eq_true (by kernel_rfl)) (by unfold Func.isWrapper; first | (rw [if_pos (by decide +kernel)]; kernel_rfl) | (rw [if_neg (by decide +kernel)]; exact ⟨rfl, rfl⟩))
    (fun os started H enc _ => parts_lifted os started H enc)

#print axioms parts_holds

end Go.Proofs.Ytfgghbideoehjaa
