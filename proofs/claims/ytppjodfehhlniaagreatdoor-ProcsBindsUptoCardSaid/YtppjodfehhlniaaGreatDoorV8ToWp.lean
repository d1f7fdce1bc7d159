/-
  Texts joined: the program's way; The program's Bind; The document's reader of elements; The document's reader of elements: quoted and bare ones; The d. Conditions: none.
-/
import Derived.Test.YtppjodfehhlniaaGreatDoorV28aToV8r
import Derived.Test.YtppjodfehhlniaaGreatDoorV31aToV31
import Derived.Test.YtppjodfehhlniaaGreatDoorV6aToV26
import Derived.Test.YtppjodfehhlniaaGreatDoorV4ToV31r
import Derived.Test.YtppjodfehhlniaaGreatDoorWkToV2
import Derived.Maps.AppendAt
set_option linter.unusedVariables false
set_option linter.unusedSimpArgs false
set_option linter.unusedSectionVars false
set_option linter.deprecated false
section
namespace Go.Proofs.YtppjodfehhlniaaGreatDoor
open Go.ChangeShapes Go.WideShapes Go.ChangeAt Go.RowKit
set_option maxRecDepth 100000
theorem ztx (l : List UInt8) : Lib.byteCells l ++ [.int .u8 32] = Lib.byteCells (l ++ [32]) := by
 unfold Lib.byteCells
 rw [List.map_append]
 rfl
theorem zmS (l : List UInt8) (y : ByteArray) : Lib.byteCells l ++ Lib.strCells y = Lib.byteCells (l ++ L y) := by
 have h := ziP l (L y)
 rw [show (⟨(L y).toArray⟩ : ByteArray) = y from by cases y; simp [L]] at h
 exact h
set_option maxHeartbeats 4000000 in
theorem zhF (m : Int) (hquo : ∀ (s : ByteArray), s.size ≤ 1000000 → ∀ w : World, w.cell? ⟨2, 0, none⟩ = some (.int .i64 m) → Calls Tryz.prog 41 #[.string s] w fun e w' => QuoR w s e w')
  (w : World) (hm : w.cell? ⟨2, 0, none⟩ = some (.int .i64 m)) (u : Value) (l : List (List UInt8)) (hu : StrRow w u l) (hl : sumL l ≤ 2000) :
  Calls Tryz.prog 20 #[u] w fun e w' => zvI w l e w' := by
 obtain ⟨a, c, rfl, ha⟩ := hu.form
 have HA := Lib.hid ha
 have HQ := Lib.hid hquo
 have HSL := Lib.hid hl
 have HM := Lib.hid hm
 have hlen := zlc l
 have t0 : ¬ (l.length : Int) > 10000 := by omega
 obtain ⟨A, hA, sA, aN, aO, bA⟩ := zaH w #[.pointer none, .slice none 0 0] 80
 have hbld : Lib.IsBuilder 80 5 w.heap.size w.heap.size (Lib.byteCells []) A := by rw [← hA]; exact Lib.fresh_isBuilder 80 5 w
 have HAA := Lib.hid hA
 have HB := Lib.hid bA
 have HL := Lib.hid hbld
 clear hA sA aN aO bA hbld ha hu hquo hl hlen hm
 go_enter Tryz.func20, Tryz.ntmps20
 go_wp2
 rw [HAA.out]
 go_loopg [12] l.length (fun k iv wr => ∃ (i : Nat), iv = .int .i64 (i : Int) ∧ k = l.length - i ∧ i ≤ l.length ∧ Lib.IsBuilder 80 5 w.heap.size w.heap.size (Lib.byteCells (zbY (l.take i))) wr ∧ Below w.heap.size w wr)
 case atStart => exact ⟨0, rfl, rfl, Nat.zero_le _, HL.out, HB.out⟩
 case round =>
  obtain ⟨i, rfl, hk, hi, hbd, hbel⟩ := hrel
  have HK := Lib.hid hk
  have HBD := Lib.hid hbd
  have HBEL := Lib.hid hbel
  have hsz := hbel.size
  have hacc : (Lib.byteCells (zbY (l.take i))).length ≤ 6000 := by
   have h1 := zmJ (l.take i)
   have h2 := zmK l i
   have h3 := HSL.out
   rw [Lib.byteCells_length]; omega
  clear hk hbd
  by_cases hlt : i < l.length
  ·have t2 : (i : Int) < (l.length : Int) := by omega
   obtain ⟨x, hx⟩ : ∃ x, l[i]? = some x := ⟨_, List.getElem?_eq_getElem hlt⟩
   obtain ⟨p, rfl, hp⟩ := HA.out i x hx
   have c1 := zaf hp hbel
   have hm1 := zaf HM.out hbel
   unfold strV at c1
   have HX := Lib.hid (zka hx)
   have hxs : x.length ≤ 2000 := by
    have h1 := zpg (List.mem_of_getElem? hx)
    have h3 := HSL.out
    omega
   have hxz : (⟨x.toArray⟩ : ByteArray).size ≤ 1000000 := by rw [zf9]; omega
   have t4 : ¬ ((⟨x.toArray⟩ : ByteArray).size : Int) > 65536 := by rw [zf9]; omega
   have HM1 := Lib.hid hm1
   clear hx hp hbel hm1
   by_cases h0 : i = 0
   ·have t3 : ¬ (i : Int) > 0 := by omega
    have H0 := Lib.hid h0
    clear h0
    go_wp2_with (go_at_call 41; refine (HQ.out _ hxz _ HM1.out).mono ?_; rintro e w1 ⟨⟨y, rfl, hy⟩, hb1⟩; have HY := Lib.hid hy; have HB1 := Lib.hid hb1; have hyl : y.size ≤ 6000 := (by rw [← za7, hy]; have := zgd (L ⟨x.toArray⟩); rw [L_mk] at this ⊢; omega); have hs1 := hb1.size; clear hy hb1)
    refine (zb6 w.heap.size w.heap.size _ y w1 (zb7 HBD.out HB1.out) (by omega) (by omega)).mono ?_
    rintro e w3 ⟨rfl, hb3, hl3⟩
    dsimp only
    rw [zmS] at hb3
    have HB3 := Lib.hid (show Lib.IsBuilder 80 5 w.heap.size w.heap.size _ w3 from .inr hb3)
    have HL3 := Lib.hid hl3
    obtain ⟨N, hN⟩ : ∃ N, (Lib.byteCells (zbY (List.take i l) ++ L y)).length = N := ⟨_, rfl⟩
    have hlen3 : N ≤ 13000 := by rw [← hN]; rw [Lib.byteCells_length, List.length_append, za7]; rw [Lib.byteCells_length] at hacc; omega
    have t5 : ¬ (N : Int) > 65536 := by omega
    have HN := Lib.hid hN
    clear hN
    clear hb3 hl3
    go_wp2_with (go_at_call 42; refine (Tryz.Builder_Len w.heap.size w.heap.size _ w3 HB3.out).mono ?_; rintro e w4 ⟨he, rfl⟩; rw [HN.out] at he; subst he)
    go_roundg (l.length - (i + 1))
    case measure => rw [HK.out]; omega
    case rel =>
     refine ⟨i + 1, by go_num, rfl, by omega, ?_, HBEL.out.trans ((HB1.out.mono hsz).trans HL3.out)⟩
     rw [HX.out, if_pos H0.out, List.nil_append]
     have h9 := HB3.out
     rw [HY.out, show List.take i l = [] by rw [H0.out]; rfl, show zbY [] = [] from rfl, List.nil_append, L_mk] at h9
     exact h9
   ·have t3 : (i : Int) > 0 := by omega
    have H0 := Lib.hid h0
    clear h0
    go_wp2_with (fail)
    refine (zao w.heap.size w.heap.size _ 32 wr HBD.out (by omega) (by omega)).mono ?_
    rintro e w2 ⟨rfl, hb2, hl2⟩
    dsimp only
    rw [ztx] at hb2
    have HB2 := Lib.hid (show Lib.IsBuilder 80 5 w.heap.size w.heap.size _ w2 from .inr hb2)
    have HL2 := Lib.hid hl2
    have hs2 := hl2.size
    have hm2 := zaf HM.out (HBEL.out.trans hl2)
    have HM2 := Lib.hid hm2
    clear hb2 hl2 hm2
    go_wp2_with (go_at_call 41; refine (HQ.out _ hxz _ HM2.out).mono ?_; rintro e w1 ⟨⟨y, rfl, hy⟩, hb1⟩; have HY := Lib.hid hy; have HB1 := Lib.hid hb1; have hyl : y.size ≤ 6000 := (by rw [← za7, hy]; have := zgd (L ⟨x.toArray⟩); rw [L_mk] at this ⊢; omega); have hs1 := hb1.size; clear hy hb1)
    refine (zb6 w.heap.size w.heap.size _ y w1 (zb7 HB2.out HB1.out) (by rw [Lib.byteCells_length, List.length_append]; rw [Lib.byteCells_length] at hacc; simp only [List.length_cons, List.length_nil]; omega) (by omega)).mono ?_
    rintro e w3 ⟨rfl, hb3, hl3⟩
    dsimp only
    rw [zmS] at hb3
    have HB3 := Lib.hid (show Lib.IsBuilder 80 5 w.heap.size w.heap.size _ w3 from .inr hb3)
    have HL3 := Lib.hid hl3
    obtain ⟨N, hN⟩ : ∃ N, (Lib.byteCells (zbY (List.take i l) ++ [32] ++ L y)).length = N := ⟨_, rfl⟩
    have hlen3 : N ≤ 13000 := by rw [← hN]; rw [Lib.byteCells_length, List.length_append, List.length_append, za7]; rw [Lib.byteCells_length] at hacc; simp only [List.length_cons, List.length_nil]; omega
    have t5 : ¬ (N : Int) > 65536 := by omega
    have HN := Lib.hid hN
    clear hN
    clear hb3 hl3
    go_wp2_with (go_at_call 42; refine (Tryz.Builder_Len w.heap.size w.heap.size _ w3 HB3.out).mono ?_; rintro e w4 ⟨he, rfl⟩; rw [HN.out] at he; subst he)
    go_roundg (l.length - (i + 1))
    case measure => rw [HK.out]; omega
    case rel =>
     refine ⟨i + 1, by go_num, rfl, by omega, ?_, (HBEL.out.trans HL2.out).trans ((HB1.out.mono (by omega)).trans HL3.out)⟩
     rw [HX.out, if_neg H0.out]
     have h9 := HB3.out
     rw [HY.out, L_mk] at h9
     exact h9
  ·have t2 : ¬ (i : Int) < (l.length : Int) := by omega
   have hie : l.take i = l := List.take_of_length_le (by omega)
   rw [hie] at HBD
   clear hbel
   go_wp2_with (fail)
   refine (Tryz.Builder_String_any w.heap.size w.heap.size _ wr HBD.out hsz).mono ?_
   rintro e w' ⟨rfl, hb2⟩
   dsimp only
   have HB2 := Lib.hid hb2
   clear hb2
   go_wp2
   go_ret2
   exact ⟨⟨_, rfl, rfl⟩, HBEL.out.trans HB2.out⟩
end Go.Proofs.YtppjodfehhlniaaGreatDoor
end
section
namespace Go.Proofs.YtppjodfehhlniaaGreatDoor
open Go.ChangeShapes Go.WideShapes Go.ChangeAt Go.RowKit
set_option maxRecDepth 100000
def exG (os : List (List UInt8)) : Except Nat (List (List UInt8) × List (List UInt8)) → Except Nat (List (List UInt8) × List (List UInt8))
 | .error e => .error e
 | .ok r => .ok (os ++ r.1, r.2)
theorem zsb (x : Except Nat (List (List UInt8) × List (List UInt8))) : exG [] x = x := by cases x <;> rfl
theorem zlk (a b : List (List UInt8)) (x : Except Nat (List (List UInt8) × List (List UInt8))) : exG a (exG b x) = exG (a ++ b) x := by
 cases x
 ·rfl
 ·simp [exG]
theorem zue {p : Prm} {r : List Prm} {y : List UInt8} {ws : List (List UInt8)} : gets (p :: r) (y :: ws) = exG [y] (gets r ws) := by
 rw [zi0]; cases gets r ws <;> rfl
theorem zuf {p : Prm} {r : List Prm} (h : p.has = true) : gets (p :: r) [] = exG [p.other] (gets r []) := by
 rw [zli p r h]; cases gets r [] <;> rfl
theorem zll {α : Type} {l : List α} {i : Nat} {x : α} (h : l[i]? = some x) : l.drop i = x :: l.drop (i + 1) := by
 obtain ⟨hlt, he⟩ := List.getElem?_eq_some_iff.1 h
 rw [List.drop_eq_getElem_cons hlt, he]
theorem zsc : ∀ (l met : List (List UInt8)), prms met l ≠ .error 0
 | [], met, h => by simp [prms] at h
 | x :: r, met, h => by
   cases h1 : prm1 met x with
   | error e =>
     rw [zk5 h1] at h
     have := zn3 h1
     cases h
     omega
   | ok p =>
     rw [zk6 h1] at h
     cases h2 : prms (p.name :: met) r with
     | error e =>
       rw [h2] at h
       simp [zgL] at h
       subst h
       exact zsc r _ h2
     | ok q => rw [h2] at h; cases h
theorem zi5 {w : World} {T : Nat} {v : Value} {bs : List Bool} (h : w.ownsRow T 4 1 v bs.length (bs.map .bool)) : ∃ a c, v = .slice a bs.length c ∧ ∀ i x, bs[i]? = some x → ∃ p, a = some p ∧ w.cell? (p.add i) = some (.bool x) := by
 rcases h.2 with ⟨hv, h0⟩ | ⟨g, cap, cur, rfl, h1, h2, h3⟩
 ·exact ⟨none, 0, by rw [hv, h0], fun i x hi => by have := (List.getElem?_eq_some_iff.1 hi).1; omega⟩
 ·exact ⟨_, _, rfl, fun i x hi => ⟨_, rfl, h.cells (g := g) rfl i (.bool x) (by rw [List.getElem?_map, hi]; rfl)⟩⟩
theorem zsd {w : World} {T e n size : Nat} {ys : List Value} {v : Value} {a : Option Addr} {k c : Nat} (h : w.ownsRow T e size v n ys) (hv : v = .slice a k c) : k ≤ c := by
 rcases h.2 with ⟨h1, _⟩ | ⟨g, cap, cur, h1, _, _, h2, _⟩
 ·rw [h1] at hv; cases hv; exact Nat.le_refl _
 ·rw [h1] at hv; cases hv; exact h2
theorem zmT (w : World) (q : Addr) (c : Nat) : StrRow w (.slice (some q) 0 c) [] := .inr ⟨q, c, rfl, fun i t hi => by simp at hi⟩
theorem zot {w : World} {p : Addr} {c : Nat} {ws : List (List UInt8)} (h : StrRow w (.slice (some p) ws.length c) ws) (k : Nat) (hk : k ≤ ws.length) (q : Addr) (c' : Nat) (hq : k < ws.length → q = p.add k) : StrRow w (.slice (some q) (ws.length - k) c') (ws.drop k) := by
 rcases h with ⟨h, _⟩ | ⟨p', d, h1, h2⟩
 ·cases h
 ·cases h1
  refine .inr ⟨q, c', by rw [List.length_drop], fun i t hi => ?_⟩
  rw [List.getElem?_drop] at hi
  have hlt := (List.getElem?_eq_some_iff.1 hi).1
  rw [hq (by omega)]
  have := h2 _ t hi
  have e : (p.add k).add i = p.add (k + i) := by
   unfold Addr.add
   by_cases h0 : i = 0
   ·subst h0; simp
   ·by_cases h1 : k = 0
    ·subst h1; simp [h0]
    ·simp [h0, h1]; omega
  rw [e]; exact this
theorem zse (l : List (List UInt8)) (i : Nat) : sumL (l.drop i) ≤ sumL l := by
 have h : sumL (l.take i ++ l.drop i) = sumL (l.take i) + sumL (l.drop i) := by simp only [sumL, List.map_append, List.sum_append]
 rw [List.take_append_drop] at h
 omega
theorem BindR.bad {s : ByteArray} {ws : List (List UInt8)} {w w' : World} {k : Nat} (h : zbu (L s) = .error k) (hk : k ≠ 0) (hb : Below w.heap.size w w') : BindR s ws w (.returned (.tuple #[.slice none 0 0, .int .i64 (k : Int)])) w' :=
 ⟨hb, fun k' h' => (by rw [h] at h'; cases h'; exact ⟨hk, rfl⟩), fun ps h' => (by rw [h] at h'; cases h')⟩
theorem BindR.err {s : ByteArray} {ws : List (List UInt8)} {ps : List Prm} {w w' : World} {k : Nat} (h : zbu (L s) = .ok ps) (hl : ps.length ≤ 1000) (hb : zbS ps ws = .error k) (hk : k ≠ 0) (hw : Below w.heap.size w w') : BindR s ws w (.returned (.tuple #[.slice none 0 0, .int .i64 (k : Int)])) w' :=
 ⟨hw, fun k' h' => (by rw [h] at h'; cases h'), fun ps' h' => by
  rw [h] at h'; cases h'
  exact ⟨hl, fun k' h' => (by rw [hb] at h'; cases h'; exact ⟨hk, rfl⟩), fun q h' => (by rw [hb] at h'; cases h')⟩⟩
theorem BindR.good {s : ByteArray} {ws q : List (List UInt8)} {ps : List Prm} {w w' : World} {v : Value} (h : zbu (L s) = .ok ps) (hl : ps.length ≤ 1000) (hb : zbS ps ws = .ok q) (hv : OwnTx w' w.heap.size v q) (hw : Below w.heap.size w w') : BindR s ws w (.returned (.tuple #[v, .int .i64 0])) w' :=
 ⟨hw, fun k' h' => (by rw [h] at h'; cases h'), fun ps' h' => by
  rw [h] at h'; cases h'
  exact ⟨hl, fun k' h' => (by rw [hb] at h'; cases h'), fun q' h' => (by rw [hb] at h'; cases h'; exact ⟨_, rfl, hv⟩)⟩⟩
set_option maxHeartbeats 8000000 in
theorem zmU (m0 : Int) (s : ByteArray) (hs : s.size ≤ 1000) (wv : Value) (ws : List (List UInt8)) (w : World) (hm : w.cell? ⟨2, 0, none⟩ = some (.int .i64 m0)) (hws : StrRow w wv ws) (hcw : CapOk wv) (hsum : sumL ws ≤ 2000) :
  Calls Tryz.prog 9 #[.string s, wv] w fun e w' => BindR s ws w e w' := by
 obtain ⟨i0, hi0, hz0, hz1, hz2⟩ := info_parts zoe
 obtain ⟨xa, xc, rfl, hwa⟩ := hws.form
 have hcap := hcw _ _ _ rfl
 have HW := Lib.hid hws
 have HWA := Lib.hid hwa
 have HM := Lib.hid hm
 have hwl := zlc ws
 clear hws hwa hm hcw
 go_enter Tryz.func9, Tryz.ntmps9
 cases hp : zbu (L s) with
 | error k =>
   have hk : k ≠ 0 := by
    unfold zbu at hp
    cases hsp : spl (L s) with
    | none => rw [hsp] at hp; cases hp; decide
    | some xs =>
      rw [hsp] at hp
      dsimp only at hp
      intro e
      subst e
      exact zsc xs [] hp
   have hk1 : ((k : Int) != 0) = true := by simp; omega
   go_wp2_with (go_at_call 6; refine (zd5 m0 s hs _ HM.out).mono ?_; rintro e w1 hb; obtain ⟨_, rfl⟩ := hb.2.1 k hp; have HB := Lib.hid hb.1; clear hb; dsimp only)
   go_ret2
   exact BindR.bad hp hk HB.out
 | ok ps =>
   cases hr : restOf ps with
   | false =>
     go_wp2_with (go_at_call 6; refine (zd5 m0 s hs _ HM.out).mono ?_; rintro e w1 hb; obtain ⟨hpl, u, v, b, rfl, ht⟩ := hb.2.2 ps hp; rw [hr]; have HB := Lib.hid hb.1; obtain ⟨ua, uc, hu⟩ := zan ht.ru; have hucap := zsd ht.ru hu; rw [List.length_map] at hu; obtain ⟨va, vc, hv, hva⟩ := (OwnTx.str ht.rv).form; rw [List.length_map] at hv; obtain ⟨ba, bc, hbv, hba⟩ := zi5 ht.rb; rw [List.length_map] at hbv; subst hu hv hbv; have HVA := Lib.hid hva; have HBA := Lib.hid hba; clear hb ht hva hba; dsimp only)
     go_loopg [11, 35] (ps.length) (fun k ov iv wr => ∃ (i : Nat) (os : List (List UInt8)), iv = .int .i64 (i : Int) ∧ k = ps.length - i ∧ i ≤ ps.length ∧ os.length = i ∧ Below w1.heap.size w1 wr ∧ OwnTx wr w1.heap.size ov os ∧ gets (ps) ws = exG os (gets ((ps).drop i) (ws.drop i)))
     case atStart => exact ⟨0, [], rfl, rfl, Nat.zero_le _, rfl, Below.refl _ _, OwnTx.nil _ _, by rw [zsb]; rfl⟩
     case round =>
      obtain ⟨i, os, rfl, hk, hi, hol, hbel, ho, heq⟩ := hrel
      have HO := Lib.hid ho
      have HBL := Lib.hid hbel
      have HK := Lib.hid hk
      have HEQ := Lib.hid heq
      have hwr := HB.out.trans (hbel.mono HB.out.size)
      have HWR := Lib.hid hwr
      clear ho hbel hk heq
      by_cases hlt : i < ps.length
      ·have t2 : (i : Int) < (ps.length : Int) := by omega
       obtain ⟨x, hx⟩ : ∃ x, (ps)[i]? = some x := ⟨_, List.getElem?_eq_getElem (by omega)⟩
       have hxp : ps[i]? = some x := hx
       have HD := Lib.hid (zll hx)
       by_cases hiw : i < ws.length
       ·have t3 : (i : Int) < (ws.length : Int) := by omega
        obtain ⟨y, hy⟩ : ∃ y, ws[i]? = some y := ⟨_, List.getElem?_eq_getElem hiw⟩
        obtain ⟨p, rfl, hpc⟩ := HWA.out i y hy
        have cy := zaf hpc hwr
        unfold strV at cy
        have HDW := Lib.hid (zll hy)
        clear hpc hx hxp hy hwr
        go_wp2_with (at_builtin; refine zah rfl _ _ 22 rfl w1.heap.size 9 i0 (.string ⟨#[]⟩) 1 16 Tryz.underlying22 hi0 hz0 hz1 hz2 rfl (by decide) _ _ _ rfl (HO.out.alloc _) ⟨wr.heap.size, 0, none⟩ 1 1 [.string ⟨y.toArray⟩] rfl rfl (cell_one_new _ _ _) (by intro u hu; rw [List.mem_singleton.1 hu]; rfl) (by simp [maxLen]; omega) (by first | omega | (simp; omega)) (by have := HBL.out.size; simp; omega) ?_; intro u2 w2 o g n; have hO2 := OwnTx.snoc o; have hB2 := zcv HBL.out HO.out g; clear o g n; have HO2 := Lib.hid hO2; have HB2 := Lib.hid hB2; clear hO2 hB2)
        go_roundg (ps.length - (i + 1))
        case measure => have := HK.out; omega
        case rel => exact ⟨i + 1, os ++ [y], by go_num, rfl, by omega, by simp [hol], HB2.out, HO2.out, by rw [HEQ.out, HD.out, HDW.out, zue, zlk]⟩
       ·have t3 : ¬ (i : Int) < (ws.length : Int) := by omega
        have HDW := Lib.hid (show ws.drop i = [] from List.drop_eq_nil_of_le (by omega))
        have HDW2 := Lib.hid (show ws.drop (i + 1) = [] from List.drop_eq_nil_of_le (by omega))
        obtain ⟨bp, rfl, hbc⟩ := HBA.out i x.has (by rw [List.getElem?_map, hxp]; rfl)
        have cb := zaf hbc HBL.out
        obtain ⟨vp, rfl, hvc⟩ := HVA.out i x.other (by rw [List.getElem?_map, hxp]; rfl)
        have cv := zaf hvc HBL.out
        unfold strV at cv
        clear hbc hvc hx hxp hwr
        obtain ⟨xn, xo, xh⟩ := x
        dsimp only at *
        cases xh with
        | true =>
          go_wp2_with (at_builtin; refine zah rfl _ _ 22 rfl w1.heap.size 9 i0 (.string ⟨#[]⟩) 1 16 Tryz.underlying22 hi0 hz0 hz1 hz2 rfl (by decide) _ _ _ rfl (HO.out.alloc _) ⟨wr.heap.size, 0, none⟩ 1 1 [.string ⟨xo.toArray⟩] rfl rfl (cell_one_new _ _ _) (by intro u hu; rw [List.mem_singleton.1 hu]; rfl) (by simp [maxLen]; omega) (by first | omega | (simp; omega)) (by have := HBL.out.size; simp; omega) ?_; intro u2 w2 o g n; have hO2 := OwnTx.snoc o; have hB2 := zcv HBL.out HO.out g; clear o g n; have HO2 := Lib.hid hO2; have HB2 := Lib.hid hB2; clear hO2 hB2)
          go_roundg (ps.length - (i + 1))
          case measure => have := HK.out; omega
          case rel => exact ⟨i + 1, os ++ [xo], by go_num, rfl, by omega, by simp [hol], HB2.out, HO2.out, by rw [HEQ.out, HD.out, HDW.out, HDW2.out, zuf rfl, zlk]⟩
        | false =>
          go_wp2
          go_ret2
          refine BindR.err hp hpl (k := 8) ?_ (by decide) HWR.out
          have hg : gets (ps) ws = .error 8 := by rw [HEQ.out, HD.out, HDW.out, zgf _ _ (by simp)]; rfl
          unfold zbS
          rw [hr, hg]
          rfl
      ·have hil : i = ps.length := by omega
       have t2 : ¬ (i : Int) < (ps.length : Int) := by omega
       have hdr : (ps).drop i = [] := List.drop_eq_nil_of_le (by omega)
       have HG := Lib.hid (show gets (ps) ws = .ok (os, ws.drop i) by rw [HEQ.out, hdr]; simp [gets, exG])
       clear hdr
       subst hil
       by_cases hNw : ps.length < ws.length
       ·have hmin : min (ws.length : Int) (ps.length : Int) = (ps.length : Int) := by omega
        have t4 : 0 < ws.length - ps.length := by omega
        have hbt : zbS ps ws = .error 4 := by
         unfold zbS
         rw [hr, HG.out]
         have : (ws.drop ps.length).isEmpty = false := by rw [List.isEmpty_eq_false_iff, ne_eq, List.drop_eq_nil_iff]; omega
         simp [this]
        go_wp2
        all_goals
         go_ret2
         exact BindR.err hp hpl (k := 4) hbt (by decide) HWR.out
       ·have hmin : min (ws.length : Int) (ps.length : Int) = (ws.length : Int) := by omega
        have hbt : zbS ps ws = .ok os := by
         unfold zbS
         rw [hr, HG.out]
         have : ws.drop ps.length = [] := List.drop_eq_nil_of_le (by omega)
         simp [this]
        go_wp2
        all_goals
         go_ret2
         exact BindR.good hp hpl hbt (zaN HO.out HB.out.size) HWR.out
   | true =>
     have hne : ps ≠ [] := by rintro rfl; simp [restOf] at hr
     have hpp := List.length_pos_iff.2 hne
     obtain ⟨N, hN⟩ : ∃ N, ps.length = N + 1 := ⟨ps.length - 1, by omega⟩
     have hqN : ps.dropLast.length = N := by rw [List.length_dropLast]; omega
     go_wp2_with (go_at_call 6; refine (zd5 m0 s hs _ HM.out).mono ?_; rintro e w1 hb; obtain ⟨hpl, u, v, b, rfl, ht⟩ := hb.2.2 ps hp; rw [hr]; have HB := Lib.hid hb.1; obtain ⟨ua, uc, hu⟩ := zan ht.ru; have hucap := zsd ht.ru hu; rw [List.length_map, hN] at hu hucap; obtain ⟨va, vc, hv, hva⟩ := (OwnTx.str ht.rv).form; rw [List.length_map, hN] at hv; obtain ⟨ba, bc, hbv, hba⟩ := zi5 ht.rb; rw [List.length_map, hN] at hbv; subst hu hv hbv; have HVA := Lib.hid hva; have HBA := Lib.hid hba; clear hb ht hva hba; dsimp only)
     go_loopg [11, 35] N (fun k ov iv wr => ∃ (i : Nat) (os : List (List UInt8)), iv = .int .i64 (i : Int) ∧ k = N - i ∧ i ≤ N ∧ os.length = i ∧ Below w1.heap.size w1 wr ∧ OwnTx wr w1.heap.size ov os ∧ gets (ps.dropLast) ws = exG os (gets ((ps.dropLast).drop i) (ws.drop i)))
     case atStart => exact ⟨0, [], rfl, rfl, Nat.zero_le _, rfl, Below.refl _ _, OwnTx.nil _ _, by rw [zsb]; rfl⟩
     case round =>
      obtain ⟨i, os, rfl, hk, hi, hol, hbel, ho, heq⟩ := hrel
      have HO := Lib.hid ho
      have HBL := Lib.hid hbel
      have HK := Lib.hid hk
      have HEQ := Lib.hid heq
      have hwr := HB.out.trans (hbel.mono HB.out.size)
      have HWR := Lib.hid hwr
      clear ho hbel hk heq
      by_cases hlt : i < N
      ·have t2 : (i : Int) < (N : Int) := by omega
       obtain ⟨x, hx⟩ : ∃ x, (ps.dropLast)[i]? = some x := ⟨_, List.getElem?_eq_getElem (by rw [hqN]; omega)⟩
       have hxp : ps[i]? = some x := by
        rw [List.dropLast_eq_take, List.getElem?_take] at hx
        split at hx
        ·exact hx
        ·cases hx
       have HD := Lib.hid (zll hx)
       by_cases hiw : i < ws.length
       ·have t3 : (i : Int) < (ws.length : Int) := by omega
        obtain ⟨y, hy⟩ : ∃ y, ws[i]? = some y := ⟨_, List.getElem?_eq_getElem hiw⟩
        obtain ⟨p, rfl, hpc⟩ := HWA.out i y hy
        have cy := zaf hpc hwr
        unfold strV at cy
        have HDW := Lib.hid (zll hy)
        clear hpc hx hxp hy hwr
        go_wp2_with (at_builtin; refine zah rfl _ _ 22 rfl w1.heap.size 9 i0 (.string ⟨#[]⟩) 1 16 Tryz.underlying22 hi0 hz0 hz1 hz2 rfl (by decide) _ _ _ rfl (HO.out.alloc _) ⟨wr.heap.size, 0, none⟩ 1 1 [.string ⟨y.toArray⟩] rfl rfl (cell_one_new _ _ _) (by intro u hu; rw [List.mem_singleton.1 hu]; rfl) (by simp [maxLen]; omega) (by first | omega | (simp; omega)) (by have := HBL.out.size; simp; omega) ?_; intro u2 w2 o g n; have hO2 := OwnTx.snoc o; have hB2 := zcv HBL.out HO.out g; clear o g n; have HO2 := Lib.hid hO2; have HB2 := Lib.hid hB2; clear hO2 hB2)
        go_roundg (N - (i + 1))
        case measure => have := HK.out; omega
        case rel => exact ⟨i + 1, os ++ [y], by go_num, rfl, by omega, by simp [hol], HB2.out, HO2.out, by rw [HEQ.out, HD.out, HDW.out, zue, zlk]⟩
       ·have t3 : ¬ (i : Int) < (ws.length : Int) := by omega
        have HDW := Lib.hid (show ws.drop i = [] from List.drop_eq_nil_of_le (by omega))
        have HDW2 := Lib.hid (show ws.drop (i + 1) = [] from List.drop_eq_nil_of_le (by omega))
        obtain ⟨bp, rfl, hbc⟩ := HBA.out i x.has (by rw [List.getElem?_map, hxp]; rfl)
        have cb := zaf hbc HBL.out
        obtain ⟨vp, rfl, hvc⟩ := HVA.out i x.other (by rw [List.getElem?_map, hxp]; rfl)
        have cv := zaf hvc HBL.out
        unfold strV at cv
        clear hbc hvc hx hxp hwr
        obtain ⟨xn, xo, xh⟩ := x
        dsimp only at *
        cases xh with
        | true =>
          go_wp2_with (at_builtin; refine zah rfl _ _ 22 rfl w1.heap.size 9 i0 (.string ⟨#[]⟩) 1 16 Tryz.underlying22 hi0 hz0 hz1 hz2 rfl (by decide) _ _ _ rfl (HO.out.alloc _) ⟨wr.heap.size, 0, none⟩ 1 1 [.string ⟨xo.toArray⟩] rfl rfl (cell_one_new _ _ _) (by intro u hu; rw [List.mem_singleton.1 hu]; rfl) (by simp [maxLen]; omega) (by first | omega | (simp; omega)) (by have := HBL.out.size; simp; omega) ?_; intro u2 w2 o g n; have hO2 := OwnTx.snoc o; have hB2 := zcv HBL.out HO.out g; clear o g n; have HO2 := Lib.hid hO2; have HB2 := Lib.hid hB2; clear hO2 hB2)
          go_roundg (N - (i + 1))
          case measure => have := HK.out; omega
          case rel => exact ⟨i + 1, os ++ [xo], by go_num, rfl, by omega, by simp [hol], HB2.out, HO2.out, by rw [HEQ.out, HD.out, HDW.out, HDW2.out, zuf rfl, zlk]⟩
        | false =>
          go_wp2
          go_ret2
          refine BindR.err hp hpl (k := 8) ?_ (by decide) HWR.out
          have hg : gets (ps.dropLast) ws = .error 8 := by rw [HEQ.out, HD.out, HDW.out, zgf _ _ (by simp)]; rfl
          unfold zbS
          rw [hr, hg]
          rfl
      ·have hil : i = N := by omega
       have t2 : ¬ (i : Int) < (N : Int) := by omega
       have hdr : (ps.dropLast).drop i = [] := List.drop_eq_nil_of_le (by rw [hqN]; omega)
       have HG := Lib.hid (show gets (ps.dropLast) ws = .ok (os, ws.drop i) by rw [HEQ.out, hdr]; simp [gets, exG])
       clear hdr
       have hil2 : N = i := hil.symm
       clear hil
       subst hil2
       by_cases hNw : N < ws.length
       ·have hmin : min (ws.length : Int) (N : Int) = (N : Int) := by omega
        obtain ⟨y, hy⟩ : ∃ y, ws[N]? = some y := ⟨_, List.getElem?_eq_getElem hNw⟩
        obtain ⟨p, rfl, _⟩ := HWA.out N y hy
        have hxc : ¬ xc = N := by omega
        have ROWL := Lib.hid (zot (HW.out.later HWR.out) N (by omega) (p.add N) (xc - N) (fun _ => rfl))
        clear hy
        have hbt : zbS ps ws = .ok (os ++ [zbY (ws.drop N)]) := by
         unfold zbS
         rw [hr, HG.out]
         simp
        go_wp2_with (first | (go_at_call 20; refine (zhF m0 (fun s hs w hm => zgg s hs m0 w hm) _ (zaf HM.out HWR.out) _ (ws.drop N) (ROWL.out) (Nat.le_trans (zse ws N) hsum)).mono ?_; rintro e w3 ⟨⟨jq, rfl, hjq⟩, hb3⟩; cases (zmQ hjq); have HO3 := Lib.hid (HO.out.later hb3); have HBL3 := Lib.hid (HBL.out.trans (hb3.mono HBL.out.size)); clear hb3; dsimp only) | (at_builtin; refine zah rfl _ _ 22 rfl w1.heap.size 9 i0 (.string ⟨#[]⟩) 1 16 Tryz.underlying22 hi0 hz0 hz1 hz2 rfl (by decide) _ _ _ rfl (HO3.out.alloc _) ⟨w3.heap.size, 0, none⟩ 1 1 [.string ⟨(zbY (ws.drop N)).toArray⟩] rfl rfl (cell_one_new _ _ _) (by intro u hu; rw [List.mem_singleton.1 hu]; rfl) (by simp [maxLen]; omega) (by first | omega | (simp; omega)) (by have := HBL3.out.size; simp; omega) ?_; intro u2 w2 o g n; have hO2 := OwnTx.snoc o; have hB2 := zcv HBL3.out HO3.out g; clear o g n; have HO2 := Lib.hid hO2; have HB2 := Lib.hid hB2; clear hO2 hB2))
        all_goals
         go_ret2
         exact BindR.good hp hpl hbt (zaN HO2.out HB.out.size) (HB.out.trans (HB2.out.mono HB.out.size))
       ·have hmin : min (ws.length : Int) (N : Int) = (ws.length : Int) := by omega
        have hdw : ws.drop N = [] := List.drop_eq_nil_of_le (by omega)
        have HDN := Lib.hid hdw
        clear hdw
        rcases HW.out with ⟨hx1, hx2⟩ | ⟨p, c', hx1, _⟩
        ·subst hx2
         simp only [List.length_nil, Value.slice.injEq] at hx1
         obtain ⟨rfl, _, rfl⟩ := hx1
         have hmin0 : min (0 : Int) (N : Int) = 0 := by omega
         have hbt : zbS ps [] = .ok (os ++ [zbY ([])]) := by
          unfold zbS
          rw [hr, HG.out, HDN.out]
          simp
         go_wp2_with (first | (go_at_call 20; refine (zhF m0 (fun s hs w hm => zgg s hs m0 w hm) _ (zaf HM.out HWR.out) _ ([]) (.inl ⟨rfl, rfl⟩) (by simp [sumL])).mono ?_; rintro e w3 ⟨⟨jq, rfl, hjq⟩, hb3⟩; cases (zmQ hjq); have HO3 := Lib.hid (HO.out.later hb3); have HBL3 := Lib.hid (HBL.out.trans (hb3.mono HBL.out.size)); clear hb3; dsimp only) | (at_builtin; refine zah rfl _ _ 22 rfl w1.heap.size 9 i0 (.string ⟨#[]⟩) 1 16 Tryz.underlying22 hi0 hz0 hz1 hz2 rfl (by decide) _ _ _ rfl (HO3.out.alloc _) ⟨w3.heap.size, 0, none⟩ 1 1 [.string ⟨(zbY ([])).toArray⟩] rfl rfl (cell_one_new _ _ _) (by intro u hu; rw [List.mem_singleton.1 hu]; rfl) (by simp [maxLen]; omega) (by first | omega | (simp; omega)) (by have := HBL3.out.size; simp; omega) ?_; intro u2 w2 o g n; have hO2 := OwnTx.snoc o; have hB2 := zcv HBL3.out HO3.out g; clear o g n; have HO2 := Lib.hid hO2; have HB2 := Lib.hid hB2; clear hO2 hB2))
         all_goals
          go_ret2
          exact BindR.good hp hpl hbt (zaN HO2.out HB.out.size) (HB.out.trans (HB2.out.mono HB.out.size))
        ·cases hx1
         by_cases hxc : xc = ws.length
         ·have hbt : zbS ps ws = .ok (os ++ [zbY ([])]) := by
           unfold zbS
           rw [hr, HG.out, HDN.out]
           simp
          go_wp2_with (first | (go_at_call 20; refine (zhF m0 (fun s hs w hm => zgg s hs m0 w hm) _ (zaf HM.out HWR.out) _ ([]) (zmT _ _ _) (by simp [sumL])).mono ?_; rintro e w3 ⟨⟨jq, rfl, hjq⟩, hb3⟩; cases (zmQ hjq); have HO3 := Lib.hid (HO.out.later hb3); have HBL3 := Lib.hid (HBL.out.trans (hb3.mono HBL.out.size)); clear hb3; dsimp only) | (at_builtin; refine zah rfl _ _ 22 rfl w1.heap.size 9 i0 (.string ⟨#[]⟩) 1 16 Tryz.underlying22 hi0 hz0 hz1 hz2 rfl (by decide) _ _ _ rfl (HO3.out.alloc _) ⟨w3.heap.size, 0, none⟩ 1 1 [.string ⟨(zbY ([])).toArray⟩] rfl rfl (cell_one_new _ _ _) (by intro u hu; rw [List.mem_singleton.1 hu]; rfl) (by simp [maxLen]; omega) (by first | omega | (simp; omega)) (by have := HBL3.out.size; simp; omega) ?_; intro u2 w2 o g n; have hO2 := OwnTx.snoc o; have hB2 := zcv HBL3.out HO3.out g; clear o g n; have HO2 := Lib.hid hO2; have HB2 := Lib.hid hB2; clear hO2 hB2))
          all_goals
           go_ret2
           exact BindR.good hp hpl hbt (zaN HO2.out HB.out.size) (HB.out.trans (HB2.out.mono HB.out.size))
         ·have hbt : zbS ps ws = .ok (os ++ [zbY ([])]) := by
           unfold zbS
           rw [hr, HG.out, HDN.out]
           simp
          go_wp2_with (first | (go_at_call 20; refine (zhF m0 (fun s hs w hm => zgg s hs m0 w hm) _ (zaf HM.out HWR.out) _ ([]) (zmT _ _ _) (by simp [sumL])).mono ?_; rintro e w3 ⟨⟨jq, rfl, hjq⟩, hb3⟩; cases (zmQ hjq); have HO3 := Lib.hid (HO.out.later hb3); have HBL3 := Lib.hid (HBL.out.trans (hb3.mono HBL.out.size)); clear hb3; dsimp only) | (at_builtin; refine zah rfl _ _ 22 rfl w1.heap.size 9 i0 (.string ⟨#[]⟩) 1 16 Tryz.underlying22 hi0 hz0 hz1 hz2 rfl (by decide) _ _ _ rfl (HO3.out.alloc _) ⟨w3.heap.size, 0, none⟩ 1 1 [.string ⟨(zbY ([])).toArray⟩] rfl rfl (cell_one_new _ _ _) (by intro u hu; rw [List.mem_singleton.1 hu]; rfl) (by simp [maxLen]; omega) (by first | omega | (simp; omega)) (by have := HBL3.out.size; simp; omega) ?_; intro u2 w2 o g n; have hO2 := OwnTx.snoc o; have hB2 := zcv HBL3.out HO3.out g; clear o g n; have HO2 := Lib.hid hO2; have HB2 := Lib.hid hB2; clear hO2 hB2))
          all_goals
           go_ret2
           exact BindR.good hp hpl hbt (zaN HO2.out HB.out.size) (HB.out.trans (HB2.out.mono HB.out.size))
end Go.Proofs.YtppjodfehhlniaaGreatDoor
end
section
namespace Go.Proofs.YtppjodfehhlniaaGreatDoor
open Go.ChangeShapes Go.WideShapes Go.ChangeAt Go.RowKit
set_option maxRecDepth 100000
def elmR (l : List UInt8) : Option (List UInt8 × Nat) :=
 match elm l with
 | none => none
 | some p => if zez (l.drop p.2) = true then some p else none
def elmV (p : Nat) : Option (List UInt8 × Nat) → Ending
 | none => .returned (.tuple #[.string ⟨#[]⟩, .int .i64 (-1)])
 | some q => .returned (.tuple #[.string ⟨q.1.toArray⟩, .int .i64 ((p + q.2 : Nat) : Int)])
theorem zmV {l : List UInt8} (h : elm l = none) : elmR l = none := by unfold elmR; rw [h]
theorem zeF {l : List UInt8} {p : List UInt8 × Nat} (h : elm l = some p) (he : zez (l.drop p.2) = true) : elmR l = some p := by unfold elmR; rw [h]; simp only; rw [if_pos he]
theorem zpk {l : List UInt8} {p : List UInt8 × Nat} (h : elm l = some p) (he : zez (l.drop p.2) = false) : elmR l = none := by unfold elmR; rw [h]; simp only; rw [if_neg (by rw [he]; decide)]
theorem zi6 (s : ByteArray) {i : Nat} (h : s.size ≤ i) : zez ((L s).drop i) = true := by rw [zas s h]; rfl
theorem zgh (s : ByteArray) {i : Nat} (h : i < s.size) : zez ((L s).drop i) = whN (byte s i) := by rw [zak s h]; show wh _ = _; rw [zf7]
theorem zgU {p : Nat} {q : List UInt8 × Nat} {s : ByteArray} {n : Int} (h1 : q.1 = L s) (h2 : ((p + q.2 : Nat) : Int) = n) : Ending.returned (.tuple #[.string s, .int .i64 n]) = elmV p (some q) := by
 obtain ⟨x, k⟩ := q
 subst h1
 subst h2
 rfl
set_option maxHeartbeats 2000000 in
theorem zlm (s : ByteArray) (hs : s.size ≤ 1000000) (p : Nat) (hp : p < s.size) (h123 : byte s p = 123) (w : World) :
  Calls Tryz.prog 218 #[.string s, .int .i64 (p : Int)] w fun e w' => e = elmV p (elmR ((L s).drop p)) ∧ Below w.heap.size w w' := by
 have hby := zam s
 have t1 : (p : Int) < (s.size : Int) := by omega
 have t0 : (0 : Int) ≤ (p : Int) := by omega
 have hd := zak s hp
 have hc : ub s p = 123 := za3 s p (by decide) h123
 have hel : elm ((L s).drop p) = (clo ((L s).drop p) 0).map fun k => ((((L s).drop p).take k).drop 1, k + 1) := by rw [hd]; unfold elm; simp only; rw [if_pos hc]
 have hcl := fun W => zok s hs p (by omega) W
 cases ho : clo ((L s).drop p) 0 with
 | none =>
   rw [ho] at hel hcl
   have HC := Lib.hid hcl
   have HZ := Lib.hid (zmV hel)
   have tb : ((byte s p : Int) == 123) = true := by simp; omega
   clear hel hcl hd hc h123 ho
   go_enter Tryz.func218, Tryz.ntmps218
   go_wp2_with (go_at_call 337; refine (HC.out _).mono ?_; rintro e w' ⟨rfl, rfl⟩; dsimp only [cloV])
   go_ret2
   refine ⟨?_, Below.refl _ _⟩
   rw [HZ.out]; rfl
 | some k =>
   have hk1 : 1 ≤ k := by
    rw [hd, zb8, if_neg (by rw [hc]; decide), if_pos hc] at ho
    obtain ⟨j, _, hj⟩ := Option.map_eq_some_iff.1 ho
    omega
   have hk2 := zrs _ _ _ (Nat.le_refl _) _ ho
   rw [List.length_drop, za7] at hk2
   rw [ho] at hel hcl
   dsimp only [cloV] at hcl
   rw [show ((p + k : Nat) : Int) = (p : Int) + (k : Int) by omega] at hcl
   have HC := Lib.hid hcl
   have u1 : ¬ (p : Int) + (k : Int) < 0 := by omega
   have u2 : (p : Int) + 1 ≤ (p : Int) + (k : Int) := by omega
   have u3 : (p : Int) + (k : Int) ≤ (s.size : Int) := by omega
   have u4 : (0 : Int) ≤ (p : Int) + 1 := by omega
   have hel2 : elm ((L s).drop p) = some ((((L s).drop p).take k).drop 1, k + 1) := hel
   have htx : (((L s).drop p).take k).drop 1 = L (s.extract (p + 1) (p + k)) := by
    rw [ze0, List.drop_take, List.drop_drop]
    congr 1; omega
   have HT := Lib.hid htx
   clear hel hcl hd hc ho htx
   have tb : ((byte s p : Int) == 123) = true := by simp; omega
   clear h123
   by_cases hlt : p + (k + 1) < s.size
   ·have t7 : ((p : Int) + (k : Int) + 1 : Int) < (s.size : Int) := by omega
    have hbe := zaA s (p + (k + 1))
    cases hwm : whN (byte s (p + (k + 1))) with
    | true =>
      have HZ := Lib.hid (zeF hel2 (by rw [List.drop_drop]; exact (zgh s hlt).trans hwm))
      clear hel2
      have hbe2 : byte s (p + k + 1) = byte s (p + (k + 1)) := rfl
      go_enter Tryz.func218, Tryz.ntmps218
      go_wp2_with (first | (go_at_call 337; refine (HC.out _).mono ?_; rintro e w' ⟨rfl, rfl⟩) | (go_at_call 217; refine (za4 _ hbe _).mono ?_; rintro e w' ⟨rfl, rfl⟩; rw [hwm]))
      go_ret2
      refine ⟨?_, Below.refl _ _⟩
      rw [HZ.out]
      exact zgU HT.out (by simp; omega)
    | false =>
      have HZ := Lib.hid (zpk hel2 (by rw [List.drop_drop]; exact (zgh s hlt).trans hwm))
      clear hel2
      have hbe2 : byte s (p + k + 1) = byte s (p + (k + 1)) := rfl
      go_enter Tryz.func218, Tryz.ntmps218
      go_wp2_with (first | (go_at_call 337; refine (HC.out _).mono ?_; rintro e w' ⟨rfl, rfl⟩) | (go_at_call 217; refine (za4 _ hbe _).mono ?_; rintro e w' ⟨rfl, rfl⟩; rw [hwm]))
      go_ret2
      refine ⟨?_, Below.refl _ _⟩
      rw [HZ.out]; rfl
   ·have t7 : ¬ ((p : Int) + (k : Int) + 1 : Int) < (s.size : Int) := by omega
    have HZ := Lib.hid (zeF hel2 (by rw [List.drop_drop]; exact zi6 s (by simp; omega)))
    clear hel2
    go_enter Tryz.func218, Tryz.ntmps218
    go_wp2_with (go_at_call 337; refine (HC.out _).mono ?_; rintro e w' ⟨rfl, rfl⟩)
    go_ret2
    refine ⟨?_, Below.refl _ _⟩
    rw [HZ.out]
    exact zgU HT.out (by simp; omega)
end Go.Proofs.YtppjodfehhlniaaGreatDoor
end
section
namespace Go.Proofs.YtppjodfehhlniaaGreatDoor
open Go.ChangeShapes Go.WideShapes Go.ChangeAt Go.RowKit
set_option maxRecDepth 100000
theorem zln (s : ByteArray) (p e : Nat) (pre : List UInt8) (h : quo ((L s).drop (p + 1)) = some (pre, e - (p + 1))) : unesc (L (s.extract (p + 1) e)) = pre := by
 rw [ze0]
 exact zrN _ _ (Nat.le_refl _) _ h
theorem zjq (s : ByteArray) (p e : Nat) (pre : List UInt8) (h : bare ((L s).drop p) = (pre, e - p)) : unesc (L (s.extract p e)) = pre := by
 rw [ze0]
 have := zp2 _ ((L s).drop p) (Nat.le_refl _)
 rw [h] at this
 exact this
set_option maxHeartbeats 2000000 in
theorem zlo (s : ByteArray) (hs : s.size ≤ 1000000) (p : Nat) (hp : p < s.size) (h34 : byte s p = 34) (w : World) :
  Calls Tryz.prog 218 #[.string s, .int .i64 (p : Int)] w fun e w' => e = elmV p (elmR ((L s).drop p)) ∧ Below w.heap.size w w' := by
 have hby := zam s
 have t1 : (p : Int) < (s.size : Int) := by omega
 have t0 : (0 : Int) ≤ (p : Int) := by omega
 have hd := zak s hp
 have hc : ub s p = 34 := za3 s p (by decide) h34
 have hel : elm ((L s).drop p) = (quo ((L s).drop (p + 1))).map fun q => (q.1, q.2 + 2) := by rw [hd]; unfold elm; simp only; rw [if_neg (by rw [hc]; decide), if_pos hc]
 have HEL := Lib.hid hel
 have tb : ((byte s p : Int) == 34) = true := by simp; omega
 have ta : ((byte s p : Int) == 123) = false := by simp; omega
 clear hel hd hc h34
 go_enter Tryz.func218, Tryz.ntmps218
 go_wp2
 go_loopg [7, 9, 10] (s.size - (p + 1)) (fun k ev c9 c10 wr => ∃ (i : Nat) (pre : List UInt8), ev = .int .i64 (i : Int) ∧ k = s.size - i ∧ p + 1 ≤ i ∧ i ≤ s.size ∧ quo ((L s).drop (p + 1)) = (quo ((L s).drop i)).map (fun q => (pre ++ q.1, i - (p + 1) + q.2)) ∧ Below w.heap.size w wr)
 case atStart => exact ⟨p + 1, [], by go_num, rfl, by omega, by omega, by simp, Below.refl _ _⟩
 case round =>
  obtain ⟨i, pre, rfl, hk, hi1, hi2, heq, hbel⟩ := hrel
  have HK := Lib.hid hk
  have HEQ := Lib.hid heq
  have HBEL := Lib.hid hbel
  have hsz := hbel.size
  clear hk heq hbel
  have hbi := zaA s i
  by_cases hli : i < s.size
  ·have t2 : (i : Int) < (s.size : Int) := by omega
   have t3 : (0 : Int) ≤ (i : Int) := by omega
   have t4 : (i : Int) ≤ (s.size : Int) := by omega
   by_cases h34 : byte s i = 34
   ·have t5 : ((byte s i : Int) == 34) = true := by simp; omega
    have hq : quo ((L s).drop (p + 1)) = some (pre, i - (p + 1)) := by rw [HEQ.out, zpb s hli h34]; simp
    have hun := fun W => zgc (s.extract (p + 1) i) (by rw [ByteArray.size_extract]; omega) W
    rw [zln s p i pre hq] at hun
    have HUN := Lib.hid hun
    have hel2 : elm ((L s).drop p) = some (pre, i - (p + 1) + 2) := by rw [HEL.out, hq]; rfl
    have u1 : (p : Int) + 1 ≤ (i : Int) := by omega
    have u4 : (0 : Int) ≤ (p : Int) + 1 := by omega
    have u5 : ¬ (s.size : Int) ≤ (i : Int) := by omega
    clear hq hun h34
    by_cases hlt : i + 1 < s.size
    ·have t7 : (i : Int) + 1 < (s.size : Int) := by omega
     have hbe := zaA s (i + 1)
     cases hwm : whN (byte s (i + 1)) with
     | true =>
       have HZ := Lib.hid (zeF hel2 (by rw [List.drop_drop, show p + (i - (p + 1) + 2) = i + 1 by omega]; exact (zgh s hlt).trans hwm))
       clear hel2
       go_wp2_with (first | (go_at_call 339; refine (HUN.out _).mono ?_; rintro e w2 ⟨rfl, hb2⟩; dsimp only; have HB2 := Lib.hid hb2; clear hb2) | (go_at_call 217; refine (za4 _ hbe _).mono ?_; rintro e w' ⟨rfl, rfl⟩; rw [hwm]))
       go_ret2
       refine ⟨?_, HBEL.out.trans (HB2.out.mono hsz)⟩
       rw [HZ.out]
       exact zgU rfl (by simp; omega)
     | false =>
       have HZ := Lib.hid (zpk hel2 (by rw [List.drop_drop, show p + (i - (p + 1) + 2) = i + 1 by omega]; exact (zgh s hlt).trans hwm))
       clear hel2
       go_wp2_with (first | (go_at_call 339; refine (HUN.out _).mono ?_; rintro e w2 ⟨rfl, hb2⟩; dsimp only; have HB2 := Lib.hid hb2; clear hb2) | (go_at_call 217; refine (za4 _ hbe _).mono ?_; rintro e w' ⟨rfl, rfl⟩; rw [hwm]))
       go_ret2
       refine ⟨?_, HBEL.out.trans (HB2.out.mono hsz)⟩
       rw [HZ.out]; rfl
    ·have t7 : ¬ (i : Int) + 1 < (s.size : Int) := by omega
     have HZ := Lib.hid (zeF hel2 (by rw [List.drop_drop]; exact zi6 s (by simp; omega)))
     clear hel2
     go_wp2_with (go_at_call 339; refine (HUN.out _).mono ?_; rintro e w2 ⟨rfl, hb2⟩; dsimp only; have HB2 := Lib.hid hb2; clear hb2)
     go_ret2
     refine ⟨?_, HBEL.out.trans (HB2.out.mono hsz)⟩
     rw [HZ.out]
     exact zgU rfl (by simp; omega)
   ·skip
    have hun := fun W => zd1 (s.extract i s.size) (by rw [ByteArray.size_extract]; omega) W
    rw [zdi] at hun
    have t5 : ((byte s i : Int) == 34) = false := by simp; omega
    by_cases h92 : byte s i = 92
    ·obtain ⟨hu1, hu2, hu3⟩ := zmz s hli h92
     have HZ := Lib.hid (zrA s hli h92)
     obtain ⟨x, n, hxn⟩ : ∃ x n, une ((L s).drop i) = (x, n) := ⟨_, _, rfl⟩
     unfold uneV at hun
     rw [hxn] at hun hu1 hu2 hu3 HZ
     dsimp only at hun hu1 hu2 hu3 HZ
     have HUN := Lib.hid hun
     have t6 : ¬ (n : Int) < 1 := by omega
     have t7 : (1 : Int) ≤ (n : Int) := by omega
     clear hun hxn h92 h34
     go_wp2_with (go_at_call 338; refine (HUN.out _).mono ?_; rintro e w2 ⟨rfl, hb2⟩; dsimp only; have HB2 := Lib.hid hb2; clear hb2)
     all_goals
      go_roundg (s.size - (i + n))
      case measure => rw [HK.out]; omega
      case rel =>
       refine ⟨i + n, pre ++ x, by first | go_num | (simp; omega), rfl, by omega, by omega, ?_, HBEL.out.trans (HB2.out.mono hsz)⟩
       rw [HEQ.out, HZ.out, Option.map_map]
       congr 1; funext q; simp; omega
    ·have HZ := Lib.hid (zmy s hli h34 h92)
     unfold uneV at hun
     rw [show une ((L s).drop i) = ([], 0) by rw [zak s hli]; exact zey (fun h => h92 ((zbv s i 92 (by decide)).1 h))] at hun
     dsimp only at hun
     have HUN := Lib.hid hun
     clear hun h92 h34
     go_wp2_with (go_at_call 338; refine (HUN.out _).mono ?_; rintro e w2 ⟨rfl, hb2⟩; dsimp only; have HB2 := Lib.hid hb2; clear hb2)
     all_goals
      go_roundg (s.size - (i + 1))
      case measure => rw [HK.out]; omega
      case rel =>
       refine ⟨i + 1, pre ++ [ub s i], by first | go_num | (simp; omega), rfl, by omega, by omega, ?_, HBEL.out.trans (HB2.out.mono hsz)⟩
       rw [HEQ.out, HZ.out, Option.map_map]
       congr 1; funext q; simp; omega
  ·have t2 : ¬ (i : Int) < (s.size : Int) := by omega
   have u5 : (s.size : Int) ≤ (i : Int) := by omega
   have HZ := Lib.hid (zmV (show elm ((L s).drop p) = none by rw [HEL.out, HEQ.out, zrz s (show s.size ≤ i by omega)]; rfl))
   go_wp2
   go_ret2
   refine ⟨?_, HBEL.out⟩
   rw [HZ.out]; rfl
set_option maxHeartbeats 2000000 in
theorem zmW (s : ByteArray) (hs : s.size ≤ 1000000) (p : Nat) (hp : p < s.size) (h123 : ¬ byte s p = 123) (h34 : ¬ byte s p = 34) (w : World) :
  Calls Tryz.prog 218 #[.string s, .int .i64 (p : Int)] w fun e w' => e = elmV p (elmR ((L s).drop p)) ∧ Below w.heap.size w w' := by
 have hby := zam s
 have t1 : (p : Int) < (s.size : Int) := by omega
 have t0 : (0 : Int) ≤ (p : Int) := by omega
 have hd := zak s hp
 have hc : ¬ ub s p = 123 := fun h => h123 ((zbv s p 123 (by decide)).1 h)
 have hc2 : ¬ ub s p = 34 := fun h => h34 ((zbv s p 34 (by decide)).1 h)
 have hel : elm ((L s).drop p) = some (bare ((L s).drop p)) := by rw [hd]; unfold elm; simp only; rw [if_neg hc, if_neg hc2]
 have HEL := Lib.hid hel
 have tb : ((byte s p : Int) == 34) = false := by simp; omega
 have ta : ((byte s p : Int) == 123) = false := by simp; omega
 clear hel hd hc hc2 h34 h123
 go_enter Tryz.func218, Tryz.ntmps218
 go_wp2
 go_loopg [7, 11, 12] (s.size - p) (fun k ev c9 c10 wr => ∃ (i : Nat) (pre : List UInt8), ev = .int .i64 (i : Int) ∧ k = s.size - i ∧ p ≤ i ∧ i ≤ s.size ∧ bare ((L s).drop p) = (pre ++ (bare ((L s).drop i)).1, i - p + (bare ((L s).drop i)).2) ∧ Below w.heap.size w wr)
 case atStart => exact ⟨p, [], rfl, rfl, by omega, by omega, by simp, Below.refl _ _⟩
 case round =>
  obtain ⟨i, pre, rfl, hk, hi1, hi2, heq, hbel⟩ := hrel
  have HK := Lib.hid hk
  have HEQ := Lib.hid heq
  have HBEL := Lib.hid hbel
  have hsz := hbel.size
  clear hk heq hbel
  have hbe := zaA s i
  have t3 : (0 : Int) ≤ (i : Int) := by omega
  have t4 : (i : Int) ≤ (s.size : Int) := by omega
  have u1 : (p : Int) ≤ (i : Int) := by omega
  have fin : bare ((L s).drop i) = ([], 0) → zez ((L s).drop i) = true → (∀ W, Calls Tryz.prog 339 #[.string (s.extract p i)] W fun e w' => e = .returned (.string ⟨pre.toArray⟩) ∧ Below W.heap.size W w') ∧ elmR ((L s).drop p) = some (pre, i - p) := by
   intro h1 h2
   have hb : bare ((L s).drop p) = (pre, i - p) := by rw [HEQ.out, h1]; simp
   refine ⟨fun W => ?_, zeF (by rw [HEL.out, hb]) (by rw [List.drop_drop, show p + (i - p) = i by omega]; exact h2)⟩
   have := zgc (s.extract p i) (by rw [ByteArray.size_extract]; omega) W
   rw [zjq s p i pre hb] at this
   exact this
  have FIN := Lib.hid fin
  clear fin
  by_cases hli : i < s.size
  ·have t2 : (i : Int) < (s.size : Int) := by omega
   cases hwm : whN (byte s i) with
   | true =>
     obtain ⟨hun, hz⟩ := FIN.out (zj2 s hli hwm) ((zgh s hli).trans hwm)
     have HUN := Lib.hid hun
     have HZ := Lib.hid hz
     clear hun hz
     go_wp2_with (first | (go_at_call 217; refine (za4 _ hbe _).mono ?_; rintro e w' ⟨rfl, rfl⟩; rw [hwm]) | (go_at_call 339; refine (HUN.out _).mono ?_; rintro e w2 ⟨rfl, hb2⟩; dsimp only; have HB2 := Lib.hid hb2; clear hb2))
     go_ret2
     refine ⟨?_, HBEL.out.trans (HB2.out.mono hsz)⟩
     rw [HZ.out]
     exact zgU rfl (by simp; omega)
   | false =>
     have hun := fun W => zd1 (s.extract i s.size) (by rw [ByteArray.size_extract]; omega) W
     rw [zdi] at hun
     by_cases h92 : byte s i = 92
     ·obtain ⟨hu1, hu2, hu3⟩ := zmz s hli h92
      have HZ := Lib.hid (zpa s hli hwm h92)
      obtain ⟨x, n, hxn⟩ : ∃ x n, une ((L s).drop i) = (x, n) := ⟨_, _, rfl⟩
      unfold uneV at hun
      rw [hxn] at hun hu1 hu2 hu3 HZ
      dsimp only at hun hu1 hu2 hu3 HZ
      have HUN := Lib.hid hun
      have t6 : ¬ (n : Int) < 1 := by omega
      have t7 : (1 : Int) ≤ (n : Int) := by omega
      clear hun hxn h92
      go_wp2_with (first | (go_at_call 217; refine (za4 _ hbe _).mono ?_; rintro e w' ⟨rfl, rfl⟩; rw [hwm]) | (go_at_call 338; refine (HUN.out _).mono ?_; rintro e w2 ⟨rfl, hb2⟩; dsimp only; have HB2 := Lib.hid hb2; clear hb2))
      all_goals
       go_roundg (s.size - (i + n))
       case measure => rw [HK.out]; omega
       case rel =>
        refine ⟨i + n, pre ++ x, by first | go_num | (simp; omega), rfl, by omega, by omega, ?_, HBEL.out.trans (HB2.out.mono hsz)⟩
        rw [HEQ.out, HZ.out]
        simp; omega
     ·have HZ := Lib.hid (zj3 s hli hwm h92)
      unfold uneV at hun
      rw [show une ((L s).drop i) = ([], 0) by rw [zak s hli]; exact zey (fun h => h92 ((zbv s i 92 (by decide)).1 h))] at hun
      dsimp only at hun
      have HUN := Lib.hid hun
      clear hun h92
      go_wp2_with (first | (go_at_call 217; refine (za4 _ hbe _).mono ?_; rintro e w' ⟨rfl, rfl⟩; rw [hwm]) | (go_at_call 338; refine (HUN.out _).mono ?_; rintro e w2 ⟨rfl, hb2⟩; dsimp only; have HB2 := Lib.hid hb2; clear hb2))
      all_goals
       go_roundg (s.size - (i + 1))
       case measure => rw [HK.out]; omega
       case rel =>
        refine ⟨i + 1, pre ++ [ub s i], by first | go_num | (simp; omega), rfl, by omega, by omega, ?_, HBEL.out.trans (HB2.out.mono hsz)⟩
        rw [HEQ.out, HZ.out]
        simp; omega
  ·have t2 : ¬ (i : Int) < (s.size : Int) := by omega
   obtain ⟨hun, hz⟩ := FIN.out (zo9 s (by omega)) (zi6 s (by omega))
   have HUN := Lib.hid hun
   have HZ := Lib.hid hz
   clear hun hz
   go_wp2_with (go_at_call 339; refine (HUN.out _).mono ?_; rintro e w2 ⟨rfl, hb2⟩; dsimp only; have HB2 := Lib.hid hb2; clear hb2)
   go_ret2
   refine ⟨?_, HBEL.out.trans (HB2.out.mono hsz)⟩
   rw [HZ.out]
   exact zgU rfl (by simp; omega)
theorem zou (s : ByteArray) (hs : s.size ≤ 1000000) (p : Nat) (hp : p < s.size) (w : World) :
  Calls Tryz.prog 218 #[.string s, .int .i64 (p : Int)] w fun e w' => e = elmV p (elmR ((L s).drop p)) ∧ Below w.heap.size w w' := by
 by_cases h1 : byte s p = 123
 ·exact zlm s hs p hp h1 w
 ·by_cases h2 : byte s p = 34
  ·exact zlo s hs p hp h2 w
  ·exact zmW s hs p hp h1 h2 w
end Go.Proofs.YtppjodfehhlniaaGreatDoor
end
section
namespace Go.Proofs.YtppjodfehhlniaaGreatDoor
open Go.ChangeShapes Go.WideShapes Go.ChangeAt Go.RowKit
set_option maxRecDepth 100000
theorem zsf {l : List UInt8} {c : UInt8} {r : List UInt8} (hl : l = c :: r) (hw : wh c = false) {p : List UInt8 × Nat} (h : elmR l = some p) : spl l = (spl (l.drop p.2)).map (p.1 :: ·) ∧ 1 ≤ p.2 ∧ p.2 ≤ l.length := by
 subst hl
 unfold elmR at h
 cases he : elm (c :: r) with
 | none => rw [he] at h; cases h
 | some q =>
   rw [he] at h
   simp only at h
   split at h
   ·cases h
    rename_i hk
    exact ⟨by rw [zf3 hw he, if_pos hk], zfy hw he, zn1 he⟩
   ·cases h
theorem zsg {l : List UInt8} {c : UInt8} {r : List UInt8} (hl : l = c :: r) (hw : wh c = false) (h : elmR l = none) : spl l = none := by
 subst hl
 unfold elmR at h
 cases he : elm (c :: r) with
 | none => exact zhB hw he
 | some q =>
   rw [he] at h
   simp only at h
   split at h
   ·cases h
   ·rename_i hk; rw [zf3 hw he, if_neg hk]
def zvO (w : World) (s : ByteArray) (e : Ending) (w' : World) : Prop :=
    (∀ xs, spl (L s) = some xs → ∃ sv, e = .returned (.tuple #[sv, .int .i64 0, .int .i64 0]) ∧ w'.ownsRow w.heap.size 9 1 sv xs.length (xs.map strV)) ∧
    (spl (L s) = none → ∃ at_ : Int, e = .returned (.tuple #[.slice none 0 0, .int .i64 at_, .int .i64 2])) ∧ Below w.heap.size w w'
set_option maxHeartbeats 4000000 in
theorem zbJ (s : ByteArray) (hs : s.size ≤ 1000) (w : World) : Calls Tryz.prog 103 #[.string s] w fun e w' => zvO w s e w' := by
 have hby := zam s
 obtain ⟨i0, hi, hz0, hz1, hz2⟩ := info_parts zoe
 go_enter Tryz.func103, Tryz.ntmps103
 go_wp2
 go_loopg [2, 5, 6, 7] (s.size + 1) (fun k lv iv c6 c7 wr => ∃ (i : Nat) (pre : List (List UInt8)) (va : Option Addr) (vc : Nat), lv = .slice va pre.length vc ∧ iv = .int .i64 (i : Int) ∧ k = s.size + 1 - i ∧ i ≤ s.size ∧ pre.length ≤ i ∧
  spl (L s) = (spl ((L s).drop i)).map (pre ++ ·) ∧ wr.ownsRow w.heap.size 9 1 (.slice va pre.length vc) pre.length (pre.map strV) ∧ Below w.heap.size w wr)
 case atStart => exact ⟨0, [], none, 0, rfl, rfl, rfl, by omega, by simp, by simp, World.ownsRow_nil w _ 9 1, Below.refl _ _⟩
 case round =>
  obtain ⟨i, pre, va, vc, rfl, rfl, hk, his, hpl, heq, hrow, hbel⟩ := hrel
  have HK := Lib.hid hk
  have HEQ := Lib.hid heq
  have HR := Lib.hid hrow
  have HBEL := Lib.hid hbel
  have hsz := hbel.size
  clear hk heq hrow hbel
  go_wp2
  go_loopg [5] (s.size - i) (fun k jv wq => ∃ j : Nat, jv = .int .i64 (j : Int) ∧ k = s.size - j ∧ i ≤ j ∧ j ≤ s.size ∧ spl ((L s).drop i) = spl ((L s).drop j) ∧ wr = wq)
  case atStart => exact ⟨i, rfl, rfl, by omega, by omega, rfl, rfl⟩
  case round =>
   obtain ⟨j, rfl, hk2, hij, hjs, heq2, rfl⟩ := hrel
   have HK2 := Lib.hid hk2
   have HEQ2 := Lib.hid heq2
   have hbj := zaA s j
   clear hk2 heq2
   by_cases hlt : j < s.size
   ·have t1 : (j : Int) < (s.size : Int) := by omega
    have hdj := zak s hlt
    cases hw : whN (byte s j) with
    | true =>
      have HZ := Lib.hid (show spl ((L s).drop j) = spl ((L s).drop (j + 1)) by rw [hdj]; exact zf2 (by rw [zf7]; exact hw))
      clear hdj
      go_wp2_with (go_at_call 217; refine (za4 _ hbj _).mono ?_; rintro e w' ⟨rfl, rfl⟩; rw [hw])
      go_roundg (s.size - (j + 1))
      case measure => rw [HK2.out]; omega
      case rel => exact ⟨j + 1, by go_num, rfl, by omega, by omega, by rw [HEQ2.out, HZ.out], rfl⟩
    | false =>
      have t2 : ((j : Int) == (s.size : Int)) = false := by simp; omega
      have hel := fun W => zou s (by omega) j hlt W
      have hwf : wh (ub s j) = false := by rw [zf7]; exact hw
      cases hr : elmR ((L s).drop j) with
      | none =>
        have HZ := Lib.hid (zsg hdj hwf hr)
        rw [hr] at hel
        dsimp only [elmV] at hel
        have HEL := Lib.hid hel
        clear hel hdj hr hwf
        go_wp2_with (first | (go_at_call 217; refine (za4 _ hbj _).mono ?_; rintro e w' ⟨rfl, rfl⟩; rw [hw]) | (go_at_call 218; refine (HEL.out _).mono ?_; rintro e w2 ⟨rfl, hb2⟩; dsimp only; have HB2 := Lib.hid hb2; clear hb2))
        go_ret3
        refine ⟨fun xs hxs => ?_, fun _ => ⟨_, rfl⟩, HBEL.out.trans (HB2.out.mono hsz)⟩
        rw [HEQ.out, HEQ2.out, HZ.out] at hxs
        cases hxs
      | some p =>
        obtain ⟨hz, hp1, hp2⟩ := zsf hdj hwf hr
        rw [List.length_drop, za7] at hp2
        rw [List.drop_drop] at hz
        rw [hr] at hel
        dsimp only [elmV] at hel
        obtain ⟨px, pn⟩ := p
        dsimp only at hel hz hp1 hp2
        rw [show ((j + pn : Nat) : Int) = (j : Int) + (pn : Int) by omega] at hel
        have HZ := Lib.hid hz
        have HEL := Lib.hid hel
        have t3 : ¬ (j : Int) + (pn : Int) < 0 := by omega
        clear hel hdj hr hwf hz
        go_wp2_with (first | (go_at_call 217; refine (za4 _ hbj _).mono ?_; rintro e w' ⟨rfl, rfl⟩; rw [hw]) | (go_at_call 218; refine (HEL.out _).mono ?_; rintro e w2 ⟨rfl, hb2⟩; dsimp only; have HB2 := Lib.hid hb2; have hsz2 := hb2.size; clear hb2) | (at_builtin; refine wpList_append_own _ rfl _ _ 22 rfl w.heap.size 9 i0 (.string ⟨#[]⟩) 1 16 Tryz.underlying22 hi hz0 hz1 hz2 rfl (by decide) _ _ _ rfl ((za8 HR.out HB2.out).alloc _) ⟨w2.heap.size, 0, none⟩ 1 1 [.string ⟨px.toArray⟩] rfl rfl (cell_one_new _ _ _) (by simp [Value.oneCell']) (by simp only [maxLen]; omega) (by omega) (by simp; omega) ?_; intro v' w3 hown' hgrow _; obtain ⟨g', cap', rfl⟩ := ownsRow_succ hown'; have HO := Lib.hid hown'; have HG := Lib.hid hgrow; clear hown' hgrow))
        have hown := HO.out
        have hgr := HG.out
        have hb3 : Below w.heap.size w2 w3 := ((Below.refl w.heap.size w2).alloc (by omega) _).grown hgr (by simp; omega) (fun k hk => (HR.out.lt k hk).1)
        go_roundg (s.size + 1 - (j + pn))
        case measure => rw [HK.out]; omega
        case rel =>
         refine ⟨j + pn, pre ++ [px], some ⟨g', 0, none⟩, cap', by simp, by go_num, rfl, by omega, by simp; omega, ?_, ?_, (HBEL.out.trans (HB2.out.mono hsz)).trans hb3⟩
         ·rw [HEQ.out, HEQ2.out, HZ.out, Option.map_map]
          congr 1; funext q; simp
         ·simpa [strV] using hown
   ·have hje : j = s.size := by omega
    have t1 : ¬ (j : Int) < (s.size : Int) := by omega
    have t2 : ((j : Int) == (s.size : Int)) = true := by simp; omega
    have t3 : ¬ (10000 : Int) < (pre.length : Int) := by omega
    have HZ := Lib.hid (show spl ((L s).drop j) = some [] by rw [zas s (by omega)]; simp [spl])
    clear hje
    go_wp2
    go_ret3
    refine ⟨fun xs hxs => ?_, fun hn => ?_, HBEL.out⟩
    ·rw [HEQ.out, HEQ2.out, HZ.out] at hxs
     cases hxs
     exact ⟨_, rfl, by simpa using HR.out⟩
    ·rw [HEQ.out, HEQ2.out, HZ.out] at hn
     cases hn
end Go.Proofs.YtppjodfehhlniaaGreatDoor
end
