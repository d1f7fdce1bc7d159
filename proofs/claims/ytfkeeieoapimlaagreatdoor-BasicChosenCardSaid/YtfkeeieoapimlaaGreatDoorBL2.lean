/-
  The law: its walk, where there are one to thirty truths. Conditions: none.
-/
import Derived.Test.YtfkeeieoapimlaaGreatDoorBM14ToBL1
set_option linter.unusedVariables false
set_option linter.unusedSimpArgs false
set_option linter.unusedSectionVars false
set_option linter.deprecated false
section
namespace Go.Proofs.YtfkeeieoapimlaaGreatDoor
open Go.ChangeShapes Go.WideShapes Go.ChangeAt Go.RowKit Go.Xe
set_option maxRecDepth 100000
theorem wantT_snoc (last : Bool) : ∀ (l : List Bool) (k : Nat) (t : Bool), zaE ((l ++ [t]).zipIdx k) false = if zaE (l.zipIdx k) false = [] then (if t = true then [lt (k + l.length)] else []) else zaE (l.zipIdx k) false
 | [], k, t => by cases t <;> simp [zaE]
 | b :: l, k, t => by
   have ih := wantT_snoc last l (k + 1) t
   cases b
   ·simp only [List.cons_append, List.zipIdx_cons, zaE, List.length_cons]
    simp only [Bool.false_eq_true, if_false]
    rw [ih, show k + 1 + l.length = k + (l.length + 1) by omega]
   ·simp [zaE]
theorem wantT_end : ∀ (l : List (Bool × Nat)) (last : Bool), zaE l last = if zaE l false = [] then (if last = true then [33] else []) else zaE l false
 | [], last => by simp [zaE]
 | p :: r, last => by
   have ih := wantT_end r last
   unfold zaE
   split
   ·simp
   ·exact ih
theorem start_words (w : World) : OwnTx (w.alloc (.cells #[.string ⟨#[105, 102]⟩] 9)) w.heap.size (.slice (some ⟨w.heap.size, 0, none⟩) 1 1) (wdsC []) := by
 refine ⟨rfl, .inr ⟨w.heap.size, 1, #[.string ⟨#[105, 102]⟩], rfl, Nat.le_refl _, heap_alloc_new w _, Nat.le_refl _, by decide, rfl, ?_⟩⟩
 rfl
theorem form_words {W : World} {b : Nat} {u : Value} {ts : List Bool} (h : OwnTx W b u (wdsC ts)) : ∃ g c, u = .slice (some ⟨g, 0, none⟩) (wdsC ts).length c := by
 unfold wdsC at h ⊢
 exact OwnTx.form h
theorem app_one {w wr w2 : World} {v v2 : Value} {WS : List (List UInt8)} {x : List UInt8} {o : Obj} (how : OwnTx wr w.heap.size v WS) (hb : Below w.heap.size w wr) (h : w2.ownsRow w.heap.size 9 1 v2 (WS.length + 1) (WS.map strV ++ [.string ⟨x.toArray⟩])) (g : (wr.alloc o).grownBy w2 v.ownBlock) :
  OwnTx w2 w.heap.size v2 (WS ++ [x]) ∧ Below w.heap.size w w2 :=
 ⟨OwnTx.snoc h, (hb.alloc hb.size o).grown g (by have := hb.size; simp; omega) fun k hk => (how.lt k hk).1⟩
theorem zdY {w wr w2 : World} {v v2 : Value} {WS : List (List UInt8)} {x y : List UInt8} {o : Obj} {N : Nat} (how : OwnTx wr w.heap.size v WS) {wq : World} (hb : Below w.heap.size w wq) (hN : WS.length = N) (h : w2.ownsRow w.heap.size 9 1 v2 (N + 2) (WS.map strV ++ [.string ⟨x.toArray⟩, .string ⟨y.toArray⟩])) (g : (wq.alloc o).grownBy w2 v.ownBlock) :
  OwnTx w2 w.heap.size v2 (WS ++ [x, y]) ∧ Below w.heap.size w w2 := by
 subst hN
 refine ⟨?_, (hb.alloc hb.size o).grown g (by have := hb.size; simp; omega) fun k hk => (how.lt k hk).1⟩
 unfold OwnTx
 simpa [strV] using h
theorem zfW {W : World} {b N : Nat} {v : Value} {l : List (List UInt8)} (h : OwnTx W b v l) (hN : l.length = N) (o o' : Obj) : ((W.alloc o).alloc o').ownsRow b 9 1 v N (l.map strV) := by
 subst hN
 exact World.ownsRow.alloc (World.ownsRow.alloc h o) o'
theorem two_cells (w : World) (x y : Value) : ∀ j u, [x, y][j]? = some u → (w.alloc (.cells #[x, y] 9)).cell? ((⟨w.heap.size, 0, none⟩ : Addr).add j) = some u := by
 intro j u hj
 rcases j with _ | _ | j
 ·simp at hj; subst hj; exact cell_of_row _ _ _ _ _ _ (heap_alloc_new w _)
 ·simp at hj; subst hj; exact cell_of_row _ _ _ _ _ _ (heap_alloc_new w _)
 ·simp at hj
theorem zcz (w : World) (o : Obj) (x y : Value) : ∀ j u, [x, y][j]? = some u → ((w.alloc o).alloc (.cells #[x, y] 9)).cell? ((⟨w.heap.size + 1, 0, none⟩ : Addr).add j) = some u := by
 have h := two_cells (w.alloc o) x y
 rw [show (w.alloc o).heap.size = w.heap.size + 1 by simp] at h
 exact h
theorem conv_lt (i : Nat) (W : World) : (convert 25 9 (.slice (some ⟨W.heap.size, 0, none⟩) 1 1)).run Tryz.prog (W.alloc (.cells #[.int .u8 (97 + (i : Int) % 26)] 5)) = .ok (.string ⟨#[lt i]⟩) (W.alloc (.cells #[.int .u8 (97 + (i : Int) % 26)] 5)) := by
 have h : ((lt i).toNat : Int) = 97 + (i : Int) % 26 := by
  unfold lt
  rw [UInt8.toNat_ofNat']
  omega
 refine run_convert_bytes_back (P := Tryz.prog) _ 25 9 5 ⟨W.heap.size, 0, none⟩ 1 [lt i] Tryz.underlying25 Tryz.underlying5 Tryz.underlying9 fun j hj => ?_
 simp only [List.length_cons, List.length_nil] at hj
 obtain rfl : j = 0 := by omega
 rw [List.getElem_cons_zero, h]
 exact cell_of_row _ _ _ _ _ _ (heap_alloc_new W _)
theorem cat_lt (i : Nat) : (⟨#[97, 112, 112, 101, 110, 100, 32, 108, 111, 103, 95, 32]⟩ : ByteArray) ++ ⟨#[lt i]⟩ = bt (bod i) := by
 apply ByteArray.ext
 simp [bt, bod, apl]
theorem zcA {ts : List Bool} {i : Nat} {t : Bool} (ht : ts[i]? = some t) : wdsC (ts.take (i + 1)) = wdsC (ts.take i) ++ ((if 0 < i then [wElif] else []) ++ [tvw t, bod i]) := by
 have h1 : (ts.take i).length = i := by have := (List.getElem?_eq_some_iff.1 ht).1; rw [List.length_take]; omega
 rw [take_snocB ht, wdsC_snoc, h1]
 rfl
theorem zdZ {ts : List Bool} {i : Nat} {t : Bool} (ht : ts[i]? = some t) : zaE (ts.take (i + 1)).zipIdx false = if zaE (ts.take i).zipIdx false = [] then (if t = true then [lt i] else []) else zaE (ts.take i).zipIdx false := by
 have h1 : (ts.take i).length = i := by have := (List.getElem?_eq_some_iff.1 ht).1; rw [List.length_take]; omega
 rw [take_snocB ht, wantT_snoc false, h1, Nat.zero_add]
theorem want_false {ts : List Bool} {i : Nat} (ht : ts[i]? = some false) : zaE (ts.take (i + 1)).zipIdx false = zaE (ts.take i).zipIdx false := by
 rw [zdZ ht]
 split
 ·rename_i h; rw [h]; rfl
 ·rfl
set_option maxHeartbeats 2000000 in
theorem chosen_in (hA : AwakeOk) (w : World) (hG : HasG w.heap) (a : Addr) (c : Nat) (ts : List Bool) (last : Bool) (hv : ∀ (i : Nat) t, ts[i]? = some t → w.cell? (a.add i) = some (.bool t)) (h1 : 1 ≤ ts.length) (h30 : ts.length ≤ 30) :
  Calls Tryz.prog 3 #[.slice (some a) ts.length c, .bool last] w fun e w' => e = .returned (.bool true) ∧ Below w.heap.size w w' := by
 obtain ⟨i0, hi, hz0, hz1, hz2⟩ := info_parts info9
 have HAW := Lib.hid hA
 have HG := Lib.hid hG
 have HV := Lib.hid hv
 obtain ⟨n, hn⟩ : ∃ n, ts.length = n := ⟨_, rfl⟩
 rw [hn]
 rw [hn] at h1 h30
 have t0 : ¬ ((30 : Int) < (n : Int)) := by omega
 have t1 : ¬ ((n : Int) = 0) := by omega
 have HN := Lib.hid hn
 clear hA hG hv hn
 go_enter Tryz.func3, Tryz.ntmps3
 go_wp2_with (fail)
 have HOW := Lib.hid (start_words w)
 obtain ⟨A0, hA0, sA0, aN0, aO0, bA0⟩ := zag w #[.string ⟨#[105, 102]⟩] 9
 rw [hA0] at HOW ⊢
 have HB0 := Lib.hid bA0
 clear hA0 sA0 aN0 aO0 bA0
 go_loopg [5, 6, 27] n (fun k uv wv iv wr => ∃ i : Nat, iv = .int .i64 (i : Int) ∧ k = n - i ∧ i ≤ n ∧ OwnTx wr w.heap.size uv (wdsC (ts.take i)) ∧ wv = .string (bt (zaE (ts.take i).zipIdx false)) ∧ Below w.heap.size w wr)
 case atStart => exact ⟨0, rfl, rfl, Nat.zero_le _, HOW.out, rfl, HB0.out⟩
 case round =>
  obtain ⟨i, rfl, hk, hi0, how, rfl, hb⟩ := hrel
  by_cases hlt : i < n
  ·obtain ⟨t, ht⟩ : ∃ t, ts[i]? = some t := ⟨_, List.getElem?_eq_getElem (by rw [HN.out]; exact hlt)⟩
   have lw := World.block_lt_of_cell? w _ (HV.out i t ht)
   have c0 : wr.cell? (a.add i) = some (.bool t) := (hb.cell lw).trans (HV.out i t ht)
   obtain ⟨g, c5, rfl⟩ := form_words how
   have hws : (wdsC (ts.take i)).length ≤ 100 := by
    have h1 := wdsC_len (ts.take i)
    have h2 : (ts.take i).length ≤ i := by rw [List.length_take]; omega
    omega
   obtain ⟨WS, hWS⟩ : ∃ WS, WS = wdsC (ts.take i) := ⟨_, rfl⟩
   obtain ⟨WT, hWT⟩ : ∃ WT, WT = bt (zaE (ts.take i).zipIdx false) := ⟨_, rfl⟩
   rw [← hWS] at how hws ⊢
   rw [← hWT]
   have p0 : (i : Int) < (n : Int) := by omega
   have p1 : (0 : Int) ≤ (i : Int) := by omega
   have HOW2 := Lib.hid how
   have HBR := Lib.hid hb
   have HK := Lib.hid hk
   have HWS := Lib.hid hWS
   have HWT := Lib.hid hWT
   have HT := Lib.hid ht
   clear how hb hk hWS hWT ht HOW lw
   have kc := conv_lt i
   by_cases hp : 0 < i
   ·have p2 : (i : Int) > 0 := by omega
    cases t
    ·skip
     go_wp2_with (first | (at_builtin; refine zaa rfl _ _ 24 rfl w.heap.size 9 i0 (.string ⟨#[]⟩) 1 16 Tryz.underlying24 hi hz0 hz1 hz2 rfl (by decide) _ WS.length (WS.map strV) rfl (OwnTx.alloc HOW2.out _) ⟨wr.heap.size, 0, none⟩ 1 1 [.string ⟨wElif.toArray⟩] rfl rfl (cell_one_new _ _ _) (by simp [Value.oneCell']) (by simp only [maxLen]; omega) (by omega) (by have := HBR.out.size; simp; omega) ?_; intro v2 w2 o g2 nn; obtain ⟨g3, c3, rfl⟩ := zam o; obtain ⟨q1, q2⟩ := app_one HOW2.out HBR.out o g2; have HOW3 := Lib.hid q1; have HB3 := Lib.hid q2; clear o g2 nn q1 q2) | (at_builtin; refine zaa rfl _ _ 24 rfl w.heap.size 9 i0 (.string ⟨#[]⟩) 1 16 Tryz.underlying24 hi hz0 hz1 hz2 rfl (by decide) (.slice (some ⟨g3, 0, none⟩) (WS.length + 1) c3) (WS.length + 1) ((WS ++ [wElif]).map strV) rfl (zfW HOW3.out (by simp) _ _) ⟨w2.heap.size + 1, 0, none⟩ 2 2 [.string ⟨#[48]⟩, .string ((⟨#[97, 112, 112, 101, 110, 100, 32, 108, 111, 103, 95, 32]⟩ : ByteArray) ++ ⟨#[lt i]⟩)] (by rfl) rfl (zcz _ _ _ _) (by simp [Value.oneCell']) (by simp only [maxLen]; omega) (by omega) (by have := HB3.out.size; simp; omega) ?_; intro v5 w5 o g2 nn; have HO5 := Lib.hid (zdY (N := (WS.length + 1)) (x := tvw false) (y := bod i) HOW3.out (HB3.out.alloc HB3.out.size _) (by simp) (by rw [show (⟨(bod i).toArray⟩ : ByteArray) = _ from (cat_lt i).symm]; exact o) g2); clear o g2 nn))
     go_roundg (n - (i + 1))
     case measure => rw [HK.out]; omega
     case rel => exact ⟨i + 1, by go_num, rfl, by omega, by rw [zcA HT.out, if_pos hp, ← HWS.out]; have h9 := HO5.out.1; simpa using h9, by rw [want_false HT.out, HWT.out], HO5.out.2⟩
    ·by_cases hwe : zaE (ts.take i).zipIdx false = []
     ·have HWE := Lib.hid hwe
      clear hwe
      have hwe : WT = ⟨#[]⟩ := by rw [HWT.out, HWE.out]; rfl
      subst hwe
      go_wp2_with (first | (at_builtin; refine zaa rfl _ _ 24 rfl w.heap.size 9 i0 (.string ⟨#[]⟩) 1 16 Tryz.underlying24 hi hz0 hz1 hz2 rfl (by decide) _ WS.length (WS.map strV) rfl (OwnTx.alloc HOW2.out _) ⟨wr.heap.size, 0, none⟩ 1 1 [.string ⟨wElif.toArray⟩] rfl rfl (cell_one_new _ _ _) (by simp [Value.oneCell']) (by simp only [maxLen]; omega) (by omega) (by have := HBR.out.size; simp; omega) ?_; intro v2 w2 o g2 nn; obtain ⟨g3, c3, rfl⟩ := zam o; obtain ⟨q1, q2⟩ := app_one HOW2.out HBR.out o g2; have HOW3 := Lib.hid q1; have HB3 := Lib.hid q2; clear o g2 nn q1 q2) | (at_builtin; refine zaa rfl _ _ 24 rfl w.heap.size 9 i0 (.string ⟨#[]⟩) 1 16 Tryz.underlying24 hi hz0 hz1 hz2 rfl (by decide) (.slice (some ⟨g3, 0, none⟩) (WS.length + 1) c3) (WS.length + 1) ((WS ++ [wElif]).map strV) rfl (zfW HOW3.out (by simp) _ _) ⟨w2.heap.size + 1, 0, none⟩ 2 2 [.string ⟨#[49]⟩, .string ((⟨#[97, 112, 112, 101, 110, 100, 32, 108, 111, 103, 95, 32]⟩ : ByteArray) ++ ⟨#[lt i]⟩)] (by rfl) rfl (zcz _ _ _ _) (by simp [Value.oneCell']) (by simp only [maxLen]; omega) (by omega) (by have := HB3.out.size; simp; omega) ?_; intro v5 w5 o g2 nn; have HO5 := Lib.hid (zdY (N := (WS.length + 1)) (x := tvw true) (y := bod i) HOW3.out (HB3.out.alloc HB3.out.size _) (by simp) (by rw [show (⟨(bod i).toArray⟩ : ByteArray) = _ from (cat_lt i).symm]; exact o) g2); clear o g2 nn))
      go_roundg (n - (i + 1))
      case measure => rw [HK.out]; omega
      case rel => exact ⟨i + 1, by go_num, rfl, by omega, by rw [zcA HT.out, if_pos hp, ← HWS.out]; have h9 := HO5.out.1; simpa using h9, by rw [zdZ HT.out, if_pos HWE.out, if_pos rfl]; rfl, HO5.out.2⟩
     ·have HWE := Lib.hid hwe
      have e1 : WT.toList.isEmpty = false := zeO WT fun h => hwe (by rw [HWT.out] at h; have h2 : (zaE (ts.take i).zipIdx false).length = 0 := h; exact List.eq_nil_of_length_eq_zero h2)
      clear hwe
      go_wp2_with (first | (at_builtin; refine zaa rfl _ _ 24 rfl w.heap.size 9 i0 (.string ⟨#[]⟩) 1 16 Tryz.underlying24 hi hz0 hz1 hz2 rfl (by decide) _ WS.length (WS.map strV) rfl (OwnTx.alloc HOW2.out _) ⟨wr.heap.size, 0, none⟩ 1 1 [.string ⟨wElif.toArray⟩] rfl rfl (cell_one_new _ _ _) (by simp [Value.oneCell']) (by simp only [maxLen]; omega) (by omega) (by have := HBR.out.size; simp; omega) ?_; intro v2 w2 o g2 nn; obtain ⟨g3, c3, rfl⟩ := zam o; obtain ⟨q1, q2⟩ := app_one HOW2.out HBR.out o g2; have HOW3 := Lib.hid q1; have HB3 := Lib.hid q2; clear o g2 nn q1 q2) | (at_builtin; refine zaa rfl _ _ 24 rfl w.heap.size 9 i0 (.string ⟨#[]⟩) 1 16 Tryz.underlying24 hi hz0 hz1 hz2 rfl (by decide) (.slice (some ⟨g3, 0, none⟩) (WS.length + 1) c3) (WS.length + 1) ((WS ++ [wElif]).map strV) rfl (zfW HOW3.out (by simp) _ _) ⟨w2.heap.size + 1, 0, none⟩ 2 2 [.string ⟨#[49]⟩, .string ((⟨#[97, 112, 112, 101, 110, 100, 32, 108, 111, 103, 95, 32]⟩ : ByteArray) ++ ⟨#[lt i]⟩)] (by rfl) rfl (zcz _ _ _ _) (by simp [Value.oneCell']) (by simp only [maxLen]; omega) (by omega) (by have := HB3.out.size; simp; omega) ?_; intro v5 w5 o g2 nn; have HO5 := Lib.hid (zdY (N := (WS.length + 1)) (x := tvw true) (y := bod i) HOW3.out (HB3.out.alloc HB3.out.size _) (by simp) (by rw [show (⟨(bod i).toArray⟩ : ByteArray) = _ from (cat_lt i).symm]; exact o) g2); clear o g2 nn))
      go_roundg (n - (i + 1))
      case measure => rw [HK.out]; omega
      case rel => exact ⟨i + 1, by go_num, rfl, by omega, by rw [zcA HT.out, if_pos hp, ← HWS.out]; have h9 := HO5.out.1; simpa using h9, by rw [zdZ HT.out, if_neg HWE.out, HWT.out], HO5.out.2⟩
   ·have p2 : ¬ (i : Int) > 0 := by omega
    cases t
    ·skip
     go_wp2_with ((at_builtin; refine zaa rfl _ _ 24 rfl w.heap.size 9 i0 (.string ⟨#[]⟩) 1 16 Tryz.underlying24 hi hz0 hz1 hz2 rfl (by decide) (.slice (some ⟨g, 0, none⟩) WS.length c5) WS.length (WS.map strV) rfl (zfW HOW2.out (by simp) _ _) ⟨wr.heap.size + 1, 0, none⟩ 2 2 [.string ⟨#[48]⟩, .string ((⟨#[97, 112, 112, 101, 110, 100, 32, 108, 111, 103, 95, 32]⟩ : ByteArray) ++ ⟨#[lt i]⟩)] (by rfl) rfl (zcz _ _ _ _) (by simp [Value.oneCell']) (by simp only [maxLen]; omega) (by omega) (by have := HBR.out.size; simp; omega) ?_; intro v5 w5 o g2 nn; have HO5 := Lib.hid (zdY (N := WS.length) (x := tvw false) (y := bod i) HOW2.out (HBR.out.alloc HBR.out.size _) (by simp) (by rw [show (⟨(bod i).toArray⟩ : ByteArray) = _ from (cat_lt i).symm]; exact o) g2); clear o g2 nn))
     go_roundg (n - (i + 1))
     case measure => rw [HK.out]; omega
     case rel => exact ⟨i + 1, by go_num, rfl, by omega, by rw [zcA HT.out, if_neg hp, ← HWS.out]; have h9 := HO5.out.1; simpa using h9, by rw [want_false HT.out, HWT.out], HO5.out.2⟩
    ·by_cases hwe : zaE (ts.take i).zipIdx false = []
     ·have HWE := Lib.hid hwe
      clear hwe
      have hwe : WT = ⟨#[]⟩ := by rw [HWT.out, HWE.out]; rfl
      subst hwe
      go_wp2_with ((at_builtin; refine zaa rfl _ _ 24 rfl w.heap.size 9 i0 (.string ⟨#[]⟩) 1 16 Tryz.underlying24 hi hz0 hz1 hz2 rfl (by decide) (.slice (some ⟨g, 0, none⟩) WS.length c5) WS.length (WS.map strV) rfl (zfW HOW2.out (by simp) _ _) ⟨wr.heap.size + 1, 0, none⟩ 2 2 [.string ⟨#[49]⟩, .string ((⟨#[97, 112, 112, 101, 110, 100, 32, 108, 111, 103, 95, 32]⟩ : ByteArray) ++ ⟨#[lt i]⟩)] (by rfl) rfl (zcz _ _ _ _) (by simp [Value.oneCell']) (by simp only [maxLen]; omega) (by omega) (by have := HBR.out.size; simp; omega) ?_; intro v5 w5 o g2 nn; have HO5 := Lib.hid (zdY (N := WS.length) (x := tvw true) (y := bod i) HOW2.out (HBR.out.alloc HBR.out.size _) (by simp) (by rw [show (⟨(bod i).toArray⟩ : ByteArray) = _ from (cat_lt i).symm]; exact o) g2); clear o g2 nn))
      go_roundg (n - (i + 1))
      case measure => rw [HK.out]; omega
      case rel => exact ⟨i + 1, by go_num, rfl, by omega, by rw [zcA HT.out, if_neg hp, ← HWS.out]; have h9 := HO5.out.1; simpa using h9, by rw [zdZ HT.out, if_pos HWE.out, if_pos rfl]; rfl, HO5.out.2⟩
     ·have HWE := Lib.hid hwe
      have e1 : WT.toList.isEmpty = false := zeO WT fun h => hwe (by rw [HWT.out] at h; have h2 : (zaE (ts.take i).zipIdx false).length = 0 := h; exact List.eq_nil_of_length_eq_zero h2)
      clear hwe
      go_wp2_with ((at_builtin; refine zaa rfl _ _ 24 rfl w.heap.size 9 i0 (.string ⟨#[]⟩) 1 16 Tryz.underlying24 hi hz0 hz1 hz2 rfl (by decide) (.slice (some ⟨g, 0, none⟩) WS.length c5) WS.length (WS.map strV) rfl (zfW HOW2.out (by simp) _ _) ⟨wr.heap.size + 1, 0, none⟩ 2 2 [.string ⟨#[49]⟩, .string ((⟨#[97, 112, 112, 101, 110, 100, 32, 108, 111, 103, 95, 32]⟩ : ByteArray) ++ ⟨#[lt i]⟩)] (by rfl) rfl (zcz _ _ _ _) (by simp [Value.oneCell']) (by simp only [maxLen]; omega) (by omega) (by have := HBR.out.size; simp; omega) ?_; intro v5 w5 o g2 nn; have HO5 := Lib.hid (zdY (N := WS.length) (x := tvw true) (y := bod i) HOW2.out (HBR.out.alloc HBR.out.size _) (by simp) (by rw [show (⟨(bod i).toArray⟩ : ByteArray) = _ from (cat_lt i).symm]; exact o) g2); clear o g2 nn))
      go_roundg (n - (i + 1))
      case measure => rw [HK.out]; omega
      case rel => exact ⟨i + 1, by go_num, rfl, by omega, by rw [zcA HT.out, if_neg hp, ← HWS.out]; have h9 := HO5.out.1; simpa using h9, by rw [zdZ HT.out, if_neg HWE.out, HWT.out], HO5.out.2⟩
  ·have hie : i = n := by omega
   have htk : ts.take i = ts := List.take_of_length_le (by rw [HN.out]; omega)
   rw [htk] at how ⊢
   obtain ⟨g, c5, rfl⟩ := form_words how
   have p0 : ¬ ((i : Int) < (n : Int)) := by omega
   have HN1 := Lib.hid (show 1 ≤ ts.length by rw [HN.out]; exact h1)
   have HN30 := Lib.hid (show ts.length ≤ 30 by rw [HN.out]; exact h30)
   clear hie htk HOW
   cases last
   ·have hwo : OwnTx wr w.heap.size (.slice (some ⟨g, 0, none⟩) (wdsC ts).length c5) (wdsL ts false) := by rw [show wdsL ts false = wdsC ts by simp [wdsL]]; exact how
    have hwb := hb
    have HWO := Lib.hid hwo
    have HWB := Lib.hid hwb
    have HGW := Lib.hid (HasG.below (w := w) HG.out hwb (HasG.pos (w := w) HG.out))
    clear hwo hwb
    go_wp2_with (first
     | (go_at_call 5; refine (new_any wr HGW.out).mono ?_; rintro e1 w1 ⟨e0, e, X, ext, rfl, hX, ms, st⟩; dsimp only; have HX := Lib.hid hX; have HM1 := Lib.hid ms; have HST1 := Lib.hid st; clear hX ms st)
     | (go_at_call 6; refine (set_any HM1.out HX.out).mono ?_; rintro e1 w2 ⟨e2, rfl, ms, st⟩; dsimp only; have HX2 := Lib.hid (st.le.loc _ _ HX.out); have HM2 := Lib.hid ms; have HST2 := Lib.hid (HST1.out.trans st); have HB2 := Lib.hid ((HST1.out.trans st).below fun b => rfl); clear ms st)
     | (go_at_call 8; refine (line_any w2 HM2.out.g _ _ (HWO.out.later HB2.out).str (zfr false HN30.out)).mono ?_; rintro e1 w3 ⟨q, rfl, hq, hb⟩; dsimp only; have HQ := Lib.hid hq; have HB3 := Lib.hid hb; clear hq hb)
     | (go_at_call 7; refine (eval_line (HM2.out.below HB3.out) HX2.out HN1.out HN30.out HQ.out).mono ?_; rintro e1 w4 ⟨e4, n4, l4, rfl, hf, ms, st⟩; unfold okV; dsimp only; obtain ⟨A, hA, sA, aN, aO, bA⟩ := zag w4 #[.int .i64 0, .int .i64 0, .string (bt (zaE ts.zipIdx false))] 31; have HA := Lib.hid hA; have HAN := Lib.hid aN; have HX4 := Lib.hid (st.le.loc _ _ HX2.out); have HM4 := Lib.hid (ms.below bA); have HNO := Lib.hid (fun o => Nat.lt_irrefl _ (ms_lt ms o) : ¬ Xe.Own e4 (zad n4 l4) w4.heap.size); have HF := Lib.hid hf; have HST4 := Lib.hid ((HST2.out.trans (StepB.of_below (HB3.out)).toStep).trans (st.trans (StepB.of_below bA).toStep)); clear hf ms st hA sA aN aO bA)
     | (go_at_call 9; rw [HA.out]; refine (get_any HF.out HM4.out HX4.out).mono ?_; rintro e1 w6 ⟨e6, rfl, st⟩; dsimp only; have hbk := (st.keep w4.heap.size (Array.getElem?_eq_some_iff.1 HAN.out).1 HNO.out).1.trans HAN.out; have c6 := (show w6.cell? ⟨w4.heap.size, 0, none⟩ = some (.int .i64 0) by rw [Lib.cell_of_heap hbk]; rfl); have HB6 := Lib.hid ((HST4.out.trans st).below fun b => rfl); clear hbk st)
     | (go_at_call 4; refine (HAW.out w6 (HasG.below (w := wr) HGW.out HB6.out (HasG.pos (w := wr) HGW.out))).mono ?_; rintro e1 w7 ⟨rfl, hb⟩; dsimp only; have HB7 := Lib.hid (HB6.out.trans (hb.mono HB6.out.size)); clear hb))
    go_ret
    exact ⟨rfl, HWB.out.trans (HB7.out.mono HWB.out.size)⟩
   ·have hlen : (wdsC ts).length ≤ 100 := by have h9 := wdsC_len ts; rw [HN.out] at h9; omega
    obtain ⟨WS, hWS⟩ : ∃ WS, WS = wdsC ts := ⟨_, rfl⟩
    obtain ⟨WT, hWT⟩ : ∃ WT, WT = bt (zaE ts.zipIdx false) := ⟨_, rfl⟩
    rw [← hWS] at how hlen ⊢
    rw [← hWT]
    have HOW2 := Lib.hid how
    have HBR := Lib.hid hb
    have HWS := Lib.hid hWS
    have HWT := Lib.hid hWT
    clear how hb hWS hWT
    by_cases hwe : zaE ts.zipIdx false = []
    ·have hwt : WT = ⟨#[]⟩ := by rw [HWT.out, hwe]; rfl
     subst hwt
     have hwt2 : bt (zaE ts.zipIdx true) = ⟨#[33]⟩ := by rw [wantT_end, if_pos hwe, if_pos rfl]; rfl
     clear hwe
     go_wp2_with (at_builtin; refine zaa rfl _ _ 24 rfl w.heap.size 9 i0 (.string ⟨#[]⟩) 1 16 Tryz.underlying24 hi hz0 hz1 hz2 rfl (by decide) (.slice (some ⟨g, 0, none⟩) WS.length c5) WS.length (WS.map strV) rfl (OwnTx.alloc HOW2.out _) ⟨wr.heap.size, 0, none⟩ 2 2 [.string ⟨wLast.toArray⟩, .string ⟨bodE.toArray⟩] (by rfl) rfl (two_cells _ _ _) (by simp [Value.oneCell']) (by simp only [maxLen]; omega) (by omega) (by have := HBR.out.size; simp; omega) ?_; intro v5 w5 o g2 nn; obtain ⟨g3, c3, rfl⟩ := zam (n := WS.length + 1) o; have HO5 := Lib.hid (zdY (N := WS.length) (x := wLast) (y := bodE) HOW2.out HBR.out rfl o g2); clear o g2 nn)
     have hwo : OwnTx w5 w.heap.size (.slice (some ⟨g3, 0, none⟩) (WS.length + 1 + 1) c3) (wdsL ts true) := by have h9 := HO5.out.1; rw [show wdsL ts true = WS ++ [wLast, bodE] by rw [HWS.out]; simp [wdsL]]; exact h9
     have hwb := HO5.out.2
     have HWO := Lib.hid hwo
     have HWB := Lib.hid hwb
     have HGW := Lib.hid (HasG.below (w := w) HG.out hwb (HasG.pos (w := w) HG.out))
     clear hwo hwb
     go_wp2_with (first
      | (go_at_call 5; refine (new_any w5 HGW.out).mono ?_; rintro e1 w1 ⟨e0, e, X, ext, rfl, hX, ms, st⟩; dsimp only; have HX := Lib.hid hX; have HM1 := Lib.hid ms; have HST1 := Lib.hid st; clear hX ms st)
      | (go_at_call 6; refine (set_any HM1.out HX.out).mono ?_; rintro e1 w2 ⟨e2, rfl, ms, st⟩; dsimp only; have HX2 := Lib.hid (st.le.loc _ _ HX.out); have HM2 := Lib.hid ms; have HST2 := Lib.hid (HST1.out.trans st); have HB2 := Lib.hid ((HST1.out.trans st).below fun b => rfl); clear ms st)
      | (go_at_call 8; refine (line_any w2 HM2.out.g _ _ (HWO.out.later HB2.out).str (zfr true HN30.out)).mono ?_; rintro e1 w3 ⟨q, rfl, hq, hb⟩; dsimp only; have HQ := Lib.hid hq; have HB3 := Lib.hid hb; clear hq hb)
      | (go_at_call 7; refine (eval_line (HM2.out.below HB3.out) HX2.out HN1.out HN30.out HQ.out).mono ?_; rintro e1 w4 ⟨e4, n4, l4, rfl, hf, ms, st⟩; unfold okV; dsimp only; obtain ⟨A, hA, sA, aN, aO, bA⟩ := zag w4 #[.int .i64 0, .int .i64 0, .string ⟨#[33]⟩] 31; have HA := Lib.hid hA; have HAN := Lib.hid aN; have HX4 := Lib.hid (st.le.loc _ _ HX2.out); have HM4 := Lib.hid (ms.below bA); have HNO := Lib.hid (fun o => Nat.lt_irrefl _ (ms_lt ms o) : ¬ Xe.Own e4 (zad n4 l4) w4.heap.size); have HF := Lib.hid hf; have HST4 := Lib.hid ((HST2.out.trans (StepB.of_below (HB3.out)).toStep).trans (st.trans (StepB.of_below bA).toStep)); clear hf ms st hA sA aN aO bA)
      | (go_at_call 9; rw [HA.out]; refine (get_any HF.out HM4.out HX4.out).mono ?_; rintro e1 w6 ⟨e6, rfl, st⟩; dsimp only; have hbk := (st.keep w4.heap.size (Array.getElem?_eq_some_iff.1 HAN.out).1 HNO.out).1.trans HAN.out; have c6 := (show w6.cell? ⟨w4.heap.size, 0, none⟩ = some (.int .i64 0) by rw [Lib.cell_of_heap hbk]; rfl); have HB6 := Lib.hid ((HST4.out.trans st).below fun b => rfl); clear hbk st)
      | (go_at_call 4; refine (HAW.out w6 (HasG.below (w := w5) HGW.out HB6.out (HasG.pos (w := w5) HGW.out))).mono ?_; rintro e1 w7 ⟨rfl, hb⟩; dsimp only; have HB7 := Lib.hid (HB6.out.trans (hb.mono HB6.out.size)); clear hb))
     go_ret
     exact ⟨rfl, HWB.out.trans (HB7.out.mono HWB.out.size)⟩
    ·have e1 : WT.toList.isEmpty = false := zeO WT fun h => hwe (by rw [HWT.out] at h; have h2 : (zaE ts.zipIdx false).length = 0 := h; exact List.eq_nil_of_length_eq_zero h2)
     have hwt2 : bt (zaE ts.zipIdx true) = WT := by rw [wantT_end, if_neg hwe, HWT.out]
     clear hwe
     go_wp2_with (at_builtin; refine zaa rfl _ _ 24 rfl w.heap.size 9 i0 (.string ⟨#[]⟩) 1 16 Tryz.underlying24 hi hz0 hz1 hz2 rfl (by decide) (.slice (some ⟨g, 0, none⟩) WS.length c5) WS.length (WS.map strV) rfl (OwnTx.alloc HOW2.out _) ⟨wr.heap.size, 0, none⟩ 2 2 [.string ⟨wLast.toArray⟩, .string ⟨bodE.toArray⟩] (by rfl) rfl (two_cells _ _ _) (by simp [Value.oneCell']) (by simp only [maxLen]; omega) (by omega) (by have := HBR.out.size; simp; omega) ?_; intro v5 w5 o g2 nn; obtain ⟨g3, c3, rfl⟩ := zam (n := WS.length + 1) o; have HO5 := Lib.hid (zdY (N := WS.length) (x := wLast) (y := bodE) HOW2.out HBR.out rfl o g2); clear o g2 nn)
     have hwo : OwnTx w5 w.heap.size (.slice (some ⟨g3, 0, none⟩) (WS.length + 1 + 1) c3) (wdsL ts true) := by have h9 := HO5.out.1; rw [show wdsL ts true = WS ++ [wLast, bodE] by rw [HWS.out]; simp [wdsL]]; exact h9
     have hwb := HO5.out.2
     have HWO := Lib.hid hwo
     have HWB := Lib.hid hwb
     have HGW := Lib.hid (HasG.below (w := w) HG.out hwb (HasG.pos (w := w) HG.out))
     clear hwo hwb
     go_wp2_with (first
      | (go_at_call 5; refine (new_any w5 HGW.out).mono ?_; rintro e1 w1 ⟨e0, e, X, ext, rfl, hX, ms, st⟩; dsimp only; have HX := Lib.hid hX; have HM1 := Lib.hid ms; have HST1 := Lib.hid st; clear hX ms st)
      | (go_at_call 6; refine (set_any HM1.out HX.out).mono ?_; rintro e1 w2 ⟨e2, rfl, ms, st⟩; dsimp only; have HX2 := Lib.hid (st.le.loc _ _ HX.out); have HM2 := Lib.hid ms; have HST2 := Lib.hid (HST1.out.trans st); have HB2 := Lib.hid ((HST1.out.trans st).below fun b => rfl); clear ms st)
      | (go_at_call 8; refine (line_any w2 HM2.out.g _ _ (HWO.out.later HB2.out).str (zfr true HN30.out)).mono ?_; rintro e1 w3 ⟨q, rfl, hq, hb⟩; dsimp only; have HQ := Lib.hid hq; have HB3 := Lib.hid hb; clear hq hb)
      | (go_at_call 7; refine (eval_line (HM2.out.below HB3.out) HX2.out HN1.out HN30.out HQ.out).mono ?_; rintro e1 w4 ⟨e4, n4, l4, rfl, hf, ms, st⟩; unfold okV; dsimp only; obtain ⟨A, hA, sA, aN, aO, bA⟩ := zag w4 #[.int .i64 0, .int .i64 0, .string WT] 31; have HA := Lib.hid hA; have HAN := Lib.hid aN; have HX4 := Lib.hid (st.le.loc _ _ HX2.out); have HM4 := Lib.hid (ms.below bA); have HNO := Lib.hid (fun o => Nat.lt_irrefl _ (ms_lt ms o) : ¬ Xe.Own e4 (zad n4 l4) w4.heap.size); have HF := Lib.hid hf; have HST4 := Lib.hid ((HST2.out.trans (StepB.of_below (HB3.out)).toStep).trans (st.trans (StepB.of_below bA).toStep)); clear hf ms st hA sA aN aO bA)
      | (go_at_call 9; rw [HA.out]; refine (get_any HF.out HM4.out HX4.out).mono ?_; rintro e1 w6 ⟨e6, rfl, st⟩; dsimp only; have hbk := (st.keep w4.heap.size (Array.getElem?_eq_some_iff.1 HAN.out).1 HNO.out).1.trans HAN.out; have c6 := (show w6.cell? ⟨w4.heap.size, 0, none⟩ = some (.int .i64 0) by rw [Lib.cell_of_heap hbk]; rfl); have HB6 := Lib.hid ((HST4.out.trans st).below fun b => rfl); clear hbk st)
      | (go_at_call 4; refine (HAW.out w6 (HasG.below (w := w5) HGW.out HB6.out (HasG.pos (w := w5) HGW.out))).mono ?_; rintro e1 w7 ⟨rfl, hb⟩; dsimp only; have HB7 := Lib.hid (HB6.out.trans (hb.mono HB6.out.size)); clear hb))
     go_ret
     exact ⟨rfl, HWB.out.trans (HB7.out.mono HWB.out.size)⟩
end Go.Proofs.YtfkeeieoapimlaaGreatDoor
end
