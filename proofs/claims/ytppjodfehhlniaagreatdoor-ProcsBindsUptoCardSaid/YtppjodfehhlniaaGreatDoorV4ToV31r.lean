/-
  Special bytes: the document's way; A text's escapes replaced after its end is known is the text replaced on the way; The document's closing brace, and. Conditions: none.
-/
import Derived.Test.YtppjodfehhlniaaGreatDoorV3ToV30a
import Derived.Test.YtppjodfehhlniaaGreatDoorWg
import Derived.Test.YtppjodfehhlniaaGreatDoorUnaToVt3
import Derived.Test.YtppjodfehhlniaaGreatDoorWe2ToWi0
import Derived.Test.YtppjodfehhlniaaGreatDoorWkToV2
import Derived.OrdersIn
import Derived.OwnWalkIn
import Derived.RangeFuncNested
set_option linter.unusedVariables false
set_option linter.unusedSimpArgs false
set_option linter.unusedSectionVars false
set_option linter.deprecated false
section
namespace Go.Proofs.YtppjodfehhlniaaGreatDoor
open Go.ChangeShapes Go.WideShapes Go.ChangeAt Go.RowKit
set_option maxRecDepth 100000
theorem zti : ∀ c : Fin 256, decide (0 ≤ fstV (fst [34, 92, 123, 125, 36, 91, 93, 59] (UInt8.ofNat c.val))) = spc2 c.val := by decide
theorem zp1 (c : Nat) (hc : c < 256) (w : World) :
  Calls Tryz.prog 104 #[.string (strOfNums [(c : Int)]), .string ⟨#[34, 92, 123, 125, 36, 91, 93, 59]⟩, .int .i64 0] w fun e w' => (∃ k : Int, e = .returned (.int .i64 k) ∧ decide (0 ≤ k) = spc2 c) ∧ w = w' := by
 have hl := ze9 (c : Int)
 have hsz : (strOfNums [(c : Int)]).size = 1 := by have := za7 (strOfNums [(c : Int)]); rw [hl] at this; simpa using this.symm
 refine (ziS (strOfNums [(c : Int)]) ⟨#[34, 92, 123, 125, 36, 91, 93, 59]⟩ hsz (by decide) w).mono ?_
 rintro e w' ⟨rfl, rfl⟩
 refine ⟨⟨_, rfl, ?_⟩, rfl⟩
 have hu : ub (strOfNums [(c : Int)]) 0 = UInt8.ofNat c := by
  have h := zak (strOfNums [(c : Int)]) (show 0 < (strOfNums [(c : Int)]).size by omega)
  rw [List.drop_zero, hl] at h
  exact (List.cons.inj h).1.symm
 rw [hu]
 exact zti ⟨c, hc⟩
set_option maxHeartbeats 1000000 in
theorem zbi (c : Nat) (hc : c < 256) (w : World) : Calls Tryz.prog 340 #[.int .u8 (c : Int)] w fun e w' => e = .returned (.bool (spcN c)) ∧ Below w.heap.size w w' := by
 cases hw : whN c with
 | true =>
   go_enter Tryz.func340, Tryz.ntmps340
   go_wp2_with (go_at_call 217; refine (za4 c hc _).mono ?_; rintro e w' ⟨rfl, rfl⟩; rw [hw])
   go_ret
   exact ⟨zap (by simp [spcN, hw]), Below.refl _ _⟩
 | false =>
   go_enter Tryz.func340, Tryz.ntmps340
   go_wp2_with (go_at_call 217; refine (za4 c hc _).mono ?_; rintro e w' ⟨rfl, rfl⟩; rw [hw])
   rw [zjm]
   simp only [Result.andThen]
   rw [Oper.upon_value]
   go_wp2_with (go_at_call 104; refine (zp1 c hc _).mono ?_; rintro e w' ⟨⟨k, rfl, hk⟩, rfl⟩; have HK := Lib.hid hk; clear hk)
   go_ret
   exact ⟨zap (by simpa [spcN, hw] using HK.out), (Below.refl _ _).alloc (Nat.le_refl _) _⟩
end Go.Proofs.YtppjodfehhlniaaGreatDoor
end
section
namespace Go.Proofs.YtppjodfehhlniaaGreatDoor
def unesc (l : List UInt8) : List UInt8 :=
 match l with
 | [] => []
 | c :: r => if hc : c = 92 then (une (c :: r)).1 ++ unesc ((c :: r).drop (une (c :: r)).2) else c :: unesc r
termination_by l.length
decreasing_by
 all_goals first
  | (subst hc; have := zcg r; simp only [List.length_drop, List.length_cons]; omega)
  | simp
theorem zrL (base : Nat) : ∀ (l : List UInt8) (m v k : Nat), (digs base l m v).2 ≤ k → digs base (l.take k) m v = digs base l m v := by
 intro l
 induction l with
 | nil => intro m v k _; simp
 | cons c r ih =>
   intro m v k h
   cases m with
   | zero => cases k <;> simp [digs]
   | succ m =>
     cases k with
     | zero =>
       unfold digs at h
       split at h
       ·simp at h
       ·rename_i hd
        simp [digs, hd]
     | succ k =>
       rw [List.take_succ_cons]
       unfold digs at h ⊢
       split at h
       ·rename_i hd
        rw [if_pos hd, if_pos hd, ih m _ k (by simpa using h)]
       ·rename_i hd
        rw [if_neg hd, if_neg hd]
theorem ztj : ∀ (l : List UInt8) (k : Nat), blk l ≤ k → blk (l.take k) = blk l := by
 intro l
 induction l with
 | nil => intro k _; simp
 | cons c r ih =>
   intro k h
   cases k with
   | zero =>
     unfold blk at h
     split at h
     ·omega
     ·rename_i hd; simp [blk, hd]
   | succ k =>
     rw [List.take_succ_cons]
     unfold blk at h ⊢
     split at h
     ·rename_i hd; rw [if_pos hd, if_pos hd, ih k (by omega)]
     ·rename_i hd; rw [if_neg hd, if_neg hd]
theorem zmG (c : UInt8) (base at_ k : Nat) (l : List UInt8) (m : Nat) (h : (une2 c base at_ (digs base l m 0)).2 ≤ at_ + k) : digs base (l.take k) m 0 = digs base l m 0 := by
 refine zrL base l m 0 k ?_
 unfold une2 at h
 split at h
 ·rename_i h0; omega
 ·simp at h; omega
theorem ztk (c : UInt8) (t : List UInt8) : 2 ≤ (une1 c t).2 := by
 unfold une1
 split
 ·simp
 ·split
  ·simp
  ·split <;> (unfold une2; split <;> simp <;> omega)
theorem zrM (c : UInt8) (t : List UInt8) (k : Nat) (h : (une1 c t).2 ≤ k + 2) : une1 c (t.take k) = une1 c t := by
 unfold une1 at h ⊢
 split at h
 ·rfl
 ·split at h
  ·rename_i hc
   rw [if_pos hc, if_pos hc, ztj t k (by simpa using h)]
  ·rename_i hc
   rw [if_neg hc, if_neg hc]
   split at h
   ·rename_i hx
    rw [if_pos hx, if_pos hx, zmG c 16 2 k t 2 (by omega)]
   ·rename_i hx
    rw [if_neg hx, if_neg hx]
    have := zmG c 8 1 (k + 1) (c :: t) 3 (by omega)
    rw [List.take_succ_cons] at this
    rw [this]
theorem ztl (r : List UInt8) (k : Nat) (h : (une (92 :: r)).2 ≤ k) : une ((92 :: r).take k) = une (92 :: r) := by
 cases r with
 | nil =>
   cases k with
   | zero => have := zcg []; omega
   | succ k => simp
 | cons c t =>
   have e : ∀ t', une (92 :: c :: t') = une1 c t' := by intro t'; simp [une]
   rw [e] at h ⊢
   have h2 := ztk c t
   obtain ⟨j, rfl⟩ : ∃ j, k = j + 2 := ⟨k - 2, by omega⟩
   rw [show (92 :: c :: t).take (j + 2) = 92 :: c :: t.take j by simp, e, zrM c t j h]
theorem zj8 (r : List UInt8) (m : Nat) : unesc ((92 :: r).take ((une (92 :: r)).2 + m)) = (une (92 :: r)).1 ++ unesc (((92 :: r).drop (une (92 :: r)).2).take m) := by
 have h1 := zcg r
 have ht := ztl r ((une (92 :: r)).2 + m) (by omega)
 obtain ⟨x, hx⟩ : ∃ x, (92 :: r).take ((une (92 :: r)).2 + m) = 92 :: x := by
  obtain ⟨j, hj⟩ : ∃ j, (une (92 :: r)).2 + m = j + 1 := ⟨(une (92 :: r)).2 + m - 1, by omega⟩
  exact ⟨r.take j, by rw [hj]; simp⟩
 rw [hx] at ht ⊢
 rw [unesc]
 simp only [↓reduceDIte]
 rw [ht, ← hx, List.drop_take]
 congr 3
 omega
theorem zp2 : ∀ (n : Nat) (l : List UInt8), l.length ≤ n → unesc (l.take (bare l).2) = (bare l).1 := by
 intro n
 induction n with
 | zero => intro l h; have : l = [] := List.eq_nil_of_length_eq_zero (by omega); subst this; simp [bare, unesc]
 | succ n ih =>
   intro l h
   rw [bare.eq_def]
   cases l with
   | nil => simp [unesc]
   | cons c r =>
     simp only
     split
     ·simp [unesc]
     ·split
      ·rename_i hc; subst hc
       have h1 := zcg r
       rw [zj8, ih _ (by simp at h ⊢; omega)]
      ·rename_i hc
       rw [Nat.add_comm, List.take_succ_cons, unesc]
       simp only [hc, ↓reduceDIte]
       rw [ih r (by simpa using h)]
theorem zrN : ∀ (n : Nat) (l : List UInt8), l.length ≤ n → ∀ p, quo l = some p → unesc (l.take p.2) = p.1 := by
 intro n
 induction n with
 | zero => intro l h p hp; have : l = [] := List.eq_nil_of_length_eq_zero (by omega); subst this; simp [quo] at hp
 | succ n ih =>
   intro l h p hp
   rw [quo.eq_def] at hp
   cases l with
   | nil => simp at hp
   | cons c r =>
     simp only at hp
     split at hp
     ·cases hp; simp [unesc]
     ·split at hp
      ·rename_i hc; subst hc
       have h1 := zcg r
       obtain ⟨q, hq, rfl⟩ := Option.map_eq_some_iff.1 hp
       simp only
       rw [zj8, ih _ (by simp at h ⊢; omega) q hq]
      ·rename_i hc
       obtain ⟨q, hq, rfl⟩ := Option.map_eq_some_iff.1 hp
       simp only
       rw [Nat.add_comm, List.take_succ_cons, unesc]
       simp only [hc, ↓reduceDIte]
       rw [ih r (by simpa using h) q hq]
end Go.Proofs.YtppjodfehhlniaaGreatDoor
end
section
namespace Go.Proofs.YtppjodfehhlniaaGreatDoor
open Go.ChangeShapes Go.WideShapes Go.ChangeAt Go.RowKit
set_option maxRecDepth 100000
def cloV (p : Nat) : Option Nat → Int
 | none => -1
 | some k => ((p + k : Nat) : Int)
set_option maxHeartbeats 1000000 in
theorem zok (s : ByteArray) (hs : s.size ≤ 1000000) (p : Nat) (hp : p ≤ s.size) (w : World) :
  Calls Tryz.prog 337 #[.string s, .int .i64 (p : Int)] w fun e w' => e = .returned (.int .i64 (cloV p (clo ((L s).drop p) 0))) ∧ w = w' := by
 have hby := zam s
 go_enter Tryz.func337, Tryz.ntmps337
 go_wp2
 go_loopg [5, 6] (s.size + 1 - p) (fun k dv n wr => ∃ (d : Int) (i : Nat), dv = .int .i64 d ∧ n = .int .i64 (i : Int) ∧ k = s.size + 1 - i ∧ p ≤ i ∧ i ≤ s.size + 1 ∧ -(i : Int) ≤ d ∧ d ≤ (i : Int) ∧
  clo ((L s).drop p) 0 = (clo ((L s).drop i) d).map (· + (i - p)) ∧ w = wr)
 case atStart => exact ⟨0, p, rfl, rfl, by omega, by omega, by omega, by omega, by omega, by simp, rfl⟩
 case round =>
  obtain ⟨d, i, rfl, rfl, hk, hpi, his, hd1, hd2, heq, rfl⟩ := hrel
  have HK := Lib.hid hk
  have HEQ := Lib.hid heq
  have hb := zaA s i
  clear hk heq
  by_cases hlt : i < s.size
  ·have t7 : (i : Int) < (s.size : Int) := by omega
   have hdr := zak s hlt
   by_cases h92 : byte s i = 92
   ·have t8 : ((byte s i : Int) == 92) = true := by simp; omega
    have hc : ub s i = 92 := za3 s i (by decide) h92
    have HS := Lib.hid (show clo ((L s).drop i) d = (clo ((L s).drop (i + 2)) d).map (· + 2) by rw [hdr, zb8, if_pos hc, List.drop_drop])
    clear h92 hdr hc
    go_wp2
    go_roundg (s.size + 1 - (i + 2))
    case measure => rw [HK.out]; omega
    case rel =>
     refine ⟨d, i + 2, rfl, by go_num, rfl, by omega, by omega, by omega, by omega, ?_, rfl⟩
     rw [HEQ.out, HS.out, Option.map_map]
     congr 1; funext x; simp; omega
   ·have hc : ¬ ub s i = 92 := fun h => h92 ((zbv s i 92 (by decide)).1 h)
    have t8 : ((byte s i : Int) == 92) = false := by simp; omega
    by_cases h123 : byte s i = 123
    ·have t9 : ((byte s i : Int) == 123) = true := by simp; omega
     have hc2 : ub s i = 123 := za3 s i (by decide) h123
     have HS := Lib.hid (show clo ((L s).drop i) d = (clo ((L s).drop (i + 1)) (d + 1)).map (· + 1) by rw [hdr, zb8, if_neg hc, if_pos hc2])
     clear h92 h123 hdr hc hc2
     go_wp2
     go_roundg (s.size + 1 - (i + 1))
     case measure => rw [HK.out]; omega
     case rel =>
      refine ⟨d + 1, i + 1, rfl, by go_num, rfl, by omega, by omega, by omega, by omega, ?_, rfl⟩
      rw [HEQ.out, HS.out, Option.map_map]
      congr 1; funext x; simp; omega
    ·have hc2 : ¬ ub s i = 123 := fun h => h123 ((zbv s i 123 (by decide)).1 h)
     have t9 : ((byte s i : Int) == 123) = false := by simp; omega
     by_cases h125 : byte s i = 125
     ·have t10 : ((byte s i : Int) == 125) = true := by simp; omega
      have hc3 : ub s i = 125 := za3 s i (by decide) h125
      by_cases hd0 : d - 1 = 0
      ·have t11 : (d - 1 == 0) = true := by simp; omega
       have t12 : (1 : Int) ≤ (i : Int) := by omega
       have t13 : (i : Int) ≤ (s.size : Int) := by omega
       have HS := Lib.hid (show clo ((L s).drop i) d = some 0 by rw [hdr, zb8, if_neg hc, if_neg hc2, if_pos hc3, if_pos hd0])
       clear h92 h123 h125 hdr hc hc2 hc3 hd0
       go_wp2
       go_ret
       refine ⟨zdZ ?_, rfl⟩
       rw [HEQ.out, HS.out]
       simp only [Option.map_some, cloV]
       omega
      ·have t11 : (d - 1 == 0) = false := by simp; omega
       have HS := Lib.hid (show clo ((L s).drop i) d = (clo ((L s).drop (i + 1)) (d - 1)).map (· + 1) by rw [hdr, zb8, if_neg hc, if_neg hc2, if_pos hc3, if_neg hd0])
       clear h92 h123 h125 hdr hc hc2 hc3 hd0
       go_wp2
       go_roundg (s.size + 1 - (i + 1))
       case measure => rw [HK.out]; omega
       case rel =>
        refine ⟨d - 1, i + 1, rfl, by go_num, rfl, by omega, by omega, by omega, by omega, ?_, rfl⟩
        rw [HEQ.out, HS.out, Option.map_map]
        congr 1; funext x; simp; omega
     ·have hc3 : ¬ ub s i = 125 := fun h => h125 ((zbv s i 125 (by decide)).1 h)
      have t10 : ((byte s i : Int) == 125) = false := by simp; omega
      have HS := Lib.hid (show clo ((L s).drop i) d = (clo ((L s).drop (i + 1)) d).map (· + 1) by rw [hdr, zb8, if_neg hc, if_neg hc2, if_neg hc3])
      clear h92 h123 h125 hdr hc hc2 hc3
      go_wp2
      go_roundg (s.size + 1 - (i + 1))
      case measure => rw [HK.out]; omega
      case rel =>
       refine ⟨d, i + 1, rfl, by go_num, rfl, by omega, by omega, by omega, by omega, ?_, rfl⟩
       rw [HEQ.out, HS.out, Option.map_map]
       congr 1; funext x; simp; omega
  ·have t7 : ¬ (i : Int) < (s.size : Int) := by omega
   have HS := Lib.hid (show clo ((L s).drop i) d = none by rw [zas s (by omega)]; simp [clo])
   go_wp2
   go_ret
   refine ⟨zdZ ?_, rfl⟩
   rw [HEQ.out, HS.out]
   rfl
theorem zax (a b : ByteArray) : L (a ++ b) = L a ++ L b := by
 unfold L
 simp [ByteArray.data_append]
set_option maxHeartbeats 1000000 in
theorem zgc (s : ByteArray) (hs : s.size ≤ 1000000) (w : World) :
  Calls Tryz.prog 339 #[.string s] w fun e w' => e = .returned (.string ⟨(unesc (L s)).toArray⟩) ∧ Below w.heap.size w w' := by
 go_enter Tryz.func339, Tryz.ntmps339
 go_wp2
 go_loopg [0, 3, 4, 5] s.size (fun k uv ov c4 c5 wr => ∃ (u o : ByteArray), uv = .string u ∧ ov = .string o ∧ k = u.size ∧ u.size ≤ s.size ∧ o.size ≤ s.size - u.size ∧ unesc (L s) = L o ++ unesc (L u) ∧ Below w.heap.size w wr)
 case atStart => exact ⟨s, ⟨#[]⟩, rfl, rfl, rfl, by omega, Nat.zero_le _, by simp [L], Below.refl _ _⟩
 case round =>
  obtain ⟨u, o, rfl, rfl, hk, hu, ho, heq, hbel⟩ := hrel
  have HK := Lib.hid hk
  have HEQ := Lib.hid heq
  have HBEL := Lib.hid hbel
  have hsz := hbel.size
  clear hk heq hbel
  by_cases h0 : u.size = 0
  ·have t5 := zd0 u h0
   have HZ := Lib.hid (show L o = unesc (L s) by rw [HEQ.out, zc4 u h0, unesc.eq_def]; simp)
   clear h0
   go_wp2
   go_ret
   refine ⟨?_, HBEL.out⟩
   rw [← HZ.out]; rfl
  ·have t5 := zaI u h0
   have t6 : (1 : Int) ≤ (u.size : Int) := by omega
   have hun := fun W => zd1 u (by omega) W
   have hL := zak u (show 0 < u.size by omega)
   rw [List.drop_zero] at hL
   by_cases h92 : byte u 0 = 92
   ·obtain ⟨hu1, hu2, hu3⟩ := zmz u (show 0 < u.size by omega) h92
    rw [List.drop_zero] at hu1 hu2 hu3
    have hz : unesc (L u) = (une (L u)).1 ++ unesc ((L u).drop (une (L u)).2) := by
     conv => lhs; rw [hL, unesc.eq_def]
     have hc : ub u 0 = 92 := za3 u 0 (by decide) h92
     simp only [hc, ↓reduceDIte]
     rw [← hc, ← hL]
    obtain ⟨x, n, hxn⟩ : ∃ x n, une (L u) = (x, n) := ⟨_, _, rfl⟩
    unfold uneV at hun
    rw [hxn] at hun hu1 hu2 hu3 hz
    dsimp only at hun hu1 hu2 hu3 hz
    have HUN := Lib.hid hun
    have HZ := Lib.hid hz
    have t7 : ((n : Int) == 0) = false := by simp; omega
    have t8 : (n : Int) ≤ (u.size : Int) := by omega
    have t9 : (0 : Int) ≤ (n : Int) := by omega
    clear hun hz hL h92 hxn
    go_wp2_with (go_at_call 338; refine (HUN.out _).mono ?_; rintro e w2 ⟨rfl, hb2⟩; dsimp only; have HB2 := Lib.hid hb2; clear hb2)
    go_roundg (u.size - n)
    case measure => rw [HK.out]; omega
    case rel =>
     refine ⟨u.extract n u.size, o ++ ⟨x.toArray⟩, rfl, rfl, by rw [ByteArray.size_extract]; omega, by rw [ByteArray.size_extract]; omega, ?_, ?_, HBEL.out.trans (HB2.out.mono hsz)⟩
     ·rw [ByteArray.size_append, ByteArray.size_extract]
      have : (⟨x.toArray⟩ : ByteArray).size = x.length := by simp [ByteArray.size]
      omega
     ·rw [HEQ.out, HZ.out, zax, zdi, List.append_assoc]; rfl
   ·have hc : ¬ ub u 0 = 92 := fun h => h92 ((zbv u 0 92 (by decide)).1 h)
    have hz : unesc (L u) = ub u 0 :: unesc ((L u).drop 1) := by
     conv => lhs; rw [hL, unesc.eq_def]
     simp only [hc, ↓reduceDIte]
    unfold uneV at hun
    rw [show une (L u) = ([], 0) by rw [hL]; exact zey hc] at hun
    dsimp only at hun
    have HUN := Lib.hid hun
    have HZ := Lib.hid hz
    have HD := Lib.hid hL
    clear hun hz hL h92 hc
    go_wp2_with (go_at_call 338; refine (HUN.out _).mono ?_; rintro e w2 ⟨rfl, hb2⟩; dsimp only; have HB2 := Lib.hid hb2; clear hb2)
    go_roundg (u.size - 1)
    case measure => rw [HK.out]; omega
    case rel =>
     refine ⟨u.extract 1 u.size, o ++ u.extract 0 1, rfl, rfl, by rw [ByteArray.size_extract]; omega, by rw [ByteArray.size_extract]; omega, ?_, ?_, HBEL.out.trans (HB2.out.mono hsz)⟩
     ·rw [ByteArray.size_append, ByteArray.size_extract, ByteArray.size_extract]
      omega
     ·rw [HEQ.out, HZ.out, zax, zdi, ze0, List.drop_zero, HD.out, List.append_assoc]; rfl
end Go.Proofs.YtppjodfehhlniaaGreatDoor
end
section
namespace Go.Proofs.YtppjodfehhlniaaGreatDoor
open Go.ChangeShapes Go.WideShapes Go.ChangeAt Go.RowKit
set_option maxRecDepth 100000
def zbn (s : ByteArray) (i : Nat) : Bool := !(byte s 0 == 35) && ((L s).take i).all fun c => !spc c
theorem zmH (s : ByteArray) : zbn s 0 = !(byte s 0 == 35) := by simp [zbn]
theorem zhg (s : ByteArray) {i : Nat} (hi : i < s.size) : zbn s (i + 1) = (zbn s i && !spcN (byte s i)) := by
 unfold zbn
 rw [List.take_succ, show (L s)[i]? = some (ub s i) by rw [List.getElem?_eq_getElem (by rw [za7]; exact hi), ztb s hi]]
 rw [List.all_append, ← Bool.and_assoc]
 simp [zof, zaE]
theorem zp3 (s : ByteArray) {i j : Nat} (hij : i ≤ j) (h : zbn s i = false) : zbn s j = false := by
 unfold zbn at h ⊢
 cases hc : !(byte s 0 == 35) with
 | false => rfl
 | true =>
   rw [hc] at h
   rw [Bool.true_and] at h ⊢
   rw [List.all_eq_false] at h ⊢
   obtain ⟨x, hx, hn⟩ := h
   exact ⟨x, (List.take_prefix_take_left hij).subset hx, hn⟩
theorem zj9 (s : ByteArray) (h0 : 0 < s.size) : quoT (L s) = if zbn s s.size = true then L s else if (bal (L s) 0 && !slf (L s)) = true then 123 :: L s ++ [125] else sla true (L s) := by
 have hd := zak s h0
 rw [List.drop_zero] at hd
 have h1 : zbn s s.size = (ub s 0 != 35 && (L s).all fun c => !spc c) := by
  unfold zbn
  rw [List.take_of_length_le (by rw [za7]; exact Nat.le_refl _)]
  congr 1
  rw [← zaE]
  show (!_) = (!_)
  congr 1
  rw [Bool.eq_iff_iff]
  simp only [beq_iff_eq]
  exact ⟨fun h => UInt8.toNat.inj h, fun h => by rw [h]; rfl⟩
 rw [h1, hd]
 rfl
theorem zco (f : Bool) {c x : UInt8} (h : (c = 9 ∧ x = 116) ∨ (c = 10 ∧ x = 110) ∨ (c = 11 ∧ x = 118) ∨ (c = 12 ∧ x = 102) ∨ (c = 13 ∧ x = 114)) : sla1 f c = [92, x] := by
 rcases h with ⟨rfl, rfl⟩ | ⟨rfl, rfl⟩ | ⟨rfl, rfl⟩ | ⟨rfl, rfl⟩ | ⟨rfl, rfl⟩ <;> rfl
theorem zhE (f : Bool) {c : UInt8} (h : ¬ (9 ≤ c.toNat ∧ c.toNat ≤ 13)) (hs : (spcN c.toNat || (f && c.toNat == 35)) = true) : sla1 f c = [92, c] := by
 have q : ∀ n : UInt8, 9 ≤ n.toNat ∧ n.toNat ≤ 13 → ¬ c = n := fun n hn e => h (e ▸ hn)
 unfold sla1
 rw [if_neg (q 9 (by decide)), if_neg (q 10 (by decide)), if_neg (q 11 (by decide)), if_neg (q 12 (by decide)), if_neg (q 13 (by decide)), zof, if_pos]
 have : (c == 35) = (c.toNat == 35) := by
  rw [Bool.eq_iff_iff]; simp only [beq_iff_eq]
  exact ⟨fun h => by rw [h]; rfl, fun h => UInt8.toNat.inj h⟩
 rw [this]; exact hs
theorem zeW (f : Bool) {c : UInt8} (h : ¬ (9 ≤ c.toNat ∧ c.toNat ≤ 13)) (hs : (spcN c.toNat || (f && c.toNat == 35)) = false) : sla1 f c = [c] := by
 have q : ∀ n : UInt8, 9 ≤ n.toNat ∧ n.toNat ≤ 13 → ¬ c = n := fun n hn e => h (e ▸ hn)
 unfold sla1
 rw [if_neg (q 9 (by decide)), if_neg (q 10 (by decide)), if_neg (q 11 (by decide)), if_neg (q 12 (by decide)), if_neg (q 13 (by decide)), zof, if_neg]
 have : (c == 35) = (c.toNat == 35) := by
  rw [Bool.eq_iff_iff]; simp only [beq_iff_eq]
  exact ⟨fun h => by rw [h]; rfl, fun h => UInt8.toNat.inj h⟩
 rw [this, hs]; simp
theorem zbK (s : ByteArray) {i : Nat} (hi : i < s.size) : sla (i == 0) ((L s).drop i) = sla1 (i == 0) (ub s i) ++ sla (i + 1 == 0) ((L s).drop (i + 1)) := by
 rw [zak s hi]; rfl
end Go.Proofs.YtppjodfehhlniaaGreatDoor
end
section
namespace Go.Proofs.YtppjodfehhlniaaGreatDoor
open Go.ChangeShapes Go.WideShapes Go.ChangeAt Go.RowKit
theorem zmI (s : ByteArray) : zbn s 0 = (((byte s 0 : Nat) : Int) != 35) := by
 rw [zmH]
 show (!_) = (!_)
 congr 1
 rw [Bool.eq_iff_iff]
 simp only [beq_iff_eq]
 omega
def QuoR (w : World) (s : ByteArray) (e : Ending) (w' : World) : Prop := (∃ q, e = .returned (.string q) ∧ L q = quoT (L s)) ∧ Below w.heap.size w w'
theorem QuoR.mk {w w' : World} {s q : ByteArray} (h : L q = quoT (L s)) (hb : Below w.heap.size w w') : QuoR w s (.returned (.string q)) w' := ⟨⟨q, rfl, h⟩, hb⟩
end Go.Proofs.YtppjodfehhlniaaGreatDoor
end
section
namespace Go.Proofs.YtppjodfehhlniaaGreatDoor
theorem ztm (b : Bool) (c : UInt8) : (sla1 b c).length ≤ 2 := by
 unfold sla1
 repeat (first | (split; · simp) | split)
 all_goals simp
theorem zrO : ∀ (l : List UInt8) (b : Bool), (sla b l).length ≤ 2 * l.length
 | [], _ => Nat.zero_le _
 | c :: r, b => by
   have h1 := ztm b c
   have h2 := zrO r false
   show (sla1 b c ++ sla false r).length ≤ _
   rw [List.length_append, List.length_cons]
   omega
theorem zgd (l : List UInt8) : (quoT l).length ≤ 2 * l.length + 2 := by
 cases l with
 | nil => simp [quoT]
 | cons c r =>
   unfold quoT
   dsimp only
   split
   ·omega
   ·split
    ·simp only [List.length_append, List.length_cons, List.length_nil]; omega
    ·have := zrO (c :: r) true; omega
theorem zgP : ∀ (l : List (List UInt8)) (x : List UInt8), zbY (l ++ [x]) = if l = [] then quoT x else zbY l ++ 32 :: quoT x
 | [], x => rfl
 | [a], x => rfl
 | a :: b :: r, x => by
   have h := zgP (b :: r) x
   rw [if_neg (by simp)] at h
   rw [if_neg (by simp)]
   show quoT a ++ 32 :: zbY ((b :: r) ++ [x]) = (quoT a ++ 32 :: zbY (b :: r)) ++ 32 :: quoT x
   rw [h]
   simp
def sumL (l : List (List UInt8)) : Nat := (l.map fun t => t.length + 1).sum
theorem zrP (l : List (List UInt8)) (x : List UInt8) : sumL (l ++ [x]) = sumL l + (x.length + 1) := by simp [sumL]
theorem zmJ (l : List (List UInt8)) : (zbY l).length ≤ 3 * sumL l := by
 have h : ∀ (n : Nat) (l : List (List UInt8)), l.length = n → (zbY l).length ≤ 3 * sumL l := by
  intro n
  induction n with
  | zero => intro l h; rw [List.eq_nil_of_length_eq_zero h]; simp [zbY]
  | succ n ih =>
    intro l h
    obtain ⟨m, x, rfl⟩ : ∃ m x, l = m ++ [x] := ⟨l.dropLast, l.getLast (fun e => by rw [e] at h; simp at h), by rw [List.dropLast_concat_getLast]⟩
    have h1 := ih m (by simpa using h)
    have h2 := zgd x
    rw [zgP, zrP]
    split
    ·omega
    ·rw [List.length_append, List.length_cons]; omega
 exact h l.length l rfl
theorem zmK (l : List (List UInt8)) (i : Nat) : sumL (l.take i) ≤ sumL l := by
 conv => rhs; rw [← List.take_append_drop i l]
 unfold sumL
 rw [List.map_append, List.sum_append]
 omega
theorem zpg {l : List (List UInt8)} {x : List UInt8} (h : x ∈ l) : x.length + 1 ≤ sumL l := by
 induction l with
 | nil => cases h
 | cons a l ih =>
   unfold sumL
   rw [List.map_cons, List.sum_cons]
   rcases List.mem_cons.1 h with rfl | h
   ·omega
   ·have := ih h; unfold sumL at this; omega
theorem zlc (l : List (List UInt8)) : l.length ≤ sumL l := by
 induction l with
 | nil => exact Nat.zero_le _
 | cons a l ih => unfold sumL at *; rw [List.map_cons, List.sum_cons, List.length_cons]; omega
theorem zka {l : List (List UInt8)} {i : Nat} {x : List UInt8} (h : l[i]? = some x) : zbY (l.take (i + 1)) = (if i = 0 then [] else zbY (l.take i) ++ [32]) ++ quoT x := by
 have hl : i < l.length := (List.getElem?_eq_some_iff.1 h).1
 rw [List.take_succ, h, Option.toList_some, zgP]
 by_cases h0 : i = 0
 ·subst h0; rw [if_pos (by simp), if_pos rfl]; rfl
 ·rw [if_neg h0, if_neg (by intro e; have h3 := congrArg List.length e; rw [List.length_take, List.length_nil] at h3; omega)]
  simp
end Go.Proofs.YtppjodfehhlniaaGreatDoor
end
section
namespace Go.Proofs.YtppjodfehhlniaaGreatDoor
open Go.ChangeShapes Go.WideShapes Go.ChangeAt Go.RowKit
section
variable {P : Program} {w : World}
def zbg (w : World) (v v' : Value) : Prop := v'.ownBlock = v.ownBlock ∨ ∀ k, v'.ownBlock = some k → w.heap.size ≤ k
theorem zfb (base : Nat) (t ty e : TypeId) (i : TypeInfo) (z : Value) (size bytes : Nat) (ht : P.underlying t = some (.slice e)) (hi : P.info? e = some i) (hz : i.zero = some z)
  (hsize : i.size = size) (hby : i.bytes = bytes) (hzs : z.cells.size = size) (hsz : 0 < size)
  (v : Value) (n : Nat) (xs : List Value) (hown : w.ownsRow base e size v n xs)
  (a : Addr) (m c : Nat) (news : List Value) (hl : news.length = m * size) (hnews : ∀ j u, news[j]? = some u → w.cell? (a.add j) = some u) (h1 : ∀ u ∈ news, u.oneCell' = true)
  (h63 : n + m ≤ maxLen) (hbytes : (n + m) * bytes ≤ 140737488355328) (hbase : base ≤ w.heap.size) :
  ∃ v' w', (Builtin.append_ #[t, t] ty #[v, .slice (some a) m c]).run P w = .ok v' w' ∧ w'.ownsRow base e size v' (n + m) (xs ++ news) ∧ w.grownBy w' v.ownBlock ∧ zbg w v v' := by
 obtain ⟨v', w', hr, h2, h3, h4⟩ := run_append_own (P := P) w base t ty e i z size bytes ht hi hz hsize hby hzs hsz v n xs hown a m c news hl hnews h1 h63 hbytes hbase
 refine ⟨v', w', hr, h2, h3, ?_⟩
 subst hsize
 rcases hown.2 with ⟨rfl, rfl⟩ | ⟨g, cap, cur, rfl, hbg, hg, hnc, hcm, hcs, htake⟩
 ·
  have hx : xs = [] := List.eq_nil_of_length_eq_zero (by simpa using hown.1)
  subst hx
  obtain ⟨v2, w2, hr2, g2, g3, g4⟩ := run_append_own (P := P) w w.heap.size t ty e i z i.size bytes ht hi hz rfl hby hzs hsz (.slice none 0 0) 0 [] (World.ownsRow_nil w _ e i.size) a m c news hl hnews h1 h63 hbytes (Nat.le_refl _)
  rw [hr] at hr2
  cases hr2
  exact .inr fun k hk => (g2.lt k hk).1
 ·by_cases hroom : n + m ≤ cap
  ·have hfit : n * i.size + news.length ≤ cur.size := by rw [hl, hcs, ← Nat.add_mul]; exact Nat.mul_le_mul_right _ hroom
   have hr2 := run_append_room (P := P) w t ty e i ht hi g n cap cur hg a m c news hl hnews h1 hroom hfit
   rw [hr] at hr2
   cases hr2
   exact .inl rfl
  ·have zlw : ∀ j u, xs[j]? = some u → w.cell? ((⟨g, 0, none⟩ : Addr).add j) = some u := hown.cells (g := g) rfl
   have hm' : n + m ≤ 9223372036854775807 := by simp only [maxLen] at h63; omega
   have hr2 := run_append_grow (P := P) w t ty e i z ht hi hz ⟨g, 0, none⟩ n cap xs hown.1 zlw a m c news hl hnews (by omega) (by omega) (growslice_fits (by omega) (by rw [hby]; exact hbytes))
   rw [hr] at hr2
   cases hr2
   exact .inr fun k hk => by simp [Value.ownBlock] at hk; omega
theorem zld {o : Oper} {a : Act} {K : Act → World → Prop} {Q : Exit → Act → World → Prop} (s x : Operand) (t : TypeId)
  (ho : o.op = .call { callee := .builtin .append, args := #[s, x], argTypes := #[t, t] })
  (base : Nat) (e : TypeId) (i : TypeInfo) (z : Value) (size bytes : Nat) (ht : P.underlying t = some (.slice e)) (hi : P.info? e = some i) (hz : i.zero = some z)
  (hsize : i.size = size) (hby : i.bytes = bytes) (hzs : z.cells.size = size) (hsz : 0 < size)
  (v : Value) (n : Nat) (xs : List Value) (hs : a.eval s = v) (hown : w.ownsRow base e size v n xs)
  (ad : Addr) (m c : Nat) (news : List Value) (hx : a.eval x = .slice (some ad) m c) (hl : news.length = m * size) (hnews : ∀ j u, news[j]? = some u → w.cell? (ad.add j) = some u) (h1 : ∀ u ∈ news, u.oneCell' = true)
  (h63 : n + m ≤ maxLen) (hbytes : (n + m) * bytes ≤ 140737488355328) (hbase : base ≤ w.heap.size)
  (h : ∀ v' w', w'.ownsRow base e size v' (n + m) (xs ++ news) → w.grownBy w' v.ownBlock → zbg w v v' → K (a.put o.dst v') w') : o.wp P a w K Q := by
 obtain ⟨v', w', hr, h2, h3, h4⟩ := zfb (P := P) (w := w) base t o.type e i z size bytes ht hi hz hsize hby hzs hsz v n xs hown ad m c news hl hnews h1 h63 hbytes hbase
 unfold Oper.wp execOp
 simp only [ho, resolve, invoke, builtin, Sem.run_bind, Sem.run_pure, Result.andThen_ok, List.map_toArray, List.map_cons, List.map_nil, hs, hx, hr]
 exact h v' w' h2 h3 h4
theorem zah {ops : Array Oper} {rest : List Oper} {o : Oper} {a : Act} {Q : Exit → Act → World → Prop} (hgd : o.guard = none) (s x : Operand) (t : TypeId)
  (ho : o.op = .call { callee := .builtin .append, args := #[s, x], argTypes := #[t, t] })
  (base : Nat) (e : TypeId) (i : TypeInfo) (z : Value) (size bytes : Nat) (ht : P.underlying t = some (.slice e)) (hi : P.info? e = some i) (hz : i.zero = some z)
  (hsize : i.size = size) (hby : i.bytes = bytes) (hzs : z.cells.size = size) (hsz : 0 < size)
  (v : Value) (n : Nat) (xs : List Value) (hs : a.eval s = v) (hown : w.ownsRow base e size v n xs)
  (ad : Addr) (m c : Nat) (news : List Value) (hx : a.eval x = .slice (some ad) m c) (hl : news.length = m * size) (hnews : ∀ j u, news[j]? = some u → w.cell? (ad.add j) = some u) (h1 : ∀ u ∈ news, u.oneCell' = true)
  (h63 : n + m ≤ maxLen) (hbytes : (n + m) * bytes ≤ 140737488355328) (hbase : base ≤ w.heap.size)
  (h : ∀ v' w', w'.ownsRow base e size v' (n + m) (xs ++ news) → w.grownBy w' v.ownBlock → zbg w v v' → wpList P ops Q rest (a.put o.dst v') w') : wpList P ops Q (o :: rest) a w :=
 wpList_plain hgd fun _ hK => zld s x t ho base e i z size bytes ht hi hz hsize hby hzs hsz v n xs hs hown ad m c news hx hl hnews h1 h63 hbytes hbase fun v' w' h2 h3 h4 => hK _ _ (h v' w' h2 h3 h4)
end
def OwnTx (w : World) (m : Nat) (v : Value) (l : List (List UInt8)) : Prop := w.ownsRow m 9 1 v l.length (l.map strV)
theorem OwnTx.str {w : World} {m : Nat} {v : Value} {l : List (List UInt8)} (h : OwnTx w m v l) : StrRow w v l := zaB h
theorem OwnTx.later {w w' : World} {m : Nat} {v : Value} {l : List (List UInt8)} (h : OwnTx w m v l) (hb : Below w.heap.size w w') : OwnTx w' m v l := za8 h hb
theorem OwnTx.alloc {w : World} {m : Nat} {v : Value} {l : List (List UInt8)} (h : OwnTx w m v l) (o : Obj) : (w.alloc o).ownsRow m 9 1 v l.length (l.map strV) := World.ownsRow.alloc h o
theorem OwnTx.nil (w : World) (m : Nat) : OwnTx w m (.slice none 0 0) [] := World.ownsRow_nil w m 9 1
def Apart (u v : Value) : Prop := ∀ k, u.ownBlock = some k → v.ownBlock ≠ some k
theorem Apart.symm {u v : Value} (h : Apart u v) : Apart v u := fun k h1 h2 => h k h2 h1
theorem ziU (v : Value) : Apart (.slice none 0 0) v := fun k h => by cases h
theorem zcv {w wr w2 : World} {u : Value} {cs : List (List UInt8)} {tmp : Obj} (hB : Below w.heap.size w wr) (hU : OwnTx wr w.heap.size u cs) (hg : (wr.alloc tmp).grownBy w2 u.ownBlock) : Below w.heap.size w w2 :=
 hB.trans (((Below.refl w.heap.size wr).alloc hB.size _).grown hg (by have := hB.size; simp; omega) (fun k hk => (hU.lt k hk).1))
theorem OwnTx.snoc {w : World} {m : Nat} {v : Value} {l : List (List UInt8)} {x : List UInt8} (h : w.ownsRow m 9 1 v (l.length + 1) (l.map strV ++ [.string ⟨x.toArray⟩])) : OwnTx w m v (l ++ [x]) := by
 unfold OwnTx
 simpa [strV] using h
end Go.Proofs.YtppjodfehhlniaaGreatDoor
end
section
namespace Go.Proofs.YtppjodfehhlniaaGreatDoor
open Go.ChangeShapes Go.WideShapes Go.ChangeAt Go.RowKit
set_option maxRecDepth 100000
theorem zmL {α : Type} {l m : List α} {i : Nat} (h : l.take i = m.take i) {x : α} (h1 : l[i]? = some x) (h2 : m[i]? = some x) : l.take (i + 1) = m.take (i + 1) := by
 rw [List.take_succ, List.take_succ, h, h1, h2]
theorem zvC (x y : List UInt8) : ((⟨x.toArray⟩ : ByteArray).toList == (⟨y.toArray⟩ : ByteArray).toList) = decide (x = y) := by
 rw [Lib.toList_data, Lib.toList_data]
 rw [Bool.eq_iff_iff]
 simp
set_option maxHeartbeats 1000000 in
theorem ztn (w : World) (u v : Value) (l m : List (List UInt8)) (hu : StrRow w u l) (hv : StrRow w v m) (hl : l.length ≤ 1000000) (hm : m.length ≤ 1000000) :
  Calls Tryz.prog 8 #[u, v] w fun e w' => e = .returned (.bool (decide (l = m))) ∧ Below w.heap.size w w' := by
 obtain ⟨a, c, rfl, ha⟩ := hu.form
 obtain ⟨b, d, rfl, hb⟩ := hv.form
 have HA := Lib.hid ha
 have HB := Lib.hid hb
 clear ha hb hu hv
 by_cases hlen : l.length = m.length
 ·have t1 : ((l.length : Int) == (m.length : Int)) = true := by simp; omega
  have HLN := Lib.hid hlen
  go_enter Tryz.func8, Tryz.ntmps8
  go_wp2
  go_loopg [13] l.length (fun k iv wr => ∃ i : Nat, iv = .int .i64 (i : Int) ∧ k = l.length - i ∧ i ≤ l.length ∧ l.take i = m.take i ∧ Below w.heap.size w wr)
  case atStart => exact ⟨0, rfl, rfl, by omega, by simp, Below.refl _ _⟩
  case round =>
   obtain ⟨i, rfl, hk, hi, heq, hbel⟩ := hrel
   have HK := Lib.hid hk
   have HEQ := Lib.hid heq
   have HBEL := Lib.hid hbel
   clear hk heq
   by_cases hlt : i < l.length
   ·have t2 : (i : Int) < (l.length : Int) := by omega
    have t3 : (i : Int) < (m.length : Int) := by omega
    have t4 : i < m.length := by omega
    obtain ⟨x, hx⟩ : ∃ x, l[i]? = some x := ⟨_, List.getElem?_eq_getElem hlt⟩
    obtain ⟨y, hy⟩ : ∃ y, m[i]? = some y := ⟨_, List.getElem?_eq_getElem t4⟩
    obtain ⟨p, rfl, hp⟩ := HA.out i x hx
    obtain ⟨q, rfl, hq⟩ := HB.out i y hy
    have c1 := zaf hp hbel
    have c2 := zaf hq hbel
    unfold strV at c1 c2
    have HX := Lib.hid hx
    have HY := Lib.hid hy
    clear hx hy hp hq hbel hlen
    have hbq := zvC x y
    by_cases hxy : x = y
    ·subst hxy
     clear hbq
     go_wp2
     go_region
     go_wp2
     go_roundg (l.length - (i + 1))
     case measure => rw [HK.out]; omega
     case rel => exact ⟨i + 1, by go_num, rfl, by omega, zmL HEQ.out HX.out HY.out, HBEL.out.drew⟩
    ·have t5 : (x == y) = false := by simp [hxy]
     have HXY := Lib.hid hxy
     clear hbq hxy
     go_wp2
     go_region
     go_wp2
     go_ret
     refine ⟨zap ?_, HBEL.out.drew⟩
     have : ¬ l = m := by
      rintro rfl
      have := HX.out.symm.trans HY.out
      exact HXY.out (Option.some.inj this)
     simp [this]
   ·have hil : i = l.length := by omega
    have t2 : ¬ (i : Int) < (l.length : Int) := by omega
    have t3 : ¬ (i : Int) < (m.length : Int) := by omega
    have HIL := Lib.hid hil
    clear hil
    go_wp2
    go_ret
    refine ⟨zap ?_, HBEL.out⟩
    have h := HEQ.out
    rw [HIL.out, List.take_of_length_le (Nat.le_refl _), List.take_of_length_le (by have := HLN.out; omega)] at h
    simp [h]
 ·have t1 : ((l.length : Int) == (m.length : Int)) = false := by simp; omega
  have HLN := Lib.hid hlen
  clear hlen
  go_enter Tryz.func8, Tryz.ntmps8
  go_wp2
  go_ret
  refine ⟨zap ?_, Below.refl _ _⟩
  have : ¬ l = m := fun h => HLN.out (by rw [h])
  simp [this]
theorem zrQ (l : List (List UInt8)) (t : List UInt8) : bulk (l ++ [t]) = bulk l + (t.length + 1) := by simp [bulk]
theorem zrR {l : List (List UInt8)} {i : Nat} {t : List UInt8} (h : l[i]? = some t) : bulk (l.take (i + 1)) = bulk (l.take i) + (t.length + 1) := by
 rw [List.take_succ, h]
 exact zrQ _ _
theorem zrS (l : List (List UInt8)) (i : Nat) : bulk (l.take i) ≤ bulk l := by
 conv => rhs; rw [← List.take_append_drop i l]
 unfold bulk
 rw [List.map_append, List.sum_append]
 omega
set_option maxHeartbeats 1000000 in
theorem zge (w : World) (u : Value) (l : List (List UInt8)) (hu : StrRow w u l) (hb : bulk l ≤ 10000000) :
  Calls Tryz.prog 4 #[u] w fun e w' => e = .returned (.bool (decide (bulk l ≤ 800))) ∧ w = w' := by
 obtain ⟨a, c, rfl, ha⟩ := hu.form
 have HA := Lib.hid ha
 have hlb : l.length ≤ bulk l := by
  clear ha hu HA hb
  induction l with
  | nil => simp [bulk]
  | cons t l ih => simp only [bulk, List.map_cons, List.sum_cons, List.length_cons] at ih ⊢; omega
 clear ha hu
 go_enter Tryz.func4, Tryz.ntmps4
 go_wp2
 go_loopg [3, 8] l.length (fun k nv iv wr => ∃ (n i : Nat), nv = .int .i64 (n : Int) ∧ iv = .int .i64 (i : Int) ∧ k = l.length - i ∧ i ≤ l.length ∧ n = bulk (l.take i) ∧ w = wr)
 case atStart => exact ⟨0, 0, rfl, rfl, rfl, by omega, by simp [bulk], rfl⟩
 case round =>
  obtain ⟨n, i, rfl, rfl, hk, hi, hn, rfl⟩ := hrel
  have HK := Lib.hid hk
  have hnb := zrS l i
  rw [← hn] at hnb
  have HN := Lib.hid hn
  clear hk hn
  by_cases hlt : i < l.length
  ·have t2 : (i : Int) < (l.length : Int) := by omega
   obtain ⟨x, hx⟩ : ∃ x, l[i]? = some x := ⟨_, List.getElem?_eq_getElem hlt⟩
   obtain ⟨p, rfl, hp⟩ := HA.out i x hx
   have hb2 := zrR hx
   have hb3 := zrS l (i + 1)
   have hsx := zf9 x
   unfold strV at hp
   have HB2 := Lib.hid hb2
   have hxl : x.length ≤ 10000000 := by have := HN.out; omega
   clear hx hb2
   go_wp2
   go_roundg (l.length - (i + 1))
   case measure => rw [HK.out]; omega
   case rel =>
    refine ⟨n + (x.length + 1), i + 1, ?_, by go_num, rfl, by omega, by rw [HB2.out, ← HN.out], rfl⟩
    first | go_num | (simp [hsx]; omega)
  ·have t2 : ¬ (i : Int) < (l.length : Int) := by omega
   have hil : l.take i = l := List.take_of_length_le (by omega)
   rw [hil] at HN
   by_cases h8 : n ≤ 800
   ·have t8 : (n : Int) ≤ 800 := by omega
    go_wp2
    go_ret
    refine ⟨zap ?_, rfl⟩
    have := HN.out
    simp; omega
   ·have t8 : ¬ (n : Int) ≤ 800 := by omega
    go_wp2
    go_ret
    refine ⟨zap ?_, rfl⟩
    have := HN.out
    simp; omega
end Go.Proofs.YtppjodfehhlniaaGreatDoor
end
section
namespace Go.Proofs.YtppjodfehhlniaaGreatDoor
open Go.ChangeShapes Go.WideShapes Go.ChangeAt Go.RowKit
set_option maxRecDepth 100000
def zaw (p : Prm × Bool) : List Value := [strV p.1.name, strV p.1.other, .bool p.1.has, .bool p.2]
def PRow (w : World) (v : Value) (l : List (Prm × Bool)) : Prop :=
 (v = .slice none 0 0 ∧ l = []) ∨ ∃ (g c : Nat), v = .slice (some ⟨g, 0, none⟩) l.length c ∧ ∀ i p, l[i]? = some p →
  w.cell? ⟨g, i * 4, none⟩ = some (strV p.1.name) ∧ w.cell? ⟨g, i * 4 + 1, none⟩ = some (strV p.1.other) ∧ w.cell? ⟨g, i * 4 + 2, none⟩ = some (.bool p.1.has) ∧ w.cell? ⟨g, i * 4 + 3, none⟩ = some (.bool p.2)
theorem PRow.form {w : World} {v : Value} {l : List (Prm × Bool)} (h : PRow w v l) : ∃ a c, v = .slice a l.length c ∧ ∀ i t, l[i]? = some t → ∃ g, a = some ⟨g, 0, none⟩ ∧
  w.cell? ⟨g, i * 4, none⟩ = some (strV t.1.name) ∧ w.cell? ⟨g, i * 4 + 1, none⟩ = some (strV t.1.other) ∧ w.cell? ⟨g, i * 4 + 2, none⟩ = some (.bool t.1.has) ∧ w.cell? ⟨g, i * 4 + 3, none⟩ = some (.bool t.2) := by
 rcases h with ⟨rfl, rfl⟩ | ⟨g, c, h1, h2⟩
 ·exact ⟨none, 0, rfl, fun i t hi => by simp at hi⟩
 ·exact ⟨_, c, h1, fun i t hi => ⟨g, rfl, h2 i t hi⟩⟩
end Go.Proofs.YtppjodfehhlniaaGreatDoor
end
section
namespace Go.Proofs.YtppjodfehhlniaaGreatDoor
open Go.ChangeShapes Go.WideShapes Go.ChangeAt Go.RowKit
structure Tri (w : World) (m : Nat) (u v b : Value) (us vs : List (List UInt8)) (bs : List Bool) : Prop where
 ru : w.ownsRow m 9 1 u us.length (us.map strV)
 rv : w.ownsRow m 9 1 v vs.length (vs.map strV)
 rb : w.ownsRow m 4 1 b bs.length (bs.map .bool)
 uv : Apart u v
 ub : Apart u b
 vb : Apart v b
theorem Tri.nil (w : World) (m : Nat) : Tri w m (.slice none 0 0) (.slice none 0 0) (.slice none 0 0) [] [] [] :=
 ⟨World.ownsRow_nil w m 9 1, World.ownsRow_nil w m 9 1, World.ownsRow_nil w m 4 1, ziU _, ziU _, ziU _⟩
theorem zdD {w0 w' : World} {m : Nat} {e size n : Nat} {xs : List Value} {u u' v : Value} (hv : w0.ownsRow m e size v n xs) (ha : Apart u v)
  (hg : w0.grownBy w' u.ownBlock) (hn : zbg w0 u u') : w'.ownsRow m e size v n xs ∧ Apart u' v := by
 refine ⟨zbl hv fun k hk => ?_, fun k hk hk2 => ?_⟩
 ·have hlt := (hv.lt k hk).2
  rw [hg.block k (by omega) (fun e => ha k e.symm hk)]
 ·rcases hn with h | h
  ·exact ha k (by rw [← h]; exact hk) hk2
  ·have := h k hk
   have := (hv.lt k hk2).2
   omega
structure Lay (w : World) (g : Nat) (u v b : Value) (p : Prm × Bool) : Prop where
 blk : w.heap[g]? = some (.cells (zaw p).toArray 76 (0, 0))
 nu : u.ownBlock ≠ some g
 nv : v.ownBlock ≠ some g
 nb : b.ownBlock ≠ some g
theorem Tri.alloc {w : World} {m : Nat} {u v b : Value} {us vs : List (List UInt8)} {bs : List Bool} (h : Tri w m u v b us vs bs) (o : Obj) : Tri (w.alloc o) m u v b us vs bs :=
 ⟨h.ru.alloc o, h.rv.alloc o, h.rb.alloc o, h.uv, h.ub, h.vb⟩
theorem Tri.later {w w' : World} {m : Nat} {u v b : Value} {us vs : List (List UInt8)} {bs : List Bool} (h : Tri w m u v b us vs bs) (hb : Below w.heap.size w w') : Tri w' m u v b us vs bs :=
 ⟨za8 h.ru hb, za8 h.rv hb, za8 h.rb hb, h.uv, h.ub, h.vb⟩
theorem Tri.appU {w w' : World} {m : Nat} {u v b u' : Value} {us vs : List (List UInt8)} {bs : List Bool} {x : List UInt8} (h : Tri w m u v b us vs bs)
  (o : w'.ownsRow m 9 1 u' (us.length + 1) (us.map strV ++ [.string ⟨x.toArray⟩])) (g : w.grownBy w' u.ownBlock) (n : zbg w u u') : Tri w' m u' v b (us ++ [x]) vs bs := by
 obtain ⟨a1, a2⟩ := zdD h.rv h.uv g n
 obtain ⟨a3, a4⟩ := zdD h.rb h.ub g n
 exact ⟨by simpa [strV] using o, a1, a3, a2, a4, h.vb⟩
theorem Tri.appV {w w' : World} {m : Nat} {u v b v' : Value} {us vs : List (List UInt8)} {bs : List Bool} {x : List UInt8} (h : Tri w m u v b us vs bs)
  (o : w'.ownsRow m 9 1 v' (vs.length + 1) (vs.map strV ++ [.string ⟨x.toArray⟩])) (g : w.grownBy w' v.ownBlock) (n : zbg w v v') : Tri w' m u v' b us (vs ++ [x]) bs := by
 obtain ⟨a1, a2⟩ := zdD h.ru h.uv.symm g n
 obtain ⟨a3, a4⟩ := zdD h.rb h.vb g n
 exact ⟨a1, by simpa [strV] using o, a3, a2.symm, h.ub, a4⟩
theorem Tri.appB {w w' : World} {m : Nat} {u v b b' : Value} {us vs : List (List UInt8)} {bs : List Bool} {x : Bool} (h : Tri w m u v b us vs bs)
  (o : w'.ownsRow m 4 1 b' (bs.length + 1) (bs.map .bool ++ [.bool x])) (g : w.grownBy w' b.ownBlock) (n : zbg w b b') : Tri w' m u v b' us vs (bs ++ [x]) := by
 obtain ⟨a1, a2⟩ := zdD h.ru h.ub.symm g n
 obtain ⟨a3, a4⟩ := zdD h.rv h.vb.symm g n
 exact ⟨a1, a3, by simpa using o, h.uv, a2.symm, a4.symm⟩
theorem Tri.below {w w' : World} {m k : Nat} {e size n : Nat} {xs : List Value} {u : Value} (h : w.ownsRow m e size u n xs) (hm : k ≤ m) (hk : k ≤ w.heap.size) (g : w.grownBy w' u.ownBlock) : Below k w w' :=
 (Below.refl k w).grown g hk (fun j hj => Nat.le_trans hm (h.lt j hj).1)
end Go.Proofs.YtppjodfehhlniaaGreatDoor
end
section
namespace Go.Proofs.YtppjodfehhlniaaGreatDoor
open Go.RowKit Go.Shelf
open Go.ChangeShapes Go.WideShapes Go.ChangeAt
set_option maxRecDepth 100000
section
variable {F : Fence} {n : Nat} {P : Program} {ops : Array Oper} {Q : Exit → Act → World → Prop} {md : Region.Mode}
theorem count_set (l : Array Bool) (i : Nat) (h : l.getD i true = false) : (l.setIfInBounds i true).toList.count false + 1 = l.toList.count false := by
 have hi : i < l.size := by
  rcases Nat.lt_or_ge i l.size with h1 | h1
  ·exact h1
  ·rw [Array.getD_eq_getD_getElem?, Array.getElem?_eq_none h1] at h; cases h
 have hv : l.toList[i]'(by simpa using hi) = false := by
  rw [Array.getD_eq_getD_getElem?, Array.getElem?_eq_getElem hi] at h
  simpa using h
 rw [Array.toList_setIfInBounds, List.count_set (by simpa using hi), hv]
 have : 0 < l.toList.count false := List.count_pos_iff.2 (by rw [← hv]; exact List.getElem_mem _)
 show _ - 1 + 0 + 1 = _
 omega
theorem zol (Inv : Array Bool → Act → World → Prop)
  (hs : ∀ l a w, Inv l a w → ∀ i ∈ Region.ready md ops l, wpOpIn F n P ops Q i (fun a' w' => Inv (l.setIfInBounds i true) a' w') a w)
  (hf : ∀ l a w, Inv l a w → Region.ready md ops l = [] → Q .normal a w) :
  ∀ (fuel : Nat) (l : Array Bool) (a : Act) (w : World), Inv l a w → l.toList.count false ≤ fuel → wpAnyIn F n P md ops Q fuel l a w
 | 0, l, a, w, h, hc => by
   have hr : Region.ready md ops l = [] := by
    refine List.eq_nil_iff_forall_not_mem.2 fun i hi => ?_
    have := count_set l i (mem_ready.1 hi).1
    omega
   exact ⟨hr, hf l a w h hr⟩
 | fuel + 1, l, a, w, h, hc => by
   refine ⟨hf l a w h, fun i hi => wpOpIn_mono (fun a w h => zol Inv hs hf fuel _ a w h ?_) (hs l a w h i hi)⟩
   have := count_set l i (mem_ready.1 hi).1
   omega
theorem zaJ {i : Nat} {K : Act → World → Prop} {a : Act} {w w' : World} {o : Oper} {v : Value} (ho : ops[i]? = some o) (hg : o.guard = none) (hab : o.about P w a.eval = none) (hd : ∀ c, o.op ≠ .defer c)
  (hr : (execOp a.eval o).run P w = .ok (.value v) w') (hK : K (a.put o.dst v) w') : wpOpIn F n P ops Q i K a w := by
 unfold wpOpIn
 rw [ho]
 simp only [Region.wanted, hg, if_true]
 refine ⟨fun f hf => (by rw [hab] at hf; cases hf), ?_⟩
 rw [Oper.semAt_plain F _ _ hd, hr]
 exact hK
theorem zeD {i : Nat} {K : Act → World → Prop} {a : Act} {w w' : World} {o : Oper} (ho : ops[i]? = some o) (hg : o.guard = none) (hab : o.about P w a.eval = none) (hd : ∀ c, o.op ≠ .defer c)
  (hr : (execOp a.eval o).run P w = .ok .skip w') (hK : K (a.put o.dst undef) w') : wpOpIn F n P ops Q i K a w := by
 unfold wpOpIn
 rw [ho]
 simp only [Region.wanted, hg, if_true]
 refine ⟨fun f hf => (by rw [hab] at hf; cases hf), ?_⟩
 rw [Oper.semAt_plain F _ _ hd, hr]
 exact hK
end
def Ls (l : Array Bool) (k : Nat) : Prop := l.getD k false = true
theorem zrT {l : Array Bool} {i k : Nat} (hi : i < l.size) : Ls (l.setIfInBounds i true) k ↔ (k = i ∨ Ls l k) := by
 unfold Ls
 by_cases h : k = i
 ·subst h
  rw [Array.getD_eq_getD_getElem?, Array.getElem?_setIfInBounds_self_of_lt hi]; simp
 ·rw [Array.getD_eq_getD_getElem?, Array.getElem?_setIfInBounds_ne (Ne.symm h), ← Array.getD_eq_getD_getElem?]
  simp [h]
theorem zaF {l : Array Bool} {i k : Nat} (h : k ≠ i) : Ls (l.setIfInBounds i true) k ↔ Ls l k := by
 unfold Ls
 rw [Array.getD_eq_getD_getElem?, Array.getElem?_setIfInBounds_ne (Ne.symm h), ← Array.getD_eq_getD_getElem?]
theorem zc5 {l : Array Bool} {i k : Nat} (h : k ≠ i) : (l.setIfInBounds i true).getD k false = l.getD k false := by
 rw [Array.getD_eq_getD_getElem?, Array.getElem?_setIfInBounds_ne (Ne.symm h), ← Array.getD_eq_getD_getElem?]
theorem zmM {l : Array Bool} {i : Nat} (h : i < l.size) : (l.setIfInBounds i true).getD i false = true := by
 rw [Array.getD_eq_getD_getElem?, Array.getElem?_setIfInBounds_self_of_lt h]; rfl
theorem zaj (a : Act) {d k : Nat} (v : Value) (h : k ≠ d) : (a.put (some d) v).eval (.tmp k) = a.eval (.tmp k) := by
 simp only [Act.put, Act.eval, Array.getD_eq_getD_getElem?]
 rw [Array.getElem?_setIfInBounds_ne (Ne.symm h)]
theorem zb9 (a : Act) {d : Nat} (v : Value) (h : d < a.tmps.size) : (a.put (some d) v).eval (.tmp d) = v := by
 simp only [Act.put, Act.eval, Array.getD_eq_getD_getElem?]
 rw [Array.getElem?_setIfInBounds_self_of_lt h]; rfl
theorem zom {l : Array Bool} {k : Nat} {U u : Value} (h : ¬ Ls l k) : (if l.getD k false = true then U else u) = u := if_neg h
theorem zto {l : Array Bool} {k : Nat} {U u : Value} (h : Ls l k) : (if l.getD k false = true then U else u) = U := if_pos h
structure CP where
 j : Nat
 e : TypeId
 B : Nat
 t : TypeId
 u0 : Value
 x : Value
 xs : List Value
 ptr : Value
structure Col (T : Nat) (Fr : Nat → Prop) (l : Array Bool) (a : Act) (w : World) (c : CP) (U : Value) : Prop where
 h0 : Ls l (5 * c.j) → a.eval (.tmp (27 + 5 * c.j)) = c.u0
 h1 : Ls l (5 * c.j + 1) → a.eval (.tmp (28 + 5 * c.j)) = c.ptr
 h2 : Ls l (5 * c.j + 2) → a.eval (.tmp (29 + 5 * c.j)) = c.x
 h3 : Ls l (5 * c.j + 3) → ∃ g, a.eval (.tmp (30 + 5 * c.j)) = .slice (some ⟨g, 0, none⟩) 1 1 ∧ w.cell? ⟨g, 0, none⟩ = some c.x ∧ Fr g
 h4 : Ls l (5 * c.j + 4) → a.eval (.tmp (31 + 5 * c.j)) = U ∧ w.ownsRow T c.e 1 U (c.xs.length + 1) (c.xs ++ [c.x])
 h5 : ¬ Ls l (5 * c.j + 4) → U = c.u0 ∧ w.ownsRow T c.e 1 U c.xs.length c.xs
 h6 : Ls l (15 + c.j) → Ls l (5 * c.j)
 h7 : Ls l (15 + c.j) → Ls l (5 * c.j + 4)
 box : Boxed w c.B c.t (if l.getD (15 + c.j) false = true then U else c.u0)
theorem Col.own {T : Nat} {Fr : Nat → Prop} {l : Array Bool} {a : Act} {w : World} {c : CP} {U : Value} (h : Col T Fr l a w c U) : ∃ n ys, w.ownsRow T c.e 1 U n ys := by
 by_cases h4 : Ls l (5 * c.j + 4)
 ·exact ⟨_, _, (h.h4 h4).2⟩
 ·exact ⟨_, _, (h.h5 h4).2⟩
theorem Col.fr {T : Nat} {Fr Fr' : Nat → Prop} {l : Array Bool} {a : Act} {w : World} {c : CP} {U : Value} (h : Col T Fr l a w c U) (hF : ∀ g, Fr g → Fr' g) : Col T Fr' l a w c U :=
 { h with h3 := fun h3 => by obtain ⟨g, a1, a2, a3⟩ := h.h3 h3; exact ⟨g, a1, a2, hF g a3⟩ }
theorem zd2 {w w' : World} {row : Option Nat} {T e n : Nat} {U : Value} {ys : List Value} (h : w.ownsRow T e 1 U n ys) (hg : w.grownBy w' row) (hU : ∀ k, U.ownBlock = some k → row ≠ some k) : w'.ownsRow T e 1 U n ys :=
 zbl h fun k hk => hg.block k (h.lt k hk).2 (fun e => hU k hk e.symm)
theorem ziV {w w' : World} {row : Option Nat} {g : Nat} {v : Value} (h : w.cell? ⟨g, 0, none⟩ = some v) (hg : w.grownBy w' row) (hr : row ≠ some g) : w'.cell? ⟨g, 0, none⟩ = some v := by
 have hlt := zdC h
 exact (World.cell?_of_block (hg.block g hlt (fun e => hr e.symm))).trans h
theorem Col.keep {T : Nat} {Fr Fr' : Nat → Prop} {l : Array Bool} {a a' : Act} {w w' : World} {c : CP} {U : Value} {i : Nat} {row : Option Nat} (h : Col T Fr l a w c U)
  (ho : i < 5 * c.j ∨ 5 * c.j + 4 < i) (hs : i ≠ 15 + c.j) (ha : ∀ k, 27 + 5 * c.j ≤ k → k ≤ 31 + 5 * c.j → a'.eval (.tmp k) = a.eval (.tmp k))
  (hg : w.grownBy w' row) (hU : ∀ k, U.ownBlock = some k → row ≠ some k) (hB : row ≠ some c.B) (hF : ∀ g, g < w.heap.size → Fr g → row ≠ some g ∧ Fr' g) : Col T Fr' (l.setIfInBounds i true) a' w' c U where
 h0 := fun q => by rw [ha _ (by omega) (by omega)]; exact h.h0 ((zaF (by omega)).1 q)
 h1 := fun q => by rw [ha _ (by omega) (by omega)]; exact h.h1 ((zaF (by omega)).1 q)
 h2 := fun q => by rw [ha _ (by omega) (by omega)]; exact h.h2 ((zaF (by omega)).1 q)
 h3 := fun q => by
  obtain ⟨g, a1, a2, a3⟩ := h.h3 ((zaF (by omega)).1 q)
  have := hF g (zdC a2) a3
  exact ⟨g, by rw [ha _ (by omega) (by omega)]; exact a1, ziV a2 hg this.1, this.2⟩
 h4 := fun q => by
  obtain ⟨a1, a2⟩ := h.h4 ((zaF (by omega)).1 q)
  exact ⟨by rw [ha _ (by omega) (by omega)]; exact a1, zd2 a2 hg hU⟩
 h5 := fun q => by
  obtain ⟨a1, a2⟩ := h.h5 (fun z => q ((zaF (by omega)).2 z))
  exact ⟨a1, zd2 a2 hg hU⟩
 h6 := fun q => (zaF (by omega)).2 (h.h6 ((zaF (fun e => hs e.symm)).1 q))
 h7 := fun q => (zaF (by omega)).2 (h.h7 ((zaF (fun e => hs e.symm)).1 q))
 box := by rw [zc5 (fun e => hs e.symm)]; exact h.box.kept hg (fun e => hB e.symm)
end Go.Proofs.YtppjodfehhlniaaGreatDoor
end
