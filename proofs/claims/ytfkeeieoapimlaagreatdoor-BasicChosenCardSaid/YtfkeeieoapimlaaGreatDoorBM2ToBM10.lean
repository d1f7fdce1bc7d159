/-
  The bodies of an if, as the machine does them: printed by genbm2.py; The machine after an if: the level is left; The command if: what it keeps while i. Conditions: none.
-/
import Derived.Test.YtfkeeieoapimlaaGreatDoorBM1
import Derived.Test.YtfkeeieoapimlaaGreatDoorBKs0
import Derived.Test.YtfkeeieoapimlaaGreatDoorBKs1
import Derived.Test.YtfkeeieoapimlaaGreatDoorBKs2
import Derived.Test.YtfkeeieoapimlaaGreatDoorBKs3
import Derived.Test.YtfkeeieoapimlaaGreatDoorBCdToBK1
import Derived.Test.YtfkeeieoapimlaaGreatDoorB5b
set_option linter.unusedVariables false
set_option linter.unusedSimpArgs false
set_option linter.unusedSectionVars false
set_option linter.deprecated false
section
namespace Go.Proofs.YtfkeeieoapimlaaGreatDoor
open Go.ChangeShapes Go.WideShapes Go.ChangeAt Go.RowKit Go.Xe Go.Xe.Cards
set_option maxRecDepth 1000000
inductive FinS (m C : Nat) : List UInt8 → Nat → List IE → Prop
 | none : FinS m C [] 524 (lC0 m C)
 | first : FinS m C [97] 546 (lD 97)
 | more (i : Nat) (h : i < 26) : FinS m C [UInt8.ofNat (97 + i)] 705 (lD (97 + i))
 | last : FinS m C [33] 524 (lD 33)
def BodyR (m C n : Nat) (l : List IE) (e : Env) (w : World) (x : List UInt8) (en : Ending) (w' : World) : Prop :=
 ∃ e' n' l', en = .returned (okV (bt x)) ∧ FinS m C x n' l' ∧ MS n' l' e' w' ∧ Step e (zad n l) w e' (zad n' l') w'
theorem zaF {m C n c d : Nat} {l : List IE} {x : List UInt8} {s : ByteArray} {n' : Nat} {l' : List IE} (hr : zao l' (run Tryz.prog J0 16 [.ptr 24 0, .str 13 c] (zad n l)) = some (.agg [.int .i64 0, .int .i64 0, .str 1 d], 0, [], l'.map fun p => some p.e))
  (hn : n ≤ n') (hl : l'.all (fun p => Nat.blt p.i n' && zfS n' p.e) = true) (hs : zae 13 c = s) (hd : zae 1 d = bt x) (hf : FinS m C x n' l') {e : Env} {w : World} {X ext : Nat} (ms : MS n l e w) (hX : e.loc 24 = some ⟨X, 0, ext⟩) :
  Calls Tryz.prog 16 #[.pointer (some ⟨X, 0, none⟩), .string s] w fun en w' => BodyR m C n l e w x en w' := by
 subst hs
 refine (zaX hr hn (by rfl) hl ms (us := #[_, _]) (vrs_xs hX)).mono ?_
 rintro en w' ⟨u, e', rfl, hv, ms', st⟩
 exact ⟨e', n', l', by rw [vr_out hv, hd], hf, ms', st⟩
theorem body_last {m C : Nat} {e : Env} {w : World} {X ext : Nat} (ms : MS 524 (lC0 m C) e w) (hX : e.loc 24 = some ⟨X, 0, ext⟩) :
  Calls Tryz.prog 16 #[.pointer (some ⟨X, 0, none⟩), .string (bt bodE)] w fun en w' => BodyR m C 524 (lC0 m C) e w [33] en w' :=
 zaF (k_x m C) (Nat.le_refl _) (by kernel_rfl) (by kernel_rfl) (by kernel_rfl) .last ms hX
theorem body_first {m C : Nat} {e : Env} {w : World} {X ext : Nat} (ms : MS 546 (lC1 m C) e w) (hX : e.loc 24 = some ⟨X, 0, ext⟩) :
  Calls Tryz.prog 16 #[.pointer (some ⟨X, 0, none⟩), .string (bt (bod 0))] w fun en w' => BodyR m C 546 (lC1 m C) e w [lt 0] en w' :=
 zaF (k_a m C) (Nat.le_refl _) (by kernel_rfl) (by kernel_rfl) (by kernel_rfl) .first ms hX
theorem body_more {m C : Nat} {e : Env} {w : World} {X ext : Nat} (ms : MS 705 (lC01 m C) e w) (hX : e.loc 24 = some ⟨X, 0, ext⟩) (i : Nat) (hi : i < 26) :
  Calls Tryz.prog 16 #[.pointer (some ⟨X, 0, none⟩), .string (bt (apl ++ [UInt8.ofNat (97 + i)]))] w fun en w' => BodyR m C 705 (lC01 m C) e w [UInt8.ofNat (97 + i)] en w' := by
 match i, hi with
 | 0, h => exact zaF (k_b0 m C) (Nat.le_refl _) (by kernel_rfl) (by kernel_rfl) (by kernel_rfl) (.more 0 h) ms hX
 | 1, h => exact zaF (k_b1 m C) (Nat.le_refl _) (by kernel_rfl) (by kernel_rfl) (by kernel_rfl) (.more 1 h) ms hX
 | 2, h => exact zaF (k_b2 m C) (Nat.le_refl _) (by kernel_rfl) (by kernel_rfl) (by kernel_rfl) (.more 2 h) ms hX
 | 3, h => exact zaF (k_b3 m C) (Nat.le_refl _) (by kernel_rfl) (by kernel_rfl) (by kernel_rfl) (.more 3 h) ms hX
 | 4, h => exact zaF (k_b4 m C) (Nat.le_refl _) (by kernel_rfl) (by kernel_rfl) (by kernel_rfl) (.more 4 h) ms hX
 | 5, h => exact zaF (k_b5 m C) (Nat.le_refl _) (by kernel_rfl) (by kernel_rfl) (by kernel_rfl) (.more 5 h) ms hX
 | 6, h => exact zaF (k_b6 m C) (Nat.le_refl _) (by kernel_rfl) (by kernel_rfl) (by kernel_rfl) (.more 6 h) ms hX
 | 7, h => exact zaF (k_b7 m C) (Nat.le_refl _) (by kernel_rfl) (by kernel_rfl) (by kernel_rfl) (.more 7 h) ms hX
 | 8, h => exact zaF (k_b8 m C) (Nat.le_refl _) (by kernel_rfl) (by kernel_rfl) (by kernel_rfl) (.more 8 h) ms hX
 | 9, h => exact zaF (k_b9 m C) (Nat.le_refl _) (by kernel_rfl) (by kernel_rfl) (by kernel_rfl) (.more 9 h) ms hX
 | 10, h => exact zaF (k_b10 m C) (Nat.le_refl _) (by kernel_rfl) (by kernel_rfl) (by kernel_rfl) (.more 10 h) ms hX
 | 11, h => exact zaF (k_b11 m C) (Nat.le_refl _) (by kernel_rfl) (by kernel_rfl) (by kernel_rfl) (.more 11 h) ms hX
 | 12, h => exact zaF (k_b12 m C) (Nat.le_refl _) (by kernel_rfl) (by kernel_rfl) (by kernel_rfl) (.more 12 h) ms hX
 | 13, h => exact zaF (k_b13 m C) (Nat.le_refl _) (by kernel_rfl) (by kernel_rfl) (by kernel_rfl) (.more 13 h) ms hX
 | 14, h => exact zaF (k_b14 m C) (Nat.le_refl _) (by kernel_rfl) (by kernel_rfl) (by kernel_rfl) (.more 14 h) ms hX
 | 15, h => exact zaF (k_b15 m C) (Nat.le_refl _) (by kernel_rfl) (by kernel_rfl) (by kernel_rfl) (.more 15 h) ms hX
 | 16, h => exact zaF (k_b16 m C) (Nat.le_refl _) (by kernel_rfl) (by kernel_rfl) (by kernel_rfl) (.more 16 h) ms hX
 | 17, h => exact zaF (k_b17 m C) (Nat.le_refl _) (by kernel_rfl) (by kernel_rfl) (by kernel_rfl) (.more 17 h) ms hX
 | 18, h => exact zaF (k_b18 m C) (Nat.le_refl _) (by kernel_rfl) (by kernel_rfl) (by kernel_rfl) (.more 18 h) ms hX
 | 19, h => exact zaF (k_b19 m C) (Nat.le_refl _) (by kernel_rfl) (by kernel_rfl) (by kernel_rfl) (.more 19 h) ms hX
 | 20, h => exact zaF (k_b20 m C) (Nat.le_refl _) (by kernel_rfl) (by kernel_rfl) (by kernel_rfl) (.more 20 h) ms hX
 | 21, h => exact zaF (k_b21 m C) (Nat.le_refl _) (by kernel_rfl) (by kernel_rfl) (by kernel_rfl) (.more 21 h) ms hX
 | 22, h => exact zaF (k_b22 m C) (Nat.le_refl _) (by kernel_rfl) (by kernel_rfl) (by kernel_rfl) (.more 22 h) ms hX
 | 23, h => exact zaF (k_b23 m C) (Nat.le_refl _) (by kernel_rfl) (by kernel_rfl) (by kernel_rfl) (.more 23 h) ms hX
 | 24, h => exact zaF (k_b24 m C) (Nat.le_refl _) (by kernel_rfl) (by kernel_rfl) (by kernel_rfl) (.more 24 h) ms hX
 | 25, h => exact zaF (k_b25 m C) (Nat.le_refl _) (by kernel_rfl) (by kernel_rfl) (by kernel_rfl) (.more 25 h) ms hX
 | i + 26, h => exact absurd h (by omega)
theorem body_at {m C k n : Nat} {l : List IE} (hp : PhT m C k n l) {e : Env} {w : World} {X ext : Nat} (ms : MS n l e w) (hX : e.loc 24 = some ⟨X, 0, ext⟩) :
  Calls Tryz.prog 16 #[.pointer (some ⟨X, 0, none⟩), .string (bt (bod k))] w fun en w' => BodyR m C n l e w [lt k] en w' := by
 rcases hp with ⟨rfl, rfl, rfl⟩ | ⟨_, rfl, rfl⟩
 ·exact body_first ms hX
 ·exact body_more ms hX (k % 26) (Nat.mod_lt _ (by decide))
end Go.Proofs.YtfkeeieoapimlaaGreatDoor
end
section
open Go Go.Proofs Go.Proofs.YtfkeeieoapimlaaGreatDoor Go.Xe
noncomputable section
namespace Go.Xe.Cards
set_option maxRecDepth 1000000
def xS1 : List AV := [.ptr 5 0, .ptr 11 0, .ptr 15 0, .ptr 19 0, .map 20, .map 21, .map 22, .ptr 23 0, .int .i64 (0), .snil, .str 0 0, .map 25, .map 26, .bool false, .int .i64 (0), .sl 3 0 2 1, .pnil, .int .i64 (0), .bool false, .bool false, .bool false, .fnil, .fnil, .fnil, .fnil, .fnil, .fnil, .fnil, .fnil]
def fS1 : List AV := [.int .i64 (0), .int .i64 (0), .pnil, .map 4]
theorem gx_S1 : (zad 363 (lS1)).get 24 = some (.cells xS1 58 true 0 []) := by kernel_rfl
theorem gf_S1 : (zad 363 (lS1)).get 5 = some (.cells fS1 84 true 0 []) := by kernel_rfl
def xS5 : List AV := [.ptr 5 0, .ptr 11 0, .ptr 15 0, .ptr 19 0, .map 20, .map 21, .map 22, .ptr 23 0, .int .i64 (0), .snil, .str 0 0, .map 25, .map 26, .bool false, .int .i64 (0), .sl 3 0 2 1, .pnil, .int .i64 (0), .bool false, .bool false, .bool false, .fnil, .fnil, .fnil, .fnil, .fnil, .fnil, .fnil, .fnil]
theorem gx_S5 (m C : Nat) : (zad 365 (lS5 m C)).get 24 = some (.cells xS5 58 true 0 []) := by kernel_rfl
def xC0 : List AV := [.ptr 5 0, .ptr 11 0, .ptr 15 0, .ptr 19 0, .map 20, .map 21, .map 22, .ptr 23 0, .num 284 0 11 26, .snil, .str 0 0, .map 25, .map 26, .bool false, .int .i64 (0), .sl 3 0 2 1, .pnil, .int .i64 (0), .bool false, .bool false, .bool false, .fnil, .fnil, .fnil, .fnil, .fnil, .fnil, .fnil, .fnil]
def fC0 : List AV := [.int .i64 (99), .int .i64 (1), .pnil, .map 4]
theorem gx_C0 (m C : Nat) : (zad 524 (lC0 m C)).get 24 = some (.cells xC0 58 true 0 []) := by kernel_rfl
theorem gf_C0 (m C : Nat) : (zad 524 (lC0 m C)).get 5 = some (.cells fC0 84 true 0 []) := by kernel_rfl
def xD : List AV := [.ptr 5 0, .ptr 11 0, .ptr 15 0, .ptr 19 0, .map 20, .map 21, .map 22, .ptr 23 0, .num 284 6 11 26, .snil, .str 0 0, .map 25, .map 26, .bool false, .int .i64 (0), .sl 3 0 2 1, .pnil, .int .i64 (0), .bool false, .bool false, .bool false, .fnil, .fnil, .fnil, .fnil, .fnil, .fnil, .fnil, .fnil]
def fD : List AV := [.int .i64 (98), .int .i64 (1), .pnil, .map 4]
theorem gx_D (n c : Nat) : (zad n (lD c)).get 24 = some (.cells xD 58 true 0 []) := by kernel_rfl
theorem gf_D (n c : Nat) : (zad n (lD c)).get 5 = some (.cells fD 84 true 0 []) := by kernel_rfl
def nS : List AV := [.int .i64 (0), .int .i64 (0), .str 2 14906, .snil, .pnil, .inil]
theorem gn_S4 (m C : Nat) : (zad 365 (lS4 m C)).get 23 = some (.cells nS 110 true 0 []) := by kernel_rfl
def xS4 : List AV := [.ptr 5 0, .ptr 11 0, .ptr 15 0, .ptr 19 0, .map 20, .map 21, .map 22, .ptr 23 0, .int .i64 (0), .snil, .str 0 0, .map 25, .map 26, .bool false, .int .i64 (0), .sl 3 0 2 1, .pnil, .int .i64 (0), .bool false, .bool false, .bool false, .fnil, .fnil, .fnil, .fnil, .fnil, .fnil, .fnil, .fnil]
theorem gx_S4 (m C : Nat) : (zad 365 (lS4 m C)).get 24 = some (.cells xS4 58 true 0 []) := by kernel_rfl
theorem put8 (m C : Nat) : subOk 365 (⟨24, .cells (xS5.set 8 (.num 284 0 11 26)) 58 true 0 []⟩ :: lS5 m C) (lS8 m C) := ⟨by kernel_rfl, by kernel_rfl⟩
theorem look_if (m C : Nat) : zer Tryz.prog 44 false (.map 20) (.num 284 0 11 26) (zad 365 (lS5 m C)) = some (.func (.func 58) [] []) := by kernel_rfl
def tS : List AV := [.map 16, .map 17, .map 18, .int .i64 (25), .int .i64 (25)]
theorem gt_S5 (m C : Nat) : (zad 365 (lS5 m C)).get 19 = some (.cells tS 157 true 0 []) := by kernel_rfl
end Go.Xe.Cards
end
end
section
open Go Go.Proofs Go.Proofs.YtfkeeieoapimlaaGreatDoor Go.Xe
noncomputable section
namespace Go.Xe.Cards
set_option maxRecDepth 1000000
def kK : IE := ⟨363, .cells [.snil, .snil, .bool false, .bool false, .bool false, .bool false] 90 true 0 []⟩
theorem k_keepK (m C : Nat) : zao (kK :: lS4 m C) (run Tryz.prog J0 34 [.ptr 24 0, .str (m + 14) C] (zad 363 (lS3))) = some (.ptr 363 0, 0, [], (kK :: lS4 m C).map fun p => some p.e) := by kernel_rfl
theorem gk_K4 (m C : Nat) : (zad 365 (kK :: lS4 m C)).get 363 = some (.cells [.snil, .snil, .bool false, .bool false, .bool false, .bool false] 90 true 0 []) := by kernel_rfl
theorem sub_K4 (m C : Nat) : subOk 365 (kK :: lS4 m C) (lS4 m C) := ⟨by kernel_rfl, by kernel_rfl⟩
theorem olds_K4 (m C : Nat) : (lS4 m C).all (fun p => (za5 p.e).all fun c => Nat.blt c 363) = true := by kernel_rfl
def fS2 : List AV := [.int .i64 (100), .int .i64 (0), .pnil, .map 4]
def lS2 : List IE := ⟨5, .cells [.int .i64 (100), .int .i64 (0), .pnil, .map 4] 84 true 0 []⟩ :: rS1.drop 1 ++ lB
theorem sub_S2 : subOk 363 (⟨5, .cells (fS1.set 0 (.int .i64 100)) 84 true 0 []⟩ :: lS1) lS2 := ⟨by kernel_rfl, by kernel_rfl⟩
theorem gf_S2 : (zad 363 lS2).get 5 = some (.cells fS2 84 true 0 []) := by kernel_rfl
theorem gx_S2 : (zad 363 lS2).get 24 = some (.cells xS1 58 true 0 []) := by kernel_rfl
theorem sub_S3 : subOk 363 (⟨5, .cells (fS2.set 1 (.int .i64 1)) 84 true 0 []⟩ :: lS2) lS3 := ⟨by kernel_rfl, by kernel_rfl⟩
end Go.Xe.Cards
end
end
section
namespace Go.Proofs.YtfkeeieoapimlaaGreatDoor
open Go.ChangeShapes Go.WideShapes Go.ChangeAt Go.RowKit Go.Xe Go.Xe.Cards
set_option maxRecDepth 100000
def fE (s : Nat) : IE := ⟨5, .cells [.int .i64 (s : Int), .int .i64 0, .pnil, .map 4] 84 true 0 []⟩
inductive FinD (m C : Nat) : List UInt8 → Nat → List IE → Nat → Prop
 | none : FinD m C [] 524 (fE 99 :: lC0 m C) 99
 | first : FinD m C [97] 546 (fE 98 :: lD 97) 98
 | more (i : Nat) (h : i < 26) : FinD m C [UInt8.ofNat (97 + i)] 705 (fE 98 :: lD (97 + i)) 98
 | last : FinD m C [33] 524 (fE 98 :: lD 33) 98
theorem FinS.down {m C n : Nat} {l : List IE} {want : List UInt8} (h : FinS m C want n l) : ∃ s : Nat, (zad n l).get 5 = some (.cells [.int .i64 (s : Int), .int .i64 1, .pnil, .map 4] 84 true 0 []) ∧ FinD m C want n (⟨5, .cells ([AV.int .i64 (s : Int), .int .i64 1, .pnil, .map 4].set 1 (.int .i64 0)) 84 true 0 []⟩ :: l) s := by
 cases h with
 | none => exact ⟨99, gf_C0 m C, .none⟩
 | first => exact ⟨98, gf_D _ _, .first⟩
 | more i h => exact ⟨98, gf_D _ _, .more i h⟩
 | last => exact ⟨98, gf_D _ _, .last⟩
theorem FinD.f {m C n s : Nat} {l : List IE} {want : List UInt8} (h : FinD m C want n l s) : (zad n l).get 5 = some (.cells [.int .i64 (s : Int), .int .i64 0, .pnil, .map 4] 84 true 0 []) := by
 cases h <;> kernel_rfl
inductive FinG : List UInt8 → Nat → List IE → Prop
 | none : FinG [] 524 lG0
 | first : FinG [97] 546 (lG 97)
 | more (i : Nat) (h : i < 26) : FinG [UInt8.ofNat (97 + i)] 705 (lG (97 + i))
 | last : FinG [33] 524 (lG 33)
theorem FinD.x {m C n s : Nat} {l : List IE} {want : List UInt8} (h : FinD m C want n l s) : ∃ xs l2, (zad n l).get 24 = some (.cells xs 58 true 0 []) ∧ xs[0]? = some (.ptr 5 0) ∧ xs[9]? = some .snil ∧ xs[19]? = some (.bool false) ∧ xs[14]? = some (.int .i64 0) ∧
  subOk n (⟨24, .cells (xs.set 14 (.int .i64 (s : Int))) 58 true 0 []⟩ :: l) l2 ∧ FinG want n l2 := by
 cases h with
 | none => exact ⟨xC0, lG0, by kernel_rfl, rfl, rfl, rfl, rfl, ⟨by kernel_rfl, by kernel_rfl⟩, .none⟩
 | first => exact ⟨xD, lG 97, by kernel_rfl, rfl, rfl, rfl, rfl, ⟨by kernel_rfl, by kernel_rfl⟩, .first⟩
 | more i h => exact ⟨xD, lG (97 + i), by kernel_rfl, rfl, rfl, rfl, rfl, ⟨by kernel_rfl, by kernel_rfl⟩, .more i h⟩
 | last => exact ⟨xD, lG 33, by kernel_rfl, rfl, rfl, rfl, rfl, ⟨by kernel_rfl, by kernel_rfl⟩, .last⟩
end Go.Proofs.YtfkeeieoapimlaaGreatDoor
end
section
namespace Go.Proofs.YtfkeeieoapimlaaGreatDoor
open Go.ChangeShapes Go.WideShapes Go.ChangeAt Go.RowKit Go.Xe Go.Xe.Cards
set_option maxRecDepth 1000000
theorem zfV (last : Bool) : ∀ (l : List Bool) (s k : Nat), (∀ i, i < k → l[i]? = some false) → zaE (l.zipIdx s) last = zaE ((l.drop k).zipIdx (s + k)) last
 | l, s, 0, _ => rfl
 | [], s, k + 1, h => by have := h 0 (Nat.succ_pos _); cases this
 | b :: l, s, k + 1, h => by
   have hb : b = false := by have := h 0 (Nat.succ_pos _); simpa using this
   subst hb
   rw [List.zipIdx_cons, List.drop_succ_cons]
   show zaE (l.zipIdx (s + 1)) last = _
   rw [zfV last l (s + 1) k fun i hi => by have := h (i + 1) (by omega); simpa using this]
   rw [show s + 1 + k = s + (k + 1) by omega]
theorem wantT_hit (last : Bool) {l : List Bool} {k : Nat} (h : ∀ i, i < k → l[i]? = some false) (hk : l[k]? = some true) : zaE l.zipIdx last = [lt k] := by
 rw [zfV last l 0 k h]
 have hlt := (List.getElem?_eq_some_iff.1 hk)
 obtain ⟨h1, h2⟩ := hlt
 rw [List.drop_eq_getElem_cons h1, h2, List.zipIdx_cons]
 show (if true = true then [lt (0 + k)] else _) = _
 rw [if_pos rfl, Nat.zero_add]
theorem wantT_miss (last : Bool) {l : List Bool} (h : ∀ i, i < l.length → l[i]? = some false) : zaE l.zipIdx last = if last = true then [33] else [] := by
 rw [zfV last l 0 l.length h, List.drop_length]
 rfl
structure CH (B : Nat) (n : Nat) (l : List IE) (e : Env) (u v : Value) (cs bs : List (List UInt8)) (w : World) : Prop where
 ms : MS n l e w
 T : w.heap[B]? = some (.cells #[.int .i64 0, .int .i64 0, .string ⟨#[]⟩] 31 (0, 0))
 cu : OwnTx w B u cs
 cv : OwnTx w B v bs
 own : ∀ k, k = B ∨ u.ownBlock = some k ∨ v.ownBlock = some k → ¬ Xe.Own e (zad n l) k
theorem CH.keep {B n n' : Nat} {l l' : List IE} {e e' : Env} {u v : Value} {cs bs : List (List UInt8)} {w w' : World} (h : CH B n l e u v cs bs w) (ms : MS n' l' e' w') (st : Step e (zad n l) w e' (zad n' l') w') : CH B n' l' e' u v cs bs w' := by
 have k : ∀ k, k = B ∨ u.ownBlock = some k ∨ v.ownBlock = some k → k < w.heap.size → w'.heap[k]? = w.heap[k]? ∧ ¬ Xe.Own e' (zad n' l') k := fun k hk hlt => st.keep k hlt (h.own k hk)
 have lt : ∀ k, k = B ∨ u.ownBlock = some k ∨ v.ownBlock = some k → k < w.heap.size := by
  rintro k (rfl | hk | hk)
  ·exact (Array.getElem?_eq_some_iff.1 h.T).1
  ·exact (h.cu.lt k hk).2
  ·exact (h.cv.lt k hk).2
 exact ⟨ms, (k B (.inl rfl) (lt B (.inl rfl))).1.trans h.T, zak h.cu fun j hj => (k j (.inr (.inl hj)) (lt j (.inr (.inl hj)))).1, zak h.cv fun j hj => (k j (.inr (.inr hj)) (lt j (.inr (.inr hj)))).1, fun j hj => (k j hj (lt j hj)).2⟩
theorem CH.past {B n : Nat} {l : List IE} {e : Env} {u v : Value} {cs bs : List (List UInt8)} {w w' : World} (h : CH B n l e u v cs bs w) (hb : Below w.heap.size w w') : CH B n l e u v cs bs w' :=
 h.keep (h.ms.below hb) (Step.of_below hb)
theorem CH.store {B n : Nat} {l : List IE} {e : Env} {u v : Value} {cs bs : List (List UInt8)} {w : World} (h : CH B n l e u v cs bs w) (hB : 0 < B) (a b c : Value) :
  (((w.setCell ⟨B, 0, none⟩ a).setCell ⟨B, 1, none⟩ b).setCell ⟨B, 2, none⟩ c).heap[B]? = some (.cells #[a, b, c] 31 (0, 0)) ∧ MS n l e (((w.setCell ⟨B, 0, none⟩ a).setCell ⟨B, 1, none⟩ b).setCell ⟨B, 2, none⟩ c) ∧
  Below B w (((w.setCell ⟨B, 0, none⟩ a).setCell ⟨B, 1, none⟩ b).setCell ⟨B, 2, none⟩ c) := by
 have far : ∀ k, k ≠ B → (((w.setCell ⟨B, 0, none⟩ a).setCell ⟨B, 1, none⟩ b).setCell ⟨B, 2, none⟩ c).heap[k]? = w.heap[k]? := fun k hk =>
  (heap_setCell_other _ ⟨B, 2, none⟩ k c (by exact hk)).trans ((heap_setCell_other _ ⟨B, 1, none⟩ k b (by exact hk)).trans (heap_setCell_other w ⟨B, 0, none⟩ k a (by exact hk)))
 refine ⟨zc3 h.T, h.ms.others (by simp) fun k hk hx => far k fun e => ?_, ((Below.refl B w).setCell (p := ⟨B, 0, none⟩) (Nat.le_refl _) a |>.setCell (p := ⟨B, 1, none⟩) (Nat.le_refl _) b).setCell (p := ⟨B, 2, none⟩) (Nat.le_refl _) c⟩
 subst e
 rcases hx with hx | hx
 ·rw [hx] at hB; exact absurd hB (by decide)
 ·exact h.own k (.inl rfl) hx
def ChooseR (m C : Nat) (want : List UInt8) (e : Env) (w : World) (en : Ending) (w' : World) : Prop :=
 ∃ e' n' l', en = .returned (okV (bt want)) ∧ FinS m C want n' l' ∧ MS n' l' e' w' ∧ Step e (zad 365 (lS8 m C)) w e' (zad n' l') w'
theorem getC (t : Bool) (ts : List Bool) (k : Nat) : (((t, 0) :: ts.zipIdx 1).map (fun q => tvw q.1))[k]? = (t :: ts)[k]?.map tvw := by
 rw [show ((t, 0) :: ts.zipIdx 1) = (t :: ts).zipIdx by rw [List.zipIdx_cons], List.getElem?_map, List.getElem?_zipIdx]
 cases (t :: ts)[k]? <;> simp
theorem getB (t : Bool) (ts : List Bool) (last : Bool) (k : Nat) (h : k < ts.length + 1) : (((t, 0) :: ts.zipIdx 1).map (fun q => bod q.2) ++ lastB last)[k]? = some (bod k) := by
 have h' : k < (t :: ts).length := by simpa using h
 rw [show ((t, 0) :: ts.zipIdx 1) = (t :: ts).zipIdx by rw [List.zipIdx_cons], List.getElem?_append_left (by simpa using h), List.getElem?_map, List.getElem?_zipIdx, List.getElem?_eq_getElem h']
 simp
theorem getL (t : Bool) (ts : List Bool) : (((t, 0) :: ts.zipIdx 1).map (fun q => bod q.2) ++ lastB true)[ts.length + 1]? = some bodE := by
 rw [List.getElem?_append_right (by simp)]
 simp [lastB]
end Go.Proofs.YtfkeeieoapimlaaGreatDoor
end
section
namespace Go.Proofs.YtfkeeieoapimlaaGreatDoor
open Go.ChangeShapes Go.WideShapes Go.ChangeAt Go.RowKit Go.Xe Go.Xe.Cards
set_option maxRecDepth 100000
theorem OwnTx.cellAt {w : World} {m g n c : Nat} {l : List (List UInt8)} (h : OwnTx w m (.slice (some ⟨g, 0, none⟩) n c) l) {k : Nat} {x : List UInt8} (hk : l[k]? = some x) : w.cell? ⟨g, k, none⟩ = some (.string (bt x)) := by
 have h1 := h.cells (g := g) rfl k (strV x) (by rw [List.getElem?_map, hk]; rfl)
 have e1 : (⟨g, 0, none⟩ : Addr).add k = (⟨g, k, none⟩ : Addr) := by
  simp [Addr.add]
  omega
 rw [e1] at h1
 exact h1
theorem OwnTx.form {w : World} {m : Nat} {v : Value} {x : List UInt8} {l : List (List UInt8)} (h : OwnTx w m v (x :: l)) : ∃ g c, v = .slice (some ⟨g, 0, none⟩) (l.length + 1) c := zam (n := l.length) h
theorem CH.start {n : Nat} {l : List IE} {e : Env} {w A w1 : World} {u v : Value} {cs bs : List (List UInt8)} (ms : MS n l e w) (hA : A.heap[w.heap.size]? = some (.cells #[.int .i64 0, .int .i64 0, .string ⟨#[]⟩] 31 (0, 0))) (hb : Below w.heap.size w A)
  (hb1 : Below A.heap.size A w1) (hu : OwnTx w1 A.heap.size u cs) (hv : OwnTx w1 A.heap.size v bs) : CH w.heap.size n l e u v cs bs w1 ∧ StepB w.heap.size e (zad n l) w e (zad n l) w1 := by
 have hs := hb.size
 have hb2 : Below w.heap.size w w1 := hb.trans (hb1.mono hs)
 refine ⟨⟨ms.below hb2, (hb1.block _ (Array.getElem?_eq_some_iff.1 hA).1).trans hA, zaq hu hs, zaq hv hs, fun k hk ho => ?_⟩, StepB.of_below hb2⟩
 have h1 := ms.lt ho
 rcases hk with rfl | hk | hk
 ·omega
 ·have := (hu.lt k hk).1; omega
 ·have := (hv.lt k hk).1; omega
set_option maxHeartbeats 4000000 in
theorem choose_any (m C : Nat) {e : Env} {w : World} (ms : MS 365 (lS8 m C) e w) {X ext : Nat} (hX : e.loc 24 = some ⟨X, 0, ext⟩) {base g c : Nat} {t : Bool} {ts : List Bool} {last : Bool} (hn : ts.length ≤ 100)
  (hw : OwnTx w base (.slice (some ⟨g, 0, none⟩) (wdsL (t :: ts) last).length c) (wdsL (t :: ts) last)) :
  Calls Tryz.prog 58 #[.pointer (some ⟨X, 0, none⟩), .slice (some ⟨g, 0, none⟩) (wdsL (t :: ts) last).length c] w fun en w' => ChooseR m C (zaE (t :: ts).zipIdx last) e w en w' := by
 have hwl := zef (t :: ts) last
 rw [zbS] at hw
 rw [zbS] at hwl ⊢
 have hcn := cndA_tail (ts.zipIdx 1) (t, 0) last
 have hwpos := HasG.pos (w := w) ms.g
 generalize hq : tailW (t, 0) (ts.zipIdx 1) last = q at *
 have hq2 : 2 ≤ q.length := by rw [← hq]; simp [tailW]
 clear hq
 rw [List.length_cons] at hw hwl ⊢
 rw [List.length_cons] at hwl
 have hcap : q.length + 1 ≤ c := by
  rcases hw.2 with ⟨h, _⟩ | ⟨g', cap, cur, h0, h1, h2, h3, h4, h5, h6⟩
  ·cases h
  ·cases h0; exact h3
 obtain ⟨A, hA, sA, aN, aO, bA⟩ := zag w #[.int .i64 0, .int .i64 0, .string ⟨#[]⟩] 31
 have hrow : StrRow A (.slice (some ⟨g, 1, none⟩) q.length (c - 1)) q := by
  refine .inr ⟨⟨g, 1, none⟩, c - 1, rfl, fun i x hi => ?_⟩
  have := (zaz hw bA).cells (g := g) rfl (i + 1) (strV x) (by rw [List.getElem?_map, List.getElem?_cons_succ, hi]; rfl)
  have e1 : (⟨g, 0, none⟩ : Addr).add (i + 1) = (⟨g, 1, none⟩ : Addr).add i := by
   simp [Addr.add]
   split <;> simp <;> omega
  rw [← e1]; exact this
 have u1 : ¬ (c = 1) := by omega
 have u2 : (1 : Int) ≤ ((q.length + 1 : Nat) : Int) := by omega
 have u3 : ((q.length + 1 : Nat) : Int) ≤ (c : Int) := by omega
 have HA := Lib.hid hA
 have HROW := Lib.hid hrow
 have HMS := Lib.hid (ms.below bA)
 have HB := Lib.hid bA
 have HAN := Lib.hid aN
 have HCN := Lib.hid hcn
 clear hA sA aN aO bA hrow hw hcn
 go_enter Tryz.func58, Tryz.ntmps58
 have hcs0 := getC t ts
 have hbs0 := getB t ts last
 have hbl0 := getL t ts
 have hlc : (((t, 0) :: ts.zipIdx 1).map (fun q : Bool × Nat => tvw q.1)).length = ts.length + 1 := by simp
 obtain ⟨D, hlb, hD1, hD0⟩ : ∃ D, (((t, 0) :: ts.zipIdx 1).map (fun q : Bool × Nat => bod q.2) ++ lastB last).length = D ∧ (last = true → D = ts.length + 2) ∧ (last = false → D = ts.length + 1) := ⟨_, rfl, fun h => by subst h; simp [lastB], fun h => by subst h; simp [lastB]⟩
 have hll : last = true → (((t, 0) :: ts.zipIdx 1).map (fun q : Bool × Nat => bod q.2) ++ lastB last)[ts.length + 1]? = some bodE := fun h => by subst h; exact hbl0
 clear hbl0
 generalize hC1 : ((t, 0) :: ts.zipIdx 1).map (fun q : Bool × Nat => tvw q.1) = cs at *
 generalize hC2 : ((t, 0) :: ts.zipIdx 1).map (fun q : Bool × Nat => bod q.2) ++ lastB last = bs at *
 have hfc : ∃ x l, cs = x :: l := by rw [← hC1]; exact ⟨_, _, rfl⟩
 have hfb : ∃ x l, bs = x :: l := by rw [← hC2]; exact ⟨_, _, rfl⟩
 have HFC := Lib.hid hfc
 have HFB := Lib.hid hfb
 have HGC := Lib.hid hcs0
 have HGB := Lib.hid hbs0
 have HGL := Lib.hid hll
 have HLC := Lib.hid hlc
 have HLB := Lib.hid hlb
 have HD1 := Lib.hid hD1
 have HD0 := Lib.hid hD0
 have HM := Lib.hid ms
 clear hC1 hC2 hfc hfb hcs0 hbs0 hll hlc hlb ms hD1 hD0
 go_wp2_with (go_at_call 105; rw [HA.out]; refine (cond_any A _ q HROW.out (by omega)).mono ?_; intro en w1 hR; obtain ⟨u, v, rfl, hu, hv⟩ := hR.1 _ _ HCN.out; dsimp only; obtain ⟨hCH, hST⟩ := CH.start HM.out HAN.out HB.out hR.2.2 hu hv; obtain ⟨x1, l1, hx1⟩ := HFC.out; obtain ⟨x2, l2, hx2⟩ := HFB.out; obtain ⟨gu, cu, hfu⟩ := OwnTx.form (hx1 ▸ hu); obtain ⟨gv, cv, hfv⟩ := OwnTx.form (hx2 ▸ hv); have hl1 : l1.length + 1 = ts.length + 1 := (by have := HLC.out; rw [hx1] at this; simpa using this); have hl2 : l2.length + 1 = D := (by have := HLB.out; rw [hx2] at this; simpa using this); rw [hl1] at hfu; rw [hl2] at hfv; subst hfu; subst hfv; have HCH := Lib.hid hCH; have HST := Lib.hid hST; clear hR hu hv hCH hST hx1 hx2)
 go_loopg [25] (ts.length + 1) (fun k iv wr => ∃ (j n : Nat) (l : List IE) (e' : Env), iv = .int .i64 (j : Int) ∧ k = ts.length + 1 - j ∧ j ≤ ts.length + 1 ∧ PhS m C j n l ∧ (∀ i, i < j → (t :: ts)[i]? = some false) ∧ CH w.heap.size n l e' (.slice (some ⟨gu, 0, none⟩) (ts.length + 1) cu) (.slice (some ⟨gv, 0, none⟩) D cv) cs bs wr ∧ StepB w.heap.size e (zad 365 (lS8 m C)) w e' (zad n l) wr)
 case atStart => exact ⟨0, _, _, e, rfl, rfl, Nat.zero_le _, .inl ⟨rfl, rfl, rfl⟩, fun i hi => absurd hi (Nat.not_lt_zero _), HCH.out, HST.out⟩
 case round =>
  obtain ⟨j, n, l, e', rfl, hk, hj, hP, hF, hch, hst⟩ := hrel
  have hX' := hst.le.loc _ _ hX
  have HK := Lib.hid hk
  have HP := Lib.hid hP
  have HF := Lib.hid hF
  have HCH1 := Lib.hid hch
  have HST1 := Lib.hid hst
  have hcu := hch.cu
  have hcv := hch.cv
  have HCU := Lib.hid hcu
  have HCV := Lib.hid hcv
  clear hk hP hF hch hst hcu hcv
  by_cases hlt : j < ts.length + 1
  ·obtain ⟨b, hb⟩ : ∃ b, (t :: ts)[j]? = some b := ⟨_, List.getElem?_eq_getElem (by simpa using hlt)⟩
   have hc := HCU.out.cellAt (k := j) (x := tvw b) (by rw [HGC.out, hb]; rfl)
   have t0 : (0 : Int) ≤ (j : Int) := by omega
   have t1 : (j : Int) < ((ts.length + 1 : Nat) : Int) := by omega
   have u5 : IntKind.i64.wrap ((j : Int) + 1) = (j : Int) + 1 := IntWalk.i64_in _ (by omega)
   have HBB := Lib.hid hb
   clear hb
   have hsz : w.heap.size ≤ wr.heap.size := HST1.out.size
   have HSZ := Lib.hid hsz
   have HWP := Lib.hid hwpos
   clear hsz hwpos
   cases b with
   | false =>
     go_wp2_with (first
      | (go_at_call 106; refine (cond_no HP.out HCH1.out.ms hX').mono ?_; rintro en w2 ⟨e2, rfl, ms2, st2⟩; unfold okV; dsimp only; obtain ⟨A3, hA3, sA3, aN3, aO3, bA3⟩ := zag w2 #[.int .i64 0, .int .i64 0, .string ⟨#[]⟩] 31; have HA3 := Lib.hid hA3; have HCH2 := Lib.hid ((HCH1.out.keep ms2 st2).past bA3); have HST2 := Lib.hid ((HST1.out.trans (st2.toB HSZ.out)).trans (StepB.of_below (bA3.mono (Nat.le_trans HSZ.out st2.size)))); have HS2 := Lib.hid (Nat.le_trans (Nat.le_trans HSZ.out st2.size) bA3.size); clear ms2 st2 hA3 sA3 aN3 aO3 bA3)
      | (go_at_call 87; rw [HA3.out]; refine (zch ⟨#[]⟩ A3).mono ?_; rintro en w4 ⟨rfl, hb4⟩; dsimp only; have HCH3 := Lib.hid (HCH2.out.past hb4); have HST3 := Lib.hid (HST2.out.trans (StepB.of_below (hb4.mono HS2.out))); clear hb4))
     go_roundg (ts.length + 1 - (j + 1))
     case measure => rw [HK.out]; omega
     case rel => exact ⟨j + 1, 524, lC0 m C, e2, by simp, rfl, by omega, .inr ⟨Nat.succ_pos _, rfl, rfl⟩, fun i hi => (by rcases Nat.lt_or_ge i j with h | h; exact HF.out i h; have : i = j := (by omega); subst this; exact HBB.out), HCH3.out, HST3.out⟩
   | true =>
     have t2 : (j : Int) < (D : Int) := by
      cases last with
      | true => have := HD1.out rfl; omega
      | false => have := HD0.out rfl; omega
     go_wp2_with (first
      | (go_at_call 106; refine (cond_yes HP.out HCH1.out.ms hX').mono ?_; rintro en w2 ⟨e2, n2, l2', rfl, hp2, ms2, st2⟩; unfold okV; dsimp only; obtain ⟨A3, hA3, sA3, aN3, aO3, bA3⟩ := zag w2 #[.int .i64 0, .int .i64 0, .string ⟨#[]⟩] 31; have HA3 := Lib.hid hA3; have HP2 := Lib.hid hp2; have HCH2 := Lib.hid ((HCH1.out.keep ms2 st2).past bA3); have HST2 := Lib.hid ((HST1.out.trans (st2.toB HSZ.out)).trans (StepB.of_below (bA3.mono (Nat.le_trans HSZ.out st2.size)))); have HS2 := Lib.hid (Nat.le_trans (Nat.le_trans HSZ.out st2.size) bA3.size); clear ms2 st2 hA3 sA3 aN3 aO3 bA3 hp2)
      | (go_at_call 87; rw [HA3.out]; refine (zch ⟨#[]⟩ A3).mono ?_; rintro en w4 ⟨rfl, hb4⟩; dsimp only; have HCH3 := Lib.hid (HCH2.out.past hb4); have HST3 := Lib.hid (HST2.out.trans (StepB.of_below (hb4.mono HS2.out))); have HS3 := Lib.hid (Nat.le_trans HS2.out hb4.size); have hb' := HCH3.out.cv.cellAt (HGB.out j hlt); have hX3 := HST3.out.le.loc _ _ hX; clear hb4)
      | (go_at_call 16; refine (body_at HP2.out HCH3.out.ms hX3).mono ?_; rintro en w5 ⟨e5, n5, l5, rfl, hf5, ms5, st5⟩; unfold okV; dsimp only; have hch5 := HCH3.out.keep ms5 st5; have x0 := (show w5.cell? ⟨w.heap.size, 0, none⟩ = some (.int .i64 0) by rw [Lib.cell_of_heap hch5.T]; rfl); have x1 := (show w5.cell? ⟨w.heap.size, 1, none⟩ = some (.int .i64 0) by rw [Lib.cell_of_heap hch5.T]; rfl); have x2 := (show w5.cell? ⟨w.heap.size, 2, none⟩ = some (.string ⟨#[]⟩) by rw [Lib.cell_of_heap hch5.T]; rfl); have f0 : w5.frozen? ⟨w.heap.size, 0, none⟩ = false := Lib.frozen_of_heap hch5.T 0; have f1 : w5.frozen? ⟨w.heap.size, 1, none⟩ = false := Lib.frozen_of_heap hch5.T 1; have f2 : w5.frozen? ⟨w.heap.size, 2, none⟩ = false := Lib.frozen_of_heap hch5.T 2; have HCH5 := Lib.hid hch5; have HF5 := Lib.hid hf5; have HST5 := Lib.hid (HST3.out.trans (st5.toB HS3.out)); clear hch5 hf5 ms5 st5))
     obtain ⟨k1, k2, k3⟩ := HCH5.out.store HWP.out (.int .i64 0) (.int .i64 0) (.string (bt [lt j]))
     refine zbf (p := 4) rfl rfl k1 ⟨e5, n5, l5, ?_, ?_, k2, (HST5.out.trans (StepB.of_below k3)).toStep⟩
     ·rw [wantT_hit last HF.out HBB.out]; rfl
     ·rw [wantT_hit last HF.out HBB.out]; exact HF5.out
  ·have hj2 : j = ts.length + 1 := by omega
   subst hj2
   have t1 : ¬ (((ts.length + 1 : Nat) : Int) < ((ts.length + 1 : Nat) : Int)) := by omega
   have hP0 : n = 524 ∧ l = lC0 m C := by
    rcases HP.out with ⟨h, _⟩ | ⟨_, h1, h2⟩
    ·cases h
    ·exact ⟨h1, h2⟩
   obtain ⟨rfl, rfl⟩ := hP0
   have hall : ∀ i, i < (t :: ts).length → (t :: ts)[i]? = some false := fun i hi => HF.out i (by simpa using hi)
   have hwant : zaE ((t, 0) :: ts.zipIdx 1) last = _ := wantT_miss last hall
   have HWN := Lib.hid hwant
   have hsz : w.heap.size ≤ wr.heap.size := HST1.out.size
   have HSZ := Lib.hid hsz
   have HWP := Lib.hid hwpos
   have z0 := (show wr.cell? ⟨w.heap.size, 0, none⟩ = some (.int .i64 0) by rw [Lib.cell_of_heap HCH1.out.T]; rfl)
   clear hsz hwpos hwant hall z0
   cases last with
   | true =>
     have hD := HD1.out rfl
     have t3 : (((ts.length + 1 : Nat) : Int)) < (D : Int) := by omega
     have t4 : (0 : Int) ≤ ((ts.length + 1 : Nat) : Int) := by omega
     have hb' := HCV.out.cellAt (HGL.out rfl)
     go_wp2_with ((go_at_call 16; refine (body_last HCH1.out.ms hX').mono ?_; rintro en w5 ⟨e5, n5, l5, rfl, hf5, ms5, st5⟩; unfold okV; dsimp only; have hch5 := HCH1.out.keep ms5 st5; have x0 := (show w5.cell? ⟨w.heap.size, 0, none⟩ = some (.int .i64 0) by rw [Lib.cell_of_heap hch5.T]; rfl); have x1 := (show w5.cell? ⟨w.heap.size, 1, none⟩ = some (.int .i64 0) by rw [Lib.cell_of_heap hch5.T]; rfl); have x2 := (show w5.cell? ⟨w.heap.size, 2, none⟩ = some (.string ⟨#[]⟩) by rw [Lib.cell_of_heap hch5.T]; rfl); have f0 : w5.frozen? ⟨w.heap.size, 0, none⟩ = false := Lib.frozen_of_heap hch5.T 0; have f1 : w5.frozen? ⟨w.heap.size, 1, none⟩ = false := Lib.frozen_of_heap hch5.T 1; have f2 : w5.frozen? ⟨w.heap.size, 2, none⟩ = false := Lib.frozen_of_heap hch5.T 2; have HCH5 := Lib.hid hch5; have HF5 := Lib.hid hf5; have HST5 := Lib.hid (HST1.out.trans (st5.toB HSZ.out)); clear hch5 hf5 ms5 st5))
     obtain ⟨k1, k2, k3⟩ := HCH5.out.store HWP.out (.int .i64 0) (.int .i64 0) (.string (bt [33]))
     refine zbf (p := 4) rfl rfl k1 ⟨e5, n5, l5, ?_, ?_, k2, (HST5.out.trans (StepB.of_below k3)).toStep⟩
     ·rw [HWN.out]; rfl
     ·rw [HWN.out]; exact HF5.out
   | false =>
     have hD := HD0.out rfl
     have t3 : ¬ ((((ts.length + 1 : Nat) : Int)) < (D : Int)) := by omega
     go_wp2_with ((go_at_call 74; refine (ok_any ⟨#[]⟩ wr).mono ?_; rintro en w5 ⟨rfl, hb5⟩; unfold okV; dsimp only; have hch5 := HCH1.out.past hb5; have x0 := (show w5.cell? ⟨w.heap.size, 0, none⟩ = some (.int .i64 0) by rw [Lib.cell_of_heap hch5.T]; rfl); have x1 := (show w5.cell? ⟨w.heap.size, 1, none⟩ = some (.int .i64 0) by rw [Lib.cell_of_heap hch5.T]; rfl); have x2 := (show w5.cell? ⟨w.heap.size, 2, none⟩ = some (.string ⟨#[]⟩) by rw [Lib.cell_of_heap hch5.T]; rfl); have f0 : w5.frozen? ⟨w.heap.size, 0, none⟩ = false := Lib.frozen_of_heap hch5.T 0; have f1 : w5.frozen? ⟨w.heap.size, 1, none⟩ = false := Lib.frozen_of_heap hch5.T 1; have f2 : w5.frozen? ⟨w.heap.size, 2, none⟩ = false := Lib.frozen_of_heap hch5.T 2; have HCH5 := Lib.hid hch5; have HST5 := Lib.hid (HST1.out.trans (StepB.of_below (hb5.mono HSZ.out))); clear hch5 hb5))
     obtain ⟨k1, k2, k3⟩ := HCH5.out.store HWP.out (.int .i64 0) (.int .i64 0) (.string (bt []))
     refine zbf (p := 4) rfl rfl k1 ⟨e', 524, lC0 m C, ?_, ?_, k2, (HST5.out.trans (StepB.of_below k3)).toStep⟩
     ·rw [HWN.out]; rfl
     ·rw [HWN.out]; exact .none
end Go.Proofs.YtfkeeieoapimlaaGreatDoor
end
section
namespace Go.Proofs.YtfkeeieoapimlaaGreatDoor
open Go.ChangeShapes Go.WideShapes Go.ChangeAt Go.RowKit Go.Xe Go.Xe.Cards
set_option maxRecDepth 100000
structure KW (B n : Nat) (l : List IE) (e : Env) (v : Value) (ws : List (List UInt8)) (w : World) : Prop where
 ms : MS n l e w
 T : w.heap[B]? = some (.cells #[.int .i64 0, .int .i64 0, .string ⟨#[]⟩] 31 (0, 0))
 wd : OwnTx w 0 v ws
 own : ∀ k, k = B ∨ v.ownBlock = some k → ¬ Xe.Own e (zad n l) k
 pos : 0 < B
theorem KW.keep {B n n' : Nat} {l l' : List IE} {e e' : Env} {v : Value} {ws : List (List UInt8)} {w w' : World} (h : KW B n l e v ws w) (ms : MS n' l' e' w') (st : Step e (zad n l) w e' (zad n' l') w') : KW B n' l' e' v ws w' := by
 have lt : ∀ k, k = B ∨ v.ownBlock = some k → k < w.heap.size := by
  rintro k (rfl | hk)
  ·exact (Array.getElem?_eq_some_iff.1 h.T).1
  ·exact (h.wd.lt k hk).2
 have k : ∀ k, k = B ∨ v.ownBlock = some k → w'.heap[k]? = w.heap[k]? ∧ ¬ Xe.Own e' (zad n' l') k := fun k hk => st.keep k (lt k hk) (h.own k hk)
 exact ⟨ms, (k B (.inl rfl)).1.trans h.T, zak h.wd fun j hj => (k j (.inr hj)).1, fun j hj => (k j hj).2, h.pos⟩
theorem KW.past {B n : Nat} {l : List IE} {e : Env} {v : Value} {ws : List (List UInt8)} {w w' : World} (h : KW B n l e v ws w) (hb : Below w.heap.size w w') : KW B n l e v ws w' :=
 h.keep (h.ms.below hb) (Step.of_below hb)
theorem KW.store {B n : Nat} {l : List IE} {e : Env} {v : Value} {ws : List (List UInt8)} {w : World} (h : KW B n l e v ws w) (a b c : Value) :
  (((w.setCell ⟨B, 0, none⟩ a).setCell ⟨B, 1, none⟩ b).setCell ⟨B, 2, none⟩ c).heap[B]? = some (.cells #[a, b, c] 31 (0, 0)) ∧ MS n l e (((w.setCell ⟨B, 0, none⟩ a).setCell ⟨B, 1, none⟩ b).setCell ⟨B, 2, none⟩ c) ∧
  Below B w (((w.setCell ⟨B, 0, none⟩ a).setCell ⟨B, 1, none⟩ b).setCell ⟨B, 2, none⟩ c) :=
 CH.store (B := B) (u := .slice none 0 0) (v := .slice none 0 0) (cs := []) (bs := []) ⟨h.ms, h.T, World.ownsRow_nil _ _ _ _, World.ownsRow_nil _ _ _ _, fun k hk => h.own k (hk.elim .inl fun hk => hk.elim (fun hk => by cases hk) fun hk => by cases hk)⟩ h.pos a b c
theorem KW.start {n : Nat} {l : List IE} {e : Env} {w A : World} {v : Value} {ws : List (List UInt8)} (ms : MS n l e w) (hA : A.heap[w.heap.size]? = some (.cells #[.int .i64 0, .int .i64 0, .string ⟨#[]⟩] 31 (0, 0))) (hb : Below w.heap.size w A)
  (hw : OwnTx w 0 v ws) (ho : ∀ k, v.ownBlock = some k → ¬ Xe.Own e (zad n l) k) : KW w.heap.size n l e v ws A :=
 ⟨ms.below hb, hA, zaz hw hb, fun k hk => by
  rcases hk with rfl | hk
  ·exact fun o => absurd (ms.lt o) (Nat.lt_irrefl _)
  ·exact ho k hk, HasG.pos (w := w) ms.g⟩
theorem KW.put {B n : Nat} {l l2 : List IE} {e : Env} {v : Value} {ws : List (List UInt8)} {w : World} (h : KW B n l e v ws w) {b i X ext ty : Nat} {cs : List AV} {a : AV} {u : Value} (hb : (zad n l).get b = some (.cells cs ty true 0 [])) (hty : ty ≠ 0) (hl : e.loc b = some ⟨X, 0, ext⟩) (hv : VR e a u)
  (hs : subOk n (⟨b, .cells (cs.set i a) ty true 0 []⟩ :: l) l2) : KW B n l2 e v ws (w.setCell ⟨X, i, none⟩ u) ∧ Step e (zad n l) w e (zad n l2) (w.setCell ⟨X, i, none⟩ u) := by
 obtain ⟨m1, s1⟩ := h.ms.put (i := i) hb hty hl hv
 have st : Step e (zad n l) w e (zad n l2) (w.setCell ⟨X, i, none⟩ u) := StepB.toStep ((s1 _ (Nat.le_refl _)).trans (.subL hs))
 exact ⟨h.keep (m1.sub hs) st, st⟩
def OutR (m C : Nat) (want : List UInt8) (n : Nat) (l : List IE) (e : Env) (w : World) (en : Ending) (w' : World) : Prop :=
 ∃ e' n' l', en = .returned (okV (bt want)) ∧ FinS m C want n' l' ∧ MS n' l' e' w' ∧ Step e (zad n l) w e' (zad n' l') w'
theorem fin_x {m C n : Nat} {l : List IE} {want : List UInt8} (h : FinS m C want n l) : ∃ cs, (zad n l).get 24 = some (.cells cs 58 true 0 []) ∧ cs[0]? = some (.ptr 5 0) ∧ cs[9]? = some .snil ∧ cs[19]? = some (.bool false) ∧ cs[28]? = some .fnil := by
 cases h with
 | none => exact ⟨_, gx_C0 m C, rfl, rfl, rfl, rfl⟩
 | first => exact ⟨_, gx_D _ _, rfl, rfl, rfl, rfl⟩
 | more i h => exact ⟨_, gx_D _ _, rfl, rfl, rfl, rfl⟩
 | last => exact ⟨_, gx_D _ _, rfl, rfl, rfl, rfl⟩
theorem vr_num {e : Env} {g j lo hi : Nat} {u : Value} (h : VR e (.num g j lo hi) u) : ∃ v : Nat, u = .int .i64 (v : Int) ∧ lo ≤ v ∧ v < hi := by
 cases h with
 | num _ _ _ _ v h h1 h2 => exact ⟨v, rfl, h1, h2⟩
theorem vr_tup2 {e : Env} {a b : AV} {u : Value} (h : VR e (.tup [a, b]) u) : ∃ x y, u = .tuple #[x, y] ∧ VR e a x ∧ VR e b y := by
 obtain ⟨us, rfl, hus⟩ := vr_tup h
 obtain ⟨us⟩ := us
 cases hus with
 | cons _ u1 _ l1 a1 a2 =>
   cases a2 with
   | cons _ u2 _ l2 b1 b2 =>
     cases b2
     exact ⟨_, _, rfl, a1, b1⟩
theorem za9 {e : Env} {f : Nat} {u : Value} (h : VR e (.func (.func f) [] []) u) : u = .func (.func f) #[] #[] := by
 cases h with
 | func f f' x y x' y' hf hx hy =>
   cases hf
   obtain ⟨x'⟩ := x'
   obtain ⟨y'⟩ := y'
   cases hx
   cases hy
   rfl
theorem x5_cells {m C : Nat} {e : Env} {w : World} (ms : MS 365 (lS5 m C) e w) {X ext : Nat} (hX : e.loc 24 = some ⟨X, 0, ext⟩) :
  (∃ T ext', e.loc 19 = some ⟨T, 0, ext'⟩ ∧ w.cell? ⟨X, 3, none⟩ = some (.pointer (some ⟨T, 0, none⟩))) ∧ (∃ M, VR e (.map 20) (.map (some M)) ∧ w.cell? ⟨X, 4, none⟩ = some (.map (some M))) ∧ w.cell? ⟨X, 27, none⟩ = some .nilFunc ∧
  w.frozen? ⟨X, 8, none⟩ = false ∧ ∃ u, w.cell? ⟨X, 8, none⟩ = some u := by
 have g := gx_S5 m C
 obtain ⟨u3, a3, b3, _⟩ := zbi ms g (by decide) hX (i := 3) rfl
 obtain ⟨u4, a4, b4, _⟩ := zbi ms g (by decide) hX (i := 4) rfl
 obtain ⟨u27, a27, b27, _⟩ := zbi ms g (by decide) hX (i := 27) rfl
 obtain ⟨u8, a8, b8, f8⟩ := zbi ms g (by decide) hX (i := 8) rfl
 obtain ⟨T, ext', arr, h1, _, _⟩ := MSrow ms (gt_S5 m C) (by decide)
 obtain ⟨L, hL, rfl⟩ := zeZ b4
 rw [zds b3 h1] at a3
 rw [vr_fnil b27] at a27
 exact ⟨⟨T, ext', h1, a3⟩, ⟨_, b4, a4⟩, a27, f8, u8, a8⟩
end Go.Proofs.YtfkeeieoapimlaaGreatDoor
end
section
namespace Go.Proofs.YtfkeeieoapimlaaGreatDoor
open Go.ChangeShapes Go.WideShapes Go.ChangeAt Go.RowKit Go.Xe Go.Xe.Cards
set_option maxRecDepth 100000
theorem cmp69 (w : World) : (binOp BinOp.eql 69 (.func (.func 58) #[] #[]) .nilFunc).run Tryz.prog w = .ok (.bool false) w := by kernel_rfl
theorem cmp55 (w : World) : (binOp BinOp.neq 55 .nilFunc .nilFunc).run Tryz.prog w = .ok (.bool false) w := by kernel_rfl
theorem cmp56 (w : World) : (binOp BinOp.neq 56 .nilFunc .nilFunc).run Tryz.prog w = .ok (.bool false) w := by kernel_rfl
set_option maxHeartbeats 2000000 in
theorem call_any (m C : Nat) {e : Env} {w : World} (ms : MS 365 (lS5 m C) e w) {X ext : Nat} (hX : e.loc 24 = some ⟨X, 0, ext⟩) {g c v0 : Nat} {t : Bool} {ts : List Bool} {last : Bool} (hn : ts.length ≤ 100)
  (hv0 : VR e (.num 284 0 11 26) (.int .i64 (v0 : Int)))
  (hw : OwnTx w 0 (.slice (some ⟨g, 0, none⟩) (wdsL (t :: ts) last).length c) (wdsL (t :: ts) last)) (ho : ∀ k, (Value.slice (some ⟨g, 0, none⟩) (wdsL (t :: ts) last).length c).ownBlock = some k → ¬ Xe.Own e (zad 365 (lS5 m C)) k) :
  Calls Tryz.prog 373 #[.pointer (some ⟨X, 0, none⟩), .int .i64 (v0 : Int), .slice (some ⟨g, 0, none⟩) (wdsL (t :: ts) last).length c] w fun en w' => OutR m C (zaE (t :: ts).zipIdx last) 365 (lS5 m C) e w en w' := by
 obtain ⟨A, hA, sA, aN, aO, bA⟩ := zag w #[.int .i64 0, .int .i64 0, .string ⟨#[]⟩] 31
 have hK := KW.start ms aN bA hw ho
 obtain ⟨⟨T, ext', hT, c3⟩, _, _, _, _⟩ := x5_cells hK.ms hX
 have HV0 := Lib.hid hv0
 have HK := Lib.hid hK
 have HA := Lib.hid hA
 have HST := Lib.hid (StepB.of_below (e := e) (h := zad 365 (lS5 m C)) bA)
 have HTL := Lib.hid hT
 have lX : X < w.heap.size := by
  have := (ms.sat.locs 24 _ hX).2
  exact this
 have c3w : w.cell? ⟨X, 3, none⟩ = some (.pointer (some ⟨T, 0, none⟩)) := by rw [← bA.cell (p := ⟨X, 3, none⟩) lX]; exact c3
 clear hA sA aN aO bA hw ho hK hv0 hT
 have q1 := cmp69
 have q2 := cmp55
 have q3 := cmp56
 go_enter Tryz.func373, Tryz.ntmps373
 go_wp2_with (first
  | (go_at_call 445; rw [HA.out]; refine (zaX (k_origin m C) (Nat.le_refl _) (by kernel_rfl) (by kernel_rfl) HK.out.ms (us := #[_, _]) (.cons _ _ _ _ (.ptr 19 0 _ HTL.out) (.cons _ _ _ _ HV0.out .nil))).mono ?_; rintro en w2 ⟨u, e2, rfl, hu, ms2, st2⟩; obtain ⟨x1, x2, rfl, hx1, hx2⟩ := vr_tup2 hu; obtain ⟨v1, rfl, _, _⟩ := vr_num hx1; rw [vr_int hx2]; dsimp only; have hK2 := HK.out.keep ms2 st2; have hX2 := st2.le.loc _ _ hX; obtain ⟨_, ⟨M, hM, c4⟩, c27, f8, u8, c8⟩ := x5_cells hK2.ms hX2; obtain ⟨uf, w9, hlk, hf, rfl⟩ := zcb hK2.ms.sat hM hx1 (look_if m C); rw [za9 hf] at hlk; have HK2 := Lib.hid hK2; have HX1 := Lib.hid hx1; have HST2 := Lib.hid (HST.out.trans (st2.toB HST.out.size)); have HS2 := Lib.hid (Nat.le_trans HST.out.size st2.size); clear hu hx2 ms2 st2 hK2 hM hx1 hf)
  | (go_at_call 58; obtain ⟨hK3, st3⟩ := HK2.out.put (gx_S5 m C) (by decide) hX2 HX1.out (put8 m C); refine (choose_any m C hK3.ms hX2 hn hK3.wd).mono ?_; rintro en w5 ⟨e5, n5, l5, rfl, hf5, ms5, st5⟩; unfold okV; dsimp only; have hK5 := hK3.keep ms5 st5; have hX5 := st5.le.loc _ _ hX2; obtain ⟨cs5, g5, _, _, _, i28⟩ := fin_x hf5; obtain ⟨u28, c28, r28, _⟩ := zbi hK5.ms g5 (by decide) hX5 i28; rw [vr_fnil r28] at c28; have l5X : X < w5.heap.size := World.block_lt_of_cell? w5 _ c28; have l5T : w.heap.size < w5.heap.size := (Array.getElem?_eq_some_iff.1 hK5.T).1; have x0 := (show w5.cell? ⟨w.heap.size, 0, none⟩ = some (.int .i64 0) by rw [Lib.cell_of_heap hK5.T]; rfl); have x1 := (show w5.cell? ⟨w.heap.size, 1, none⟩ = some (.int .i64 0) by rw [Lib.cell_of_heap hK5.T]; rfl); have x2 := (show w5.cell? ⟨w.heap.size, 2, none⟩ = some (.string ⟨#[]⟩) by rw [Lib.cell_of_heap hK5.T]; rfl); have f0 : w5.frozen? ⟨w.heap.size, 0, none⟩ = false := Lib.frozen_of_heap hK5.T 0; have f1 : w5.frozen? ⟨w.heap.size, 1, none⟩ = false := Lib.frozen_of_heap hK5.T 1; have f2 : w5.frozen? ⟨w.heap.size, 2, none⟩ = false := Lib.frozen_of_heap hK5.T 2; have HK5 := Lib.hid hK5; have HF5 := Lib.hid hf5; have HST5 := Lib.hid ((HST2.out.trans (st3.toB HS2.out)).trans (st5.toB (by simpa using HS2.out))); have HS5 := Lib.hid (Nat.le_trans HS2.out (by simpa using st5.size)); clear hK3 st3 hf5 ms5 st5 hK5 g5 r28 i28))
 obtain ⟨k1, k2, k3⟩ := HK5.out.store (.int .i64 0) (.int .i64 0) (.string (bt (zaE ((t, 0) :: ts.zipIdx 1) last)))
 obtain ⟨A9, hA9, sA9, aN9, aO9, bA9⟩ := zag (((w5.setCell ⟨w.heap.size, 0, none⟩ (.int .i64 0)).setCell ⟨w.heap.size, 1, none⟩ (.int .i64 0)).setCell ⟨w.heap.size, 2, none⟩ (.string (bt (zaE ((t, 0) :: ts.zipIdx 1) last)))) #[.int .i64 0, .int .i64 0, .string (bt (zaE ((t, 0) :: ts.zipIdx 1) last))] 31
 rw [hA9]
 have hlt := (Array.getElem?_eq_some_iff.1 k1).1
 refine zbf (p := 6) rfl rfl ((bA9.block _ hlt).trans k1) ⟨e5, n5, l5, rfl, HF5.out, k2.below bA9, ((HST5.out.trans (StepB.of_below k3)).trans (StepB.of_below (bA9.mono (by simpa using HS5.out)))).toStep⟩
end Go.Proofs.YtfkeeieoapimlaaGreatDoor
end
section
namespace Go.Proofs.YtfkeeieoapimlaaGreatDoor
open Go.ChangeShapes Go.WideShapes Go.ChangeAt Go.RowKit Go.Xe Go.Xe.Cards
set_option maxRecDepth 100000
theorem KW.cells {B n : Nat} {l : List IE} {e : Env} {v : Value} {ws : List (List UInt8)} {w : World} (h : KW B n l e v ws w) :
  (w.cell? ⟨B, 0, none⟩ = some (.int .i64 0) ∧ w.cell? ⟨B, 1, none⟩ = some (.int .i64 0) ∧ w.cell? ⟨B, 2, none⟩ = some (.string ⟨#[]⟩)) ∧ w.frozen? ⟨B, 0, none⟩ = false ∧ w.frozen? ⟨B, 1, none⟩ = false ∧ w.frozen? ⟨B, 2, none⟩ = false ∧ B < w.heap.size :=
 ⟨⟨by rw [Lib.cell_of_heap h.T]; rfl, by rw [Lib.cell_of_heap h.T]; rfl, by rw [Lib.cell_of_heap h.T]; rfl⟩, Lib.frozen_of_heap h.T 0, Lib.frozen_of_heap h.T 1, Lib.frozen_of_heap h.T 2, (Array.getElem?_eq_some_iff.1 h.T).1⟩
theorem word0 (t : Bool) (ts : List Bool) (last : Bool) : (wdsL (t :: ts) last)[0]? = some wIf := by rw [zbS]; rfl
theorem KW.done {B n : Nat} {l : List IE} {e : Env} {v : Value} {ws : List (List UInt8)} {w : World} {m C n0 : Nat} {want : List UInt8} {l0 : List IE} {e0 : Env} {w0 : World} (h : KW B n l e v ws w) (hB : B = w0.heap.size) (hf : FinS m C want n l) (st : StepB w0.heap.size e0 (zad n0 l0) w0 e (zad n l) w)
  {fn : Func} {p : Nat} (hr : fn.results = #[.cell p 31]) {tmps : Array Value} (hp : tmps.getD p undef = .pointer (some ⟨B, 0, none⟩)) :
  bodyPost Tryz.prog fn (fun en w' => OutR m C want n0 l0 e0 w0 en w') Exit.ret { tmps := tmps, defers := [] } (((w.setCell ⟨B, 0, none⟩ (.int .i64 0)).setCell ⟨B, 1, none⟩ (.int .i64 0)).setCell ⟨B, 2, none⟩ (.string (bt want))) := by
 obtain ⟨k1, k2, k3⟩ := h.store (.int .i64 0) (.int .i64 0) (.string (bt want))
 subst hB
 exact zbf hr hp k1 ⟨e, n, l, rfl, hf, k2, (st.trans (StepB.of_below k3)).toStep⟩
set_option maxHeartbeats 2000000 in
theorem found_any (m C : Nat) {e : Env} {w : World} (ms : MS 365 (lS5 m C) e w) {X ext : Nat} (hX : e.loc 24 = some ⟨X, 0, ext⟩) {g c : Nat} {t : Bool} {ts : List Bool} {last : Bool} (hn : ts.length ≤ 100)
  (hw : OwnTx w 0 (.slice (some ⟨g, 0, none⟩) (wdsL (t :: ts) last).length c) (wdsL (t :: ts) last)) (ho : ∀ k, (Value.slice (some ⟨g, 0, none⟩) (wdsL (t :: ts) last).length c).ownBlock = some k → ¬ Xe.Own e (zad 365 (lS5 m C)) k) :
  Calls Tryz.prog 313 #[.pointer (some ⟨X, 0, none⟩), .string (zae 2 14906), .slice (some ⟨g, 0, none⟩) (wdsL (t :: ts) last).length c] w fun en w' => OutR m C (zaE (t :: ts).zipIdx last) 365 (lS5 m C) e w en w' := by
 obtain ⟨A, hA, sA, aN, aO, bA⟩ := zag w #[.int .i64 0, .int .i64 0, .string ⟨#[]⟩] 31
 have hK := KW.start ms aN bA hw ho
 have hpos : 0 < (wdsL (t :: ts) last).length := by rw [zbS]; simp
 have t0 : (0 : Int) < ((wdsL (t :: ts) last).length : Int) := by omega
 have lg : g < w.heap.size := (hw.lt g rfl).2
 have c0 : w.cell? ⟨g, 0, none⟩ = some (.string (zae 2 26217)) := hw.cellAt (word0 t ts last)
 have HK := Lib.hid hK
 have HA := Lib.hid hA
 have HST := Lib.hid (StepB.of_below (e := e) (h := zad 365 (lS5 m C)) bA)
 clear hA sA aN aO bA hw ho hK
 go_enter Tryz.func313, Tryz.ntmps313
 go_wp2_with (first
  | (go_at_call 100; rw [HA.out]; refine (zaX (k_find m C) (Nat.le_refl _) (by kernel_rfl) (by kernel_rfl) HK.out.ms (us := #[_, _, _]) (.cons _ _ _ _ (.ptr 24 0 _ hX) (.cons _ _ _ _ (.str 2 14906) (.cons _ _ _ _ (.str 2 26217) .nil)))).mono ?_; rintro en w2 ⟨u, e2, rfl, hu, ms2, st2⟩; obtain ⟨v0, rfl, hv1, hv2⟩ := vr_num hu; dsimp only; have hX2 := st2.le.loc _ _ hX; have hgt : (0 : Int) < (v0 : Int) := (by omega); have HK2 := Lib.hid (HK.out.keep ms2 st2); have HU := Lib.hid hu; have HST2 := Lib.hid (HST.out.trans (st2.toB HST.out.size)); have HS2 := Lib.hid (Nat.le_trans HST.out.size st2.size); clear hu ms2 st2)
  | (go_at_call 373; refine (call_any m C HK2.out.ms hX2 hn HU.out HK2.out.wd (fun k hk => HK2.out.own k (.inr hk))).mono ?_; rintro en w5 ⟨e5, n5, l5, rfl, hf5, ms5, st5⟩; unfold okV; dsimp only; have hK5 := HK2.out.keep ms5 st5; obtain ⟨⟨x0, x1, x2⟩, f0, f1, f2, lT⟩ := hK5.cells; have HK5 := Lib.hid hK5; have HF5 := Lib.hid hf5; have HST5 := Lib.hid (HST2.out.trans (st5.toB HS2.out)); clear hK5 hf5 ms5 st5))
 exact HK5.out.done rfl HF5.out HST5.out (p := 6) rfl rfl
set_option maxHeartbeats 2000000 in
theorem doIn_any (m C : Nat) {e : Env} {w : World} (ms : MS 365 (lS4 m C) e w) {X ext : Nat} (hX : e.loc 24 = some ⟨X, 0, ext⟩) {g c : Nat} {t : Bool} {ts : List Bool} {last : Bool} (hn : ts.length ≤ 100)
  (hw : OwnTx w 0 (.slice (some ⟨g, 0, none⟩) (wdsL (t :: ts) last).length c) (wdsL (t :: ts) last)) (ho : ∀ k, (Value.slice (some ⟨g, 0, none⟩) (wdsL (t :: ts) last).length c).ownBlock = some k → ¬ Xe.Own e (zad 365 (lS4 m C)) k) :
  Calls Tryz.prog 251 #[.pointer (some ⟨X, 0, none⟩), .string (zae 2 14906), .slice (some ⟨g, 0, none⟩) (wdsL (t :: ts) last).length c] w fun en w' => OutR m C (zaE (t :: ts).zipIdx last) 365 (lS4 m C) e w en w' := by
 obtain ⟨A, hA, sA, aN, aO, bA⟩ := zag w #[.int .i64 0, .int .i64 0, .string ⟨#[]⟩] 31
 have hK := KW.start ms aN bA hw ho
 have hpos : 0 < (wdsL (t :: ts) last).length := by rw [zbS]; simp
 have t0 : ¬ (((wdsL (t :: ts) last).length : Int) = 0) := by omega
 have t1 : ((((wdsL (t :: ts) last).length : Int)) == 0) = false := by simpa using t0
 have HK := Lib.hid hK
 have HA := Lib.hid hA
 have HST := Lib.hid (StepB.of_below (e := e) (h := zad 365 (lS4 m C)) bA)
 clear hA sA aN aO bA hw ho hK
 go_enter Tryz.func251, Tryz.ntmps251
 go_wp2_with (first
  | (go_at_call 221; rw [HA.out]; refine (zaX (k_step m C) (Nat.le_refl _) (by kernel_rfl) (by kernel_rfl) HK.out.ms (us := #[_]) (.cons _ _ _ _ (.ptr 24 0 _ hX) .nil)).mono ?_; rintro en w2 ⟨u, e2, rfl, hu, ms2, st2⟩; rw [vr_out hu]; unfold okV; dsimp only; have hX2 := st2.le.loc _ _ hX; obtain ⟨A3, hA3, sA3, aN3, aO3, bA3⟩ := zag w2 #[.int .i64 0, .int .i64 0, .string (zae 0 0)] 31; have HA3 := Lib.hid hA3; have HK2 := Lib.hid ((HK.out.keep ms2 st2).past bA3); have HS2 := Lib.hid (Nat.le_trans (Nat.le_trans HST.out.size st2.size) bA3.size); have HST2 := Lib.hid ((HST.out.trans (st2.toB HST.out.size)).trans (StepB.of_below (bA3.mono (Nat.le_trans HST.out.size st2.size)))); clear hu ms2 st2 hA3 sA3 aN3 aO3 bA3)
  | (go_at_call 87; rw [HA3.out]; refine (zch (zae 0 0) A3).mono ?_; rintro en w4 ⟨rfl, hb4⟩; dsimp only; have HK3 := Lib.hid (HK2.out.past hb4); have HST3 := Lib.hid (HST2.out.trans (StepB.of_below (hb4.mono HS2.out))); have HS3 := Lib.hid (Nat.le_trans HS2.out hb4.size); clear hb4)
  | (go_at_call 313; refine (found_any m C HK3.out.ms hX2 hn HK3.out.wd (fun k hk => HK3.out.own k (.inr hk))).mono ?_; rintro en w5 ⟨e5, n5, l5, rfl, hf5, ms5, st5⟩; unfold okV; dsimp only; have hK5 := HK3.out.keep ms5 st5; obtain ⟨⟨x0, x1, x2⟩, f0, f1, f2, lT⟩ := hK5.cells; have HK5 := Lib.hid hK5; have HF5 := Lib.hid hf5; have HST5 := Lib.hid (HST3.out.trans (st5.toB HS3.out)); clear hK5 hf5 ms5 st5))
 exact HK5.out.done rfl HF5.out HST5.out (p := 6) rfl rfl
set_option maxHeartbeats 2000000 in
theorem do_any (m C : Nat) {e : Env} {w : World} (ms : MS 365 (lS4 m C) e w) {X ext : Nat} (hX : e.loc 24 = some ⟨X, 0, ext⟩) {g c : Nat} {t : Bool} {ts : List Bool} {last : Bool} (hn : ts.length ≤ 100)
  (hw : OwnTx w 0 (.slice (some ⟨g, 0, none⟩) (wdsL (t :: ts) last).length c) (wdsL (t :: ts) last)) (ho : ∀ k, (Value.slice (some ⟨g, 0, none⟩) (wdsL (t :: ts) last).length c).ownBlock = some k → ¬ Xe.Own e (zad 365 (lS4 m C)) k) :
  Calls Tryz.prog 201 #[.pointer (some ⟨X, 0, none⟩), .slice (some ⟨g, 0, none⟩) (wdsL (t :: ts) last).length c] w fun en w' => OutR m C (zaE (t :: ts).zipIdx last) 365 (lS4 m C) e w en w' := by
 obtain ⟨A, hA, sA, aN, aO, bA⟩ := zag w #[.int .i64 0, .int .i64 0, .string ⟨#[]⟩] 31
 have hK := KW.start ms aN bA hw ho
 obtain ⟨N, extN, arr, hN, _, _⟩ := MSrow ms (gn_S4 m C) (by decide)
 obtain ⟨u7, c7, r7, _⟩ := zbi ms (gx_S4 m C) (by decide) hX (i := 7) rfl
 rw [zds r7 hN] at c7
 obtain ⟨u2, c2, r2, _⟩ := zbi ms (gn_S4 m C) (by decide) hN (i := 2) rfl
 rw [zbm r2] at c2
 have lX : X < w.heap.size := World.block_lt_of_cell? w _ c7
 have lN : N < w.heap.size := World.block_lt_of_cell? w _ c2
 have HK := Lib.hid hK
 have HA := Lib.hid hA
 have HST := Lib.hid (StepB.of_below (e := e) (h := zad 365 (lS4 m C)) bA)
 clear hA sA aN aO bA hw ho hK r7 r2 hN
 go_enter Tryz.func201, Tryz.ntmps201
 go_wp2_with (go_at_call 251; rw [HA.out]; refine (doIn_any m C HK.out.ms hX hn HK.out.wd (fun k hk => HK.out.own k (.inr hk))).mono ?_; rintro en w5 ⟨e5, n5, l5, rfl, hf5, ms5, st5⟩; unfold okV; dsimp only; have hK5 := HK.out.keep ms5 st5; obtain ⟨⟨x0, x1, x2⟩, f0, f1, f2, lT⟩ := hK5.cells; have HK5 := Lib.hid hK5; have HF5 := Lib.hid hf5; have HST5 := Lib.hid (HST.out.trans (st5.toB HST.out.size)); clear hK5 hf5 ms5 st5)
 exact HK5.out.done rfl HF5.out HST5.out (p := 4) rfl rfl
end Go.Proofs.YtfkeeieoapimlaaGreatDoor
end
section
namespace Go.Proofs.YtfkeeieoapimlaaGreatDoor
open Go.ChangeShapes Go.WideShapes Go.ChangeAt Go.RowKit Go.Xe Go.Xe.Cards
set_option maxRecDepth 100000
theorem cmp24 (a : Addr) (n c : Nat) (w : World) : (binOp BinOp.eql 24 (.slice (some a) n c) (.slice none 0 0)).run Tryz.prog w = .ok (.bool false) w := by kernel_rfl
set_option maxHeartbeats 1000000 in
theorem clone_any (w : World) {b g c : Nat} {ws : List (List UInt8)} (hw : OwnTx w b (.slice (some ⟨g, 0, none⟩) ws.length c) ws) (hl : ws.length ≤ 100000) :
  Calls Tryz.prog 184 #[.slice (some ⟨g, 0, none⟩) ws.length c] w fun e w' => ∃ v, e = .returned v ∧ OwnTx w' w.heap.size v ws ∧ Below w.heap.size w w' := by
 obtain ⟨i0, hi, hz0, hz1, hz2⟩ := info_parts info9
 have q1 := cmp24
 have lg := (hw.lt g rfl).2
 have HW := Lib.hid hw
 clear hw
 go_enter Tryz.func184, Tryz.ntmps184
 go_wp2_with (at_builtin; refine zaa rfl _ _ 24 rfl w.heap.size 9 i0 (.string ⟨#[]⟩) 1 16 Tryz.underlying24 hi hz0 hz1 hz2 rfl (by decide) (.slice (some ⟨w.heap.size, 0, none⟩) 0 0) 0 [] rfl (World.ownsRow_made w #[] 0 (Nat.le_refl _) (by decide) rfl) ⟨g, 0, none⟩ ws.length c (ws.map strV) rfl (by simp) (fun j u hu => (by rw [World.cell?_of_block (heap_alloc_old w _ (by simp [Addr.add]; split <;> exact lg))]; exact HW.out.cells (g := g) rfl j u hu)) (by intro x hx; obtain ⟨y, _, rfl⟩ := List.mem_map.1 hx; rfl) (by simp only [maxLen]; omega) (by omega) (by simp) ?_; intro v' w3 ho hg hn; have HO := Lib.hid ho; have HB := Lib.hid ((Below.alloc (Below.refl w.heap.size w) (Nat.le_refl _) _).grown hg (by simp) (fun k hk => (by cases hk; exact Nat.le_refl _))); clear ho hg hn)
 go_ret
 refine ⟨_, rfl, ?_, HB.out⟩
 have h := HO.out
 rw [Nat.zero_add, List.nil_append] at h
 exact h
structure C1 (base R T : Nat) (F : Nat → Array Value → Nat → Prop) (xv at_ vt vw : Value) (n : Nat) (l : List IE) (e : Env) (W : World) : Prop where
 ms : MS n l e W
 hR : W.heap[R]? = some (.cells #[xv, at_, vt, vw] 139 (0, 0))
 rt : W.ownsRow base 9 1 vt 0 []
 hT : W.heap[T]? = some (.cells #[.int .i64 0, .int .i64 0, .string ⟨#[]⟩] 31 (0, 0))
 h4 : ∀ k cs U, F k cs U → W.heap[k]? = some (.cells cs U (0, 0))
 own : ∀ k, (k = R ∨ vt.ownBlock = some k ∨ k = T ∨ ∃ cs U, F k cs U) → ¬ Xe.Own e (zad n l) k
 bR : base ≤ R
 bT : base ≤ T
 f9 : ∀ k cs U, F k cs U → U ≠ 139 ∧ U ≠ 9
 ne : ∀ cs U, ¬ F T cs U
 b0 : 0 < base
 bs : base ≤ W.heap.size
theorem C1.keep {base R T : Nat} {F : Nat → Array Value → Nat → Prop} {xv at_ vt vw : Value} {n n' : Nat} {l l' : List IE} {e e' : Env} {W W' : World} (h : C1 base R T F xv at_ vt vw n l e W) (ms : MS n' l' e' W') (st : Step e (zad n l) W e' (zad n' l') W') : C1 base R T F xv at_ vt vw n' l' e' W' := by
 have lt : ∀ k, (k = R ∨ vt.ownBlock = some k ∨ k = T ∨ ∃ cs U, F k cs U) → k < W.heap.size := by
  rintro k (rfl | hk | rfl | ⟨cs, U, hf⟩)
  ·exact (Array.getElem?_eq_some_iff.1 h.hR).1
  ·exact (h.rt.lt k hk).2
  ·exact (Array.getElem?_eq_some_iff.1 h.hT).1
  ·exact (Array.getElem?_eq_some_iff.1 (h.h4 _ _ _ hf)).1
 have k : ∀ k, (k = R ∨ vt.ownBlock = some k ∨ k = T ∨ ∃ cs U, F k cs U) → W'.heap[k]? = W.heap[k]? ∧ ¬ Xe.Own e' (zad n' l') k := fun k hk => st.keep k (lt k hk) (h.own k hk)
 exact ⟨ms, (k R (.inl rfl)).1.trans h.hR, zak h.rt fun j hj => (k j (.inr (.inl hj))).1, (k T (.inr (.inr (.inl rfl)))).1.trans h.hT, fun j cs U hf => (k j (.inr (.inr (.inr ⟨cs, U, hf⟩)))).1.trans (h.h4 j cs U hf), fun j hj => (k j hj).2, h.bR, h.bT, h.f9, h.ne, h.b0, Nat.le_trans h.bs st.size⟩
theorem C1.past {base R T : Nat} {F : Nat → Array Value → Nat → Prop} {xv at_ vt vw : Value} {n : Nat} {l : List IE} {e : Env} {W W' : World} (h : C1 base R T F xv at_ vt vw n l e W) (hb : Below W.heap.size W W') : C1 base R T F xv at_ vt vw n l e W' := h.keep (h.ms.below hb) (Step.of_below hb)
theorem C1.push {base R T : Nat} {F : Nat → Array Value → Nat → Prop} {xv at_ vt vw vt' : Value} {n : Nat} {l : List IE} {e : Env} {W W' : World} {t : ByteArray} (h : C1 base R T F xv at_ vt vw n l e W)
  (h1 : W'.heap[R]? = some (.cells #[xv, at_, vt', vw] 139 (0, 0))) (h2 : W'.ownsRow base 9 1 vt' 1 [.string t]) (hp : Pa R vt.ownBlock W W') (x y z : Value) :
  (((W'.setCell ⟨T, 0, none⟩ x).setCell ⟨T, 1, none⟩ y).setCell ⟨T, 2, none⟩ z).heap[T]? = some (.cells #[x, y, z] 31 (0, 0)) ∧ MS n l e (((W'.setCell ⟨T, 0, none⟩ x).setCell ⟨T, 1, none⟩ y).setCell ⟨T, 2, none⟩ z) ∧
  StepB base e (zad n l) W e (zad n l) (((W'.setCell ⟨T, 0, none⟩ x).setCell ⟨T, 1, none⟩ y).setCell ⟨T, 2, none⟩ z) ∧
  (((W'.setCell ⟨T, 0, none⟩ x).setCell ⟨T, 1, none⟩ y).setCell ⟨T, 2, none⟩ z).heap[R]? = some (.cells #[xv, at_, vt', vw] 139 (0, 0)) ∧
  World.ownsRow (((W'.setCell ⟨T, 0, none⟩ x).setCell ⟨T, 1, none⟩ y).setCell ⟨T, 2, none⟩ z) base 9 1 vt' 1 [.string t] ∧
  (∀ k cs U, F k cs U → (((W'.setCell ⟨T, 0, none⟩ x).setCell ⟨T, 1, none⟩ y).setCell ⟨T, 2, none⟩ z).heap[k]? = some (.cells cs U (0, 0))) := by
 have far : ∀ k, k ≠ T → (((W'.setCell ⟨T, 0, none⟩ x).setCell ⟨T, 1, none⟩ y).setCell ⟨T, 2, none⟩ z).heap[k]? = W'.heap[k]? := fun k hk =>
  (heap_setCell_other _ ⟨T, 2, none⟩ k z (by exact hk)).trans ((heap_setCell_other _ ⟨T, 1, none⟩ k y (by exact hk)).trans (heap_setCell_other W' ⟨T, 0, none⟩ k x (by exact hk)))
 have hvt : ∀ k (cs : Array Value) (U : Nat), U ≠ 9 → W.heap[k]? = some (.cells cs U (0, 0)) → vt.ownBlock ≠ some k := fun k cs U hU hk e => by
  obtain ⟨c, hc⟩ := zal h.rt e
  rw [hk] at hc; cases hc; exact hU rfl
 have hTR : T ≠ R := fun e => by have h' := h.hT; rw [e, h.hR] at h'; cases h'
 have h4R : ∀ k cs U, F k cs U → k ≠ R := fun k cs U hf e => by have h' := h.h4 k cs U hf; rw [e, h.hR] at h'; cases h'; exact (h.f9 _ _ _ hf).1 rfl
 have kT := (hp.block T (Array.getElem?_eq_some_iff.1 h.hT).1 hTR (hvt _ _ _ (by decide) h.hT)).trans h.hT
 have k4 : ∀ k cs U, F k cs U → W'.heap[k]? = some (.cells cs U (0, 0)) := fun k cs U hf => (hp.block k (Array.getElem?_eq_some_iff.1 (h.h4 k cs U hf)).1 (h4R k cs U hf) (hvt _ _ _ (h.f9 k cs U hf).2 (h.h4 k cs U hf))).trans (h.h4 k cs U hf)
 have hbB : Below base W (((W'.setCell ⟨T, 0, none⟩ x).setCell ⟨T, 1, none⟩ y).setCell ⟨T, 2, none⟩ z) :=
  (((hp.below h.bs h.bR fun k hk => (h.rt.lt k hk).1).setCell (p := ⟨T, 0, none⟩) h.bT x).setCell (p := ⟨T, 1, none⟩) h.bT y).setCell (p := ⟨T, 2, none⟩) h.bT z
 refine ⟨zc3 kT, h.ms.others hbB.size fun k hk hx => ?_, StepB.of_below hbB, (far R (fun e => hTR e.symm)).trans h1, zak h2 fun k hk => far k fun e => ?_, fun k cs U hf => (far k fun e => h.ne cs U (e ▸ hf)).trans (k4 k cs U hf)⟩
 ·rcases hx with hx | hx
  ·have hk0 : k = 0 := hx
   subst hk0
   exact hbB.block 0 h.b0
  ·have e1 : k ≠ T := fun e => h.own k (.inr (.inr (.inl e))) hx
   rw [far k e1]
   exact hp.block k hk (fun e => h.own k (.inl e) hx) fun e => h.own k (.inr (.inl e)) hx
 ·subst e
  obtain ⟨c, hc⟩ := zal h2 hk
  rw [kT] at hc; cases hc
end Go.Proofs.YtfkeeieoapimlaaGreatDoor
end
section
namespace Go.Proofs.YtfkeeieoapimlaaGreatDoor
open Go.ChangeShapes Go.WideShapes Go.ChangeAt Go.RowKit Go.Xe Go.Xe.Cards
set_option maxRecDepth 100000
def KF (base : Nat) (w : World) (k : Nat) (cs : Array Value) (U : Nat) : Prop := base ≤ k ∧ U ≠ 139 ∧ U ≠ 9 ∧ U ≠ 24 ∧ w.heap[k]? = some (.cells cs U (0, 0))
def CallR (m C : Nat) (want : List UInt8) (base R : Nat) (xv at_ : Value) (e : Env) (w : World) (en : Ending) (w' : World) : Prop :=
 ∃ e' n' l' vt' vw', en = .returned (okV (bt want)) ∧ FinS m C want n' l' ∧ MS n' l' e' w' ∧ StepB base e (zad 365 (lS4 m C)) w e' (zad n' l') w' ∧ w'.heap[R]? = some (.cells #[xv, at_, vt', vw'] 139 (0, 0)) ∧ w'.ownsRow base 9 1 vt' 1 [.string (bt want)] ∧
   ∀ k cs U, KF base w k cs U → w'.heap[k]? = some (.cells cs U (0, 0)) ∧ ¬ Xe.Own e' (zad n' l') k
theorem RB.toC1 {w0 w W : World} {base R h0 hc : Nat} {xv vt u : Value} {at_ : Int} {l : List (List UInt8)} {n : Nat} {ll : List IE} {e : Env} (hI : RB w0 base R xv at_ [] l w vt (.slice (some ⟨h0, 0, none⟩) (0 + 1) hc) u) (ms : MS n ll e w) (hown : ∀ k, Xe.Own e (zad n ll) k → k < base) (hb0 : 0 < base)
  (hO : OutI (w.setCell ⟨R, 3, none⟩ (.slice (some ⟨h0, 0, none⟩) 0 hc)) 8 ⟨#[]⟩ W) :
  C1 base R (w.heap.size + 1) (KF base w) xv (.int .i64 at_) vt (.slice (some ⟨h0, 0, none⟩) 0 hc) n ll e W ∧ OwnTx W base u l ∧ Below base w W := by
 have lR := (Array.getElem?_eq_some_iff.1 hI.hR).1
 have hsz : (w.setCell ⟨R, 3, none⟩ (.slice (some ⟨h0, 0, none⟩) 0 hc)).heap.size = w.heap.size := by simp
 have old : ∀ k, k < w.heap.size → W.heap[k]? = (w.setCell ⟨R, 3, none⟩ (.slice (some ⟨h0, 0, none⟩) 0 hc)).heap[k]? := fun k hk => hO.below.block k (by omega)
 have far : ∀ k, k < w.heap.size → k ≠ R → W.heap[k]? = w.heap[k]? := fun k hk hkR => (old k hk).trans (heap_setCell_other w ⟨R, 3, none⟩ k _ (by exact hkR))
 have ne : ∀ (v : Value) (U nn : Nat) (xs : List Value), U ≠ 139 → w.ownsRow base U 1 v nn xs → W.ownsRow base U 1 v nn xs := fun v U nn xs hU hr => zak hr fun k hk => far k (hr.lt k hk).2 fun hkR => by
  subst hkR
  obtain ⟨c, hc⟩ := zal hr hk
  rw [hI.hR] at hc
  cases hc
  exact hU rfl
 have l4 : ∀ k cs U, KF base w k cs U → k < w.heap.size := fun k cs U hf => (Array.getElem?_eq_some_iff.1 hf.2.2.2.2).1
 have h4R : ∀ k cs U, KF base w k cs U → k ≠ R := fun k cs U hf e => by subst e; have h' := hf.2.2.2.2; rw [hI.hR] at h'; cases h'; exact hf.2.1 rfl
 have hbW : Below base w W := ((Below.refl base w).setCell (p := ⟨R, 3, none⟩) hI.bR _).trans (hO.below.mono (by rw [hsz]; exact hI.hb))
 have hOt := hO.ot
 rw [hsz] at hOt
 refine ⟨⟨⟨ms.sat.others ms.out hbW.size fun k hk hx => hbW.block k ?_, ms.out⟩, (old R lR).trans (heap_setCell_same w R 3 _ _ _ hI.hR), ne _ _ _ _ (by decide) hI.rt, hOt, fun k cs U hf => (far k (l4 k cs U hf) (h4R k cs U hf)).trans hf.2.2.2.2, fun k hk ho => ?_, hI.bR, by have := hI.hb; omega, fun k cs U hf => ⟨hf.2.1, hf.2.2.1⟩, fun cs U hf => by have := l4 _ _ _ hf; omega, hb0, Nat.le_trans hI.hb hbW.size⟩, ne _ _ _ _ (by decide) hI.ru, hbW⟩
 ·rcases hx with hx | hx
  ·have : k = 0 := hx
   omega
  ·exact hown k hx
 ·have h1 := hown k ho
  rcases hk with rfl | hk | rfl | ⟨cs, U, hf⟩
  ·have := hI.bR; omega
  ·have := (hI.rt.lt k hk).1; omega
  ·have := hI.hb; omega
  ·have := hf.1; omega
theorem ifw_form {W : World} {b : Nat} {v : Value} {t : Bool} {ts : List Bool} {last : Bool} (h : OwnTx W b v (wdsL (t :: ts) last)) : ∃ g c, v = .slice (some ⟨g, 0, none⟩) (wdsL (t :: ts) last).length c := by
 rw [zbS] at h ⊢
 exact OwnTx.form h
set_option maxHeartbeats 4000000 in
theorem call145_any (m C : Nat) {e : Env} {w : World} (ms : MS 365 (lS4 m C) e w) {X ext : Nat} (hX : e.loc 24 = some ⟨X, 0, ext⟩) {w0 : World} {base R : Nat} {at_ : Int} {t : Bool} {ts : List Bool} {last : Bool} (hn : ts.length ≤ 100)
  (h : RBx w0 base R (.pointer (some ⟨X, 0, none⟩)) at_ [] (wdsL (t :: ts) last) w) (hown : ∀ k, Xe.Own e (zad 365 (lS4 m C)) k → k < base) (hb0 : 0 < base) :
  Calls Tryz.prog 145 #[.pointer (some ⟨R, 0, none⟩), insV 8 ⟨#[]⟩] w fun en w' => CallR m C (zaE (t :: ts).zipIdx last) base R (.pointer (some ⟨X, 0, none⟩)) (.int .i64 at_) e w en w' := by
 obtain ⟨vt, vw, u, h⟩ := h
 obtain ⟨h0, hc, rfl⟩ := zam (n := 0) h.rw_
 have hwl := zef (t :: ts) last
 rw [List.length_cons] at hwl
 have hform : ∃ g c, u = .slice (some ⟨g, 0, none⟩) (wdsL (t :: ts) last).length c := by
  have := h.ru
  rw [zbS] at this ⊢
  exact OwnTx.form this
 obtain ⟨g, c, rfl⟩ := hform
 obtain ⟨W, hW⟩ : ∃ W, ((w.setCell ⟨R, 3, none⟩ (.slice (some ⟨h0, 0, none⟩) 0 hc)).alloc (.cells #[.int .i64 8, .int .i64 0, .string ⟨#[]⟩] 144)).alloc (.cells #[.int .i64 0, .int .i64 0, .string ⟨#[]⟩] 31) = W := ⟨_, rfl⟩
 have hO := zfq _ 8 ⟨#[]⟩ hW
 obtain ⟨hC1, hru, hbW⟩ := h.toC1 ms hown hb0 hO
 have c3 := (show w.cell? ⟨R, 3, none⟩ = some (.slice (some ⟨h0, 0, none⟩) (0 + 1) hc) by rw [Lib.cell_of_heap h.hR]; rfl)
 have f3 : w.frozen? ⟨R, 3, none⟩ = false := Lib.frozen_of_heap h.hR 3
 have hx := h.rw_.cells (g := h0) rfl 0 _ rfl
 have hx' : w.cell? ⟨h0, 0, none⟩ = some (.slice (some ⟨g, 0, none⟩) (wdsL (t :: ts) last).length c) := by simpa [Addr.add] using hx
 have lR : R < w.heap.size := (Array.getElem?_eq_some_iff.1 h.hR).1
 have lR2 : R < w.heap.size + 1 := by omega
 have lh : h0 < w.heap.size := (h.rw_.lt h0 rfl).2
 have lh2 : h0 < w.heap.size + 1 := by omega
 have u0 : IntKind.i64.wrap 0 = 0 := rfl
 have t2 : ¬ ((10000 : Int) < ((wdsL (t :: ts) last).length : Int)) := by omega
 have xW : W.cell? ⟨R, 0, none⟩ = some (.pointer (some ⟨X, 0, none⟩)) := by rw [Lib.cell_of_heap hC1.hR]; rfl
 have HW := Lib.hid hW
 have HC1 := Lib.hid hC1
 have HRU := Lib.hid hru
 have HBW := Lib.hid hbW
 clear hO hW hC1 hru hbW h hx ms hown
 unfold insV
 go_enter Tryz.func145, Tryz.ntmps145
 go_wp2_with (fail)
 rw [HW.out]
 have xWd : W.drew.cell? ⟨R, 0, none⟩ = some (.pointer (some ⟨X, 0, none⟩)) := xW
 have hwl2 : (wdsL (t :: ts) last).length ≤ 100000 := by omega
 have HWL2 := Lib.hid hwl2
 clear hwl hwl2
 have hcl := clone_any W.drew (b := base) (g := g) (c := c) (ws := wdsL (t :: ts) last) HRU.out HWL2.out
 have HCL := Lib.hid hcl
 clear hcl
 go_region_held3 (fun W' => W'.cell? ⟨R, 0, none⟩ = some (.pointer (some ⟨X, 0, none⟩))) (first | assumption | go_keep) (first
  | (go_at_call 184; refine HCL.out.mono ?_; intro en w2 hx; obtain ⟨v, rfl, hv, hbd⟩ := hx; dsimp only; have hb : Below W.heap.size W w2 := (Below.refl W.heap.size W).drew.trans hbd; clear hbd; have hC2 := HC1.out.past (W' := w2) hb; have hst2 : StepB base e (zad 365 (lS4 m C)) w e (zad 365 (lS4 m C)) w2 := (StepB.of_below HBW.out).trans (StepB.of_below (hb.mono HC1.out.bs)); have hform := ifw_form hv; obtain ⟨g5, c5, rfl⟩ := hform; have xW2 : w2.cell? ⟨R, 0, none⟩ = some (.pointer (some ⟨X, 0, none⟩)) := (by rw [Lib.cell_of_heap hC2.hR]; rfl); have HC2 := Lib.hid hC2; have HST2 := Lib.hid hst2; have HV := Lib.hid (zaq hv (Nat.zero_le _)); have HVO := Lib.hid (show ∀ k, (Value.slice (some ⟨g5, 0, none⟩) (wdsL (t :: ts) last).length c5).ownBlock = some k → ¬ Xe.Own e (zad 365 (lS4 m C)) k from fun k hk ho => absurd (HC1.out.ms.lt ho) (Nat.not_lt.2 (hv.lt k hk).1)); clear hv hb hC2 hst2)
  | (go_at_call 201; refine (do_any m C HC2.out.ms hX hn HV.out HVO.out).mono ?_; intro en w3 hx; obtain ⟨e3, n3, l3, rfl, hf3, ms3, st3⟩ := hx; dsimp only; have hC3 := HC2.out.keep ms3 st3; have xW3 : w3.cell? ⟨R, 0, none⟩ = some (.pointer (some ⟨X, 0, none⟩)) := (by rw [Lib.cell_of_heap hC3.hR]; rfl); have HC3 := Lib.hid hC3; have HF3 := Lib.hid hf3; have HST3 := Lib.hid (HST2.out.trans (st3.toB HC2.out.bs)); clear hC3 hf3 ms3 st3)
  | (go_at_call 199; refine (push_any w3 (bt (zaE (t :: ts).zipIdx last)) HC3.out.hR HC3.out.rt HC3.out.bs).mono ?_; intro en w4 hx; obtain ⟨rfl, ⟨vt', h1, h2, h3⟩, hp⟩ := hx; unfold okV; dsimp only; have hF := HC3.out.push h1 h2 hp (.int .i64 0) (.int .i64 0) (.string (bt (zaE (t :: ts).zipIdx last))); have hTR : w.heap.size + 1 ≠ R := (fun e => by omega); have kT := (hp.block (w.heap.size + 1) (Array.getElem?_eq_some_iff.1 HC3.out.hT).1 hTR (fun e => by obtain ⟨c', hc'⟩ := zal HC3.out.rt e; rw [HC3.out.hT] at hc'; cases hc')).trans HC3.out.hT; have xW4 : w4.cell? ⟨R, 0, none⟩ = some (.pointer (some ⟨X, 0, none⟩)) := (by rw [Lib.cell_of_heap h1]; rfl); have x0 := (show w4.cell? ⟨w.heap.size + 1, 0, none⟩ = some (.int .i64 0) by rw [Lib.cell_of_heap kT]; rfl); have x1 := (show w4.cell? ⟨w.heap.size + 1, 1, none⟩ = some (.int .i64 0) by rw [Lib.cell_of_heap kT]; rfl); have x2 := (show w4.cell? ⟨w.heap.size + 1, 2, none⟩ = some (.string ⟨#[]⟩) by rw [Lib.cell_of_heap kT]; rfl); have f0 : w4.frozen? ⟨w.heap.size + 1, 0, none⟩ = false := Lib.frozen_of_heap kT 0; have f1 : w4.frozen? ⟨w.heap.size + 1, 1, none⟩ = false := Lib.frozen_of_heap kT 1; have f2 : w4.frozen? ⟨w.heap.size + 1, 2, none⟩ = false := Lib.frozen_of_heap kT 2; have HF := Lib.hid hF; clear h1 h2 h3 hp hF kT))
 all_goals
  go_wp2
  have hF := HF.out
  exact zbf (p := 4) rfl rfl hF.1 ⟨e3, n3, l3, vt', _, rfl, HF3.out, hF.2.1, HST3.out.trans hF.2.2.1, hF.2.2.2.1, hF.2.2.2.2.1, fun k cs U hf => ⟨hF.2.2.2.2.2 k cs U hf, HC3.out.own k (.inr (.inr (.inr ⟨cs, U, hf⟩)))⟩⟩
end Go.Proofs.YtfkeeieoapimlaaGreatDoor
end
section
namespace Go.Proofs.YtfkeeieoapimlaaGreatDoor
open Go.ChangeShapes Go.WideShapes Go.ChangeAt Go.RowKit Go.Xe Go.Xe.Cards
set_option maxRecDepth 100000
def deedsC : Array Value := #[.nilFunc, .func (.func 138) #[] #[], .func (.func 139) #[] #[], .func (.func 140) #[] #[], .func (.func 141) #[] #[], .func (.func 142) #[] #[], .func (.func 143) #[] #[], .func (.func 144) #[] #[], .func (.func 145) #[] #[], .func (.func 146) #[] #[], .func (.func 147) #[] #[], .func (.func 148) #[] #[], .func (.func 149) #[] #[], .func (.func 150) #[] #[], .func (.func 151) #[] #[]]
def deedsA : List AV := [.fnil, .func (.func 138) [] [], .func (.func 139) [] [], .func (.func 140) [] [], .func (.func 141) [] [], .func (.func 142) [] [], .func (.func 143) [] [], .func (.func 144) [] [], .func (.func 145) [] [], .func (.func 146) [] [], .func (.func 147) [] [], .func (.func 148) [] [], .func (.func 149) [] [], .func (.func 150) [] [], .func (.func 151) [] []]
theorem k_deeds : zao [] (run Tryz.prog J0 86 [] (zad 1 [])) = some (.agg deedsA, 0, [], ([] : List IE).map fun p => some p.e) := by kernel_rfl
theorem vrs_deeds {e : Env} {l : List Value} (h : VRs e deedsA l) : l = deedsC.toList := by
 unfold deedsA at h
 have step : ∀ {a : AV} {al : List AV} {l : List Value}, VRs e (a :: al) l → ∃ u l', l = u :: l' ∧ VR e a u ∧ VRs e al l' := fun h => by
  cases h with
  | cons _ u _ l' h1 h2 => exact ⟨u, l', rfl, h1, h2⟩
 obtain ⟨u0, l0, rfl, v0, h⟩ := step h
 obtain ⟨u1, l1, rfl, v1, h⟩ := step h
 obtain ⟨u2, l2, rfl, v2, h⟩ := step h
 obtain ⟨u3, l3, rfl, v3, h⟩ := step h
 obtain ⟨u4, l4, rfl, v4, h⟩ := step h
 obtain ⟨u5, l5, rfl, v5, h⟩ := step h
 obtain ⟨u6, l6, rfl, v6, h⟩ := step h
 obtain ⟨u7, l7, rfl, v7, h⟩ := step h
 obtain ⟨u8, l8, rfl, v8, h⟩ := step h
 obtain ⟨u9, l9, rfl, v9, h⟩ := step h
 obtain ⟨u10, l10, rfl, v10, h⟩ := step h
 obtain ⟨u11, l11, rfl, v11, h⟩ := step h
 obtain ⟨u12, l12, rfl, v12, h⟩ := step h
 obtain ⟨u13, l13, rfl, v13, h⟩ := step h
 obtain ⟨u14, l14, rfl, v14, h⟩ := step h
 cases h
 rw [vr_fnil v0, za9 v1, za9 v2, za9 v3, za9 v4, za9 v5, za9 v6, za9 v7, za9 v8, za9 v9, za9 v10, za9 v11, za9 v12, za9 v13, za9 v14]
 rfl
theorem deeds_any (w : World) (hG : HasG w.heap) : Calls Tryz.prog 86 #[] w fun e w' => e = .returned (.agg deedsC) ∧ Below w.heap.size w w' := by
 have m0 : MS 1 [] _ w := ⟨sat0 w.heap hG, fun X => rfl⟩
 refine (zaX k_deeds (Nat.le_refl _) (by kernel_rfl) rfl m0 (us := #[]) .nil).mono ?_
 rintro en w' ⟨u, e', rfl, hv, _, st⟩
 refine ⟨?_, st.below fun b => rfl⟩
 cases hv with
 | agg l l' h =>
   have := vrs_deeds h
   obtain ⟨l'⟩ := l'
   show Ending.returned (.agg ⟨l'⟩) = _
   rw [show l' = deedsC.toList from this]
theorem insC_at : ∀ (l : List (Nat × ByteArray)) {k : Nat} {p : Nat × ByteArray}, l[k]? = some p → (insC l)[k * 3]? = some (.int .i64 (p.1 : Int)) ∧ (insC l)[k * 3 + 1]? = some (.int .i64 0) ∧ (insC l)[k * 3 + 2]? = some (.string p.2)
 | [], k, p, h => by cases h
 | q :: l, 0, p, h => by cases h; exact ⟨rfl, rfl, rfl⟩
 | q :: l, k + 1, p, h => by
   obtain ⟨a, b, c⟩ := insC_at l (k := k) h
   have e : insC (q :: l) = .int .i64 (q.1 : Int) :: .int .i64 0 :: .string q.2 :: insC l := rfl
   rw [e]
   exact ⟨by rw [show (k + 1) * 3 = k * 3 + 1 + 1 + 1 by omega]; exact a, by rw [show (k + 1) * 3 + 1 = k * 3 + 1 + 1 + 1 + 1 by omega]; exact b, by rw [show (k + 1) * 3 + 2 = k * 3 + 2 + 1 + 1 + 1 by omega]; exact c⟩
theorem codeC_len (ws : List (List UInt8)) : (zbe ws).length = ws.length * 2 + 2 := by simp [zbe, zfp]
theorem codeC_0 (ws : List (List UInt8)) : (zbe ws)[0]? = some (5, ⟨#[]⟩) := rfl
theorem insW_at : ∀ (ws : List (List UInt8)) {j : Nat} {wd : List UInt8}, ws[j]? = some wd → (insW ws)[j * 2]? = some (1, bt wd) ∧ (insW ws)[j * 2 + 1]? = some (6, ⟨#[]⟩)
 | [], j, wd, h => by cases h
 | a :: ws, 0, wd, h => by cases h; exact ⟨rfl, rfl⟩
 | a :: ws, j + 1, wd, h => by
   obtain ⟨p, q⟩ := insW_at ws (j := j) h
   have e : insW (a :: ws) = (1, bt a) :: (6, ⟨#[]⟩) :: insW ws := rfl
   rw [e]
   exact ⟨by rw [show (j + 1) * 2 = j * 2 + 1 + 1 by omega]; exact p, by rw [show (j + 1) * 2 + 1 = j * 2 + 1 + 1 + 1 by omega]; exact q⟩
theorem zeg (ws : List (List UInt8)) {j : Nat} {wd : List UInt8} (h : ws[j]? = some wd) : (zbe ws)[j * 2 + 1]? = some (1, bt wd) ∧ (zbe ws)[j * 2 + 2]? = some (6, ⟨#[]⟩) := by
 obtain ⟨p, q⟩ := insW_at ws h
 have hlt := (List.getElem?_eq_some_iff.1 h).1
 have hl := zfp ws
 unfold zbe
 constructor
 ·rw [List.getElem?_append_left (by simp; omega), List.getElem?_cons_succ]; exact p
 ·rw [List.getElem?_append_left (by simp; omega), show j * 2 + 2 = j * 2 + 1 + 1 by omega, List.getElem?_cons_succ]; exact q
theorem codeC_call (ws : List (List UInt8)) : (zbe ws)[ws.length * 2 + 1]? = some (8, ⟨#[]⟩) := by
 have hl := zfp ws
 unfold zbe
 rw [List.getElem?_append_right (by simp; omega)]
 simp [hl]
end Go.Proofs.YtfkeeieoapimlaaGreatDoor
end
