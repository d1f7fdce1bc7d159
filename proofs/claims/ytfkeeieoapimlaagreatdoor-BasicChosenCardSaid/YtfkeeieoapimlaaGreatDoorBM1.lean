/-
  The machine's memory, as walks by hand see it; its cards as contracts. Conditions: none.
-/
import Derived.Test.YtfkeeieoapimlaaGreatDoorB23ToBJ0
import Derived.Test.YtfkeeieoapimlaaGreatDoorB28
import Derived.Test.YtfkeeieoapimlaaGreatDoorBCdToBK1
import Derived.Test.YtfkeeieoapimlaaGreatDoorBK2
set_option linter.unusedVariables false
set_option linter.unusedSimpArgs false
set_option linter.unusedSectionVars false
set_option linter.deprecated false
section
namespace Go.Proofs.YtfkeeieoapimlaaGreatDoor
open Go.ChangeShapes Go.WideShapes Go.ChangeAt Go.RowKit Go.Xe Go.Xe.Cards
set_option maxRecDepth 1000000
theorem MSrow {n : Nat} {l : List IE} {e : Env} {W : World} (m : MS n l e W) {b ty : Nat} {cs : List AV} {wr : Bool} {olds : List Nat} (hg : (zad n l).get b = some (.cells cs ty wr 0 olds)) (hty : ty ≠ 0) :
  ∃ X ext arr, e.loc b = some ⟨X, 0, ext⟩ ∧ W.heap[X]? = some (.cells arr ty (0, 0)) ∧ ∀ (i : Nat) v, cs[i]? = some v → ∃ u, arr[i]? = some u ∧ VR e v u := by
 obtain ⟨⟨X, off, ext⟩, o, hl, ho, hr⟩ := m.sat.ents b _ hg
 obtain ⟨arr, h1, h2, h3, h4⟩ := m.sat.view hg hty hl
 have h2 : off = 0 := h2
 subst h2
 exact ⟨X, ext, arr, hl, h1, h4⟩
theorem zbi {n : Nat} {l : List IE} {e : Env} {W : World} (m : MS n l e W) {b ty X ext i : Nat} {cs : List AV} {wr : Bool} {olds : List Nat} {v : AV} (hg : (zad n l).get b = some (.cells cs ty wr 0 olds)) (hty : ty ≠ 0) (hl : e.loc b = some ⟨X, 0, ext⟩) (hv : cs[i]? = some v) :
  ∃ u, W.cell? ⟨X, i, none⟩ = some u ∧ VR e v u ∧ W.frozen? ⟨X, i, none⟩ = false := by
 obtain ⟨X', ext', arr, h1, h2, h3⟩ := MSrow m hg hty
 rw [hl] at h1
 cases h1
 obtain ⟨u, hu, hr⟩ := h3 i v hv
 exact ⟨u, by rw [Lib.cell_of_heap h2]; exact hu, hr, Lib.frozen_of_heap h2 i⟩
theorem vr_int {e : Env} {k : IntKind} {n : Int} {u : Value} (h : VR e (.int k n) u) : u = .int k n := by cases h; rfl
theorem vr_bool {e : Env} {b : Bool} {u : Value} (h : VR e (.bool b) u) : u = .bool b := by cases h; rfl
theorem vr_fnil {e : Env} {u : Value} (h : VR e .fnil u) : u = .nilFunc := by cases h; rfl
theorem vr_snil {e : Env} {u : Value} (h : VR e .snil u) : u = .slice none 0 0 := by cases h; rfl
theorem vr_pnil {e : Env} {u : Value} (h : VR e .pnil u) : u = .pointer none := by cases h; rfl
theorem zds {e : Env} {b X ext : Nat} {u : Value} (h : VR e (.ptr b 0) u) (hl : e.loc b = some ⟨X, 0, ext⟩) : u = .pointer (some ⟨X, 0, none⟩) := by
 cases h with
 | ptr _ _ l h =>
   rw [hl] at h
   cases h
   rfl
theorem vr_out {e : Env} {n c : Nat} {u : Value} (h : VR e (.agg [.int .i64 0, .int .i64 0, .str n c]) u) : u = okV (zae n c) := by
 cases h with
 | agg l l' h =>
   obtain ⟨l'⟩ := l'
   cases h with
   | cons _ u1 _ l1 a1 a2 =>
     cases a2 with
     | cons _ u2 _ l2 b1 b2 =>
       cases b2 with
       | cons _ u3 _ l3 c1 c2 =>
         cases c2
         rw [vr_int a1, vr_int b1, zbm c1]
         rfl
theorem vr_cond {e : Env} {t : Bool} {n c : Nat} {u : Value} (h : VR e (.tup [.bool t, .agg [.int .i64 0, .int .i64 0, .str n c]]) u) : u = .tuple #[.bool t, okV (zae n c)] := by
 cases h with
 | tup l l' h =>
   obtain ⟨l'⟩ := l'
   cases h with
   | cons _ u1 _ l1 a1 a2 =>
     cases a2 with
     | cons _ u2 _ l2 b1 b2 =>
       cases b2
       rw [vr_bool a1, vr_out b1]
theorem vrs_xs {e : Env} {X ext n c : Nat} (hX : e.loc 24 = some ⟨X, 0, ext⟩) : VRs e [.ptr 24 0, .str n c] [.pointer (some ⟨X, 0, none⟩), .string (zae n c)] :=
 .cons _ _ _ _ (.ptr 24 0 _ hX) (.cons _ _ _ _ (.str n c) .nil)
theorem zaX {f n n2 : Nat} {args : List AV} {l l2 : List IE} {v : AV} (hr : zao l2 (run Tryz.prog J0 f args (zad n l)) = some (v, 0, [], l2.map fun p => some p.e)) (hn : n ≤ n2) (hv : avLt n2 v = true) (hl : l2.all (fun p => Nat.blt p.i n2 && zfS n2 p.e) = true)
  {e : Env} {w : World} {us : Array Value} (m : MS n l e w) (ha : VRs e args us.toList) :
  Calls Tryz.prog f us w fun en w' => ∃ u e', en = .returned u ∧ VR e' v u ∧ MS n2 l2 e' w' ∧ Step e (zad n l) w e' (zad n2 l2) w' :=
 (callsIn_wide (n := 0)).1 (open_full pok J0_ok hr hn hv hl m ha)
def PhS (m C k n : Nat) (l : List IE) : Prop := (k = 0 ∧ n = 365 ∧ l = lS8 m C) ∨ (0 < k ∧ n = 524 ∧ l = lC0 m C)
def PhT (m C k n : Nat) (l : List IE) : Prop := (k = 0 ∧ n = 546 ∧ l = lC1 m C) ∨ (0 < k ∧ n = 705 ∧ l = lC01 m C)
theorem ok_C0 (m C : Nat) : (lC0 m C).all (fun p => Nat.blt p.i 524 && zfS 524 p.e) = true := by kernel_rfl
theorem ok_C1 (m C : Nat) : (lC1 m C).all (fun p => Nat.blt p.i 546 && zfS 546 p.e) = true := by kernel_rfl
theorem ok_C01 (m C : Nat) : (lC01 m C).all (fun p => Nat.blt p.i 705 && zfS 705 p.e) = true := by kernel_rfl
theorem cond_no {m C k n : Nat} {l : List IE} (hp : PhS m C k n l) {e : Env} {w : World} {X ext : Nat} (ms : MS n l e w) (hX : e.loc 24 = some ⟨X, 0, ext⟩) :
  Calls Tryz.prog 106 #[.pointer (some ⟨X, 0, none⟩), .string (bt (tvw false))] w fun en w' => ∃ e', en = .returned (.tuple #[.bool false, okV ⟨#[]⟩]) ∧ MS 524 (lC0 m C) e' w' ∧ Step e (zad n l) w e' (zad 524 (lC0 m C)) w' := by
 have h0 : zae 0 0 = (⟨#[]⟩ : ByteArray) := rfl
 rcases hp with ⟨_, rfl, rfl⟩ | ⟨_, rfl, rfl⟩
 ·refine (zaX (k_cond0 m C) (by decide) (by kernel_rfl) (ok_C0 m C) ms (us := #[_, _]) (vrs_xs hX)).mono ?_
  rintro en w' ⟨u, e', rfl, hv, ms', st⟩
  exact ⟨e', by rw [vr_cond hv, h0], ms', st⟩
 ·refine (zaX (k_cond00 m C) (by decide) (by kernel_rfl) (ok_C0 m C) ms (us := #[_, _]) (vrs_xs hX)).mono ?_
  rintro en w' ⟨u, e', rfl, hv, ms', st⟩
  exact ⟨e', by rw [vr_cond hv, h0], ms', st⟩
theorem cond_yes {m C k n : Nat} {l : List IE} (hp : PhS m C k n l) {e : Env} {w : World} {X ext : Nat} (ms : MS n l e w) (hX : e.loc 24 = some ⟨X, 0, ext⟩) :
  Calls Tryz.prog 106 #[.pointer (some ⟨X, 0, none⟩), .string (bt (tvw true))] w fun en w' => ∃ e' n' l', en = .returned (.tuple #[.bool true, okV ⟨#[]⟩]) ∧ PhT m C k n' l' ∧ MS n' l' e' w' ∧ Step e (zad n l) w e' (zad n' l') w' := by
 have h0 : zae 0 0 = (⟨#[]⟩ : ByteArray) := rfl
 rcases hp with ⟨h, rfl, rfl⟩ | ⟨h, rfl, rfl⟩
 ·refine (zaX (k_cond1 m C) (by decide) (by kernel_rfl) (ok_C1 m C) ms (us := #[_, _]) (vrs_xs hX)).mono ?_
  rintro en w' ⟨u, e', rfl, hv, ms', st⟩
  exact ⟨e', _, _, by rw [vr_cond hv, h0], .inl ⟨h, rfl, rfl⟩, ms', st⟩
 ·refine (zaX (k_cond01 m C) (by decide) (by kernel_rfl) (ok_C01 m C) ms (us := #[_, _]) (vrs_xs hX)).mono ?_
  rintro en w' ⟨u, e', rfl, hv, ms', st⟩
  exact ⟨e', _, _, by rw [vr_cond hv, h0], .inr ⟨h, rfl, rfl⟩, ms', st⟩
end Go.Proofs.YtfkeeieoapimlaaGreatDoor
end
