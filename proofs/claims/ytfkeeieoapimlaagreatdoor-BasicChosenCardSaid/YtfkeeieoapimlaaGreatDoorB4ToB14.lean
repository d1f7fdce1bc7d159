/-
  Words in a text: what stands at an index; Worlds that part in one block alone; rows of structs that the call has made; a reader in memory; The reader . Conditions: none.
-/
import Derived.Test.YtfkeeieoapimlaaGreatDoorBshToB3b
import Derived.Test.YtfkeeieoapimlaaGreatDoorB1ToB5a
import Derived.Deep.RegionHeld3
import Derived.Deep.RegionLaw
import Derived.Shelf.Strings.BuilderF
import Derived.IntWalk
import Derived.Test.YtfkeeieoapimlaaGreatDoorZeToKA
set_option linter.unusedVariables false
set_option linter.unusedSimpArgs false
set_option linter.unusedSectionVars false
set_option linter.deprecated false
section
namespace Go.Proofs.YtfkeeieoapimlaaGreatDoor
open Go.ChangeShapes Go.WideShapes Go.ChangeAt Go.RowKit
theorem drop_byte {s : ByteArray} {i : Nat} {l : List UInt8} (h : (L s).drop i = l) {j : Nat} {c : UInt8} (hj : l[j]? = some c) : i + j < s.size ∧ byte s (i + j) = c.toNat := by
 subst h
 rw [List.getElem?_drop] at hj
 have hlt := (List.getElem?_eq_some_iff.1 hj).1
 have hlt' : i + j < s.size := by rw [zcX] at hlt; exact hlt
 refine ⟨hlt', ?_⟩
 have h1 := L_get s hlt'
 have h2 := (List.getElem?_eq_some_iff.1 hj).2
 rw [h1] at h2
 rw [← h2, zci]
theorem drop_more {s : ByteArray} {i : Nat} {l : List UInt8} (h : (L s).drop i = l) (k : Nat) : (L s).drop (i + k) = l.drop k := by rw [← h, List.drop_drop]
theorem drop_size {s : ByteArray} {i : Nat} {l : List UInt8} (h : (L s).drop i = l) (hi : i ≤ s.size) : i + l.length = s.size := by
 rw [← h, List.length_drop, zcX]; omega
theorem drop_cut {s : ByteArray} {i n : Nat} {l : List UInt8} (h : (L s).drop i = l) : L (s.extract i (i + n)) = l.take n := by
 rw [L_cut, h, show i + n - i = n by omega]
structure Behind (s : ByteArray) (i : Nat) (r : List (List UInt8)) : Prop where
 le : i ≤ s.size
 fin : r = [] → i = s.size
 go : r ≠ [] → i < s.size ∧ byte s i = 32 ∧ (L s).drop (i + 1) = zaO r
theorem behind_of {s : ByteArray} {i : Nat} {w : List UInt8} {r : List (List UInt8)} (h : (L s).drop i = zaO (w :: r)) (hi : i ≤ s.size) : Behind s (i + (quoT w).length) r := by
 rw [zcy] at h
 have h2 := drop_more h (quoT w).length
 rw [List.drop_append_of_le_length (Nat.le_refl _), List.drop_length, List.nil_append] at h2
 have h3 := drop_size h hi
 rw [List.length_append] at h3
 refine ⟨by omega, fun hr => ?_, fun hr => ?_⟩
 ·rw [if_pos hr] at h3; simpa using h3
 ·rw [if_neg hr] at h2 h3
  rw [List.length_cons] at h3
  obtain ⟨a, b⟩ := drop_byte h2 (j := 0) (c := 32) rfl
  refine ⟨by omega, b, ?_⟩
  have := drop_more h2 1
  simpa using this
theorem at_quo {s : ByteArray} {i : Nat} {w : List UInt8} {r : List (List UInt8)} (h : (L s).drop i = zaO (w :: r)) {j : Nat} {c : UInt8} (hj : (quoT w)[j]? = some c) : i + j < s.size ∧ byte s (i + j) = c.toNat := by
 rw [zcy] at h
 refine drop_byte h ?_
 rw [List.getElem?_append_left (List.getElem?_eq_some_iff.1 hj).1]; exact hj
structure PlB (c : Nat) : Prop where
 lf : c ≠ 10
 semi : c ≠ 59
 wh : whN c = false
 bs : c ≠ 92
 dol : c ≠ 36
 bra : c ≠ 91
 open_ : c ≠ 123
 quo : c ≠ 34
 sp : c ≠ 32
theorem plB_of {c : UInt8} (h : spc c = false) : PlB c.toNat := by
 rw [spc_nat] at h
 generalize c.toNat = n at h
 unfold spcN spc2 at h
 simp only [Bool.or_eq_false_iff, beq_eq_false_iff_ne, ne_eq] at h
 obtain ⟨h0, h1⟩ := h
 have h2 := h0
 unfold whN at h2
 simp at h2
 exact ⟨by omega, by omega, h0, by omega, by omega, by omega, by omega, by omega, by omega⟩
theorem plain_at {s : ByteArray} {i : Nat} {w : List UInt8} {r : List (List UInt8)} (h : (L s).drop i = zaO (w :: r)) (hw : Pl w) {j : Nat} (hj : j < w.length) : i + j < s.size ∧ PlB (byte s (i + j)) := by
 have hq : (quoT w)[j]? = some w[j] := by rw [hw.quo]; exact List.getElem?_eq_getElem hj
 obtain ⟨a, b⟩ := at_quo h hq
 refine ⟨a, ?_⟩
 rw [b]
 exact plB_of (hw.all _ (List.getElem_mem hj))
theorem plain_cut {s : ByteArray} {i : Nat} {w : List UInt8} {r : List (List UInt8)} (h : (L s).drop i = zaO (w :: r)) (hw : Pl w) (j : Nat) (hj : j < w.length) : w.take j ++ [ub s (i + j)] = w.take (j + 1) := by
 have hq : (quoT w)[j]? = some w[j] := by rw [hw.quo]; exact List.getElem?_eq_getElem hj
 obtain ⟨a, b⟩ := at_quo h hq
 rw [List.take_succ_eq_append_getElem hj]
 congr 2
 apply UInt8.toNat.inj
 rw [zci, b]
structure BrB (c : Nat) : Prop where
 bs : c ≠ 92
 open_ : c ≠ 123
 close : c ≠ 125
theorem zeM {s : ByteArray} {i : Nat} {w : List UInt8} {r : List (List UInt8)} (h : (L s).drop i = zaO (w :: r)) (hw : Br w) : i < s.size ∧ byte s i = 123 :=
 at_quo (j := 0) (c := 123) h (by rw [hw.quo]; rfl)
theorem brace_at {s : ByteArray} {i : Nat} {w : List UInt8} {r : List (List UInt8)} (h : (L s).drop i = zaO (w :: r)) (hw : Br w) {j : Nat} (hj : j < w.length) : i + (j + 1) < s.size ∧ BrB (byte s (i + (j + 1))) := by
 have hq : (quoT w)[j + 1]? = some w[j] := by
  rw [hw.quo]
  show ((123 :: (w ++ [125])) : List UInt8)[j + 1]? = _
  rw [List.getElem?_cons_succ, List.getElem?_append_left hj]; exact List.getElem?_eq_getElem hj
 obtain ⟨a, b⟩ := at_quo h hq
 refine ⟨a, ?_⟩
 rw [b]
 obtain ⟨x, y, z⟩ := hw.all _ (List.getElem_mem hj)
 exact ⟨fun e => x (UInt8.toNat.inj e), fun e => y (UInt8.toNat.inj e), fun e => z (UInt8.toNat.inj e)⟩
theorem brace_last {s : ByteArray} {i : Nat} {w : List UInt8} {r : List (List UInt8)} (h : (L s).drop i = zaO (w :: r)) (hw : Br w) : i + (w.length + 1) < s.size ∧ byte s (i + (w.length + 1)) = 125 :=
 at_quo (c := 125) h (by rw [hw.quo]; show ((123 :: (w ++ [125])) : List UInt8)[w.length + 1]? = _; rw [List.getElem?_cons_succ, List.getElem?_append_right (Nat.le_refl _), Nat.sub_self]; rfl)
theorem brace_cut {s : ByteArray} {i : Nat} {w : List UInt8} {r : List (List UInt8)} (h : (L s).drop i = zaO (w :: r)) (hw : Br w) : L (s.extract (i + 1) (i + (w.length + 1))) = w := by
 have h2 := drop_more h 1
 rw [zcy, hw.quo] at h2
 have h3 : (L s).drop (i + 1) = w ++ ([125] ++ (if r = [] then [] else 32 :: zaO r)) := by simpa using h2
 have := drop_cut (n := w.length) h3
 rw [show i + 1 + w.length = i + (w.length + 1) by omega] at this
 rw [this]; simp
theorem brace_len {w : List UInt8} (hw : Br w) : (quoT w).length = w.length + 2 := by rw [hw.quo]; simp
end Go.Proofs.YtfkeeieoapimlaaGreatDoor
end
section
namespace Go.Proofs.YtfkeeieoapimlaaGreatDoor
open Go.ChangeShapes Go.WideShapes Go.ChangeAt Go.RowKit
set_option maxRecDepth 100000
theorem quiet_add {P : Program} {f : FuncId} {args : Array Value} {w : World} {a n : Nat} {v : Value}
  (h : Calls P f args (w.drewN (a + n)) fun e w' => e = .returned v ∧ ∃ m, w' = (w.drewN (a + n)).drewN m) :
  Calls P f args (w.drewN (a + n)) fun e w'' => e = .returned v ∧ ∃ m, w'' = w.drewN (a + m) :=
 h.mono fun _ _ ⟨he, m, hm⟩ => ⟨he, n + m, by rw [hm, World.drewN_drewN, Nat.add_assoc]⟩
theorem zc2 {P : Program} {f : FuncId} {args : Array Value} {w : World} {a n : Nat} {v : Value}
  (h : Calls P f args (w.drewN (a + n)) fun e w' => e = .returned v ∧ w' = w.drewN (a + n)) :
  Calls P f args (w.drewN (a + n)) fun e w'' => e = .returned v ∧ ∃ m, w'' = w.drewN (a + m) :=
 h.mono fun _ _ ⟨he, hm⟩ => ⟨he, n, hm⟩
structure Off (X : Nat) (w w' : World) : Prop where
 os : w'.os = w.os
 tape : w'.tape = w.tape
 output : w'.output = w.output
 size : w.heap.size ≤ w'.heap.size
 block : ∀ k, k < w.heap.size → k ≠ X → w'.heap[k]? = w.heap[k]?
theorem Off.refl (X : Nat) (w : World) : Off X w w := ⟨rfl, rfl, rfl, Nat.le_refl _, fun _ _ _ => rfl⟩
theorem Off.trans {X : Nat} {a b c : World} (h : Off X a b) (k : Off X b c) : Off X a c :=
 ⟨k.os.trans h.os, k.tape.trans h.tape, k.output.trans h.output, Nat.le_trans h.size k.size, fun j hj hx => (k.block j (Nat.lt_of_lt_of_le hj h.size) hx).trans (h.block j hj hx)⟩
theorem Off.of {X : Nat} {w w' : World} (h : Below w.heap.size w w') : Off X w w' := ⟨h.os, h.tape, h.output, h.size, fun k hk _ => h.block k hk⟩
theorem Off.alloc {X : Nat} {a w : World} (h : Off X a w) (o : Obj) : Off X a (w.alloc o) :=
 h.trans (Off.of ((Below.refl _ _).alloc (Nat.le_refl _) o))
theorem Off.setX {X : Nat} {a w : World} (h : Off X a w) {p : Addr} (hp : p.block = X) (u : Value) : Off X a (w.setCell p u) := by
 refine ⟨h.os, h.tape, h.output, by have := h.size; simpa using this, fun k hk hx => ?_⟩
 rw [Below.heap_setCell w p u k (fun e => hx (e.trans hp))]
 exact h.block k hk hx
theorem Off.setNew {X : Nat} {a w : World} (h : Off X a w) {p : Addr} (hp : a.heap.size ≤ p.block) (u : Value) : Off X a (w.setCell p u) := by
 refine ⟨h.os, h.tape, h.output, by have := h.size; simpa using this, fun k hk hx => ?_⟩
 rw [Below.heap_setCell w p u k (fun e => by omega)]
 exact h.block k hk hx
theorem Off.drew {X : Nat} {a w : World} (h : Off X a w) : Off X a w.drew := ⟨h.os, h.tape, h.output, h.size, h.block⟩
theorem Off.grown {X : Nat} {a w w' : World} {row : Option Nat} (h : Off X a w) (hg : w.grownBy w' row) (hr : ∀ k, row = some k → a.heap.size ≤ k) : Off X a w' := by
 have hb : Below a.heap.size w w' := (Below.refl _ _).grown hg h.size hr
 exact ⟨hb.os.trans h.os, hb.tape.trans h.tape, hb.output.trans h.output, Nat.le_trans h.size hb.size, fun k hk hx => (hb.block k hk).trans (h.block k hk hx)⟩
theorem Off.to {X B : Nat} {w w' : World} (h : Off X w w') (hX : B ≤ X) (hB : B ≤ w.heap.size) : Below B w w' :=
 ⟨h.os, h.tape, h.output, h.size, fun k hk => h.block k (by omega) (by omega)⟩
theorem Off.below {X : Nat} {a w w' : World} (hb : Below a.heap.size a w) (h : Off X w w') (hX : a.heap.size ≤ X) : Below a.heap.size a w' :=
 hb.trans (h.to hX hb.size)
theorem Off.cell {X : Nat} {w w' : World} (h : Off X w w') {p : Addr} {v : Value} (hc : w.cell? p = some v) (hp : p.block ≠ X) : w'.cell? p = some v := by
 have hlt : p.block < w.heap.size := by
  rcases Nat.lt_or_ge p.block w.heap.size with h' | h'
  ·exact h'
  ·simp [World.cell?, Array.getElem?_eq_none h'] at hc
 rw [World.cell?_of_block (h.block p.block hlt hp)]; exact hc
theorem Off.obj {X : Nat} {w w' : World} (h : Off X w w') {k : Nat} {o : Obj} (hk : w.heap[k]? = some o) (hx : k ≠ X) : w'.heap[k]? = some o :=
 (h.block k (Array.getElem?_eq_some_iff.1 hk).1 hx).trans hk
def rdO (s : ByteArray) (i : Int) : Obj := .cells #[.string s, .int .i64 i, .int .i64 0, .bool true, .bool true, .bool true] 245 (0, 0)
def RdAt (w : World) (R : Nat) (s : ByteArray) (i : Nat) : Prop := w.heap[R]? = some (rdO s (i : Int))
theorem RdAt.lt {w : World} {R : Nat} {s : ByteArray} {i : Nat} (h : RdAt w R s i) : R < w.heap.size := (Array.getElem?_eq_some_iff.1 h).1
theorem RdAt.c0 {w : World} {R : Nat} {s : ByteArray} {i : Nat} (h : RdAt w R s i) : w.cell? ⟨R, 0, none⟩ = some (.string s) := by rw [Lib.cell_of_heap h]; rfl
theorem RdAt.c1 {w : World} {R : Nat} {s : ByteArray} {i : Nat} (h : RdAt w R s i) : w.cell? ⟨R, 1, none⟩ = some (.int .i64 (i : Int)) := by rw [Lib.cell_of_heap h]; rfl
theorem RdAt.c3 {w : World} {R : Nat} {s : ByteArray} {i : Nat} (h : RdAt w R s i) : w.cell? ⟨R, 3, none⟩ = some (.bool true) := by rw [Lib.cell_of_heap h]; rfl
theorem RdAt.c4 {w : World} {R : Nat} {s : ByteArray} {i : Nat} (h : RdAt w R s i) : w.cell? ⟨R, 4, none⟩ = some (.bool true) := by rw [Lib.cell_of_heap h]; rfl
theorem RdAt.c5 {w : World} {R : Nat} {s : ByteArray} {i : Nat} (h : RdAt w R s i) : w.cell? ⟨R, 5, none⟩ = some (.bool true) := by rw [Lib.cell_of_heap h]; rfl
theorem RdAt.f1 {w : World} {R : Nat} {s : ByteArray} {i : Nat} (h : RdAt w R s i) : w.frozen? ⟨R, 1, none⟩ = false := Lib.frozen_of_heap h 1
theorem RdAt.later {w w' : World} {R : Nat} {s : ByteArray} {i : Nat} (h : RdAt w R s i) (hb : Below w.heap.size w w') : RdAt w' R s i := (hb.block _ h.lt).trans h
theorem RdAt.set {w : World} {R : Nat} {s : ByteArray} {i : Nat} (h : RdAt w R s i) (j : Nat) : RdAt (w.setCell ⟨R, 1, none⟩ (.int .i64 (j : Int))) R s j := by
 have := heap_setCell_same w R 1 _ 245 (.int .i64 (j : Int)) h
 exact this
theorem RdAt.setI {w : World} {R : Nat} {s : ByteArray} {i : Nat} (h : RdAt w R s i) {v : Int} {j : Nat} (hv : v = (j : Int)) : RdAt (w.setCell ⟨R, 1, none⟩ (.int .i64 v)) R s j := hv ▸ h.set j
theorem RdAt.other {w : World} {R : Nat} {s : ByteArray} {i : Nat} (h : RdAt w R s i) {p : Addr} (hp : p.block ≠ R) (v : Value) : RdAt (w.setCell p v) R s i :=
 (Below.heap_setCell w p v R (fun e => hp e.symm)).trans h
theorem RdAt.drewN {w : World} {R : Nat} {s : ByteArray} {i : Nat} (h : RdAt w R s i) (n : Nat) : RdAt (w.drewN n) R s i := h
theorem Off.drewN {X : Nat} {a w : World} (h : Off X a w) (n : Nat) : Off X a (w.drewN n) := ⟨h.os, h.tape, h.output, h.size, h.block⟩
end Go.Proofs.YtfkeeieoapimlaaGreatDoor
end
section
namespace Go.Proofs.YtfkeeieoapimlaaGreatDoor
open Go.ChangeShapes Go.WideShapes Go.ChangeAt Go.RowKit
set_option maxRecDepth 100000
theorem zfm (c : Nat) (hc : c < 256) (h : whN c = false) (w : World) : Calls Tryz.prog 153 #[.int .u8 (c : Int)] w fun e w' => e = .returned (.bool false) ∧ w' = w :=
 (zeQ c hc w).mono fun e w' ⟨h1, h2⟩ => ⟨by rw [h1, h], h2.symm⟩
theorem white_yes (c : Nat) (hc : c < 256) (h : whN c = true) (w : World) : Calls Tryz.prog 153 #[.int .u8 (c : Int)] w fun e w' => e = .returned (.bool true) ∧ w' = w :=
 (zeQ c hc w).mono fun e w' ⟨h1, h2⟩ => ⟨by rw [h1, h], h2.symm⟩
theorem zbQ (w : World) {R : Nat} {s : ByteArray} {i : Nat} (h : RdAt w R s i) (b : Bool) (hb : decide (s.size ≤ i) = b) :
  Calls Tryz.prog 181 #[.pointer (some ⟨R, 0, none⟩)] w fun e w' => e = .returned (.bool b) ∧ ∃ n, w' = w.drewN n := by
 have c0 := h.c0
 have c1 := h.c1
 clear h
 by_cases hlt : s.size ≤ i
 ·have t1 : (s.size : Int) ≤ (i : Int) := by omega
  have hb' : true = b := by rw [← hb, decide_eq_true hlt]
  subst hb'
  clear hb
  go_enter Tryz.func181, Tryz.ntmps181
  go_wp2
  go_quiet (fail)
  go_wp2
  go_ret
  exact ⟨rfl, _, rfl⟩
 ·have t1 : ¬ (s.size : Int) ≤ (i : Int) := by omega
  have hb' : false = b := by rw [← hb, decide_eq_false hlt]
  subst hb'
  clear hb
  go_enter Tryz.func181, Tryz.ntmps181
  go_wp2
  go_quiet (fail)
  go_wp2
  go_ret
  exact ⟨rfl, _, rfl⟩
theorem prefix_at (s p : ByteArray) (b : Bool) (h : Lib.hasPrefix s.data.toList p.data.toList = b) (w : World) :
  Calls Tryz.prog 119 #[.string s, .string p] w fun e w' => e = .returned (.bool b) ∧ w' = w := by
 rw [← h]; exact Tryz.strings_HasPrefix s p w
theorem no_lf {s : ByteArray} {i : Nat} (h : ¬ (i < s.size ∧ byte s i = 92)) : Lib.hasPrefix (s.extract i s.size).data.toList (ByteArray.mk #[92, 10]).data.toList = false := by
 have h1 : (s.extract i s.size).data.toList = (L s).drop i := L_from s i
 rw [h1]
 by_cases hlt : i < s.size
 ·rw [L_drop s hlt]
  have hne : ¬ ub s i = 92 := fun e => h ⟨hlt, (ub_eq s i 92 (by decide)).1 e⟩
  show List.isPrefixOf [92, 10] (ub s i :: _) = false
  simp only [List.isPrefixOf, Bool.and_eq_false_imp]
  intro e
  simp only [beq_iff_eq] at e
  exact absurd e.symm hne
 ·rw [zd0 s (by omega)]; rfl
set_option maxHeartbeats 1000000 in
theorem zgr (w : World) {R : Nat} {s : ByteArray} {i : Nat} (h : RdAt w R s i) (hi : i ≤ s.size) (hn : ¬ (i < s.size ∧ byte s i = 92)) :
  Calls Tryz.prog 248 #[.pointer (some ⟨R, 0, none⟩)] w fun e w' => e = .returned (.bool false) ∧ ∃ n, w' = w.drewN n := by
 have c0 := h.c0
 have c1 := h.c1
 have HP := Lib.hid (no_lf hn)
 have t0 : (0 : Int) ≤ (i : Int) := by omega
 have t1 : (i : Int) ≤ (s.size : Int) := by omega
 clear h hn
 go_enter Tryz.func248, Tryz.ntmps248
 go_wp2
 go_quiet ((go_at_call 119; exact Calls.quiet_of_same (prefix_at (s.extract i s.size) (ByteArray.mk #[92, 10]) false HP.out _)))
 go_wp2
 go_ret
 exact ⟨rfl, _, rfl⟩
theorem zfn (w : World) {R : Nat} {s : ByteArray} {i : Nat} (h : RdAt w R s i) (hi : i < s.size) (h1 : byte s i ≠ 10) (h2 : byte s i ≠ 59) :
  Calls Tryz.prog 195 #[.pointer (some ⟨R, 0, none⟩), .bool false] w fun e w' => e = .returned (.bool false) ∧ ∃ n, w' = w.drewN n := by
 have hby := zaN s
 have c0 := h.c0
 have c1 := h.c1
 have t0 : (0 : Int) ≤ (i : Int) := by omega
 have t1 : (i : Int) < (s.size : Int) := by omega
 have t2 : ((byte s i : Int) == 10) = false := by simp; omega
 have t3 : ((byte s i : Int) == 59) = false := by simp; omega
 have HR := Lib.hid h
 have hd : decide (s.size ≤ i) = false := decide_eq_false (by omega)
 have HD := Lib.hid hd
 clear h h1 h2 hd
 go_enter Tryz.func195, Tryz.ntmps195
 go_wp2
 go_quiet ((go_at_call 181; exact Calls.quiet_of (zbQ _ (HR.out.drewN _) false HD.out)))
 go_wp2
 go_ret
 exact ⟨rfl, _, rfl⟩
theorem parted_end (w : World) {R : Nat} {s : ByteArray} {i : Nat} (h : RdAt w R s i) (hi : i = s.size) :
  Calls Tryz.prog 195 #[.pointer (some ⟨R, 0, none⟩), .bool false] w fun e w' => e = .returned (.bool true) ∧ ∃ n, w' = w.drewN n := by
 have c0 := h.c0
 have c1 := h.c1
 have HR := Lib.hid h
 have hd : decide (s.size ≤ i) = true := decide_eq_true (by omega)
 have HD := Lib.hid hd
 clear h hi hd
 go_enter Tryz.func195, Tryz.ntmps195
 go_wp2
 go_quiet ((go_at_call 181; exact Calls.quiet_of (zbQ _ (HR.out.drewN _) true HD.out)))
 go_wp2
 go_ret
 exact ⟨rfl, _, rfl⟩
structure Inw (c : Nat) : Prop where
 lf : c ≠ 10
 semi : c ≠ 59
 wh : whN c = false
 bs : c ≠ 92
theorem PlB.inw {c : Nat} (h : PlB c) : Inw c := ⟨h.lf, h.semi, h.wh, h.bs⟩
theorem ended_no (w : World) {R : Nat} {s : ByteArray} {i : Nat} (h : RdAt w R s i) (hi : i < s.size) (hb : Inw (byte s i)) :
  Calls Tryz.prog 312 #[.pointer (some ⟨R, 0, none⟩), .bool false] w fun e w' => e = .returned (.bool false) ∧ ∃ n, w' = w.drewN n := by
 have hby := zaN s
 have c0 := h.c0
 have c1 := h.c1
 have hl := zdx s i
 have t0 : (0 : Int) ≤ (i : Int) := by omega
 have t1 : (i : Int) < (s.size : Int) := by omega
 have HR := Lib.hid h
 have HB := Lib.hid hb
 clear h hb
 go_enter Tryz.func312, Tryz.ntmps312
 go_wp2
 go_quiet ((first
  | (go_at_call 195; exact Calls.quiet_of (zfn _ (HR.out.drewN _) hi HB.out.lf HB.out.semi))
  | (go_at_call 153; exact Calls.quiet_of_same (zfm _ hl HB.out.wh _))
  | (go_at_call 248; exact Calls.quiet_of (zgr _ (HR.out.drewN _) (Nat.le_of_lt hi) (fun h => HB.out.bs h.2)))))
 go_wp2
 go_ret
 exact ⟨rfl, _, rfl⟩
theorem ended_end (w : World) {R : Nat} {s : ByteArray} {i : Nat} (h : RdAt w R s i) (hi : i = s.size) :
  Calls Tryz.prog 312 #[.pointer (some ⟨R, 0, none⟩), .bool false] w fun e w' => e = .returned (.bool true) ∧ ∃ n, w' = w.drewN n := by
 have c0 := h.c0
 have c1 := h.c1
 have HR := Lib.hid h
 have HI := Lib.hid hi
 clear h hi
 go_enter Tryz.func312, Tryz.ntmps312
 go_wp2
 go_quiet ((go_at_call 195; exact Calls.quiet_of (parted_end _ (HR.out.drewN _) HI.out)))
 go_wp2
 go_ret
 exact ⟨rfl, _, rfl⟩
theorem ended_sp (w : World) {R : Nat} {s : ByteArray} {i : Nat} (h : RdAt w R s i) (hi : i < s.size) (hb : byte s i = 32) :
  Calls Tryz.prog 312 #[.pointer (some ⟨R, 0, none⟩), .bool false] w fun e w' => e = .returned (.bool true) ∧ ∃ n, w' = w.drewN n := by
 have hby := zaN s
 have c0 := h.c0
 have c1 := h.c1
 have hl := zdx s i
 have t0 : (0 : Int) ≤ (i : Int) := by omega
 have t1 : (i : Int) < (s.size : Int) := by omega
 have HR := Lib.hid h
 have HB := Lib.hid hb
 have hw : whN (byte s i) = true := by rw [hb]; rfl
 have HW := Lib.hid hw
 clear h hb hw
 go_enter Tryz.func312, Tryz.ntmps312
 go_wp2
 go_quiet ((first
  | (go_at_call 195; exact Calls.quiet_of (zfn _ (HR.out.drewN _) hi (by rw [HB.out]; decide) (by rw [HB.out]; decide)))
  | (go_at_call 153; exact Calls.quiet_of_same (white_yes _ hl HW.out _))))
 go_wp2
 go_ret
 exact ⟨rfl, _, rfl⟩
end Go.Proofs.YtfkeeieoapimlaaGreatDoor
end
section
namespace Go.Proofs.YtfkeeieoapimlaaGreatDoor
open Go.ChangeShapes Go.WideShapes Go.ChangeAt Go.RowKit
set_option maxRecDepth 100000
structure Solid (c : Nat) : Prop where
 wh : whN c = false
 bs : c ≠ 92
def BlanksR (w : World) (R : Nat) (s : ByteArray) (j : Nat) (e : Ending) (w' : World) : Prop := e = .returned (.tuple #[]) ∧ RdAt w' R s j ∧ Off R w w'
set_option maxHeartbeats 4000000 in
theorem zeN (w : World) {R : Nat} {s : ByteArray} {i : Nat} (h : RdAt w R s i) (hi : i ≤ s.size) (hb : i < s.size → Solid (byte s i)) :
  Calls Tryz.prog 194 #[.pointer (some ⟨R, 0, none⟩)] w fun e w' => BlanksR w R s i e w' := by
 have hby := zaN s
 have c0 := h.c0
 have c1 := h.c1
 have hl := zdx s i
 have HR := Lib.hid h
 clear h
 by_cases hlt : i < s.size
 ·have hsol := hb hlt
  have HS := Lib.hid hsol
  have hd : decide (s.size ≤ i) = false := decide_eq_false (by omega)
  have HD := Lib.hid hd
  have t0 : (0 : Int) ≤ (i : Int) := by omega
  have t1 : (i : Int) < (s.size : Int) := by omega
  have hw := hsol.wh
  have HW := Lib.hid hw
  have t2 : decide ((byte s i : Int) = 10) = false := by
   refine decide_eq_false fun e => ?_
   have : byte s i = 10 := by omega
   rw [this] at hw; cases hw
  have t3 : ((byte s i : Int) != 10) = true := by
   have : ¬ (byte s i : Int) = 10 := of_decide_eq_false t2
   simpa using this
  clear hb hsol hd hw t2
  go_enter Tryz.func194, Tryz.ntmps194
  go_wp2
  go_loopg [] 1 (fun k wr => ∃ n, wr = w.drewN n ∧ k = 1)
  case atStart => exact ⟨0, rfl, rfl⟩
  case round =>
   obtain ⟨n0, rfl, hk⟩ := hrel
   go_wp2_with (first
    | (go_at_call 181; refine (zbQ _ (HR.out.drewN _) false HD.out).mono ?_; rintro e w' ⟨rfl, n, rfl⟩)
    | (go_at_call 248; refine (zgr _ (HR.out.drewN _) (Nat.le_of_lt hlt) (fun h => HS.out.bs h.2)).mono ?_; rintro e w' ⟨rfl, n, rfl⟩))
   go_quiet ((go_at_call 153; first | exact Calls.quiet_of_same (zfm _ hl HW.out _) | exact zc2 (zfm _ hl HW.out _)))
   go_wp2
   refine bodyPost_ret (results_none rfl _ _ _) rfl ?_
   exact ⟨rfl, HR.out, ((Off.refl _ _).drewN _).drewN _⟩
 ·have hd : decide (s.size ≤ i) = true := decide_eq_true (by omega)
  have HD := Lib.hid hd
  clear hb hd
  go_enter Tryz.func194, Tryz.ntmps194
  go_wp2
  go_loopg [] 1 (fun k wr => ∃ n, wr = w.drewN n ∧ k = 1)
  case atStart => exact ⟨0, rfl, rfl⟩
  case round =>
   obtain ⟨n0, rfl, hk⟩ := hrel
   go_wp2_with (go_at_call 181; refine (zbQ _ (HR.out.drewN _) true HD.out).mono ?_; rintro e w' ⟨rfl, n, rfl⟩)
   first | go_end0 | refine bodyPost_ret (results_none rfl _ _ _) rfl ?_
   exact ⟨rfl, HR.out, (Off.refl _ _).drewN _⟩
set_option maxHeartbeats 4000000 in
theorem blanks_one (w : World) {R : Nat} {s : ByteArray} {i : Nat} (h : RdAt w R s i) (hs : s.size ≤ 100000) (hi : i < s.size) (h32 : byte s i = 32) (hb : i + 1 < s.size → Solid (byte s (i + 1))) :
  Calls Tryz.prog 194 #[.pointer (some ⟨R, 0, none⟩)] w fun e w' => BlanksR w R s (i + 1) e w' := by
 have hby := zaN s
 have HR := Lib.hid h
 have HB := Lib.hid hb
 have H32 := Lib.hid h32
 clear h hb h32
 go_enter Tryz.func194, Tryz.ntmps194
 go_wp2
 go_loopg [] 1 (fun k wr => ∃ p : Nat, k = i + 1 - p ∧ i ≤ p ∧ p ≤ i + 1 ∧ RdAt wr R s p ∧ Off R w wr)
 case atStart => exact ⟨i, by omega, Nat.le_refl _, by omega, HR.out, Off.refl _ _⟩
 case round =>
  obtain ⟨p, hk, hip, hp2, hrd, hoff⟩ := hrel
  have HK := Lib.hid hk
  have HRD := Lib.hid hrd
  have HOFF := Lib.hid hoff
  have c0 := hrd.c0
  have c1 := hrd.c1
  have f1 := hrd.f1
  have hl := zdx s p
  clear hk hrd hoff
  by_cases hp : p = i
  ·subst hp
   have t0 : (0 : Int) ≤ (p : Int) := by omega
   have t1 : (p : Int) < (s.size : Int) := by omega
   have hw : whN (byte s p) = true := by rw [H32.out]; rfl
   have HW := Lib.hid hw
   have h9 := H32.out
   have t3 : ((byte s p : Int) != 10) = true := by
    have : ¬ (byte s p : Int) = 10 := by omega
    simpa using this
   have hd : decide (s.size ≤ p) = false := decide_eq_false (by omega)
   have HD := Lib.hid hd
   clear hw h9 hd
   go_wp2_with (first
    | (go_at_call 181; refine (zbQ _ HRD.out false HD.out).mono ?_; rintro e w' ⟨rfl, n, rfl⟩)
    | (go_at_call 248; refine (zgr _ (HRD.out.drewN _) (Nat.le_of_lt hi) (fun h => by have := H32.out; omega)).mono ?_; rintro e w' ⟨rfl, n, rfl⟩))
   go_quiet ((go_at_call 153; first | exact Calls.quiet_of_same (white_yes _ hl HW.out _) | exact zc2 (white_yes _ hl HW.out _)))
   go_wp2
   go_roundg (p + 1 - (p + 1))
   case measure => rw [HK.out]; omega
   case rel => exact ⟨p + 1, rfl, by omega, by omega, (HRD.out.setI (by omega)), ((HOFF.out.drewN _).setX rfl _)⟩
  ·have hpi : p = i + 1 := by omega
   subst hpi
   by_cases hlt : i + 1 < s.size
   ·have hsol := HB.out hlt
    have HS := Lib.hid hsol
    have hd : decide (s.size ≤ i + 1) = false := decide_eq_false (by omega)
    have HD := Lib.hid hd
    have hw := hsol.wh
    have HW := Lib.hid hw
    have t3 : ((byte s (i + 1) : Int) != 10) = true := by
     have : ¬ (byte s (i + 1) : Int) = 10 := fun e => by
      have : byte s (i + 1) = 10 := by omega
      rw [this] at hw; cases hw
     simpa using this
    have HT := Lib.hid t3
    clear hsol hd hw hp t3
    generalize hq : i + 1 = p at *
    have t0 : (0 : Int) ≤ (p : Int) := by omega
    have t1 : (p : Int) < (s.size : Int) := by omega
    have t3 := HT.out
    have HQ := Lib.hid hq
    clear hq
    go_wp2_with (first
     | (go_at_call 181; refine (zbQ _ HRD.out false HD.out).mono ?_; rintro e w' ⟨rfl, n, rfl⟩)
     | (go_at_call 248; refine (zgr _ (HRD.out.drewN _) (Nat.le_of_lt hlt) (fun h => HS.out.bs h.2)).mono ?_; rintro e w' ⟨rfl, n, rfl⟩))
    go_quiet ((go_at_call 153; first | exact Calls.quiet_of_same (zfm _ hl HW.out _) | exact zc2 (zfm _ hl HW.out _)))
    go_wp2
    refine bodyPost_ret (results_none rfl _ _ _) rfl ?_
    exact ⟨rfl, by rw [HQ.out]; exact HRD.out, (HOFF.out.drewN _).drewN _⟩
   ·have hd : decide (s.size ≤ i + 1) = true := decide_eq_true (by omega)
    have HD := Lib.hid hd
    clear hd hp
    go_wp2_with (go_at_call 181; refine (zbQ _ HRD.out true HD.out).mono ?_; rintro e w' ⟨rfl, n, rfl⟩)
    first | go_end0 | refine bodyPost_ret (results_none rfl _ _ _) rfl ?_
    exact ⟨rfl, HRD.out, HOFF.out.drewN _⟩
theorem closed_any (w : World) {R : Nat} {s : ByteArray} {i : Nat} (h : RdAt w R s i) (hi : i ≤ s.size) (hb : i < s.size → byte s i = 32) :
  Calls Tryz.prog 442 #[.pointer (some ⟨R, 0, none⟩), .bool false] w fun e w' => e = .returned (.tuple #[]) ∧ ∃ n, w' = w.drewN n := by
 have HR := Lib.hid h
 clear h
 by_cases hlt : i < s.size
 ·have HB := Lib.hid (hb hlt)
  clear hb
  go_enter Tryz.func442, Tryz.ntmps442
  go_wp2_with (go_at_call 312; refine (ended_sp _ HR.out hlt HB.out).mono ?_; rintro e w' ⟨rfl, n, rfl⟩)
  first | go_end0 | refine bodyPost_ret (results_none rfl _ _ _) rfl ?_
  exact ⟨rfl, _, rfl⟩
 ·have HB := Lib.hid (show i = s.size by omega)
  clear hb
  go_enter Tryz.func442, Tryz.ntmps442
  go_wp2_with (go_at_call 312; refine (ended_end _ HR.out HB.out).mono ?_; rintro e w' ⟨rfl, n, rfl⟩)
  first | go_end0 | refine bodyPost_ret (results_none rfl _ _ _) rfl ?_
  exact ⟨rfl, _, rfl⟩
end Go.Proofs.YtfkeeieoapimlaaGreatDoor
end
section
namespace Go.Proofs.YtfkeeieoapimlaaGreatDoor
open Go.ChangeShapes Go.WideShapes Go.ChangeAt Go.RowKit
set_option maxRecDepth 100000
theorem zb4 {w w1 : World} {o : Obj} {row : Option Nat} (h : (w.alloc o).grownBy w1 row) : w.grownBy w1 row :=
 ⟨h.os, h.tape, h.output, by have := h.size; simp at this; omega, fun j hj hne => (h.block j (by simp; omega) hne).trans (heap_alloc_old w o hj)⟩
theorem tag_past {w : World} {o : Obj} {v v' : Value} (h : SameOrNew (w.alloc o) v v') : SameOrNew w v v' := by
 rcases h with h | h
 ·exact .inl h
 ·exact .inr fun k hk => by have := h k hk; simp at this; omega
theorem zdX {w w1 : World} {row : Option Nat} (h : w.drew.grownBy w1 row) : w.grownBy w1 row := ⟨h.os, h.tape, h.output, h.size, h.block⟩
theorem zbR {P : Program} {ops : Array Oper} {o : Oper} {a : Act} {w : World} {K : Act → World → Prop} {Q : Exit → Act → World → Prop} {E : Prop}
  (hg : o.guard = none) (s x : Operand) (t : TypeId) (hop : o.op = Op.call { callee := Callee.builtin Builtin.append, args := #[s, x], argTypes := #[t, t] })
  (base : Nat) (e : TypeId) (i : TypeInfo) (z : Value) (size bytes : Nat) (ht : P.underlying t = some (.slice e)) (hi : P.info? e = some i) (hz : i.zero = some z)
  (hsize : i.size = size) (hby : i.bytes = bytes) (hzs : z.cells.size = size) (hsz : 0 < size)
  (v : Value) (n : Nat) (xs : List Value) (hs : a.eval s = v) (hown : w.ownsRow base e size v n xs)
  (ad : Addr) (m c : Nat) (news : List Value) (hx : a.eval x = .slice (some ad) m c) (hl : news.length = m * size) (hnews : ∀ j u, news[j]? = some u → w.cell? (ad.add j) = some u) (h1 : ∀ u ∈ news, u.oneCell' = true)
  (h63 : n + m ≤ maxLen) (hbytes : (n + m) * bytes ≤ 140737488355328) (hbase : base ≤ w.heap.size)
  (hK : ∀ v' w', w'.ownsRow base e size v' (n + m) (xs ++ news) → w.grownBy w' v.ownBlock → SameOrNew w v v' → K (a.put o.dst v') w') :
  if Region.wanted o (yielded ops a.tmps) = true then Oper.wp P o a w K Q else E := by
 have hw : Region.wanted o (yielded ops a.tmps) = true := by simp [Region.wanted, hg]
 rw [if_pos hw]
 exact zeP s x t hop base e i z size bytes ht hi hz hsize hby hzs hsz v n xs hs hown ad m c news hx hl hnews h1 h63 hbytes hbase hK
theorem za1 {w W w1 : World} {row : Option Nat} {a : Addr} {v : Value} (h : W.grownBy w1 row) (hH : W.heap = w.heap) (hc : w.cell? a = some v) (hne : row ≠ some a.block) : w1.cell? a = some v := by
 refine h.cell ?_ (fun e => hne e.symm)
 rw [World.cell?_of_block (w := w) (by rw [hH])]; exact hc
theorem zbt {w W w1 : World} {row : Option Nat} {a : Addr} {v : Value} {c : Bool} (h : W.grownBy w1 row) (hH : W.heap = w.heap) (hc : w.cell? a = some v) (hf : w.frozen? a = c) (hne : row ≠ some a.block) : w1.frozen? a = c := by
 have hlt := World.block_lt_of_cell? w a hc
 rw [World.frozen?_of_block (w := w) ((h.block a.block (by rw [hH]; exact hlt) (fun e => hne e.symm)).trans (by rw [hH]))]
 exact hf
theorem one_new (w : World) (v : Value) (T : TypeId) : ∀ j u, [v][j]? = some u → (w.alloc (.cells #[v] T)).cell? ((⟨w.heap.size, 0, none⟩ : Addr).add j) = some u := by
 intro j u hj
 rcases j with _ | j
 ·simp at hj; subst hj; exact cell_of_row _ _ _ _ _ _ (heap_alloc_new w _)
 ·simp at hj
theorem za8 {w : World} {b : Nat} {cs : Array Value} {T : TypeId} (h : w.heap[b]? = some (.cells cs T (0, 0))) (j : Nat) : w.cell? ⟨b, j, none⟩ = cs[j]? := cell_of_row w b j cs T (0, 0) h
theorem zam {w : World} {base e size : Nat} {v : Value} {n : Nat} {xs : List Value} (h : w.ownsRow base e size v (n + 1) xs) : ∃ g cap, v = .slice (some ⟨g, 0, none⟩) (n + 1) cap := by
 rcases h.2 with ⟨_, h0⟩ | ⟨g, cap, cur, rfl, _⟩
 ·omega
 ·exact ⟨g, cap, rfl⟩
theorem SameOrNew.back {w W : World} {v v' : Value} (h : SameOrNew W v v') (hs : w.heap.size ≤ W.heap.size) : SameOrNew w v v' :=
 h.elim .inl fun h => .inr fun k hk => Nat.le_trans hs (h k hk)
end Go.Proofs.YtfkeeieoapimlaaGreatDoor
end
section
namespace Go.Proofs.YtfkeeieoapimlaaGreatDoor
open Go.ChangeShapes Go.WideShapes Go.ChangeAt Go.RowKit
set_option maxRecDepth 100000
def tokC (x : ByteArray) : List Value := [.int .i64 1, .string x, .bool false, .slice none 0 0]
def zdd (w : World) (m : Nat) (v : Value) (x : ByteArray) : Prop := w.ownsRow m 261 4 v 1 (tokC x)
theorem ends_no (w : World) {R RB WB : Nat} {s : ByteArray} {i : Nat} (hrb : w.cell? ⟨RB, 0, none⟩ = some (.pointer (some ⟨R, 0, none⟩))) (hwb : w.cell? ⟨WB, 0, none⟩ = some (.bool false)) (h : RdAt w R s i) (hi : i < s.size) (hb : Inw (byte s i)) :
  Calls Tryz.prog 311 #[.pointer (some ⟨RB, 0, none⟩), .pointer (some ⟨WB, 0, none⟩)] w fun e w' => e = .returned (.bool false) ∧ ∃ n, w' = w.drewN n := by
 have HR := Lib.hid h
 have HB := Lib.hid hb
 clear h hb
 go_enter Tryz.func311, Tryz.ntmps311
 go_wp2_with (go_at_call 312; refine (ended_no _ HR.out hi HB.out).mono ?_; rintro e w' ⟨rfl, n, rfl⟩)
 go_ret
 exact ⟨rfl, _, rfl⟩
theorem ends_yes (w : World) {R RB WB : Nat} {s : ByteArray} {i : Nat} (hrb : w.cell? ⟨RB, 0, none⟩ = some (.pointer (some ⟨R, 0, none⟩))) (hwb : w.cell? ⟨WB, 0, none⟩ = some (.bool false)) (h : RdAt w R s i) (hi : i ≤ s.size) (hb : i < s.size → byte s i = 32) :
  Calls Tryz.prog 311 #[.pointer (some ⟨RB, 0, none⟩), .pointer (some ⟨WB, 0, none⟩)] w fun e w' => e = .returned (.bool true) ∧ ∃ n, w' = w.drewN n := by
 have HR := Lib.hid h
 clear h
 by_cases hlt : i < s.size
 ·have HB := Lib.hid (hb hlt)
  clear hb
  go_enter Tryz.func311, Tryz.ntmps311
  go_wp2_with (go_at_call 312; refine (ended_sp _ HR.out hlt HB.out).mono ?_; rintro e w' ⟨rfl, n, rfl⟩)
  go_ret
  exact ⟨rfl, _, rfl⟩
 ·have HB := Lib.hid (show i = s.size by omega)
  clear hb
  go_enter Tryz.func311, Tryz.ntmps311
  go_wp2_with (go_at_call 312; refine (ended_end _ HR.out HB.out).mono ?_; rintro e w' ⟨rfl, n, rfl⟩)
  go_ret
  exact ⟨rfl, _, rfl⟩
theorem literal_any (x : ByteArray) (w : World) :
  Calls Tryz.prog 235 #[.string x] w fun e w' => e = .returned (.slice (some ⟨w.heap.size, 0, none⟩) 1 1) ∧ w' = w.alloc (.cells (tokC x).toArray 261) := by
 go_enter Tryz.func235, Tryz.ntmps235
 go_wp2
 go_ret
 exact ⟨rfl, rfl⟩
theorem tok_lit (x : ByteArray) (w : World) (m : Nat) (hm : m ≤ w.heap.size) : zdd (w.alloc (.cells (tokC x).toArray 261)) m (.slice (some ⟨w.heap.size, 0, none⟩) 1 1) x :=
 World.ownsRow_lit (e := 261) (size := 4) w (tokC x).toArray 1 hm (by decide) rfl
theorem info261 : (Tryz.prog.info? 261).map (fun i => (i.zero, i.size, i.bytes)) = some (some (.agg #[.int .i64 0, .string ⟨#[]⟩, .bool false, .slice none 0 0]), 4, 56) := by kernel_rfl
def TkAt (w : World) (T : Nat) (v : Value) : Prop := w.heap[T]? = some (.cells #[v] 298 (0, 0))
theorem tok_cells {w : World} {m g c : Nat} {x0 x1 x2 x3 : Value} (h : w.ownsRow m 261 4 (.slice (some ⟨g, 0, none⟩) (0 + 1) c) (0 + 1) ([] ++ [x0, x1, x2, x3])) :
  w.cell? ⟨g, 0, none⟩ = some x0 ∧ w.cell? ⟨g, 1, none⟩ = some x1 ∧ w.cell? ⟨g, 2, none⟩ = some x2 ∧ w.cell? ⟨g, 3, none⟩ = some x3 ∧
  w.frozen? ⟨g, 0, none⟩ = false ∧ w.frozen? ⟨g, 1, none⟩ = false ∧ w.frozen? ⟨g, 2, none⟩ = false ∧ w.frozen? ⟨g, 3, none⟩ = false := by
 have hc := h.cells (g := g) rfl
 obtain ⟨cs, hcs⟩ := zal h (k := g) rfl
 have hf := fun j => Lib.frozen_of_heap hcs j
 have e : ∀ j, (⟨g, 0, none⟩ : Addr).add j = ⟨g, j, none⟩ := fun j => by
  unfold Addr.add; split
  ·rename_i h; rw [h]
  ·simp
 refine ⟨?_, ?_, ?_, ?_, hf 0, hf 1, hf 2, hf 3⟩
 ·rw [← e 0]; exact hc 0 x0 rfl
 ·rw [← e 1]; exact hc 1 x1 rfl
 ·rw [← e 2]; exact hc 2 x2 rfl
 ·rw [← e 3]; exact hc 3 x3 rfl
theorem new_of {w : World} {o : Obj} {g n c : Nat} (h : SameOrNew (w.drew.alloc o) (.slice none 0 0) (.slice (some ⟨g, 0, none⟩) n c)) : w.heap.size ≤ g := by
 rcases h with h | h
 ·cases h
 ·have := h g rfl
  simp at this
  exact Nat.le_of_succ_le this
theorem four_set (a b c d : Value) : ∀ l : List Value, 4 ≤ l.length → ((((l.set 0 a).set 1 b).set 2 c).set 3 d).take 4 = [a, b, c, d]
 | [], h => by simp at h
 | [_], h => by simp at h
 | [_, _], h => by simp at h
 | [_, _, _], h => by simp at h
 | _ :: _ :: _ :: _ :: _, _ => by simp
theorem row_four {w W : World} {m g n c : Nat} {xs : List Value} {a0 a1 a2 a3 : Value} (h : w.ownsRow m 261 4 (.slice (some ⟨g, 0, none⟩) (0 + 1) c) n xs) (hn : n = 0 + 1)
  (hW : ∀ cur : Array Value, w.heap[g]? = some (.cells cur 261 (0, 0)) → W.heap[g]? = some (.cells ((((cur.setIfInBounds 0 a0).setIfInBounds 1 a1).setIfInBounds 2 a2).setIfInBounds 3 a3) 261 (0, 0))) :
  W.ownsRow m 261 4 (.slice (some ⟨g, 0, none⟩) 1 c) 1 [a0, a1, a2, a3] := by
 subst hn
 refine ⟨rfl, ?_⟩
 rcases h.2 with ⟨h', _⟩ | ⟨g', cap, cur, hv, hb, hg, h1, h2, h3, h4⟩
 ·cases h'
 ·cases hv
  refine .inr ⟨g, c, _, rfl, hb, hW cur hg, h1, h2, by simpa using h3, ?_⟩
  simp only [Array.toList_setIfInBounds]
  exact four_set _ _ _ _ _ (by simp; omega)
theorem tok_end1 {w w2 : World} {T g2 m c : Nat} {x : ByteArray} {y0 y1 y2 y3 : Value} (hbase : Off T w w2) (hnew : w.heap.size ≤ g2) (hT2 : w2.heap[T]? = some (.cells #[.slice none 0 0] 298 (0, 0))) (hgT : ¬ g2 = T)
  (ho : w2.ownsRow m 261 4 (.slice (some ⟨g2, 0, none⟩) (0 + 1) c) (0 + 1) ([] ++ [y0, y1, y2, y3])) :
  Off T w (((((w2.setCell ⟨g2, 0, none⟩ (.int .i64 1)).setCell ⟨g2, 1, none⟩ (.string x)).setCell ⟨g2, 2, none⟩ (.bool false)).setCell ⟨g2, 3, none⟩ (.slice none 0 0)).setCell ⟨T, 0, none⟩ (.slice (some ⟨g2, 0, none⟩) 1 c)) ∧
  ∃ u, TkAt (((((w2.setCell ⟨g2, 0, none⟩ (.int .i64 1)).setCell ⟨g2, 1, none⟩ (.string x)).setCell ⟨g2, 2, none⟩ (.bool false)).setCell ⟨g2, 3, none⟩ (.slice none 0 0)).setCell ⟨T, 0, none⟩ (.slice (some ⟨g2, 0, none⟩) 1 c)) T u ∧ World.ownsRow (((((w2.setCell ⟨g2, 0, none⟩ (.int .i64 1)).setCell ⟨g2, 1, none⟩ (.string x)).setCell ⟨g2, 2, none⟩ (.bool false)).setCell ⟨g2, 3, none⟩ (.slice none 0 0)).setCell ⟨T, 0, none⟩ (.slice (some ⟨g2, 0, none⟩) 1 c)) m 261 4 u 1 (tokC x) := by
 have hTg : ¬ T = g2 := fun e => hgT e.symm
 refine ⟨((((hbase.setNew (p := ⟨g2, 0, none⟩) hnew _).setNew (p := ⟨g2, 1, none⟩) hnew _).setNew (p := ⟨g2, 2, none⟩) hnew _).setNew (p := ⟨g2, 3, none⟩) hnew _).setX (p := ⟨T, 0, none⟩) rfl _, _, ?_, row_four ho rfl fun cur hcur => ?_⟩
 ·exact heap_setCell_same _ T 0 #[.slice none 0 0] 298 _ ((heap_setCell_other _ _ _ _ hTg).trans ((heap_setCell_other _ _ _ _ hTg).trans ((heap_setCell_other _ _ _ _ hTg).trans ((heap_setCell_other _ _ _ _ hTg).trans hT2))))
 ·exact (heap_setCell_other _ _ _ _ hgT).trans (heap_setCell_same _ _ 3 _ _ _ (heap_setCell_same _ _ 2 _ _ _ (heap_setCell_same _ _ 1 _ _ _ (heap_setCell_same _ _ 0 _ _ _ hcur))))
theorem tok_end2 {w w2 : World} {T g2 m c : Nat} {x : ByteArray} {y0 y1 y2 y3 : Value} (hbase : Off T w w2) (hnew : w.heap.size ≤ g2) (hT2 : w2.heap[T]? = some (.cells #[.slice none 0 0] 298 (0, 0))) (hgT : ¬ g2 = T)
  (ho : w2.ownsRow m 261 4 (.slice (some ⟨g2, 0, none⟩) (0 + 1) c) (0 + 1) ([] ++ [y0, y1, y2, y3])) :
  Off T w (((((w2.setCell ⟨T, 0, none⟩ (.slice (some ⟨g2, 0, none⟩) 1 c)).setCell ⟨g2, 0, none⟩ (.int .i64 1)).setCell ⟨g2, 1, none⟩ (.string x)).setCell ⟨g2, 2, none⟩ (.bool false)).setCell ⟨g2, 3, none⟩ (.slice none 0 0)) ∧
  ∃ u, TkAt (((((w2.setCell ⟨T, 0, none⟩ (.slice (some ⟨g2, 0, none⟩) 1 c)).setCell ⟨g2, 0, none⟩ (.int .i64 1)).setCell ⟨g2, 1, none⟩ (.string x)).setCell ⟨g2, 2, none⟩ (.bool false)).setCell ⟨g2, 3, none⟩ (.slice none 0 0)) T u ∧ World.ownsRow (((((w2.setCell ⟨T, 0, none⟩ (.slice (some ⟨g2, 0, none⟩) 1 c)).setCell ⟨g2, 0, none⟩ (.int .i64 1)).setCell ⟨g2, 1, none⟩ (.string x)).setCell ⟨g2, 2, none⟩ (.bool false)).setCell ⟨g2, 3, none⟩ (.slice none 0 0)) m 261 4 u 1 (tokC x) := by
 have hTg : ¬ T = g2 := fun e => hgT e.symm
 refine ⟨((((hbase.setX (p := ⟨T, 0, none⟩) rfl _).setNew (p := ⟨g2, 0, none⟩) hnew _).setNew (p := ⟨g2, 1, none⟩) hnew _).setNew (p := ⟨g2, 2, none⟩) hnew _).setNew (p := ⟨g2, 3, none⟩) hnew _, _, ?_, row_four ho rfl fun cur hcur => ?_⟩
 ·exact (heap_setCell_other _ _ _ _ hTg).trans ((heap_setCell_other _ _ _ _ hTg).trans ((heap_setCell_other _ _ _ _ hTg).trans ((heap_setCell_other _ _ _ _ hTg).trans (heap_setCell_same _ T 0 #[.slice none 0 0] 298 _ hT2))))
 ·exact heap_setCell_same _ _ 3 _ _ _ (heap_setCell_same _ _ 2 _ _ _ (heap_setCell_same _ _ 1 _ _ _ (heap_setCell_same _ _ 0 _ _ _ ((heap_setCell_other _ _ _ _ hgT).trans hcur))))
theorem tok0_new (w : World) : ∀ j u, ([.int .i64 0, .string ⟨#[]⟩, .bool false, .slice none 0 0] : List Value)[j]? = some u → (w.alloc (.cells #[.int .i64 0, .string ⟨#[]⟩, .bool false, .slice none 0 0] 261)).cell? ((⟨w.heap.size, 0, none⟩ : Addr).add j) = some u := by
 intro j u hj
 match j, hj with
 | 0, hj => simp at hj; subst hj; simp [Addr.add]
 | 1, hj => simp at hj; subst hj; simp [Addr.add]
 | 2, hj => simp at hj; subst hj; simp [Addr.add]
 | 3, hj => simp at hj; subst hj; simp [Addr.add]
theorem tok0_cell : ∀ x ∈ ([.int .i64 0, .string ⟨#[]⟩, .bool false, .slice none 0 0] : List Value), x.oneCell' = true := by
 intro x hx
 simp only [List.mem_cons, List.not_mem_nil, or_false] at hx
 rcases hx with rfl | rfl | rfl | rfl <;> rfl
set_option maxHeartbeats 4000000 in
theorem tokens_add (w : World) (T g c : Nat) (x : ByteArray) (hT : TkAt w T (.slice none 0 0)) (hx : w.heap[g]? = some (.cells (tokC x).toArray 261 (0, 0))) :
  Calls Tryz.prog 234 #[.pointer (some ⟨T, 0, none⟩), .slice (some ⟨g, 0, none⟩) 1 c] w fun e w' => e = .returned (.tuple #[]) ∧ Off T w w' ∧ ∃ v, TkAt w' T v ∧ w'.ownsRow w.heap.size 261 4 v 1 (tokC x) := by
 obtain ⟨i1, hj, hy0, hy1, hy2⟩ := info_parts info261
 have t0 : w.cell? ⟨T, 0, none⟩ = some (.slice none 0 0) := by rw [Lib.cell_of_heap hT]; rfl
 have f0 : w.frozen? ⟨T, 0, none⟩ = false := Lib.frozen_of_heap hT 0
 have x0 : w.cell? ⟨g, 0, none⟩ = some (.int .i64 1) := by rw [Lib.cell_of_heap hx]; rfl
 have x1 : w.cell? ⟨g, 1, none⟩ = some (.string x) := by rw [Lib.cell_of_heap hx]; rfl
 have x2 : w.cell? ⟨g, 2, none⟩ = some (.bool false) := by rw [Lib.cell_of_heap hx]; rfl
 have x3 : w.cell? ⟨g, 3, none⟩ = some (.slice none 0 0) := by rw [Lib.cell_of_heap hx]; rfl
 have lT : T < w.heap.size := (Array.getElem?_eq_some_iff.1 hT).1
 have lg : g < w.heap.size := (Array.getElem?_eq_some_iff.1 hx).1
 have HT := Lib.hid hT
 have HX := Lib.hid hx
 clear hT hx
 go_enter Tryz.func234, Tryz.ntmps234
 go_wp2
 go_loopg [9] 1 (fun k iv wr => (iv = .int .i64 0 ∧ k = 1 ∧ wr = w) ∨ (iv = .int .i64 1 ∧ k = 0 ∧ Off T w wr ∧ ∃ v, TkAt wr T v ∧ wr.ownsRow w.heap.size 261 4 v 1 (tokC x)))
 case atStart => exact .inl ⟨rfl, rfl, rfl⟩
 case round =>
  rcases hrel with ⟨rfl, rfl, hw⟩ | ⟨rfl, rfl, ho, hv⟩
  ·obtain rfl : w = wr := hw.symm
   go_wp2
   obtain ⟨A, hA, sA, aN, aO, bA⟩ := zag w #[.int .i64 1, .string x, .bool false, .slice none 0 0] 261
   rw [hA]
   have d0 : A.cell? ⟨T, 0, none⟩ = some (.slice none 0 0) := (bA.cell (p := ⟨T, 0, none⟩) lT).trans t0
   have g0 : A.frozen? ⟨T, 0, none⟩ = false := (bA.frozen (p := ⟨T, 0, none⟩) lT).trans f0
   have y0 : A.cell? ⟨w.heap.size, 0, none⟩ = some (.int .i64 1) := (za8 aN 0).trans rfl
   have y1 : A.cell? ⟨w.heap.size, 1, none⟩ = some (.string x) := (za8 aN 1).trans rfl
   have y2 : A.cell? ⟨w.heap.size, 2, none⟩ = some (.bool false) := (za8 aN 2).trans rfl
   have y3 : A.cell? ⟨w.heap.size, 3, none⟩ = some (.slice none 0 0) := (za8 aN 3).trans rfl
   have lA : w.heap.size < A.heap.size := by omega
   have lTA : T < A.heap.size := by omega
   have HbA := Lib.hid bA
   have HsA := Lib.hid sA
   clear hA sA aN aO bA t0 f0 x0 x1 x2 x3
   go_region_law (refine zbR rfl (.tmp 54) (.tmp 57) 182 rfl w.heap.size 261 i1 _ 4 56 Tryz.underlying182 hj hy0 hy1 hy2 rfl (by decide) (.slice none 0 0) 0 [] rfl (World.ownsRow_nil _ _ 261 4) ⟨A.heap.size, 0, none⟩ 1 1 [.int .i64 0, .string ⟨#[]⟩, .bool false, .slice none 0 0] rfl rfl (by exact tok0_new A.drew) (by exact tok0_cell) (by simp only [maxLen]; omega) (by omega) (by have := HsA.out; simp; omega) ?_; intro v' w2 ho2 hg2 ht2; obtain ⟨g2, cap2, rfl⟩ := zam ho2; have hg3 := zdX (zb4 (w := A.drew) hg2); have k0 := za1 hg3 rfl d0 (fun e => by cases e); have m0 := zbt hg3 rfl d0 g0 (fun e => by cases e); have hgn : A.heap.size ≤ g2 := new_of ht2; have hgT : ¬ g2 = T := (by omega); have hTg : ¬ T = g2 := (by omega); have q := tok_cells ho2; obtain ⟨q0, q1, q2, q3, z0, z1, z2, z3⟩ := q; have HG3 := Lib.hid hg3; have HO2 := Lib.hid ho2; clear hg2 ht2 hg3 ho2)
   all_goals
    go_wp2
    go_roundg 0
    case measure => omega
    case rel =>
     have hs2 := HsA.out
     have hbase : Off T w w2 := ((Off.refl T w).trans (Off.of HbA.out)).grown HG3.out (fun k hk => by cases hk)
     have hnew : w.heap.size ≤ g2 := by omega
     have hT2 : w2.heap[T]? = some (.cells #[.slice none 0 0] 298 (0, 0)) := (HG3.out.block T lTA (fun e => by cases e)).trans ((HbA.out.block T lT).trans HT.out)
     refine .inr ⟨rfl, rfl, ?_⟩
     first
      | with_reducible exact tok_end1 hbase hnew hT2 hgT HO2.out
      | with_reducible exact tok_end2 hbase hnew hT2 hgT HO2.out
  ·go_wp2
   first | go_end0 | refine bodyPost_ret (results_none rfl _ _ _) rfl ?_
   exact ⟨rfl, ho, hv⟩
end Go.Proofs.YtfkeeieoapimlaaGreatDoor
end
section
namespace Go.Proofs.YtfkeeieoapimlaaGreatDoor
open Go.ChangeShapes Go.WideShapes Go.ChangeAt Go.RowKit
set_option maxRecDepth 100000
theorem string_f (P : Nat) (l : List UInt8) (w : World) (h : Lib.IsBuilder 97 5 P P (Lib.byteCells l) w) (h0 : l ≠ []) :
  Calls Tryz.prog 42 #[.pointer (some ⟨P, 0, none⟩)] w fun e w' => e = .returned (.string ⟨l.toArray⟩) ∧ (Lib.IsBuilderF 97 5 P P (Lib.byteCells l) w' ∧ Below P w w') :=
 Any.Builder_String_f Tryz.lays169 Tryz.Builder_Extra_169 P P l w (Lib.IsBuilderF.of h) h0
theorem isF_cells {P : Nat} {bs : List Value} {w : World} (h : Lib.IsBuilderF 97 5 P P bs w) : ∃ p v, w.heap[P]? = some (.cells #[p, v] 97 (0, 0)) := by
 rcases h with ⟨_, v, hbk, _⟩ | ⟨_, v, hbk, _⟩
 ·exact ⟨_, v, hbk⟩
 ·exact ⟨_, v, hbk⟩
theorem reset_any (w : World) (P : Nat) (p v : Value) (h : w.heap[P]? = some (.cells #[p, v] 97 (0, 0))) :
  Calls Tryz.prog 236 #[.pointer (some ⟨P, 0, none⟩)] w fun e w' => e = .returned (.tuple #[]) ∧ w' = (w.setCell ⟨P, 0, none⟩ (.pointer none)).setCell ⟨P, 1, none⟩ (.slice none 0 0) := by
 have c0 : w.cell? ⟨P, 0, none⟩ = some p := by rw [Lib.cell_of_heap h]; rfl
 have c1 : w.cell? ⟨P, 1, none⟩ = some v := by rw [Lib.cell_of_heap h]; rfl
 have f0 : w.frozen? ⟨P, 0, none⟩ = false := Lib.frozen_of_heap h 0
 have f1 : w.frozen? ⟨P, 1, none⟩ = false := Lib.frozen_of_heap h 1
 clear h
 go_enter Tryz.func236, Tryz.ntmps236
 go_wp2
 go_end0
 exact ⟨rfl, rfl⟩
def FlushR (w : World) (T : Nat) (l : List UInt8) (e : Ending) (w' : World) : Prop := e = .returned (.tuple #[]) ∧ Below T w w' ∧ ∃ v, TkAt w' T v ∧ zdd w' w.heap.size v ⟨l.toArray⟩
set_option maxHeartbeats 4000000 in
theorem flush_any (w : World) (T P : Nat) (l : List UInt8) (h0 : l ≠ []) (hll : l.length ≤ 100000) (hTP : T < P) (hPw : P < w.heap.size) (hb : Lib.IsBuilder 97 5 P P (Lib.byteCells l) w) (hT : TkAt w T (.slice none 0 0)) :
  Calls Tryz.prog 233 #[.pointer (some ⟨P, 0, none⟩), .pointer (some ⟨T, 0, none⟩)] w fun e w' => FlushR w T l e w' := by
 have HB := Lib.hid hb
 have HT := Lib.hid hT
 have H0 := Lib.hid h0
 have hlp : 0 < l.length := List.length_pos_iff.2 h0
 have hbl : (Lib.byteCells l).length = l.length := Lib.byteCells_length l
 have HBL := Lib.hid hbl
 have t0 : (l.length : Int) > 0 := by omega
 clear hb hT h0 hbl
 go_enter Tryz.func233, Tryz.ntmps233
 go_wp2_with (go_at_call 41; refine (Tryz.Builder_Len P P _ w HB.out).mono ?_; rintro e w' ⟨he, rfl⟩; rw [HBL.out] at he; subst he)
 go_wp2_with (first
  | (go_at_call 42; refine (string_f P l _ HB.out H0.out).mono ?_; rintro e w1 ⟨rfl, hf, hb1⟩; obtain ⟨bp, bv, hbp⟩ := isF_cells hf; have HBP := Lib.hid hbp; have HB1 := Lib.hid hb1; have hs1 := hb1.size; clear hf hb1 hbp)
  | (go_at_call 235; refine (literal_any _ _).mono ?_; rintro e w2 ⟨rfl, hw2⟩; have HW2 := Lib.hid hw2; have hs2 : w1.heap.size < w2.heap.size := (by rw [hw2]; simp); clear hw2)
  | (go_at_call 234; refine (tokens_add w2 T w1.heap.size 1 ⟨l.toArray⟩ (by rw [HW2.out]; exact (heap_alloc_old w1 _ (by omega)).trans ((HB1.out.block T hTP).trans HT.out)) (by rw [HW2.out]; exact heap_alloc_new w1 _)).mono ?_; rintro e w3 ⟨rfl, ho3, v, hT3, hr3⟩; have HO3 := Lib.hid ho3; have HT3 := Lib.hid hT3; have HR3 := Lib.hid hr3; clear ho3 hT3 hr3)
  | (go_at_call 236; refine (reset_any w3 P bp bv ((HO3.out.block P (by omega) (by omega)).trans (by rw [HW2.out]; exact (heap_alloc_old w1 _ (by omega)).trans HBP.out))).mono ?_; rintro e w4 ⟨rfl, hw4⟩; have HW4 := Lib.hid hw4; clear hw4))
 go_end0
 have hne : P ≠ T := by omega
 refine ⟨rfl, ?_, v, ?_, ?_⟩
 ·have hb2 : Below P w' w2 := by rw [HW2.out]; exact HB1.out.alloc (by omega) _
  have hb3 : Below T w' w3 := (hb2.mono (by omega)).trans (HO3.out.to (Nat.le_refl _) (by omega))
  rw [HW4.out]
  exact (hb3.setCell (p := ⟨P, 0, none⟩) (by simp; omega) _).setCell (p := ⟨P, 1, none⟩) (by simp; omega) _
 ·unfold TkAt
  rw [HW4.out, heap_setCell_other _ _ _ _ (by exact fun e => hne e.symm), heap_setCell_other _ _ _ _ (by exact fun e => hne e.symm)]
  exact HT3.out
 ·refine zaq (zak HR3.out fun k hk => ?_) (by omega)
  have hk2 := (HR3.out.lt k hk).1
  rw [HW4.out, heap_setCell_other _ _ _ _ (by simp; omega), heap_setCell_other _ _ _ _ (by simp; omega)]
end Go.Proofs.YtfkeeieoapimlaaGreatDoor
end
section
namespace Go.Proofs.YtfkeeieoapimlaaGreatDoor
open Go.ChangeShapes Go.WideShapes Go.ChangeAt Go.RowKit
set_option maxRecDepth 100000
theorem zfo {P : Program} {c : Code} {Q : Exit → Act → World → Prop} {a : Act} {W : World} (F : World → Prop) (hF : F W) (h : ∀ W, F W → c.wp P Q a W) : c.wp P Q a W := h W hF
structure PartI (w : World) (R : Nat) (s : ByteArray) (p : Nat) (bs : List UInt8) (W : World) : Prop where
 rd : RdAt W R s p
 bd : Lib.IsBuilder 97 5 (w.heap.size + 1) (w.heap.size + 1) (Lib.byteCells bs) W
 tk : TkAt W w.heap.size (.slice none 0 0)
 off : Off R w W
 sz : w.heap.size + 1 < W.heap.size
theorem PartI.drewN {w W : World} {R : Nat} {s : ByteArray} {p : Nat} {bs : List UInt8} (h : PartI w R s p bs W) (n : Nat) : PartI w R s p bs (W.drewN n) := ⟨h.rd, h.bd, h.tk, h.off.drewN n, h.sz⟩
theorem Off.belowNew {X B : Nat} {a w w' : World} (h : Off X a w) (hb : Below B w w') (hB : a.heap.size ≤ B) : Off X a w' :=
 ⟨hb.os.trans h.os, hb.tape.trans h.tape, hb.output.trans h.output, Nat.le_trans h.size hb.size, fun k hk hx => (hb.block k (by omega)).trans (h.block k hk hx)⟩
theorem isBuilder_agree {b : Nat} {bs : List Value} {W W' : World} {B : Nat} (h : Lib.IsBuilder 97 5 B b bs W) (ha : ∀ k, B ≤ k → k < W.heap.size → W'.heap[k]? = W.heap[k]?) : Lib.IsBuilder 97 5 B b bs W' := by
 have key : ∀ p, Lib.BuilderAt 97 5 B b p bs W → Lib.BuilderAt 97 5 B b p bs W' := by
  rintro p ⟨h1, v, h2, h3, h4⟩
  exact ⟨h1, v, (ha _ h1 (Array.getElem?_eq_some_iff.1 h2).1).trans h2, zak h3 fun k hk => ha k (h3.lt k hk).1 (h3.lt k hk).2, h4⟩
 rcases h with h | h
 ·exact .inl (key _ h)
 ·exact .inr (key _ h)
theorem PartI.next {w w1 w3 : World} {R : Nat} {s : ByteArray} {p : Nat} {bs cs : List UInt8} {v : Int} (h : PartI w R s p bs w1) (lR : R < w.heap.size)
  (hb : Lib.BuilderAt 97 5 (w.heap.size + 1) (w.heap.size + 1) (.pointer (some ⟨w.heap.size + 1, 0, none⟩)) (Lib.byteCells bs ++ [.int .u8 (byte s p : Int)]) w3) (hl : Below (w.heap.size + 1) w1.drew w3)
  (hc : bs ++ [ub s p] = cs) (hv : v = ((p + 1 : Nat) : Int)) : PartI w R s (p + 1) cs (w3.setCell ⟨R, 1, none⟩ (.int .i64 v)) := by
 rw [zb3, hc] at hb
 have hrd : RdAt w3 R s p := (hl.block R (by omega)).trans h.rd
 have hsz : w.heap.size + 1 < w3.heap.size := Nat.lt_of_lt_of_le h.sz hl.size
 exact {
  rd := hrd.setI hv
  bd := isBuilder_agree (.inr hb) fun k hk _ => heap_setCell_other _ _ _ _ (by simp; omega)
  tk := (heap_setCell_other w3 ⟨R, 1, none⟩ w.heap.size _ (by show w.heap.size ≠ R; omega)).trans ((hl.block w.heap.size (by omega)).trans h.tk)
  off := (Off.belowNew (a := w) h.off.drew hl (by omega)).setX rfl _
  sz := by simpa using hsz }
def PartsR (w : World) (R : Nat) (s : ByteArray) (i : Nat) (wd : List UInt8) (e : Ending) (w' : World) : Prop :=
 ∃ v x, e = .returned v ∧ zdd w' w.heap.size v x ∧ L x = wd ∧ RdAt w' R s (i + wd.length) ∧ Off R w w'
set_option maxHeartbeats 8000000 in
theorem parts_any (w : World) {R RB WB : Nat} {s : ByteArray} {i : Nat} (hrb : w.cell? ⟨RB, 0, none⟩ = some (.pointer (some ⟨R, 0, none⟩))) (hwb : w.cell? ⟨WB, 0, none⟩ = some (.bool false)) (hrbR : RB ≠ R) (hwbR : WB ≠ R)
  (h : RdAt w R s i) (hs : s.size ≤ 100000) {wd : List UInt8} {r : List (List UInt8)} (hw : Pl wd) (hi : i ≤ s.size) (hat : (L s).drop i = zaO (wd :: r)) :
  Calls Tryz.prog 180 #[.pointer (some ⟨R, 0, none⟩), .func (.func 311) #[] #[.pointer (some ⟨RB, 0, none⟩), .pointer (some ⟨WB, 0, none⟩)]] w fun e w' => PartsR w R s i wd e w' := by
 have hmf : ∀ (fn : Fn) (first cap : Array Value) (w : World), (Instr.makeFunc fn first cap).run Tryz.prog w = .ok (.func fn first cap) w := fun _ _ _ _ => rfl
 have hby := zaN s
 have lR := h.lt
 have hbe := behind_of hat hi
 rw [hw.quo] at hbe
 have HBE := Lib.hid hbe
 have HAT := Lib.hid hat
 have HW := Lib.hid hw
 have HR := Lib.hid h
 have HRB := Lib.hid hrb
 have HWB := Lib.hid hwb
 obtain ⟨A1, hA1, sA1, aN1, aO1, bA1⟩ := zag w #[.slice none 0 0] 298
 obtain ⟨A2, hA2, sA2, aN2, aO2, bA2⟩ := zag A1 #[.pointer none, .slice none 0 0] 97
 have hbld : Lib.IsBuilder 97 5 A1.heap.size A1.heap.size (Lib.byteCells []) A2 := by rw [← hA2]; exact Lib.fresh_isBuilder 97 5 A1
 rw [sA1] at hbld
 have hT0 : TkAt A2 w.heap.size (.slice none 0 0) := (aO2 _ (by omega)).trans aN1
 have hb2 : Below w.heap.size w A2 := bA1.trans (bA2.mono (by omega))
 have HBL := Lib.hid hbld
 have HT0 := Lib.hid hT0
 have HB2 := Lib.hid hb2
 have HA1 := Lib.hid hA1
 have HA2 := Lib.hid hA2
 have hs2 : w.heap.size + 1 < A2.heap.size := by omega
 clear hA1 sA1 aN1 aO1 bA1 hA2 sA2 aN2 aO2 bA2 hbld hT0 hb2 h hw hat hrb hwb hbe
 go_enter Tryz.func180, Tryz.ntmps180
 go_wp2
 rw [HA1.out, HA2.out]
 go_loopg [] wd.length (fun k wr => ∃ p : Nat, k = wd.length - (p - i) ∧ i ≤ p ∧ p ≤ i + wd.length ∧ PartI w R s p (wd.take (p - i)) wr)
 case atStart => exact ⟨i, by omega, Nat.le_refl _, by omega, ⟨HR.out.later HB2.out, by rw [Nat.sub_self]; exact HBL.out, HT0.out, Off.of HB2.out, hs2⟩⟩
 case round =>
  obtain ⟨p, hk, hip, hp2, hI⟩ := hrel
  have hrd := hI.rd
  have hoff := hI.off
  have HI := Lib.hid hI
  have HK := Lib.hid hk
  have HRD := Lib.hid hrd
  have hrbr := hoff.cell HRB.out hrbR
  have hwbr := hoff.cell HWB.out hwbR
  have HRBR := Lib.hid hrbr
  have HWBR := Lib.hid hwbr
  have c0 := hrd.c0
  have c1 := hrd.c1
  have f1 := hrd.f1
  have hcl : (Lib.byteCells (wd.take (p - i))).length ≤ 100000 := by
   rw [Lib.byteCells_length, List.length_take]
   have := HBE.out.le
   omega
  clear hk hrd hI hoff hrbr hwbr
  by_cases hlt : p < i + wd.length
  ·have hj := plain_at HAT.out HW.out (j := p - i) (by omega)
   rw [show i + (p - i) = p by omega] at hj
   obtain ⟨hps, hb⟩ := hj
   have hcut := plain_cut HAT.out HW.out (p - i) (by omega)
   rw [show i + (p - i) = p by omega, show p - i + 1 = p + 1 - i by omega] at hcut
   have HC := Lib.hid hcut
   have HPB := Lib.hid hb
   have t0 : (0 : Int) ≤ (p : Int) := by omega
   have t1 : (p : Int) < (s.size : Int) := by omega
   have t2 : ((byte s p : Int) == 92) = false := by have := hb.bs; simp; omega
   have t3 : ((byte s p : Int) == 36) = false := by have := hb.dol; simp; omega
   have t4 : ((byte s p : Int) == 91) = false := by have := hb.bra; simp; omega
   clear hb hcut
   go_wp2_with (go_at_call 311; refine (ends_no _ HRBR.out HWBR.out HRD.out hps HPB.out.inw).mono ?_; rintro e w' ⟨rfl, n, rfl⟩)
   go_quiet (fail)
   go_wp2
   refine zfo (fun W => PartI w R s p (wd.take (p - i)) W) (HI.out.drewN _) ?_
   intro w1 hI1
   have d0 := hI1.rd.c0
   have d1 := hI1.rd.c1
   have HI1 := Lib.hid hI1
   have lR1 : R < w1.heap.size := hI1.rd.lt
   have hs1 := hI1.sz
   clear hI1 c0 c1 f1
   go_region_held3 (fun W => W.cell? ⟨R, 0, none⟩ = some (.string s) ∧ W.cell? ⟨R, 1, none⟩ = some (.int .i64 (p : Int))) (first | exact ⟨d0, d1⟩ | exact ⟨p0, p1⟩) (first | (go_at_call 38; refine (zap (w.heap.size + 1) (w.heap.size + 1) _ (byte s p : Int) w1.drew (by exact HI1.out.bd) (by omega) (by have := HI1.out.sz; simp; omega)).mono ?_; rintro e w3 ⟨rfl, hb3, hl3⟩; dsimp only; have p0 := (hl3.cell (p := ⟨R, 0, none⟩) (by simp; omega)).trans d0; have p1 := (hl3.cell (p := ⟨R, 1, none⟩) (by simp; omega)).trans d1; have HB3 := Lib.hid hb3; have HL3 := Lib.hid hl3; clear hb3 hl3))
   have f3 : w3.frozen? ⟨R, 1, none⟩ = false := RdAt.f1 (s := s) (i := p) ((HL3.out.block R (by omega)).trans HI1.out.rd)
   go_wp2
   go_roundg (wd.length - (p + 1 - i))
   case measure => rw [HK.out]; omega
   case rel => exact ⟨p + 1, rfl, by omega, by omega, HI1.out.next lR HB3.out HL3.out HC.out (by omega)⟩
  ·have hpe : p = i + wd.length := by omega
   have HP := Lib.hid hpe
   have hble : p ≤ s.size := by have := HBE.out.le; omega
   have hb32 : p < s.size → byte s p = 32 := by
    intro hps
    by_cases hr : r = []
    ·have := HBE.out.fin hr; omega
    ·have := (HBE.out.go hr).2.1; rw [hpe]; exact this
   have HB32 := Lib.hid hb32
   have htake : wd.take (p - i) = wd := List.take_of_length_le (by omega)
   rw [htake] at HI hcl
   clear hb32 htake hpe
   have hwl : wd.length ≤ 100000 := by have := HBE.out.le; omega
   go_wp2_with (first
    | (go_at_call 311; refine (ends_yes _ HRBR.out HWBR.out HRD.out hble HB32.out).mono ?_; rintro e w' ⟨rfl, n, rfl⟩)
    | (go_at_call 233; refine (flush_any _ w.heap.size (w.heap.size + 1) wd HW.out.ne hwl (by omega) (by exact HI.out.sz) (by exact HI.out.bd) (by exact HI.out.tk)).mono ?_; rintro e w4 ⟨rfl, hb4, v, hT4, hr4⟩; obtain ⟨g4, c4, rfl⟩ := zam (n := 0) hr4; have t4 : w4.cell? ⟨w.heap.size, 0, none⟩ = some (.slice (some ⟨g4, 0, none⟩) (0 + 1) c4) := (by rw [Lib.cell_of_heap hT4]; rfl); have HB4 := Lib.hid hb4; have HR4 := Lib.hid hr4; clear hb4 hT4 hr4))
   go_ret
   refine ⟨_, ⟨wd.toArray⟩, rfl, zaq HR4.out (by have := HI.out.sz; simp; omega), rfl, ?_, ?_⟩
   ·rw [← HP.out]
    exact (HB4.out.block R lR).trans HI.out.rd
   ·exact (HI.out.off.drewN _).belowNew HB4.out (Nat.le_refl _)
end Go.Proofs.YtfkeeieoapimlaaGreatDoor
end
section
namespace Go.Proofs.YtfkeeieoapimlaaGreatDoor
open Go.ChangeShapes Go.WideShapes Go.ChangeAt Go.RowKit
set_option maxRecDepth 100000
def BraceR (w : World) (R : Nat) (s : ByteArray) (i : Nat) (wd : List UInt8) (e : Ending) (w' : World) : Prop :=
 (∃ x, e = .returned (.string x) ∧ L x = wd) ∧ RdAt w' R s (i + (wd.length + 2)) ∧ Off R w w'
set_option maxHeartbeats 4000000 in
theorem brace_any (w : World) {R : Nat} {s : ByteArray} {i : Nat} (h : RdAt w R s i) (hs : s.size ≤ 100000) {wd : List UInt8} {r : List (List UInt8)} (hw : Br wd) (hat : (L s).drop i = zaO (wd :: r)) :
  Calls Tryz.prog 441 #[.pointer (some ⟨R, 0, none⟩)] w fun e w' => BraceR w R s i wd e w' := by
 have hby := zaN s
 have c1 := h.c1
 have HAT := Lib.hid hat
 have HW := Lib.hid hw
 have HR := Lib.hid h
 clear h hw hat
 go_enter Tryz.func441, Tryz.ntmps441
 go_wp2
 go_loopg [4] (wd.length + 2) (fun k dv wr => ∃ p : Nat, k = wd.length + 2 - (p - i) ∧ i ≤ p ∧ p ≤ i + (wd.length + 1) ∧ ((p = i ∧ dv = .int .i64 0) ∨ (i < p ∧ dv = .int .i64 1)) ∧ RdAt wr R s p ∧ Off R w wr)
 case atStart => exact ⟨i, by omega, Nat.le_refl _, by omega, .inl ⟨rfl, rfl⟩, HR.out, Off.refl _ _⟩
 case round =>
  obtain ⟨p, hk, hip, hp2, hdv, hrd, hoff⟩ := hrel
  have HK := Lib.hid hk
  have HRD := Lib.hid hrd
  have HOFF := Lib.hid hoff
  have c0 := hrd.c0
  have c1 := hrd.c1
  have f1 := hrd.f1
  clear hk hrd hoff
  rcases hdv with ⟨rfl, rfl⟩ | ⟨hlt, rfl⟩
  ·obtain ⟨hps, hb⟩ := zeM HAT.out HW.out
   have t0 : (0 : Int) ≤ (p : Int) := by omega
   have t1 : (p : Int) < (s.size : Int) := by omega
   have t2 : ((byte s p : Int) == 92) = false := by simp; omega
   have t3 : ((byte s p : Int) == 123) = true := by simp; omega
   have hd : decide (s.size ≤ p) = false := decide_eq_false (by omega)
   have HD := Lib.hid hd
   clear hb hd
   go_wp2_with (go_at_call 181; refine (zbQ _ HRD.out false HD.out).mono ?_; rintro e w' ⟨rfl, n, rfl⟩)
   go_quiet (fail)
   go_wp2
   go_roundg (wd.length + 2 - (p + 1 - p))
   case measure => rw [HK.out]; omega
   case rel => exact ⟨p + 1, rfl, by omega, by omega, .inr ⟨by omega, rfl⟩, (HRD.out.setI (by omega)), ((HOFF.out.drewN _).setX rfl _)⟩
  ·by_cases hend : p = i + (wd.length + 1)
   ·obtain ⟨hps, hb⟩ := brace_last HAT.out HW.out
    rw [← hend] at hps hb
    have t0 : (0 : Int) ≤ (p : Int) := by omega
    have t1 : (p : Int) < (s.size : Int) := by omega
    have t2 : ((byte s p : Int) == 92) = false := by simp; omega
    have t3 : ((byte s p : Int) == 123) = false := by simp; omega
    have t4 : ((byte s p : Int) == 125) = true := by simp; omega
    have hd : decide (s.size ≤ p) = false := decide_eq_false (by omega)
    have HD := Lib.hid hd
    have hcut := brace_cut HAT.out HW.out
    rw [← hend] at hcut
    have HC := Lib.hid hcut
    have HE := Lib.hid hend
    have t5 : (i : Int) + 1 ≤ (p : Int) := by omega
    have t6 : (p : Int) ≤ (s.size : Int) := by omega
    clear hb hd hcut hend
    go_wp2_with (go_at_call 181; refine (zbQ _ HRD.out false HD.out).mono ?_; rintro e w' ⟨rfl, n, rfl⟩)
    go_quiet (fail)
    go_wp2
    have u1 : IntKind.i64.wrap ((i : Int) + 1) = (i : Int) + 1 := IntWalk.i64_in _ (by omega)
    have u2 : IntKind.i64.wrap ((p : Int) + 1 - 1) = (p : Int) := by rw [show (p : Int) + 1 - 1 = (p : Int) by omega]; exact IntWalk.i64_in _ (by omega)
    have u3 : ((i : Int) + 1).toNat = i + 1 := by omega
    have u4 : (0 : Int) ≤ (i : Int) + 1 := by omega
    go_quiet (fail)
    clear u1 u2
    go_wp2
    go_ret
    refine ⟨⟨_, rfl, ?_⟩, ?_, ?_⟩
    ·exact HC.out
    ·exact HRD.out.setI (j := i + (wd.length + 2)) (by have := HE.out; omega)
    ·exact (((HOFF.out.drewN _).setX rfl _).drewN _)
   ·have hj := brace_at HAT.out HW.out (j := p - i - 1) (by omega)
    rw [show i + (p - i - 1 + 1) = p by omega] at hj
    obtain ⟨hps, hb⟩ := hj
    have t0 : (0 : Int) ≤ (p : Int) := by omega
    have t1 : (p : Int) < (s.size : Int) := by omega
    have t2 : ((byte s p : Int) == 92) = false := by have := hb.bs; simp; omega
    have t3 : ((byte s p : Int) == 123) = false := by have := hb.open_; simp; omega
    have t4 : ((byte s p : Int) == 125) = false := by have := hb.close; simp; omega
    have hd : decide (s.size ≤ p) = false := decide_eq_false (by omega)
    have HD := Lib.hid hd
    clear hb hd
    go_wp2_with (go_at_call 181; refine (zbQ _ HRD.out false HD.out).mono ?_; rintro e w' ⟨rfl, n, rfl⟩)
    go_quiet (fail)
    go_wp2
    go_roundg (wd.length + 2 - (p + 1 - i))
    case measure => rw [HK.out]; omega
    case rel => exact ⟨p + 1, rfl, by omega, by omega, .inr ⟨by omega, rfl⟩, (HRD.out.setI (by omega)), ((HOFF.out.drewN _).setX rfl _)⟩
end Go.Proofs.YtfkeeieoapimlaaGreatDoor
end
section
namespace Go.Proofs.YtfkeeieoapimlaaGreatDoor
open Go.ChangeShapes Go.WideShapes Go.ChangeAt Go.RowKit
set_option maxRecDepth 100000
def JoinedR (w : World) (s : ByteArray) (e : Ending) (w' : World) : Prop := (∃ x, e = .returned (.string x) ∧ L x = L s) ∧ Below w.heap.size w w'
set_option maxHeartbeats 2000000 in
theorem joined_any (s : ByteArray) (hs : s.size ≤ 100000) (hn : ∀ i, i < s.size → byte s i ≠ 92) (w : World) :
  Calls Tryz.prog 443 #[.string s] w fun e w' => JoinedR w s e w' := by
 have hby := zaN s
 have HN := Lib.hid hn
 obtain ⟨A, hA, sA, aN, aO, bA⟩ := zag w #[.pointer none, .slice none 0 0] 97
 have hbld : Lib.IsBuilder 97 5 w.heap.size w.heap.size (Lib.byteCells []) A := by rw [← hA]; exact Lib.fresh_isBuilder 97 5 w
 have HA := Lib.hid hA
 have HB := Lib.hid bA
 have HL := Lib.hid hbld
 clear hA sA aN aO bA hbld hn
 go_enter Tryz.func443, Tryz.ntmps443
 go_wp2
 rw [HA.out]
 go_loopg [4] s.size (fun k iv wr => ∃ i : Nat, iv = .int .i64 (i : Int) ∧ k = s.size - i ∧ i ≤ s.size ∧ Lib.IsBuilder 97 5 w.heap.size w.heap.size (Lib.byteCells ((L s).take i)) wr ∧ Below w.heap.size w wr)
 case atStart => exact ⟨0, rfl, rfl, Nat.zero_le _, HL.out, HB.out⟩
 case round =>
  obtain ⟨i, rfl, hk, hi, hbd, hbel⟩ := hrel
  have HK := Lib.hid hk
  have HBD := Lib.hid hbd
  have HBEL := Lib.hid hbel
  have hsz := hbel.size
  clear hk hbd hbel
  have hcl : (Lib.byteCells ((L s).take i)).length ≤ 100000 := by rw [Lib.byteCells_length, List.length_take]; omega
  by_cases hlt : i < s.size
  ·have t1 : (i : Int) < (s.size : Int) := by omega
   have t0 : (0 : Int) ≤ (i : Int) := by omega
   have h92 := HN.out i hlt
   have t2 : ((byte s i : Int) != 92) = true := by
    have : ¬ (byte s i : Int) = 92 := by omega
    simpa using this
   have htk : (L s).take i ++ [ub s i] = (L s).take (i + 1) := by
    rw [List.take_succ, show (L s)[i]? = some (ub s i) by rw [List.getElem?_eq_getElem (by rw [zcX]; exact hlt), L_get s hlt]]; rfl
   have HT := Lib.hid htk
   clear h92 htk
   go_wp2_with (fail)
   refine (zap w.heap.size w.heap.size _ (byte s i : Int) wr HBD.out (by omega) (by omega)).mono ?_
   rintro e w3 ⟨rfl, hb3, hl3⟩
   dsimp only
   rw [zb3, HT.out] at hb3
   have HB3 := Lib.hid (show Lib.IsBuilder 97 5 w.heap.size w.heap.size _ w3 from .inr hb3)
   have HL3 := Lib.hid hl3
   clear hb3 hl3
   go_wp2
   go_roundg (s.size - (i + 1))
   case measure => rw [HK.out]; omega
   case rel => exact ⟨i + 1, by go_num, rfl, by omega, HB3.out, HBEL.out.trans HL3.out⟩
  ·have t1 : ¬ (i : Int) < (s.size : Int) := by omega
   have htk : (L s).take i = L s := List.take_of_length_le (by rw [zcX]; omega)
   rw [htk] at HBD
   clear htk
   go_wp2_with (fail)
   refine (Tryz.Builder_String_any w.heap.size w.heap.size _ wr HBD.out hsz).mono ?_
   rintro e w' ⟨rfl, hb2⟩
   dsimp only
   have HB2 := Lib.hid hb2
   clear hb2
   go_wp2
   go_ret
   exact ⟨⟨_, rfl, L_mk _⟩, HBEL.out.trans HB2.out⟩
theorem star_no {x : ByteArray} {wd : List UInt8} (hx : L x = wd) (hw : Br wd) : (x.toList == [42]) = false := by
 rw [Lib.toList_data]
 show (L x == [42]) = false
 rw [hx]
 obtain ⟨c, hc, hs⟩ := hw.some
 refine Bool.eq_false_iff.2 fun e => ?_
 have e' : wd = [42] := by simpa using e
 rw [e', List.mem_singleton] at hc
 subst hc
 exact absurd hs (by decide)
theorem behind_sp {s : ByteArray} {i : Nat} {r : List (List UInt8)} (h : Behind s i r) : i < s.size → byte s i = 32 := by
 intro hps
 by_cases hr : r = []
 ·have := h.fin hr; omega
 ·exact (h.go hr).2.1
theorem brx_no {x : ByteArray} {wd : List UInt8} (hx : L x = wd) (hw : Br wd) : ∀ i, i < x.size → byte x i ≠ 92 := by
 intro i hi e
 have h1 : ub x i = 92 := ub_mk x i (by decide) e
 have h2 : ub x i ∈ wd := by
  rw [← hx, ← L_get x hi]
  exact List.getElem_mem _
 exact (hw.all _ h2).1 h1
theorem brx_len {x s : ByteArray} {i : Nat} {wd : List UInt8} {r : List (List UInt8)} (hx : L x = wd) (hat : (L s).drop i = zaO (wd :: r)) (hw : Br wd) : x.size ≤ s.size := by
 have h1 := brace_last hat hw
 have h2 : x.size = wd.length := by rw [← zcX, hx]
 omega
def WordR (w : World) (R : Nat) (s : ByteArray) (j : Nat) (wd : List UInt8) (e : Ending) (w' : World) : Prop :=
 ∃ v x, e = .returned (.agg #[.bool false, v]) ∧ zdd w' w.heap.size v x ∧ L x = wd ∧ RdAt w' R s j ∧ Off R w w'
theorem info216 : (Tryz.prog.info? 216).map (fun i => (i.zero, i.size, i.bytes)) = some (some (.agg #[.bool false, .slice none 0 0]), 2, 32) := by kernel_rfl
theorem word_ret {fn : Func} {p T : Nat} (hf : fn.results = #[.cell p 216]) {tmps : Array Value} (hp : tmps.getD p undef = .pointer (some ⟨T, 0, none⟩) := by rfl) {W : World} {a b : Value} (hW : W.heap[T]? = some (.cells #[a, b] 216 (0, 0))) {Q : Ending → World → Prop}
  (hQ : Q (.returned (.agg #[a, b])) W) : bodyPost Tryz.prog fn Q Exit.ret { tmps := tmps, defers := [] } W := by
 have c0 : W.cell? ⟨T, 0, none⟩ = some a := by rw [Lib.cell_of_heap hW]; rfl
 have c1 : W.cell? ⟨T, 1, none⟩ = some b := by rw [Lib.cell_of_heap hW]; rfl
 rw [Array.getD_eq_getD_getElem?] at hp
 refine bodyPost_ret (v := .agg #[a, b]) ?_ rfl hQ
 simp [results, hf, hp, go_sem, c0, c1]
set_option maxHeartbeats 4000000 in
theorem braced_any (w : World) {R : Nat} {s : ByteArray} {i : Nat} (h : RdAt w R s i) (hs : s.size ≤ 100000) {wd : List UInt8} {r : List (List UInt8)} (hw : Br wd) (hi : i ≤ s.size) (hat : (L s).drop i = zaO (wd :: r)) :
  Calls Tryz.prog 371 #[.pointer (some ⟨R, 0, none⟩), .bool false] w fun e w' => WordR w R s (i + (wd.length + 2)) wd e w' := by
 have lR := h.lt
 have hbe := behind_of hat hi
 rw [brace_len hw] at hbe
 have HBE := Lib.hid hbe
 have HAT := Lib.hid hat
 have HW := Lib.hid hw
 obtain ⟨A, hA, sA, aN, aO, bA⟩ := zag w #[.bool false, .slice none 0 0] 216
 have hRA := h.later bA
 have HRA := Lib.hid hRA
 have HA := Lib.hid hA
 have HB := Lib.hid bA
 have HSA := Lib.hid sA
 have HAN := Lib.hid aN
 clear hbe hat hw hA sA aN aO bA h hRA
 go_enter Tryz.func371, Tryz.ntmps371
 go_wp2_with (first
  | (go_at_call 441; rw [HA.out]; refine (brace_any A HRA.out hs HW.out HAT.out).mono ?_; rintro e w1 ⟨⟨x, rfl, hx⟩, hrd1, hoff1⟩; have hst : (x.toList == [42]) = false := star_no hx HW.out; have HX := Lib.hid hx; have hal1 := hoff1.obj HAN.out (by omega); have HRD1 := Lib.hid hrd1; have HAL1 := Lib.hid hal1; have HOFF1 := Lib.hid hoff1; clear hx hrd1 hoff1 hal1)
  | (go_at_call 442; refine (closed_any _ HRD1.out HBE.out.le (behind_sp HBE.out)).mono ?_; rintro e w2 ⟨rfl, n, rfl⟩)
  | (go_at_call 443; refine (joined_any x (by have := brx_len HX.out HAT.out HW.out; omega) (brx_no HX.out HW.out) _).mono ?_; rintro e w3 ⟨⟨y, rfl, hy⟩, hb3⟩; have hal3 : w3.heap[w.heap.size]? = some (.cells #[.bool false, .slice none 0 0] 216 (0, 0)) := (hb3.block _ (Array.getElem?_eq_some_iff.1 HAL1.out).1).trans HAL1.out; have a0 : w3.cell? ⟨w.heap.size, 0, none⟩ = some (.bool false) := (by rw [Lib.cell_of_heap hal3]; rfl); have a1 : w3.cell? ⟨w.heap.size, 1, none⟩ = some (.slice none 0 0) := (by rw [Lib.cell_of_heap hal3]; rfl); have z0 : w3.frozen? ⟨w.heap.size, 0, none⟩ = false := Lib.frozen_of_heap hal3 0; have z1 : w3.frozen? ⟨w.heap.size, 1, none⟩ = false := Lib.frozen_of_heap hal3 1; have l3 : w.heap.size < w3.heap.size := (Array.getElem?_eq_some_iff.1 hal3).1; have HAL3 := Lib.hid hal3; have HY := Lib.hid hy; have HB3 := Lib.hid hb3; clear hy hb3 hal3)
  | (go_at_call 235; refine (literal_any _ _).mono ?_; rintro e w4 ⟨rfl, rfl⟩))
 have hal := HAL3.out
 have hW := (heap_alloc_old ((w3.setCell ⟨w.heap.size, 0, none⟩ (.bool false)).setCell ⟨w.heap.size, 1, none⟩ (.slice (some ⟨w3.heap.size, 0, none⟩) 1 1)) (.cells (tokC y).toArray 261) (r := w.heap.size) (by simpa using l3)).trans
  (heap_setCell_same _ w.heap.size 1 _ 216 (.slice (some ⟨w3.heap.size, 0, none⟩) 1 1) (heap_setCell_same _ w.heap.size 0 _ 216 (.bool false) hal))
 have hsz3 : ((w3.setCell ⟨w.heap.size, 0, none⟩ (.bool false)).setCell ⟨w.heap.size, 1, none⟩ (.slice (some ⟨w3.heap.size, 0, none⟩) 1 1)).heap.size = w3.heap.size := by simp
 have htok := tok_lit y ((w3.setCell ⟨w.heap.size, 0, none⟩ (.bool false)).setCell ⟨w.heap.size, 1, none⟩ (.slice (some ⟨w3.heap.size, 0, none⟩) 1 1)) w.heap.size (by rw [hsz3]; omega)
 rw [hsz3] at htok
 have hoff : Off R w (((w3.setCell ⟨w.heap.size, 0, none⟩ (.bool false)).setCell ⟨w.heap.size, 1, none⟩ (.slice (some ⟨w3.heap.size, 0, none⟩) 1 1)).alloc (.cells (tokC y).toArray 261)) :=
  (((((Off.of HB.out).trans HOFF1.out).drewN n |>.trans (Off.of HB3.out)).setNew (p := ⟨w.heap.size, 0, none⟩) (Nat.le_refl _) _).setNew (p := ⟨w.heap.size, 1, none⟩) (Nat.le_refl _) _).alloc _
 have hrd : RdAt (((w3.setCell ⟨w.heap.size, 0, none⟩ (.bool false)).setCell ⟨w.heap.size, 1, none⟩ (.slice (some ⟨w3.heap.size, 0, none⟩) 1 1)).alloc (.cells (tokC y).toArray 261)) R s (i + (wd.length + 2)) :=
  (heap_alloc_old _ _ (by rw [hsz3]; omega)).trans ((heap_setCell_other _ _ _ _ (by show R ≠ w.heap.size; omega)).trans ((heap_setCell_other _ _ _ _ (by show R ≠ w.heap.size; omega)).trans ((HB3.out.block R (Nat.lt_of_lt_of_le (show R < w.heap.size from lR) (by have := HSA.out; have := HOFF1.out.size; show w.heap.size ≤ w1.heap.size; omega))).trans HRD1.out)))
 have HF := Lib.hid (show WordR w R s (i + (wd.length + 2)) wd (.returned (.agg #[.bool false, .slice (some ⟨w3.heap.size, 0, none⟩) 1 1])) _ from ⟨_, y, rfl, htok, HY.out.trans HX.out, hrd, hoff⟩)
 have HWB := Lib.hid hW
 clear hal hW hsz3 htok hoff hrd a0 a1 z0 z1
 generalize ((w3.setCell ⟨w.heap.size, 0, none⟩ (.bool false)).setCell ⟨w.heap.size, 1, none⟩ (.slice (some ⟨w3.heap.size, 0, none⟩) 1 1)).alloc (.cells (tokC y).toArray 261) = W at *
 exact word_ret rfl rfl HWB.out HF.out
end Go.Proofs.YtfkeeieoapimlaaGreatDoor
end
section
namespace Go.Proofs.YtfkeeieoapimlaaGreatDoor
open Go.ChangeShapes Go.WideShapes Go.ChangeAt Go.RowKit Go.Xe
set_option maxRecDepth 100000
theorem names_ok : Tryz.prog.funcs.toList.all (fun fn => !(fn.name == "runtime.NumGoroutine")) = true := by kernel_rfl
theorem pok : POk Tryz.prog := ⟨fun f fn h => by
 have := List.all_eq_true.1 names_ok fn (by rw [← Array.getElem?_toList] at h; exact List.mem_of_getElem? h)
 simpa using this⟩
noncomputable def noK : zaR := fun _ => none
theorem noK_ok : KnownOk Tryz.prog noK := ⟨fun f k h => (by cases h), fun f k h => (by cases h), fun f k h => (by cases h)⟩
noncomputable def mapW : AH := ⟨4, Tr.put (some (.map [⟨.int .u8 123, .func (.func 371) [] [], 2⟩, ⟨.int .u8 34, .func (.func 372) [] [], 3⟩] 2)) 2 .nil 1, 0, []⟩
theorem words_run : run Tryz.prog noK 310 [] heap0 = some (.map 1, mapW) := by kernel_rfl
theorem look_open : zer Tryz.prog 377 true (.map 1) (.int .u8 123) mapW = some (.tup [.func (.func 371) [] [], .bool true]) := by kernel_rfl
theorem look_form (c : Int) : zer Tryz.prog 377 true (.map 1) (.int .u8 c) mapW =
  bnd (ite' (zdA c 123) (some (some (⟨.int .u8 123, .func (.func 371) [] [], 2⟩ : ME))) (ite' (zdA c 34) (some (some ⟨.int .u8 34, .func (.func 372) [] [], 3⟩)) (some none)))
   fun r => oE (bnd (zdy Tryz.prog 375) fun z => some (zbW true z false)) (fun x => some (zbW true x.v true)) r := by kernel_rfl
theorem zero375 : zdy Tryz.prog 375 = some .fnil := by kernel_rfl
theorem look_none {c : Int} (h1 : c ≠ 123) (h2 : c ≠ 34) : zer Tryz.prog 377 true (.map 1) (.int .u8 c) mapW = some (.tup [.fnil, .bool false]) := by
 have e1 : zdA c 123 = false := by rw [zcs]; simpa using h1
 have e2 : zdA c 34 = false := by rw [zcs]; simpa using h2
 rw [look_form, e1, e2, zero375]
 rfl
def WMap (W : World) (m : Nat) : Prop := ∀ W' : World, W'.heap = W.heap →
 (Instr.lookup 377 (.map (some m)) (.int .u8 123) true).run Tryz.prog W' = .ok (.tuple #[.func (.func 371) #[] #[], .bool true]) W' ∧
 ∀ c : Int, c ≠ 123 → c ≠ 34 → (Instr.lookup 377 (.map (some m)) (.int .u8 c) true).run Tryz.prog W' = .ok (.tuple #[.nilFunc, .bool false]) W'
theorem words_any (w : World) (hG : HasG w.heap) : Calls Tryz.prog 310 #[] w fun e w' => ∃ m, e = .returned (.map (some m)) ∧ WMap w' m ∧ Below w.heap.size w w' := by
 refine (callsIn_wide (n := 0)).1 (CallsIn.mono (zfi pok noK_ok words_run (sat0 w.heap hG) (us := #[]) .nil) fun en w' hen => ?_)
 cases en with
 | panicked c => exact hen.elim
 | outgrown => exact hen.elim
 | returned u =>
   obtain ⟨e, s, hv, st⟩ := hen
   obtain ⟨l, hl, rfl⟩ := zeZ hv
   refine ⟨l.blk, rfl, fun W' hW => ?_, st.below heap0_get⟩
   have s' : Sat e mapW W'.heap := by rw [hW]; exact s
   refine ⟨?_, fun c h1 h2 => ?_⟩
   ·obtain ⟨u, w2, hr, hu, rfl⟩ := zcb s' hv (.int .u8 123) look_open
    rw [hr]
    have : u = .tuple #[.func (.func 371) #[] #[], .bool true] := by
     obtain ⟨us, rfl, hus⟩ := vr_tup hu
     obtain ⟨us⟩ := us
     cases hus with
     | cons _ u1 _ l1 a1 a2 =>
       cases a2 with
       | cons _ u2 _ l2 b1 b2 =>
         cases b2
         cases b1
         cases a1 with
         | func f f' x y x' y' hf hx hy =>
           cases hf
           obtain ⟨x'⟩ := x'
           obtain ⟨y'⟩ := y'
           cases hx
           cases hy
           rfl
    rw [this]
   ·obtain ⟨u, w2, hr, hu, rfl⟩ := zcb s' hv (.int .u8 c) (look_none h1 h2)
    rw [hr]
    have : u = .tuple #[.nilFunc, .bool false] := by
     obtain ⟨us, rfl, hus⟩ := vr_tup hu
     obtain ⟨us⟩ := us
     cases hus with
     | cons _ u1 _ l1 a1 a2 =>
       cases a2 with
       | cons _ u2 _ l2 b1 b2 =>
         cases b2
         cases b1
         cases a1
         rfl
    rw [this]
end Go.Proofs.YtfkeeieoapimlaaGreatDoor
end
