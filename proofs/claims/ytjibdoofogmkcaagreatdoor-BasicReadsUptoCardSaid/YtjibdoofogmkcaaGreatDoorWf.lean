/-
  The document's First for one byte. Conditions: none.
-/
import Derived.Test.YtjibdoofogmkcaaGreatDoorWe2ToWi0
set_option linter.unusedVariables false
set_option linter.unusedSimpArgs false
set_option linter.unusedSectionVars false
set_option linter.deprecated false
section
namespace Go.Proofs.YtjibdoofogmkcaaGreatDoor
open Go.ChangeShapes Go.WideShapes Go.ChangeAt Go.RowKit
set_option maxRecDepth 100000
theorem one_beq (s sep : ByteArray) (i : Nat) (h1 : sep.size = 1) (his : i < s.size) : ((s.extract i (i + 1)).toList == sep.toList) = (byte s i == byte sep 0) := by
  rw [Lib.toList_data, Lib.toList_data]
  have a : (s.extract i (i + 1)).data.toList = [ub s i] := by
    have := L_cut s i (i + 1)
    rw [L_drop s his, show i + 1 - i = 1 by omega] at this
    exact this
  have b : sep.data.toList = [ub sep 0] := by
    have := L_drop sep (show 0 < sep.size by omega)
    rw [List.drop_zero, L_drop_end sep (by omega)] at this
    exact this
  rw [a, b, ← ub_nat s i, ← ub_nat sep 0]
  rw [Bool.eq_iff_iff]
  simp only [beq_iff_eq, List.cons.injEq, and_true]
  exact ⟨fun h => by rw [h], fun h => UInt8.toNat.inj h⟩
set_option maxHeartbeats 1000000 in
theorem stands_any (sep s : ByteArray) (i : Nat) (h1 : sep.size = 1) (his : i < s.size) (hs : s.size ≤ 1000000) (w : World) :
    Calls Tryz.prog 341 #[.string sep, .string s, .int .i64 (i : Int)] w fun e w' => e = .returned (.bool (byte s i == byte sep 0)) ∧ w = w' := by
  have t1 : (0 : Int) ≤ (i : Int) := by omega
  have t2 : (sep.size : Int) = 1 := by omega
  have t3 : (i : Int) ≤ (s.size : Int) - 1 := by omega
  have t4 : (i : Int) + 1 ≤ (s.size : Int) := by omega
  have t5 : (i : Int) ≤ (i : Int) + 1 := by omega
  have t6 : (0 : Int) ≤ (i : Int) + 1 := by omega
  have HB := Lib.hid (one_beq s sep i h1 his)
  clear h1 his
  go_enter Tryz.func341, Tryz.ntmps341
  go_wp2
  go_ret
  exact ⟨ret_bool HB.out, rfl⟩
def fst : List UInt8 → UInt8 → Option Nat
  | [], _ => none
  | b :: l, c => if b = c then some 0 else (fst l c).map (· + 1)
def fstV : Option Nat → Int
  | none => -1
  | some k => (k : Int)
set_option maxHeartbeats 1000000 in
theorem first_any (sep s : ByteArray) (h1 : sep.size = 1) (hs : s.size ≤ 1000000) (w : World) :
    Calls Tryz.prog 275 #[.string sep, .string s, .int .i64 0] w fun e w' => e = .returned (.int .i64 (fstV (fst (L s) (ub sep 0)))) ∧ w = w' := by
  have t5 := emp_false sep (by omega)
  have H1 := Lib.hid h1
  clear h1
  go_enter Tryz.func275, Tryz.ntmps275
  go_wp2
  go_loopg [10] s.size (fun k n wr => ∃ i : Nat, n = .int .i64 (i : Int) ∧ k = s.size - i ∧ i ≤ s.size ∧ fst (L s) (ub sep 0) = (fst ((L s).drop i) (ub sep 0)).map (· + i) ∧ w = wr)
  case atStart => exact ⟨0, rfl, rfl, by omega, by simp, rfl⟩
  case round =>
    obtain ⟨i, rfl, hk, his, heq, rfl⟩ := hrel
    have HK := Lib.hid hk
    have HEQ := Lib.hid heq
    clear hk heq
    by_cases hlt : i < s.size
    · have t7 : (i : Int) < (s.size : Int) := by omega
      have t8 : (0 : Int) ≤ (i : Int) := by omega
      by_cases hb : ub s i = ub sep 0
      · have hbb : (byte s i == byte sep 0) = true := by rw [← ub_nat, ← ub_nat, hb]; simp
        have HB := Lib.hid hb
        clear hb
        go_wp2_with (go_at_call 341; refine (stands_any _ _ _ H1.out hlt hs _).mono ?_; rintro e w' ⟨rfl, rfl⟩; rw [hbb])
        go_ret
        refine ⟨?_, rfl⟩
        rw [HEQ.out, L_drop s hlt, HB.out]
        simp [fst, fstV]
      · have hbb : (byte s i == byte sep 0) = false := by
          rw [← ub_nat, ← ub_nat]
          have h2 : ¬ (ub s i).toNat = (ub sep 0).toNat := fun e => hb (UInt8.toNat.inj e)
          simp [h2]
        have HB := Lib.hid hb
        clear hb
        go_wp2_with (go_at_call 341; refine (stands_any _ _ _ H1.out hlt hs _).mono ?_; rintro e w' ⟨rfl, rfl⟩; rw [hbb])
        go_roundg (s.size - (i + 1))
        case measure => rw [HK.out]; omega
        case rel =>
          refine ⟨i + 1, by go_num, rfl, by omega, ?_, rfl⟩
          rw [HEQ.out, L_drop s hlt]
          simp only [fst, if_neg HB.out, Option.map_map]
          congr 1
          funext x; simp; omega
    · have t7 : ¬ (i : Int) < (s.size : Int) := by omega
      go_wp2
      go_ret
      refine ⟨?_, rfl⟩
      rw [HEQ.out, L_drop_end s (by omega)]
      simp [fst, fstV]
theorem fst_ltr (c : UInt8) : (∃ k : Nat, k < 7 ∧ fst [97, 98, 102, 110, 114, 116, 118] c = some k ∧ ltr c = ([7, 8, 12, 10, 13, 9, 11] : List UInt8)[k]?) ∨ (fst [97, 98, 102, 110, 114, 116, 118] c = none ∧ ltr c = none) := by
  by_cases h1 : c = 97
  · subst h1; exact .inl ⟨0, by decide, rfl, rfl⟩
  by_cases h2 : c = 98
  · subst h2; exact .inl ⟨1, by decide, rfl, rfl⟩
  by_cases h3 : c = 116
  · subst h3; exact .inl ⟨5, by decide, rfl, rfl⟩
  by_cases h4 : c = 110
  · subst h4; exact .inl ⟨3, by decide, rfl, rfl⟩
  by_cases h5 : c = 118
  · subst h5; exact .inl ⟨6, by decide, rfl, rfl⟩
  by_cases h6 : c = 102
  · subst h6; exact .inl ⟨2, by decide, rfl, rfl⟩
  by_cases h7 : c = 114
  · subst h7; exact .inl ⟨4, by decide, rfl, rfl⟩
  refine .inr ⟨?_, ?_⟩
  · have q : ∀ n : UInt8, c ≠ n → ¬ n = c := fun n h e => h e.symm
    simp [fst, q _ h1, q _ h2, q _ h3, q _ h4, q _ h5, q _ h6, q _ h7]
  · unfold ltr
    rw [if_neg h1, if_neg h2, if_neg h3, if_neg h4, if_neg h5, if_neg h6, if_neg h7]
end Go.Proofs.YtjibdoofogmkcaaGreatDoor
end
