/-
  The machine over an escaped text: it finds the first index at which the text stands.
  Literal gives an escaped text back.
  The law on literals, walked, on the word that awake is true.
-/
import Derived.Test.YtfgghbideoehjaaLawAToLawB
import Derived.Test.YtfgghbideoehjaaLitCToLitF
import Derived.Test.YtfgghbideoehjaaAwakeAToAwakeB
namespace Go.Proofs.Ytfgghbideoehjaa
set_option linter.unusedVariables false
set_option linter.unusedSimpArgs false
set_option maxRecDepth 100000

theorem lit_prog (s : ByteArray) : (litSt s s.size).prog = (List.range s.size).map (insOf s) ++ [.mk1 9 0] := by
  unfold PSt.prog; rw [lit_comp]
theorem lit_marks (s : ByteArray) : (litSt s s.size).marks = 0 := by unfold PSt.marks; rw [lit_comp]

theorem lit_ins (s : ByteArray) {k : Nat} (hk : k < s.size) : (litSt s s.size).prog[k]? = some (insOf s k) := by
  rw [lit_prog, List.getElem?_append_left (by simpa using hk)]
  simp [hk]
theorem lit_end (s : ByteArray) : (litSt s s.size).prog[s.size]? = some (.mk1 9 0) := by
  rw [lit_prog, List.getElem?_append_right (by simp)]
  simp

/-- All bytes from one on are there. -/
def agrees (s t : ByteArray) (a : Nat) : Nat → Nat → Bool
  | 0, _ => true
  | m + 1, k => (decide (a + k < t.size) && (byte t (a + k) == byte s k)) && agrees s t a m (k + 1)

theorem lit_run (s t : ByteArray) (a : Nat) (gs : List Int) (hg : gs.length = 2) : ∀ (m k : Nat), k + m = s.size →
    vrun (litSt s s.size).prog t false (m + 2) (some ⟨k, a + k, gs, []⟩) [] [] = some (if agrees s t a m k = true then some (gs.set 1 ((a + s.size : Nat) : Int)) else none, [])
  | 0, k, h => by
    have e : k = s.size := by omega
    subst e
    have hst : Th.step (litSt s s.size).prog t false ⟨s.size, a + s.size, gs, []⟩ [] [] = .hit (gs.set 1 ((a + s.size : Nat) : Int)) [] := by
      simp only [Th.step, lit_end]
      rw [if_neg (by decide), if_neg (by decide), if_neg (by decide), if_neg (by decide), if_neg (by decide), if_neg (by decide), if_pos trivial, if_pos (.inl trivial), if_pos (by omega)]
    unfold vrun
    rw [hst]
    simp [agrees]
  | m + 1, k, h => by
    have hk : k < s.size := by omega
    have hb := byte_lt s k
    have hb2 := byte_lt t (a + k)
    have hhas : (insOf s k).set.has (byte t (a + k)) = (byte t (a + k) == byte s k) := single_has hb hb2
    unfold vrun
    by_cases hc : a + k < t.size ∧ (byte t (a + k) == byte s k) = true
    · have hst : Th.step (litSt s s.size).prog t false ⟨k, a + k, gs, []⟩ [] [] = .on ⟨k + 1, a + k + 1, gs, []⟩ [] [] := by
        simp only [Th.step, lit_ins s hk]
        rw [if_pos (by rfl), hhas, if_pos hc]
      rw [hst]
      have ih := lit_run s t a gs hg m (k + 1) (by omega)
      have hag : agrees s t a (m + 1) k = agrees s t a m (k + 1) := by simp [agrees, hc.1, hc.2]
      rw [hag]
      exact ih
    · have hst : Th.step (litSt s s.size).prog t false ⟨k, a + k, gs, []⟩ [] [] = .off [] [] := by
        simp only [Th.step, lit_ins s hk]
        rw [if_pos (by rfl), hhas, if_neg hc]
      rw [hst]
      have hag : agrees s t a (m + 1) k = false := by
        simp only [agrees, Bool.and_eq_false_iff]
        by_cases h1 : a + k < t.size
        · left; right
          cases hq : (byte t (a + k) == byte s k) with
          | true => exact absurd ⟨h1, hq⟩ hc
          | false => rfl
        · left; left; simpa using h1
      rw [hag]
      simp [vrun]

theorem agrees_iff (s t : ByteArray) (a : Nat) : ∀ (m k : Nat), agrees s t a m k = true ↔ ∀ j, k ≤ j → j < k + m → a + j < t.size ∧ byte t (a + j) = byte s j
  | 0, k => by simp [agrees]; intro j h1 h2; omega
  | m + 1, k => by
    simp only [agrees, Bool.and_eq_true, decide_eq_true_eq, beq_iff_eq, agrees_iff s t a m (k + 1)]
    constructor
    · rintro ⟨⟨h1, h2⟩, h3⟩ j h4 h5
      by_cases e : j = k
      · subst e; exact ⟨h1, h2⟩
      · exact h3 j (by omega) (by omega)
    · intro h
      exact ⟨h k (by omega) (by omega), fun j h1 h2 => h j (by omega) (by omega)⟩

theorem byte_get (s : ByteArray) {j : Nat} (h : j < s.size) : byte s j = (s.data.toList[j]'(by simpa using h)).toNat := by
  unfold byte
  rw [dif_pos h]
  rfl

theorem agrees_stands (s t : ByteArray) (a : Nat) (hs : 0 < s.size) : agrees s t a s.size 0 = standsAt s t a := by
  rw [Bool.eq_iff_iff, agrees_iff]
  simp only [standsAt, Bool.and_eq_true, decide_eq_true_eq, beq_iff_eq, ByteArray.toList_eq]
  constructor
  · intro h
    have h1 : a + s.size ≤ t.size := by have := (h (s.size - 1) (by omega) (by omega)).1; omega
    refine ⟨h1, ?_⟩
    apply List.ext_getElem
    · simp; omega
    · intro j h2 h3
      have hj : j < s.size := by simpa using h3
      have h4 := h j (by omega) (by omega)
      rw [byte_get s hj, byte_get t h4.1] at h4
      have h5 := UInt8.toNat_inj.1 h4.2
      rw [← h5]
      simp
  · rintro ⟨h1, h2⟩ j _ hj
    have hj : j < s.size := by omega
    refine ⟨by omega, ?_⟩
    rw [byte_get s hj, byte_get t (by omega)]
    have h3 := congrArg (fun l => l[j]?) h2
    simp only [ByteArray.data_extract, Array.toList_extract] at h3
    have hj3 : j < s.data.toList.length := by simpa using hj
    have hj4 : a + j < t.data.toList.length := by simp; omega
    have h4 : ((t.data.toList.drop a).take s.size)[j]? = some (t.data.toList[a + j]'hj4) := by
      rw [List.getElem?_take_of_lt hj, List.getElem?_drop, List.getElem?_eq_getElem hj4]
    have h5 : (List.extract t.data.toList a (a + s.size)) = (t.data.toList.drop a).take s.size := by simp
    rw [h5, h4, List.getElem?_eq_getElem hj3] at h3
    exact congrArg UInt8.toNat (Option.some.inj h3)

/-- Where the text is found, as two numbers. -/
def spanOf (s : ByteArray) : Option Nat → Option (List Int)
  | some i => some [(i : Int), ((i + s.size : Nat) : Int)]
  | none => none

theorem first_pos (a : Nat) : Th.first 0 0 a = ⟨0, a, [(a : Int), -1], []⟩ := by
  simp [Th.first, filled, List.replicate]

theorem lit_found (s t : ByteArray) (hs : 0 < s.size) : ∀ (m a : Nat), a + m = t.size + 1 → VFound (litSt s s.size).prog t 0 0 a [] (spanOf s (firstGo s t a a))
  | 0, a, h => by
    have e : firstGo s t a a = none := by rw [firstGo, dif_neg (by omega)]
    rw [e]
    exact .stop (by omega)
  | m + 1, a, h => by
    have hr := lit_run s t a [(a : Int), -1] rfl s.size 0 (by omega)
    have hrun : vrun (litSt s s.size).prog t false (s.size + 3) none [Th.first 0 0 a] [] = some (if agrees s t a s.size 0 = true then some [(a : Int), ((a + s.size : Nat) : Int)] else none, []) := by
      rw [first_pos]
      unfold vrun
      exact hr
    rw [agrees_stands s t a hs] at hrun
    by_cases hst : standsAt s t a = true
    · have hlt : a < t.size := by
        simp only [standsAt, Bool.and_eq_true, decide_eq_true_eq] at hst
        omega
      have e : firstGo s t a a = some a := by rw [firstGo, dif_pos hlt, if_pos ⟨Nat.le_refl _, hst⟩]
      rw [e]
      rw [if_pos hst] at hrun
      exact .hit (by omega) hrun rfl
    · rw [if_neg hst] at hrun
      have ih := lit_found s t hs m (a + 1) (by omega)
      have e : firstGo s t a a = firstGo s t (a + 1) (a + 1) := by
        have key : ∀ (q i : Nat), i + q = t.size → a + 1 ≤ i → firstGo s t a i = firstGo s t (a + 1) i := by
          intro q
          induction q with
          | zero => intro i hi _; rw [firstGo, dif_neg (by omega), firstGo, dif_neg (by omega)]
          | succ q ihq =>
            intro i hi hai
            rw [firstGo, dif_pos (by omega)]
            conv => rhs; rw [firstGo, dif_pos (by omega)]
            rw [ihq (i + 1) (by omega) (by omega)]
            by_cases hx : standsAt s t i = true
            · rw [if_pos ⟨by omega, hx⟩, if_pos ⟨by omega, hx⟩]
            · rw [if_neg (fun h => hx h.2), if_neg (fun h => hx h.2)]
        by_cases hlt : a < t.size
        · rw [firstGo, dif_pos hlt, if_neg (fun h => hst h.2)]
          exact key (t.size - (a + 1)) (a + 1) (by omega) (Nat.le_refl _)
        · rw [firstGo, dif_neg hlt, firstGo, dif_neg (by omega)]
      rw [e]
      exact .miss (by omega) hrun ih

theorem firstGo_from (s t : ByteArray) (b : Nat) (hb : b ≤ t.size) : firstGo s t b 0 = firstGo s t b b := by
  have key : ∀ (q i : Nat), i + q = b → firstGo s t b i = firstGo s t b b := by
    intro q
    induction q with
    | zero => intro i hi; rw [show i = b by omega]
    | succ q ih =>
      intro i hi
      rw [firstGo, dif_pos (by omega), if_neg (fun h => by omega)]
      exact ih (i + 1) (by omega)
  exact key b 0 (by omega)

theorem firstGo_some (s t : ByteArray) (b : Nat) : ∀ (q i r : Nat), i + q = t.size → firstGo s t b i = some r → standsAt s t r = true ∧ b ≤ r ∧ r < t.size
  | 0, i, r, h, hr => by rw [firstGo, dif_neg (by omega)] at hr; cases hr
  | q + 1, i, r, h, hr => by
    rw [firstGo, dif_pos (by omega)] at hr
    split at hr
    · rename_i hc; cases hr; exact ⟨hc.2, hc.1, by omega⟩
    · exact firstGo_some s t b q (i + 1) r (by omega) hr

end Go.Proofs.Ytfgghbideoehjaa

namespace Go.Proofs.Ytfgghbideoehjaa
set_option linter.unusedVariables false
set_option linter.unusedSimpArgs false
set_option maxRecDepth 100000

theorem special_plain : (List.range 256).all (fun c => !isSpecial c || (!isLetter c && !isDigit c)) = true := by decide +kernel

/-- The bytes of a text. -/
def ubs (s : ByteArray) (k : Nat) : List UInt8 := (List.range k).map (ub s)

theorem litFrom_esc (s : ByteArray) (k : Nat) (hk : k < s.size) (acc : List UInt8) : litFrom (escB s) (escTo s k).length acc = litFrom (escB s) (escTo s (k + 1)).length (acc ++ [ub s k]) := by
  have hb := byte_lt s k
  have hl : (escTo s (k + 1)).length = (escTo s k).length + (esc1 s k).length := by rw [escTo_succ, List.length_append]
  have hub : ∀ (j c : Nat), byte (escB s) j = c → byte s k = c → ub (escB s) j = ub s k := fun j c h1 h2 => by unfold ub; rw [h1, h2]
  by_cases hsp : isSpecial (byte s k) = true
  · have he : esc1 s k = [92, ub s k] := by simp [esc1, hsp]
    have b0 := esc_byte s hk 0 (by rw [he]; simp)
    have b1 := esc_byte s hk 1 (by rw [he]; simp)
    have hf := List.all_eq_true.1 special_plain (byte s k) (List.mem_range.2 hb)
    simp only [hsp, Bool.not_true, Bool.false_or, Bool.and_eq_true, Bool.not_eq_true'] at hf
    have e0 : byte (escB s) (escTo s k).length = 92 := by simpa [he, escB] using b0
    have e1 : byte (escB s) ((escTo s k).length + 1) = byte s k := by
      have h9 : ([92, ub s k] : List UInt8)[1].toNat = byte s k := by simp [ub_nat]
      rw [← h9]
      simpa [he, escB] using b1
    have hsz : (escTo s k).length + 1 < (escB s).size := by
      obtain ⟨r, hr⟩ := escTo_split s k s.size hk
      show _ < (escTo s s.size).toArray.size
      rw [List.size_toArray, hr, he]
      simp
    have hl2 : (escTo s (k + 1)).length = (escTo s k).length + 2 := by rw [hl, he]; rfl
    rw [litFrom, dif_pos (by omega), if_pos ⟨e0, hsz, by rw [e1]; exact hf.1, by rw [e1]; exact hf.2⟩, hl2, hub _ _ e1 rfl]
  · have he : esc1 s k = [ub s k] := by simp [esc1, hsp]
    have b0 := esc_byte s hk 0 (by rw [he]; simp)
    have e0 : byte (escB s) (escTo s k).length = byte s k := by
      have h9 : ([ub s k] : List UInt8)[0].toNat = byte s k := by simp [ub_nat]
      rw [← h9]
      simpa [he, escB] using b0
    have hsz : (escTo s k).length < (escB s).size := by
      obtain ⟨r, hr⟩ := escTo_split s k s.size hk
      show _ < (escTo s s.size).toArray.size
      rw [List.size_toArray, hr, he]
      simp
    have hl2 : (escTo s (k + 1)).length = (escTo s k).length + 1 := by rw [hl, he]; rfl
    have hn : isSpecial (byte s k) = false := by simpa using hsp
    have hn92 : byte s k ≠ 92 := fun e => by rw [e] at hn; exact absurd hn (by decide)
    rw [litFrom, dif_pos hsz, if_neg (by rintro ⟨h, _⟩; exact hn92 (by rw [← e0]; exact h)), if_neg (by rw [e0]; exact hsp), hl2, hub _ _ e0 rfl]

theorem litFrom_escB (s : ByteArray) : litFrom (escB s) 0 [] = some (ubs s s.size) := by
  have key : ∀ (k : Nat), k ≤ s.size → litFrom (escB s) 0 [] = litFrom (escB s) (escTo s k).length (ubs s k) := by
    intro k
    induction k with
    | zero => intro _; rfl
    | succ k ih =>
      intro h
      rw [ih (by omega), litFrom_esc s k (by omega)]
      congr 1
      simp [ubs, List.range_succ]
  rw [key s.size (Nat.le_refl _), litFrom, dif_neg]
  show ¬ (escTo s s.size).length < (escTo s s.size).toArray.size
  simp

theorem ubs_all (s : ByteArray) : (⟨(ubs s s.size).toArray⟩ : ByteArray) = s := by
  apply ext_ba
  show (ubs s s.size).toArray.toList = s.data.toList
  simp only [ubs]
  apply List.ext_getElem
  · simp
  · intro j h1 h2
    have hj : j < s.size := by simpa using h2
    simp [ub, byte, hj]
    rfl

end Go.Proofs.Ytfgghbideoehjaa

namespace Go.Proofs.Ytfgghbideoehjaa
open Go.ChangeShapes Go.WideShapes Go.ChangeAt Go.RowKit
set_option linter.unusedVariables false
set_option linter.unusedSimpArgs false
set_option maxRecDepth 100000

/-- awake is true. -/
def AwakeOk : Prop := ∀ w : World, Calls Try.prog 10 #[] w fun e w' => e = .returned (.bool true) ∧ Below w.heap.size w w'

set_option maxHeartbeats 1000000 in
theorem literals_big (hA : AwakeOk) (w : World) (p s t : ByteArray) (a : Int) (h : 300 < p.size ∨ 30 < s.size ∨ 60 < t.size) :
    Calls Try.prog 7 #[.string p, .string s, .string t, .int .i64 a] w fun e w' => e = .returned (.bool true) ∧ Below w.heap.size w w' := by
  have HAW := Lib.hid (hA w)
  clear hA
  by_cases h1 : (p.size : Int) > 300
  · clear h
    go_enter Try.func7, Try.ntmps7
    go_wp2_with (fail)
    refine HAW.out.mono ?_
    rintro e w' ⟨rfl, hb⟩
    dsimp only
    have HB := Lib.hid hb
    clear hb
    go_wp2
    go_ret
    exact ⟨rfl, HB.out⟩
  · by_cases h2 : (s.size : Int) > 30
    · clear h
      go_enter Try.func7, Try.ntmps7
      go_wp2_with (fail)
      refine HAW.out.mono ?_
      rintro e w' ⟨rfl, hb⟩
      dsimp only
      have HB := Lib.hid hb
      clear hb
      go_wp2
      go_ret
      exact ⟨rfl, HB.out⟩
    · have h3 : (t.size : Int) > 60 := by omega
      clear h
      go_enter Try.func7, Try.ntmps7
      go_wp2_with (fail)
      refine HAW.out.mono ?_
      rintro e w' ⟨rfl, hb⟩
      dsimp only
      have HB := Lib.hid hb
      clear hb
      go_wp2
      go_ret
      exact ⟨rfl, HB.out⟩

set_option maxHeartbeats 2000000 in
theorem literals_small (hA : AwakeOk) (w : World) (p s t : ByteArray) (a : Int) (hp : p.size ≤ 300) (hs : s.size ≤ 30) (ht : t.size ≤ 60) :
    Calls Try.prog 7 #[.string p, .string s, .string t, .int .i64 a] w fun e w' => e = .returned (.bool true) ∧ Below w.heap.size w w' := by
  have h1 : ¬ (p.size : Int) > 300 := by omega
  have h2 : ¬ (s.size : Int) > 30 := by omega
  have h3 : ¬ (t.size : Int) > 60 := by omega
  have hes : (escB s).size ≤ 1000 := by
    have := escTo_len s s.size
    show (escTo s s.size).toArray.size ≤ _
    rw [List.size_toArray]; omega
  have HA := Lib.hid hA
  have HLE := Lib.hid (litFrom_escB s)
  have HPAT := Lib.hid (lit_pat s (by omega))
  clear hA
  obtain ⟨A, b, hAb⟩ : ∃ A b, litRes (litFrom p 0 []) = .tuple #[.string A, .bool b] := by
    cases litFrom p 0 [] with
    | none => exact ⟨_, _, rfl⟩
    | some l => exact ⟨_, _, rfl⟩
  have HL := Lib.hid hAb
  clear hAb
  have hbig : (s.toList.isEmpty = true ∨ a < 0 ∨ a > (t.size : Int)) ∨ (s.toList.isEmpty = false ∧ ¬ a < 0 ∧ ¬ a > (t.size : Int)) := by
    cases s.toList.isEmpty
    · by_cases q1 : a < 0
      · exact .inl (.inr (.inl q1))
      · by_cases q2 : a > (t.size : Int)
        · exact .inl (.inr (.inr q2))
        · exact .inr ⟨rfl, q1, q2⟩
    · exact .inl (.inl rfl)
  go_enter Try.func7, Try.ntmps7
  go_wp2_with (fail)
  refine (literal_fn w p (by omega)).mono ?_
  rintro e w1 ⟨rfl, hb1⟩
  rw [HL.out]
  have HB1 := Lib.hid hb1
  clear hb1
  dsimp only
  go_wp2_with (fail)
  refine (refLiteral_fn w1 p (by omega)).mono ?_
  rintro e w1' ⟨rfl, rfl⟩
  rw [HL.out]
  dsimp only
  go_wp2_with (fail)
  refine (escape_fn w1' s (by omega)).mono ?_
  rintro e w2 ⟨rfl, hb2⟩
  have HB2 := Lib.hid hb2
  clear hb2
  rw [show (⟨(escTo s s.size).toArray⟩ : ByteArray) = escB s from rfl]
  dsimp only
  go_wp2_with (fail)
  refine (literal_fn w2 (escB s) (by omega)).mono ?_
  rintro e w3 ⟨rfl, hb3⟩
  rw [HLE.out]
  have HB3 := Lib.hid hb3
  clear hb3
  dsimp only [litRes]
  rw [ubs_all s]
  have hB123 : Below w.heap.size w w3 := (HB1.out.trans (HB2.out.mono HB1.out.size)).trans (HB3.out.mono (Nat.le_trans HB1.out.size HB2.out.size))
  have HB123 := Lib.hid hB123
  clear hB123
  rcases hbig with hbig | ⟨q0, q1, q2⟩
  · have HBIG := Lib.hid hbig
    clear hbig
    go_upto_region 9 with (first | (go_at_call 22; refine (refEscape_fn _ s (by omega)).mono ?_; rintro e w' ⟨rfl, rfl⟩; rw [show (⟨(escTo s s.size).toArray⟩ : ByteArray) = escB s from rfl]; dsimp only) | (go_at_call 12; refine (valid_any _ _ _ _ HPAT.out).mono ?_; rintro e w' ⟨rfl, hb4⟩; dsimp only; have HB4 := Lib.hid hb4; clear hb4))
    have HB14 := Lib.hid (HB123.out.trans (HB4.out.mono HB123.out.size))
    by_cases q0 : s.toList.isEmpty = true
    · go_wp2_with (fail)
      refine (HA.out _).mono ?_
      rintro e w5 ⟨rfl, hb5⟩
      dsimp only
      have HB5 := Lib.hid hb5
      clear hb5
      go_wp2
      go_ret
      exact ⟨rfl, HB14.out.trans (HB5.out.mono HB14.out.size)⟩
    · have q0' : s.toList.isEmpty = false := by simpa using q0
      by_cases q1 : a < 0
      · go_wp2_with (fail)
        refine (HA.out _).mono ?_
        rintro e w5 ⟨rfl, hb5⟩
        dsimp only
        have HB5 := Lib.hid hb5
        clear hb5
        go_wp2
        go_ret
        exact ⟨rfl, HB14.out.trans (HB5.out.mono HB14.out.size)⟩
      · have q2 : a > (t.size : Int) := by
          rcases HBIG.out with h | h | h
          · exact absurd h q0
          · exact absurd h q1
          · exact h
        go_wp2_with (fail)
        refine (HA.out _).mono ?_
        rintro e w5 ⟨rfl, hb5⟩
        dsimp only
        have HB5 := Lib.hid hb5
        clear hb5
        go_wp2
        go_ret
        exact ⟨rfl, HB14.out.trans (HB5.out.mono HB14.out.size)⟩
  · go_upto_region 9 with (first | (go_at_call 22; refine (refEscape_fn _ s (by omega)).mono ?_; rintro e w' ⟨rfl, rfl⟩; rw [show (⟨(escTo s s.size).toArray⟩ : ByteArray) = escB s from rfl]; dsimp only) | (go_at_call 12; refine (valid_any _ _ _ _ HPAT.out).mono ?_; rintro e w' ⟨rfl, hb4⟩; dsimp only; have HB4 := Lib.hid hb4; clear hb4))
    obtain ⟨k, rfl⟩ : ∃ k : Nat, a = (k : Int) := ⟨a.toNat, by omega⟩
    have hk : k ≤ t.size := by omega
    have hs0 : 0 < s.size := by
      rcases Nat.eq_zero_or_pos s.size with h | h
      · exfalso
        rw [ByteArray.toList_eq] at q0
        have h9 : s.data.toList.length = 0 := by simpa using h
        rw [List.length_eq_zero_iff.1 h9] at q0
        cases q0
      · exact h
    have HB14 := Lib.hid (HB123.out.trans (HB4.out.mono HB123.out.size))
    have hvf := lit_found s t hs0 (t.size + 1 - k) k (by omega)
    have hfind := fun wx : World => find_any wx (escB s) t (litSt s s.size) 0 HPAT.out (by omega) k hk _ (by rw [lit_marks]; exact hvf)
    have HFIND := Lib.hid hfind
    have HGF := Lib.hid (firstGo_from s t k hk)
    have hsome := firstGo_some s t k (t.size - k) k
    clear hvf hfind
    cases hfg : firstGo s t k k with
    | none =>
      have HFG := Lib.hid hfg
      clear hfg hsome
      go_wp2_with (fail)
      refine (HFIND.out _).mono ?_
      rw [HFG.out]
      rintro e w5 ⟨hb5, rfl⟩
      dsimp only
      have HB5 := Lib.hid hb5
      clear hb5
      go_wp2_with (fail)
      refine (first_fn w5 s t (by omega) hs0 (by omega) k (by omega)).mono ?_
      rw [HGF.out, HFG.out]
      rintro e w6 ⟨rfl, rfl⟩
      dsimp only [firstInt]
      go_wp2_with (fail)
      refine (HA.out _).mono ?_
      rintro e w7 ⟨rfl, hb7⟩
      dsimp only
      have HB7 := Lib.hid hb7
      clear hb7
      go_wp2
      go_ret
      have h15 := HB14.out.trans (HB5.out.mono HB14.out.size)
      exact ⟨rfl, h15.trans (HB7.out.mono h15.size)⟩
    | some i =>
      have hi := hsome i (by omega) hfg
      have HFG := Lib.hid hfg
      have hi1 : (0 : Int) ≤ (i : Int) := by omega
      have hi2 : ¬ (i : Int) < 0 := by omega
      have hi3 : i < 1000 := by omega
      clear hfg hsome hi
      go_wp2_with (fail)
      refine (HFIND.out _).mono ?_
      rw [HFG.out]
      rintro e w5 ⟨hb5, sv, rfl, hrow⟩
      dsimp only
      rw [show ([(i : Int), ((i + s.size : Nat) : Int)].length / 2) = 1 from by simp] at hrow
      have hrow1 : w5.ownsRow 0 30 2 sv 1 [intV (i : Int), intV ((i + s.size : Nat) : Int)] := ownsRow_mono hrow (Nat.zero_le _)
      obtain ⟨g, c, rfl⟩ := ownsRow_succ' (n := 0) hrow1
      have x0 : w5.cell? ⟨g, 0, none⟩ = some (.int .i64 (i : Int)) := by
        rw [World.ownsRow.cellAt hrow1 0 (by omega)]; rfl
      have x1 : w5.cell? ⟨g, 1, none⟩ = some (.int .i64 ((i : Int) + (s.size : Int))) := by
        rw [World.ownsRow.cellAt hrow1 1 (by omega)]; rfl
      have heq := fun (wx : World) => span_eq (i : Int) ((i : Int) + (s.size : Int)) wx
      have HB5 := Lib.hid hb5
      clear hb5 hrow hrow1
      go_wp2_with (fail)
      refine (first_fn w5 s t (by omega) hs0 (by omega) k (by omega)).mono ?_
      rw [HGF.out, HFG.out]
      rintro e w6 ⟨rfl, rfl⟩
      dsimp only [firstInt]
      go_wp2_with (fail)
      refine (HA.out _).mono ?_
      rintro e w7 ⟨rfl, hb7⟩
      dsimp only
      have HB7 := Lib.hid hb7
      clear hb7
      go_wp2
      go_ret
      have h15 := HB14.out.trans (HB5.out.mono HB14.out.size)
      exact ⟨rfl, h15.trans (HB7.out.mono h15.size)⟩

end Go.Proofs.Ytfgghbideoehjaa
