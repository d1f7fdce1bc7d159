/-
  An escaped text as a pattern: its bytes, the parser's run over it.
  An escaped text as a pattern: it is read, compiled to one instruction a byte.
-/
import Derived.Test.YtfgghbideoehjaaLitCToLitF
import Derived.Test.YtfgghbideoehjaaStepBToReadA
import Derived.Test.YtfgghbideoehjaaCompAToCompD
import Derived.Test.YtfgghbideoehjaaVmUToVmV
namespace Go.Proofs.Ytfgghbideoehjaa
set_option linter.unusedVariables false
set_option linter.unusedSimpArgs false
set_option maxRecDepth 100000

theorem single_has {c x : Nat} (hc : c < 256) (hx : x < 256) : (BSet.zero.range c c).has x = (x == c) := by
  have e : BSet.zero.range c c = BSet.zero.add c := by
    unfold BSet.range BSet.adds
    rw [show max c (c + 1) - c = 1 by omega]
    rfl
  rw [e]
  unfold BSet.has
  rw [← Nat.testBit_eq_decide_div_mod_eq]
  have hw : (BSet.zero.add c).word (x / 64) = if x / 64 = c / 64 then 2 ^ (c % 64) else 0 := by
    have h1 : c / 64 = 0 ∨ c / 64 = 1 ∨ c / 64 = 2 ∨ c / 64 = 3 := by omega
    have h2 : x / 64 = 0 ∨ x / 64 = 1 ∨ x / 64 = 2 ∨ x / 64 = 3 := by omega
    rcases h1 with h1 | h1 | h1 | h1 <;> rcases h2 with h2 | h2 | h2 | h2 <;> simp [BSet.add, BSet.setWord, BSet.word, BSet.zero, h1, h2]
  rw [hw]
  by_cases h : x / 64 = c / 64
  · rw [if_pos h, Nat.testBit_two_pow, Bool.eq_iff_iff]
    simp
    omega
  · rw [if_neg h, Bool.eq_iff_iff]
    simp
    omega

/-- The escaped text. -/
def escB (s : ByteArray) : ByteArray := ⟨(escTo s s.size).toArray⟩

theorem byte_list (l : List UInt8) (j : Nat) : byte ⟨l.toArray⟩ j = ((l[j]?).map UInt8.toNat).getD 0 := by
  unfold byte
  by_cases h : j < l.length
  · have h2 : j < (⟨l.toArray⟩ : ByteArray).size := by show j < l.toArray.size; simpa using h
    rw [dif_pos h2, List.getElem?_eq_getElem h]
    rfl
  · have h2 : ¬ j < (⟨l.toArray⟩ : ByteArray).size := by show ¬ j < l.toArray.size; simpa using h
    rw [dif_neg h2, List.getElem?_eq_none (by omega)]
    rfl

theorem escTo_split (s : ByteArray) (k : Nat) : ∀ n, k < n → ∃ r, escTo s n = escTo s k ++ esc1 s k ++ r
  | 0, h => by omega
  | n + 1, h => by
    by_cases e : k = n
    · subst e; exact ⟨[], by rw [escTo_succ]; simp⟩
    · obtain ⟨r, hr⟩ := escTo_split s k n (by omega)
      exact ⟨r ++ esc1 s n, by rw [escTo_succ, hr]; simp⟩

theorem esc_byte (s : ByteArray) {k n : Nat} (h : k < n) (j : Nat) (hj : j < (esc1 s k).length) : byte ⟨(escTo s n).toArray⟩ ((escTo s k).length + j) = ((esc1 s k)[j]'hj).toNat := by
  obtain ⟨r, hr⟩ := escTo_split s k n h
  rw [byte_list, hr, List.append_assoc, List.getElem?_append_right (by omega), Nat.add_sub_cancel_left, List.getElem?_append_left hj, List.getElem?_eq_getElem hj]
  rfl

/-- The atoms of a text. -/
def lits (s : ByteArray) (n : Nat) : List Nd := (List.range n).map fun i => .one (BSet.zero.range (byte s i) (byte s i)) .zero
theorem lits_succ (s : ByteArray) (n : Nat) : lits s (n + 1) = lits s n ++ [.one (BSet.zero.range (byte s n) (byte s n)) .zero] := by
  simp [lits, List.range_succ]
theorem lits_len (s : ByteArray) (n : Nat) : (lits s n).length = n := by simp [lits]

/-- The parser behind so many bytes. -/
def litSt (s : ByteArray) (k : Nat) : PSt := ⟨escB s, (escTo s k).length, [], ⟨0, 0, [], lits s k, decide (0 < k)⟩, 0, 0, 0, [false]⟩

theorem special_facts : (List.range 256).all (fun c => !isSpecial c || (classOf c == none && ((plainOf c).1 == c && (plainOf c).2))) = true := by decide +kernel

theorem litSt_step (s : ByteArray) {k : Nat} (hk : k < s.size) : (litSt s k).step = some (litSt s (k + 1)) := by
  have hb := byte_lt s k
  have hl : (escTo s (k + 1)).length = (escTo s k).length + (esc1 s k).length := by rw [escTo_succ, List.length_append]
  by_cases hsp : isSpecial (byte s k) = true
  · have he : esc1 s k = [92, ub s k] := by simp [esc1, hsp]
    have b0 := esc_byte s hk 0 (by rw [he]; simp)
    have b1 := esc_byte s hk 1 (by rw [he]; simp)
    have hf := List.all_eq_true.1 special_facts (byte s k) (List.mem_range.2 hb)
    simp only [hsp, Bool.not_true, Bool.false_or, Bool.and_eq_true, beq_iff_eq] at hf
    obtain ⟨hc, hp1, hp2⟩ := hf
    have e0 : byte (escB s) (escTo s k).length = 92 := by simpa [he, escB] using b0
    have e1 : byte (escB s) ((escTo s k).length + 1) = byte s k := by
      have h9 : ([92, ub s k] : List UInt8)[1].toNat = byte s k := by simp [ub_nat]
      rw [← h9]
      simpa [he, escB] using b1
    have hsz : (escTo s k).length + 1 < (escB s).size := by
      obtain ⟨r, hr⟩ := escTo_split s k s.size hk
      show _ < (escTo s s.size).toArray.size
      rw [List.size_toArray, hr, he]
      simp
    have hl2 : (escTo s (k + 1)).length = (escTo s k).length + 2 := by rw [hl, he]; rfl
    unfold PSt.step litSt
    simp only [e0, e1, if_true]
    rw [if_pos ⟨hsz, hc, hp2⟩]
    simp only [PSt.put, hp1, hl2, lits_succ]
    simp
  · have he : esc1 s k = [ub s k] := by simp [esc1, hsp]
    have b0 := esc_byte s hk 0 (by rw [he]; simp)
    have e0 : byte (escB s) (escTo s k).length = byte s k := by
      have h9 : ([ub s k] : List UInt8)[0].toNat = byte s k := by simp [ub_nat]
      rw [← h9]
      simpa [he, escB] using b0
    have hl2 : (escTo s (k + 1)).length = (escTo s k).length + 1 := by rw [hl, he]; rfl
    have hn : isSpecial (byte s k) = false := by simpa using hsp
    rw [special_iff hb] at hn
    simp only [List.contains_cons, List.contains_nil, Bool.or_eq_false_iff, beq_eq_false_iff_ne, ne_eq] at hn
    obtain ⟨n1, n2, n3, n4, n5, n6, n7, n8, n9, n10, n11, n12, _⟩ := hn
    unfold PSt.step litSt
    simp only [e0]
    rw [if_neg n1, if_neg n3, if_neg n4, if_neg n5, if_neg n6, if_neg n12, if_neg (by omega)]
    simp only [PSt.put, hl2, lits_succ]
    simp

end Go.Proofs.Ytfgghbideoehjaa

namespace Go.Proofs.Ytfgghbideoehjaa
set_option linter.unusedVariables false
set_option linter.unusedSimpArgs false
set_option maxRecDepth 100000

theorem litSt_small (s : ByteArray) {k : Nat} (hk : k ≤ 1000) : (litSt s k).smallB = true := by
  have h := escTo_len s k
  simp only [PSt.smallB, litSt, lits_len, List.length_nil, List.getLast?_nil, List.length_cons, Bool.and_eq_true, decide_eq_true_eq, Bool.and_true]
  refine ⟨⟨⟨⟨⟨⟨⟨⟨?_, ?_⟩, ?_⟩, ?_⟩, ?_⟩, ?_⟩, ?_⟩, ?_⟩, ?_⟩ <;> first | omega | (apply decide_eq_true; omega)

theorem escTo_mono (s : ByteArray) {k : Nat} (hk : k < s.size) : (escTo s k).length < (escB s).size := by
  obtain ⟨r, hr⟩ := escTo_split s k s.size hk
  show _ < (escTo s s.size).toArray.size
  rw [List.size_toArray, hr]
  have : 0 < (esc1 s k).length := by unfold esc1; split <;> simp
  simp
  omega

theorem litSt_runs (s : ByteArray) (hs : s.size ≤ 1000) : ∀ (m k : Nat), k + m = s.size → Runs (litSt s k) 0 (litSt s s.size) 0
  | 0, k, h => by
    have e : k = s.size := by omega
    subst e
    exact .done rfl (litSt_small s hs)
  | m + 1, k, h => by
    have hk : k < s.size := by omega
    refine .more (escTo_mono s hk) (litSt_small s (by omega)) (by omega) (litSt_step s hk) ?_
    have hd : deeper (litSt s k) (litSt s (k + 1)) 0 = 0 := by
      unfold deeper
      split
      · rfl
      · rfl
    rw [hd]
    exact litSt_runs s hs m (k + 1) (by omega)

theorem start_lit (s : ByteArray) : PSt.start (escB s) = litSt s 0 := rfl

theorem capSum_lits (s : ByteArray) (n : Nat) (hn : n ≤ 1000) : capSum (Nd.sizes (lits s n)) = n := by
  have key : ∀ (m : Nat), m ≤ 1000 → capSum (Nd.sizes (lits s m)) = m := by
    intro m
    induction m with
    | zero => intro _; simp [lits, Nd.sizes, capSum]
    | succ m ih =>
      intro hm
      have hsz : ∀ (l l' : List Nd), Nd.sizes (l ++ l') = Nd.sizes l ++ Nd.sizes l' := by
        intro l l'
        induction l with
        | nil => simp [Nd.sizes]
        | cons a l ih => simp [Nd.sizes, ih]
      have h := ih (by omega)
      rw [lits_succ, hsz]
      unfold capSum at h ⊢
      rw [List.foldl_append, h]
      simp [Nd.sizes, Nd.size]
      omega
  exact key n hn

theorem fines_lits (s : ByteArray) (n : Nat) : Nd.fines (lits s n) := by
  have key : ∀ (l : List Nat), Nd.fines (l.map fun i => Nd.one (BSet.zero.range (byte s i) (byte s i)) .zero) := by
    intro l
    induction l with
    | nil => simp [Nd.fines]
    | cons a l ih => exact ⟨by simp [Nd.fine], ih⟩
  exact key _
theorem covs_lits (s : ByteArray) (n : Nat) : Nd.covs (lits s n) := by
  have key : ∀ (l : List Nat), Nd.covs (l.map fun i => Nd.one (BSet.zero.range (byte s i) (byte s i)) .zero) := by
    intro l
    induction l with
    | nil => simp [Nd.covs]
    | cons a l ih => exact ⟨by simp [Nd.cov], ih⟩
  exact key _

/-- The instruction of a byte. -/
def insOf (s : ByteArray) (i : Nat) : Ins := ⟨0, 0, 0, BSet.zero.range (byte s i) (byte s i), 0⟩

theorem comp_lits (s : ByteArray) (l : List Nat) : ∀ (p : List Ins × Nat), compL (l.map fun i => Nd.one (BSet.zero.range (byte s i) (byte s i)) .zero) p = (p.1 ++ l.map (insOf s), p.2) := by
  induction l with
  | nil => intro p; simp [compL]
  | cons a l ih =>
    intro p
    simp only [List.map_cons, compL]
    rw [ih]
    simp [comp, insOf]

theorem lit_whole (s : ByteArray) (n : Nat) : (litSt s n).top.whole = .branches [.pieces (lits s n)] := rfl

theorem lit_comp (s : ByteArray) (n : Nat) : comp (litSt s n).top.whole ([], 0) = ((List.range n).map (insOf s), 0) := by
  rw [lit_whole]
  simp only [comp, compB, lits]
  rw [comp_lits]
  simp [patch]

theorem lit_pat (s : ByteArray) (hs : s.size ≤ 1000) : Pat (escB s) (litSt s s.size) 0 where
  runs := by rw [start_lit]; exact litSt_runs s hs s.size 0 (by omega)
  size := by
    have := escTo_len s s.size
    show (escTo s s.size).toArray.size ≤ _
    rw [List.size_toArray]; omega
  low := rfl
  groups := Nat.zero_le _
  deep := Nat.zero_le _
  nsize := by
    rw [lit_whole]
    simp only [Nd.size, Nd.sizes]
    rw [capSum_lits s _ hs]
    simp [capSum]
    omega
  fine := by
    rw [lit_whole]
    simp only [Nd.fine, Nd.fines, lits_len]
    exact ⟨by simp, ⟨by omega, fines_lits s _⟩, trivial⟩
  cov := by
    rw [lit_whole]
    simp only [Nd.cov, Nd.covs, lits_len]
    exact ⟨by simp, by simp, ⟨by omega, covs_lits s _⟩, trivial⟩
  clen := by rw [lit_comp]; simp; omega
  cmarks := by rw [lit_comp]; simp
  norefs := by intro b hb; simp [litSt] at hb; exact hb
  rlen := by simp [litSt]
  wf := by
    rw [lit_comp]
    intro i hi
    simp only [List.mem_map] at hi
    obtain ⟨j, _, rfl⟩ := hi
    exact BSet.zero_wf.range (byte_lt s j) (byte_lt s j)

end Go.Proofs.Ytfgghbideoehjaa
