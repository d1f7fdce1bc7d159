/-
  Small laws: lists of instructions that are turned in their middle, lists without doubles, where an instruction may lead.
-/
import Derived.Test.YtfgghbideoehjaaReadD
import Derived.Test.YtfgghbideoehjaaCxCToCxD
namespace Go.Proofs.Ytfgghbideoehjaa
open Go.ChangeShapes Go.WideShapes Go.ChangeAt Go.RowKit
set_option linter.unusedVariables false
set_option linter.unusedSimpArgs false
set_option maxRecDepth 100000

def splits (l : List Ins) : Nat := l.countP fun i => decide (i.op = 3)
@[simp] theorem splits_app (l m : List Ins) : splits (l ++ m) = splits l + splits m := by simp [splits, List.countP_append]
theorem modify_mid (f : Ins → Ins) (q : List Ins) (i : Ins) : ∀ p : List Ins, (p ++ i :: q).modify p.length f = p ++ f i :: q
  | [] => by simp
  | a :: p => by simp [List.modify_succ_cons, modify_mid f q i p]
theorem modify_left (f : Ins → Ins) (q : List Ins) : ∀ (p : List Ins) (k : Nat), k < p.length → (p ++ q).modify k f = p.modify k f ++ q
  | [], k, h => by simp at h
  | a :: p, 0, h => by simp
  | a :: p, k + 1, h => by
    simp only [List.length_cons, Nat.add_lt_add_iff_right] at h
    simp [List.modify_succ_cons, modify_left f q p k h]
theorem setA_mid (p q : List Ins) (i : Ins) (v : Nat) : setA (p ++ i :: q) p.length v = p ++ { i with a := v } :: q := by
  exact modify_mid _ q i p
theorem setB_mid (p q : List Ins) (i : Ins) (v : Nat) : setB (p ++ i :: q) p.length v = p ++ { i with b := v } :: q := by
  exact modify_mid _ q i p
/-- A choice whose two ways are told. -/
def splitI (lz : Bool) (x y : Nat) : Ins := if lz = true then ⟨3, y, x, .zero, 0⟩ else ⟨3, x, y, .zero, 0⟩
theorem choose_mid (p q : List Ins) (lz : Bool) (a b out : Nat) : chooseP lz out p.length (p ++ ⟨3, a, b, .zero, 0⟩ :: q) = p ++ splitI lz (p.length + 1) out :: q := by
  unfold chooseP splitI
  split
  · rw [setA_mid, setB_mid]
  · rw [setA_mid, setB_mid]
theorem iter_front {α : Type} (f : α → α) : ∀ (n : Nat) (p : α), iter f (n + 1) p = iter f n (f p)
  | 0, p => rfl
  | n + 1, p => by
    show f (iter f (n + 1) p) = f (iter f n (f p))
    rw [iter_front f n p]
theorem opt_ends {f : PM → PM} : ∀ (n : Nat) (e0 : List Nat) (p : PM), iter (optP f) n (e0, p) = (e0 ++ (iter (optP f) n ([], p)).1, (iter (optP f) n ([], p)).2)
  | 0, e0, p => by simp [iter]
  | n + 1, e0, p => by
    rw [iter_front, iter_front]
    simp only [optP]
    rw [opt_ends n (e0 ++ [p.1.length]), opt_ends n ([] ++ [p.1.length])]
    simp [List.append_assoc]
theorem choose_left (p q : List Ins) (lz : Bool) (out k : Nat) (hk : k < p.length) : chooseP lz out k (p ++ q) = chooseP lz out k p ++ q := by
  unfold chooseP setA setB
  split
  · rw [modify_left _ _ _ _ hk, modify_left _ _ _ _ (by simpa using hk)]
  · rw [modify_left _ _ _ _ hk, modify_left _ _ _ _ (by simpa using hk)]
/-- The jumps of earlier branches, told where all of them end. -/
def patchTo (out : Nat) (ends : List Nat) (p : List Ins) : List Ins := ends.foldl (fun p e => setA p e out) p
theorem patchTo_len (out : Nat) (ends : List Nat) : ∀ p, (patchTo out ends p).length = p.length := by
  induction ends with
  | nil => intro p; rfl
  | cons e l ih => intro p; simp only [patchTo, List.foldl_cons] at ih ⊢; rw [ih]; simp
theorem patch_eq (ends : List Nat) : ∀ p : List Ins, patch ends p = patchTo p.length ends p := by
  have h : ∀ (ends : List Nat) (p : List Ins) (n : Nat), p.length = n → ends.foldl (fun p e => setA p e p.length) p = ends.foldl (fun p e => setA p e n) p := by
    intro ends
    induction ends with
    | nil => intro p n _; rfl
    | cons e l ih => intro p n hn; simp only [List.foldl_cons]; rw [hn]; exact ih _ n (by simp [hn])
  exact fun p => h ends p _ rfl
theorem patchTo_left (out : Nat) (ends : List Nat) : ∀ (p q : List Ins), (∀ e ∈ ends, e < p.length) → patchTo out ends (p ++ q) = patchTo out ends p ++ q := by
  induction ends with
  | nil => intro p q h; rfl
  | cons e l ih =>
    intro p q h
    simp only [patchTo, List.foldl_cons] at ih ⊢
    have h1 : setA (p ++ q) e out = setA p e out ++ q := modify_left _ _ _ _ (h e (by simp))
    rw [h1]
    exact ih _ q (fun x hx => by simp; exact h x (by simp [hx]))
theorem nodup_len {α : Type} [DecidableEq α] : ∀ (l m : List α), l.Nodup → (∀ x ∈ l, x ∈ m) → l.length ≤ m.length
  | [], m, _, _ => by simp
  | a :: l, m, hn, hs => by
    have hn' := List.nodup_cons.1 hn
    have ha := hs a (by simp)
    have := nodup_len l (m.erase a) hn'.2 fun x hx => by
      have hxa : x ≠ a := fun e => hn'.1 (by rw [← e]; exact hx)
      exact (List.mem_erase_of_ne hxa).2 (hs x (by simp [hx]))
    rw [List.length_erase_of_mem ha] at this
    have : 0 < m.length := List.length_pos_of_mem ha
    simp
    omega
/-- Is the instruction at k a choice? -/
def isSplit (prog : List Ins) (k : Nat) : Bool := match prog[k]? with | some i => decide (i.op = 3) | none => false
theorem splits_range : ∀ (prog : List Ins), ((List.range prog.length).filter (isSplit prog)).length = splits prog := by
  have h : ∀ (n : Nat) (prog : List Ins), n ≤ prog.length → ((List.range n).filter (isSplit prog)).length = splits (prog.take n) := by
    intro n
    induction n with
    | zero => intro prog _; simp [splits]
    | succ n ih =>
      intro prog hn
      rw [List.range_succ, List.filter_append, List.length_append, ih prog (by omega), List.take_add_one]
      obtain ⟨i, hi⟩ : ∃ i, prog[n]? = some i := ⟨_, List.getElem?_eq_getElem (by omega)⟩
      rw [hi]
      simp only [splits_app, Option.toList]
      congr 1
      by_cases h3 : i.op = 3
      · simp [isSplit, hi, h3, splits]
      · simp [isSplit, hi, h3, splits]
  intro prog
  rw [h prog.length prog (Nat.le_refl _), List.take_length]
theorem flat_len {α β : Type} (f : α → List β) (c : Nat) (hf : ∀ x, (f x).length = c) : ∀ l : List α, (l.flatMap f).length = l.length * c
  | [] => by simp
  | a :: l => by rw [List.flatMap_cons, List.length_append, flat_len f c hf l, hf, List.length_cons, Nat.add_mul]; omega
/-- Where an instruction may lead. -/
def succs (k : Nat) (x : Ins) : List Nat := if x.op = 3 then [x.a, x.b] else if x.op = 4 then [x.a] else if x.op = 9 then [] else [k + 1]
theorem app_get {α : Type} {s t : List α} {k : Nat} {x : α} (h : (s ++ t)[k]? = some x) : (k < s.length ∧ s[k]? = some x) ∨ ∃ j, k = s.length + j ∧ t[j]? = some x := by
  by_cases hk : k < s.length
  · rw [List.getElem?_append_left hk] at h; exact .inl ⟨hk, h⟩
  · rw [List.getElem?_append_right (by omega)] at h; exact .inr ⟨k - s.length, by omega, h⟩
theorem get_lt {α : Type} {l : List α} {k : Nat} {x : α} (h : l[k]? = some x) : k < l.length := by
  rcases Nat.lt_or_ge k l.length with h1 | h1
  · exact h1
  · rw [List.getElem?_eq_none h1] at h; cases h
theorem app_r {α : Type} {s t : List α} (j : Nat) : (s ++ t)[s.length + j]? = t[j]? := by rw [List.getElem?_append_right (by omega)]; congr 1; omega
theorem splitI_op (lz : Bool) (x y : Nat) : (splitI lz x y).op = 3 := by unfold splitI; split <;> rfl
theorem splitI_succs {lz : Bool} {x y k j : Nat} : j ∈ succs k (splitI lz x y) ↔ j = x ∨ j = y := by
  unfold succs splitI; split <;> simp [or_comm]

end Go.Proofs.Ytfgghbideoehjaa
