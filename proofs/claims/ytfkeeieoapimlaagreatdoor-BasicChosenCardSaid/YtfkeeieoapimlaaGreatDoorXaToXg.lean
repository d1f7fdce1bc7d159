/-
  Laws of the executor's small words: elimination, maps from numbers, lists; What the executor's abstract values and heaps say of the model's values and. Conditions: none.
-/
import Derived.Test.YtfkeeieoapimlaaGreatDoorXfK
import Derived.RangeFuncLeaves
import Derived.OrdersIn
import Derived.Below
set_option linter.unusedVariables false
set_option linter.unusedSimpArgs false
set_option linter.unusedSectionVars false
section
namespace Go.Xe
section
variable {α β : Type}
@[simp] theorem oE_none (n : β) (s : α → β) : oE n s none = n := rfl
@[simp] theorem oE_some (n : β) (s : α → β) (x : α) : oE n s (some x) = s x := rfl
@[simp] theorem bE_true (f t : β) : bE f t true = t := rfl
@[simp] theorem bE_false (f t : β) : bE f t false = f := rfl
@[simp] theorem lE_nil (n : β) (c : α → List α → β → β) : lE n c [] = n := rfl
@[simp] theorem lE_cons (n : β) (c : α → List α → β → β) (x : α) (l : List α) : lE n c (x :: l) = c x l (lE n c l) := rfl
@[simp] theorem lC_nil (n : β) (c : α → List α → β) : lC n c [] = n := rfl
@[simp] theorem lC_cons (n : β) (c : α → List α → β) (x : α) (l : List α) : lC n c (x :: l) = c x l := rfl
@[simp] theorem nE_zero (z : β) (s : Nat → β → β) : nE z s 0 = z := rfl
@[simp] theorem nE_succ (z : β) (s : Nat → β → β) (n : Nat) : nE z s (n + 1) = s n (nE z s n) := rfl
@[simp] theorem nC_zero (z : β) (s : Nat → β) : nC z s 0 = z := rfl
@[simp] theorem nC_succ (z : β) (s : Nat → β) (n : Nat) : nC z s (n + 1) = s n := rfl
@[simp] theorem iE_nat (p m : Nat → β) (n : Nat) : iE p m (.ofNat n) = p n := rfl
@[simp] theorem iE_neg (p m : Nat → β) (n : Nat) : iE p m (.negSucc n) = m n := rfl
@[simp] theorem bnd_none (f : α → Option β) : bnd none f = none := rfl
@[simp] theorem bnd_some (x : α) (f : α → Option β) : bnd (some x) f = f x := rfl
@[simp] theorem grd_true (o : Option α) : grd true o = o := rfl
@[simp] theorem grd_false (o : Option α) : grd false o = none := rfl
@[simp] theorem ite'_true (x y : α) : ite' true x y = x := rfl
@[simp] theorem ite'_false (x y : α) : ite' false x y = y := rfl
theorem zab {o : Option α} {f : α → Option β} {y : β} : bnd o f = some y ↔ ∃ x, o = some x ∧ f x = some y := by cases o <;> simp
theorem zaf {b : Bool} {o : Option α} {y : α} : grd b o = some y ↔ b = true ∧ o = some y := by cases b <;> simp
theorem zaB (b : Bool) (x y : α) : ite' b x y = if b then x else y := by cases b <;> rfl
theorem zaG (n : Nat) (f : Nat → α) : frc n f = f n := by cases n <;> rfl
@[simp] theorem ite'_tf (b : Bool) : ite' b true false = b := by cases b <;> rfl
@[simp] theorem ite'_ft (b : Bool) : ite' b false true = !b := by cases b <;> rfl
theorem zaj (b c : Bool) : ite' b c false = (b && c) := by cases b <;> rfl
theorem zcE (b c : Bool) : ite' b true c = (b || c) := by cases b <;> rfl
end
section
variable {α : Type}
theorem Tr.get_nil (k : Nat) : (Tr.nil : Tr α).get k = none := rfl
theorem Tr.get_zero (v : Option α) (l r : Tr α) : (Tr.node v l r).get 0 = v := rfl
theorem Tr.get_succ (v : Option α) (l r : Tr α) (m : Nat) : (Tr.node v l r).get (m + 1) = if m % 2 = 0 then l.get (m / 2) else r.get (m / 2) := by
 show bE (r.get (m / 2)) (l.get (m / 2)) (Nat.beq (m % 2) 0) = _
 by_cases h : m % 2 = 0
 ·rw [h]; rfl
 ·rw [if_neg h]
  have : Nat.beq (m % 2) 0 = false := by
   cases hb : Nat.beq (m % 2) 0
   ·rfl
   ·exact absurd (Nat.eq_of_beq_eq_true hb) h
  rw [this]; rfl
theorem Tr.put_nil_zero (x : Option α) (n : Nat) : Tr.put x (n + 1) .nil 0 = .node x .nil .nil := rfl
theorem Tr.put_node_zero (x v : Option α) (n : Nat) (l r : Tr α) : Tr.put x (n + 1) (.node v l r) 0 = .node x l r := rfl
theorem beq_zero (m : Nat) : Nat.beq m 0 = decide (m = 0) := by cases m with
 | zero => rfl
 | succ m => simp; rfl
theorem Tr.put_nil_succ (x : Option α) (n m : Nat) : Tr.put x (n + 1) .nil (m + 1) =
  if m % 2 = 0 then .node none (Tr.put x n .nil (m / 2)) .nil else .node none .nil (Tr.put x n .nil (m / 2)) := by
 show bE (Tr.node none .nil (Tr.put x n .nil (m / 2))) (.node none (Tr.put x n .nil (m / 2)) .nil) (Nat.beq (m % 2) 0) = _
 rw [beq_zero]
 by_cases h : m % 2 = 0 <;> simp [h]
theorem Tr.put_node_succ (x v : Option α) (n m : Nat) (l r : Tr α) : Tr.put x (n + 1) (.node v l r) (m + 1) =
  if m % 2 = 0 then .node v (Tr.put x n l (m / 2)) r else .node v l (Tr.put x n r (m / 2)) := by
 show bE (Tr.node v l (Tr.put x n r (m / 2))) (.node v (Tr.put x n l (m / 2)) r) (Nat.beq (m % 2) 0) = _
 rw [beq_zero]
 by_cases h : m % 2 = 0 <;> simp [h]
theorem Tr.get_put' (x : Option α) : ∀ (n : Nat) (t : Tr α) (k j : Nat), k < n → (Tr.put x n t k).get j = if j = k then x else t.get j
 | 0, _, _, _, h => absurd h (Nat.not_lt_zero _)
 | n + 1, .nil, 0, 0, _ => rfl
 | n + 1, .nil, 0, j + 1, _ => by
   rw [Tr.put_nil_zero, Tr.get_succ, if_neg (Nat.succ_ne_zero j)]
   split <;> rfl
 | n + 1, .nil, m + 1, j, h => by
   have hm : m / 2 < n := by omega
   have ih := Tr.get_put' x n .nil (m / 2)
   rw [Tr.put_nil_succ]
   by_cases h2 : m % 2 = 0
   ·rw [if_pos h2]
    cases j with
    | zero => simp [Tr.get_zero, Tr.get_nil]
    | succ j =>
      rw [Tr.get_succ]
      by_cases h3 : j % 2 = 0
      ·rw [if_pos h3, ih _ hm, Tr.get_nil, Tr.get_nil]
       by_cases e : j = m
       ·simp [e]
       ·rw [if_neg (by omega), if_neg (by omega)]
      ·rw [if_neg h3, Tr.get_nil, Tr.get_nil, if_neg (by omega)]
   ·rw [if_neg h2]
    cases j with
    | zero => simp [Tr.get_zero, Tr.get_nil]
    | succ j =>
      rw [Tr.get_succ]
      by_cases h3 : j % 2 = 0
      ·rw [if_pos h3, Tr.get_nil, Tr.get_nil, if_neg (by omega)]
      ·rw [if_neg h3, ih _ hm, Tr.get_nil, Tr.get_nil]
       by_cases e : j = m
       ·simp [e]
       ·rw [if_neg (by omega), if_neg (by omega)]
 | n + 1, .node v l r, 0, 0, _ => rfl
 | n + 1, .node v l r, 0, j + 1, _ => by rw [Tr.put_node_zero, Tr.get_succ, Tr.get_succ, if_neg (Nat.succ_ne_zero j)]
 | n + 1, .node v l r, m + 1, j, h => by
   have hm : m / 2 < n := by omega
   have ihl := Tr.get_put' x n l (m / 2)
   have ihr := Tr.get_put' x n r (m / 2)
   rw [Tr.put_node_succ]
   by_cases h2 : m % 2 = 0
   ·rw [if_pos h2]
    cases j with
    | zero => simp [Tr.get_zero]
    | succ j =>
      rw [Tr.get_succ, Tr.get_succ]
      by_cases h3 : j % 2 = 0
      ·rw [if_pos h3, if_pos h3, ihl _ hm]
       by_cases e : j = m
       ·simp [e]
       ·rw [if_neg (by omega), if_neg (by omega)]
      ·rw [if_neg h3, if_neg h3, if_neg (by omega)]
   ·rw [if_neg h2]
    cases j with
    | zero => simp [Tr.get_zero]
    | succ j =>
      rw [Tr.get_succ, Tr.get_succ]
      by_cases h3 : j % 2 = 0
      ·rw [if_pos h3, if_pos h3, if_neg (by omega)]
      ·rw [if_neg h3, if_neg h3, ihr _ hm]
       by_cases e : j = m
       ·simp [e]
       ·rw [if_neg (by omega), if_neg (by omega)]
theorem Tr.get_put (x : Option α) (t : Tr α) (k j : Nat) : (Tr.put x (k + 1) t k).get j = if j = k then x else t.get j :=
 Tr.get_put' x (k + 1) t k j (Nat.lt_succ_self k)
end
section
variable {α β : Type}
theorem zaH (l : List α) : len l = l.length := by
 induction l with
 | nil => rfl
 | cons x l ih => show Nat.succ (len l) = _; rw [ih]; rfl
theorem zcn (l r : List α) : app l r = l ++ r := by
 induction l with
 | nil => rfl
 | cons x l ih => show x :: app l r = _; rw [ih]; rfl
theorem za3 (l : List α) (k : Nat) : nth l k = l[k]? := by
 induction l generalizing k with
 | nil => rfl
 | cons x l ih =>
   cases k with
   | zero => rfl
   | succ k => show nth l k = _; rw [ih]; rfl
theorem tak_eq (l : List α) (n : Nat) : tak l n = if n ≤ l.length then some (l.take n) else none := by
 induction l generalizing n with
 | nil => cases n <;> rfl
 | cons x l ih =>
   cases n with
   | zero => rfl
   | succ n =>
     show bnd (tak l n) (fun r => some (x :: r)) = _
     rw [ih]
     by_cases h : n ≤ l.length
     ·simp [h]
     ·simp [h]
theorem drp_eq (l : List α) (n : Nat) : drp l n = if n ≤ l.length then some (l.drop n) else none := by
 induction l generalizing n with
 | nil => cases n <;> rfl
 | cons x l ih =>
   cases n with
   | zero => rfl
   | succ n =>
     show drp l n = _
     rw [ih]
     simp
theorem cut_eq (l : List α) (o n : Nat) : cut l o n = if o + n ≤ l.length then some ((l.drop o).take n) else none := by
 unfold cut
 rw [drp_eq]
 by_cases h : o ≤ l.length
 ·rw [if_pos h, bnd_some, tak_eq, List.length_drop]
  by_cases h2 : o + n ≤ l.length
  ·rw [if_pos h2, if_pos (by omega)]
  ·rw [if_neg h2, if_neg (by omega)]
 ·rw [if_neg h, if_neg (by omega)]; rfl
theorem over_eq (l vs : List α) : over l vs = if vs.length ≤ l.length then some (vs ++ l.drop vs.length) else none := by
 induction l generalizing vs with
 | nil => cases vs <;> rfl
 | cons x l ih =>
   cases vs with
   | nil => rfl
   | cons v vs =>
     show bnd (over l vs) (fun r => some (v :: r)) = _
     rw [ih]
     by_cases h : vs.length ≤ l.length <;> simp [h]
theorem splice_nil_zero (vs : List α) : zc4 ([] : List α) 0 vs = over [] vs := rfl
theorem splice_nil_succ (o : Nat) (vs : List α) : zc4 ([] : List α) (o + 1) vs = none := rfl
theorem splice_zero (x : α) (l vs : List α) : zc4 (x :: l) 0 vs = over (x :: l) vs := rfl
theorem splice_succ (x : α) (l : List α) (o : Nat) (vs : List α) : zc4 (x :: l) (o + 1) vs = bnd (zc4 l o vs) fun r => some (x :: r) := rfl
theorem splice_eq (l : List α) (o : Nat) (vs : List α) :
  zc4 l o vs = if o + vs.length ≤ l.length then some (l.take o ++ vs ++ l.drop (o + vs.length)) else none := by
 induction l generalizing o with
 | nil =>
   cases o with
   | zero => rw [splice_nil_zero, over_eq]; simp
   | succ o => rw [splice_nil_succ, if_neg (by simp)]
 | cons x l ih =>
   cases o with
   | zero => rw [splice_zero, over_eq]; simp
   | succ o =>
     rw [splice_succ, ih]
     have e : o + 1 + vs.length = (o + vs.length) + 1 := by omega
     rw [e]
     by_cases h : o + vs.length ≤ l.length
     ·rw [if_pos h, if_pos (by simpa using h), bnd_some]
      rfl
     ·rw [if_neg h, if_neg (by simpa using h)]; rfl
theorem zaD (l : List α) : zaY l = true ↔ l = [] := by cases l <;> simp [zaY]
end
end Go.Xe
end
section
namespace Go.Xe
structure Loc where
 blk : Nat
 off : Nat
 ext : Nat
structure Env where
 loc : Nat → Option Loc
 num : Nat → Nat → Option Nat
 stp : Nat → Option Nat
 key : Nat → Option ByteArray
 val : Nat → Option Value
 out : Nat → Option Obj
structure Env.le (e e' : Env) : Prop where
 loc : ∀ b l, e.loc b = some l → e'.loc b = some l
 num : ∀ g j v, e.num g j = some v → e'.num g j = some v
 stp : ∀ s v, e.stp s = some v → e'.stp s = some v
 key : ∀ i v, e.key i = some v → e'.key i = some v
 val : ∀ i v, e.val i = some v → e'.val i = some v
 out : e'.out = e.out
theorem Env.le.refl (e : Env) : e.le e := ⟨fun _ _ h => h, fun _ _ _ h => h, fun _ _ h => h, fun _ _ h => h, fun _ _ h => h, rfl⟩
theorem Env.le.trans {a b c : Env} (h : a.le b) (k : b.le c) : a.le c :=
 ⟨fun _ _ x => k.loc _ _ (h.loc _ _ x), fun _ _ _ x => k.num _ _ _ (h.num _ _ _ x), fun _ _ x => k.stp _ _ (h.stp _ _ x),
  fun _ _ x => k.key _ _ (h.key _ _ x), fun _ _ x => k.val _ _ (h.val _ _ x), k.out.trans h.out⟩
def zay (n c : Nat) : List UInt8 := (List.range n).map fun i => UInt8.ofNat (c / 256 ^ i % 256)
def zae (n c : Nat) : ByteArray := ⟨(zay n c).toArray⟩
inductive FnR (e : Env) : Fn → Fn → Prop
 | same (f : Fn) (h : zeS f = true) : FnR e f f
 | yield (b : Nat) (l : Loc) (h : e.loc b = some l) : FnR e (.yield b) (.yield l.blk)
def cellU : Value → Bool
 | .agg _ => false
 | .tuple _ => false
 | _ => true
mutual
inductive VR (e : Env) : AV → Value → Prop
 | bool (b : Bool) : VR e (.bool b) (.bool b)
 | int (k : IntKind) (n : Int) : VR e (.int k n) (.int k n)
 | num (g j lo hi v : Nat) (h : e.num g j = some v) (h1 : lo ≤ v) (h2 : v < hi) : VR e (.num g j lo hi) (.int .i64 (v : Int))
 | stp (s v : Nat) (h : e.stp s = some v) : VR e (.stp s) (.int .i64 (v : Int))
 | str (n c : Nat) : VR e (.str n c) (.string (zae n c))
 | sstr (pn pc i : Nat) (s : ByteArray) (h : e.key i = some s) : VR e (.sstr pn pc i) (.string (zae pn pc ++ s))
 | sval (i : Nat) (v : Value) (h : e.val i = some v) (hc : cellU v = true) : VR e (.sval i) v
 | ptr (b o : Nat) (l : Loc) (h : e.loc b = some l) : VR e (.ptr b o) (.pointer (some ⟨l.blk, l.off + o, none⟩))
 | pnil : VR e .pnil (.pointer none)
 | gptr (g : Nat) : VR e (.gptr g) (.pointer (some ⟨g, 0, none⟩))
 | sl (b o n z c : Nat) (l : Loc) (h : e.loc b = some l) (h0 : 0 < z) (h1 : o + c * z = l.ext) (h2 : n ≤ c) :
   VR e (.sl b o n z) (.slice (some ⟨l.blk, l.off + o, none⟩) n c)
 | sle (a : Addr) (c : Nat) : VR e .sle (.slice (some a) 0 c)
 | snil : VR e .snil (.slice none 0 0)
 | map (b : Nat) (l : Loc) (h : e.loc b = some l) : VR e (.map b) (.map (some l.blk))
 | mnil : VR e .mnil (.map none)
 | func (f f' : Fn) (x y : List AV) (x' y' : Array Value) (h : FnR e f f') (hx : VRs e x x'.toList) (hy : VRs e y y'.toList) : VR e (.func f x y) (.func f' x' y')
 | fnil : VR e .fnil .nilFunc
 | ifc (t : Nat) (v : AV) (u : Value) (h : VR e v u) : VR e (.ifc t v) (.iface t u)
 | inil : VR e .inil .nilIface
 | agg (l : List AV) (l' : Array Value) (h : VRs e l l'.toList) : VR e (.agg l) (.agg l')
 | tup (l : List AV) (l' : Array Value) (h : VRs e l l'.toList) : VR e (.tup l) (.tuple l')
inductive VRs (e : Env) : List AV → List Value → Prop
 | nil : VRs e [] []
 | cons (v : AV) (u : Value) (l : List AV) (l' : List Value) (h : VR e v u) (ht : VRs e l l') : VRs e (v :: l) (u :: l')
end
theorem FnR.mono {e e' : Env} (he : e.le e') {f f' : Fn} (h : FnR e f f') : FnR e' f f' := by
 cases h with
 | same _ h => exact .same _ h
 | yield b l h => exact .yield b l (he.loc _ _ h)
mutual
theorem VR.mono {e e' : Env} (he : e.le e') : {v : AV} → {u : Value} → VR e v u → VR e' v u
 | _, _, .bool b => .bool b
 | _, _, .int k n => .int k n
 | _, _, .num g j lo hi v h h1 h2 => .num g j lo hi v (he.num _ _ _ h) h1 h2
 | _, _, .stp s v h => .stp s v (he.stp _ _ h)
 | _, _, .str n c => .str n c
 | _, _, .sstr pn pc i s h => .sstr pn pc i s (he.key _ _ h)
 | _, _, .sval i v h hc => .sval i v (he.val _ _ h) hc
 | _, _, .ptr b o l h => .ptr b o l (he.loc _ _ h)
 | _, _, .pnil => .pnil
 | _, _, .gptr g => .gptr g
 | _, _, .sl b o n z c l h h0 h1 h2 => .sl b o n z c l (he.loc _ _ h) h0 h1 h2
 | _, _, .sle a c => .sle a c
 | _, _, .snil => .snil
 | _, _, .map b l h => .map b l (he.loc _ _ h)
 | _, _, .mnil => .mnil
 | _, _, .func f f' x y x' y' h hx hy => .func f f' x y x' y' (h.mono he) (VRs.mono he hx) (VRs.mono he hy)
 | _, _, .fnil => .fnil
 | _, _, .ifc t v u h => .ifc t v u (VR.mono he h)
 | _, _, .inil => .inil
 | _, _, .agg l l' h => .agg l l' (VRs.mono he h)
 | _, _, .tup l l' h => .tup l l' (VRs.mono he h)
theorem VRs.mono {e e' : Env} (he : e.le e') : {l : List AV} → {l' : List Value} → VRs e l l' → VRs e' l l'
 | _, _, .nil => .nil
 | _, _, .cons v u l l' h ht => .cons v u l l' (VR.mono he h) (VRs.mono he ht)
end
theorem VR.cellU {e : Env} {v : AV} {u : Value} (h : VR e v u) (hc : cellV v = true) : cellU u = true := by
 cases h <;> first | rfl | assumption | (simp [cellV] at hc)
theorem VRs.length {e : Env} : {l : List AV} → {l' : List Value} → VRs e l l' → l.length = l'.length
 | _, _, .nil => rfl
 | _, _, .cons _ _ _ _ _ ht => congrArg Nat.succ ht.length
theorem VRs.app {e : Env} {l r : List AV} {l' r' : List Value} (h : VRs e l l') (k : VRs e r r') : VRs e (l ++ r) (l' ++ r') := by
 induction l generalizing l' with
 | nil => cases h; exact k
 | cons x l ih => cases h with | cons _ _ _ _ h ht => exact .cons _ _ _ _ h (ih ht)
theorem VRs.get {e : Env} {l : List AV} {l' : List Value} (h : VRs e l l') {i : Nat} {v : AV} (hv : l[i]? = some v) : ∃ u, l'[i]? = some u ∧ VR e v u := by
 induction l generalizing l' i with
 | nil => simp at hv
 | cons x l ih =>
   cases h with
   | cons _ u _ l' h ht =>
     cases i with
     | zero => simp at hv; subst hv; exact ⟨u, rfl, h⟩
     | succ i => simp at hv; simpa using ih ht hv
theorem VRs.of_get {e : Env} : ∀ {l : List AV} {l' : List Value}, l.length = l'.length → (∀ (i : Nat) v u, l[i]? = some v → l'[i]? = some u → VR e v u) → VRs e l l'
 | [], [], _, _ => .nil
 | [], _ :: _, h, _ => by simp at h
 | _ :: _, [], h, _ => by simp at h
 | v :: l, u :: l', h, k => .cons v u l l' (k 0 v u rfl rfl) (VRs.of_get (by simpa using h) fun i x y hx hy => k (i + 1) x y (by simpa using hx) (by simpa using hy))
theorem VRs.take {e : Env} {l : List AV} {l' : List Value} (h : VRs e l l') (n : Nat) : VRs e (l.take n) (l'.take n) := by
 induction l generalizing l' n with
 | nil => cases h; simp; exact .nil
 | cons x l ih =>
   cases h with
   | cons _ u _ l' h ht =>
     cases n with
     | zero => exact .nil
     | succ n => exact .cons _ _ _ _ h (ih ht n)
theorem VRs.drop {e : Env} {l : List AV} {l' : List Value} (h : VRs e l l') (n : Nat) : VRs e (l.drop n) (l'.drop n) := by
 induction l generalizing l' n with
 | nil => cases h; simp; exact .nil
 | cons x l ih =>
   cases h with
   | cons _ u _ l' h ht =>
     cases n with
     | zero => exact .cons _ _ _ _ h ht
     | succ n => exact ih ht n
inductive DR (e : Env) : ADef → Deferred → Prop
 | fn (f f' : Fn) (x y : List AV) (x' y' : Array Value) (h : FnR e f f') (hx : VRs e x x'.toList) (hy : VRs e y y'.toList) : DR e (.fn f x y) { target := .fn f' x', args := y' }
 | coll (b : Nat) (l : Loc) (h : e.loc b = some l) : DR e (.coll b) { target := .collected l.blk, args := #[] }
inductive DRs (e : Env) : List ADef → List Deferred → Prop
 | nil : DRs e [] []
 | cons (d : ADef) (d' : Deferred) (l : List ADef) (l' : List Deferred) (h : DR e d d') (ht : DRs e l l') : DRs e (d :: l) (d' :: l')
theorem DR.mono {e e' : Env} (he : e.le e') {d : ADef} {d' : Deferred} (h : DR e d d') : DR e' d d' := by
 cases h with
 | fn f f' x y x' y' h hx hy => exact .fn _ _ _ _ _ _ (h.mono he) (hx.mono he) (hy.mono he)
 | coll b l h => exact .coll b l (he.loc _ _ h)
theorem DRs.mono {e e' : Env} (he : e.le e') {l : List ADef} {l' : List Deferred} (h : DRs e l l') : DRs e' l l' := by
 induction h with
 | nil => exact .nil
 | cons d d' l l' h _ ih => exact .cons _ _ _ _ (h.mono he) ih
theorem DRs.app {e : Env} {l r : List ADef} {l' r' : List Deferred} (h : DRs e l l') (k : DRs e r r') : DRs e (l ++ r) (l' ++ r') := by
 induction h with
 | nil => exact k
 | cons d d' l l' h _ ih => exact .cons _ _ _ _ h ih
noncomputable def atT (t : Tr AV) (i : Nat) : AV := (t.get i).getD zaK
theorem at_eq (fr : Fr) (t : Nat) : fr.at_ t = atT fr.t t := by
 unfold Fr.at_ atT
 cases fr.t.get t <;> rfl
structure TR (e : Env) (t : Tr AV) (n : Nat) (a : Array Value) : Prop where
 size : a.size = n
 at_ : ∀ i, VR e (atT t i) (a.getD i undef)
structure FR (e : Env) (fr : Fr) (a : Act) : Prop where
 tmps : TR e fr.t fr.nt a.tmps
 ds : DRs e fr.ds a.defers
theorem TR.mono {e e' : Env} (he : e.le e') {t : Tr AV} {n : Nat} {a : Array Value} (h : TR e t n a) : TR e' t n a := ⟨h.size, fun i => (h.at_ i).mono he⟩
theorem FR.mono {e e' : Env} (he : e.le e') {fr : Fr} {a : Act} (h : FR e fr a) : FR e' fr a := ⟨h.tmps.mono he, h.ds.mono he⟩
theorem zcq (e : Env) : VR e zaK undef := .tup [] #[] .nil
theorem atT_put (t : Tr AV) (k i : Nat) (v : AV) : atT (Tr.put (some v) (Nat.succ k) t k) i = if i = k then v else atT t i := by
 unfold atT
 rw [show Nat.succ k = k + 1 from rfl, Tr.get_put]
 split <;> rfl
theorem TR.put {e : Env} {t : Tr AV} {n : Nat} {a : Array Value} (h : TR e t n a) {k : Nat} (hk : k < n) {v : AV} {u : Value} (hv : VR e v u) :
  TR e (Tr.put (some v) (Nat.succ k) t k) n (a.setIfInBounds k u) := by
 refine ⟨by simp [h.size], fun i => ?_⟩
 rw [atT_put]
 by_cases e' : i = k
 ·subst e'
  rw [if_pos rfl]
  have : (a.setIfInBounds i u).getD i undef = u := by
   simp [Array.getD, h.size, hk]
  rw [this]; exact hv
 ·rw [if_neg e']
  have : (a.setIfInBounds k u).getD i undef = a.getD i undef := by
   simp only [Array.getD_eq_getD_getElem?]
   rw [Array.getElem?_setIfInBounds_ne (Ne.symm e')]
  rw [this]; exact h.at_ i
theorem zat (a b : Nat) : Nat.blt a b = true ↔ a < b := by
 unfold Nat.blt
 rw [Nat.ble_eq]; exact Iff.rfl
theorem zah (a b : Nat) : Nat.beq a b = true ↔ a = b := Nat.beq_eq ▸ Iff.rfl
theorem zbz {e : Env} {fr fr' : Fr} {a : Act} (h : FR e fr a) {d : Option Nat} {v : AV} {u : Value} (hv : VR e v u) (hp : fr.put d v = some fr') : FR e fr' (a.put d u) := by
 cases d with
 | none => simp [Fr.put] at hp; subst hp; exact h
 | some d =>
   have hp' : grd (Nat.blt d fr.nt) (some (⟨Tr.put (some v) (Nat.succ d) fr.t d, fr.nt, fr.ds⟩ : Fr)) = some fr' := hp
   rw [zaf] at hp'
   obtain ⟨hd, hf⟩ := hp'
   cases hf
   exact ⟨h.tmps.put ((zat _ _).1 hd) hv, h.ds⟩
theorem put_ds {fr fr' : Fr} {d : Option Nat} {v : AV} (hp : fr.put d v = some fr') : fr'.ds = fr.ds ∧ fr'.nt = fr.nt := by
 cases d with
 | none => simp [Fr.put] at hp; subst hp; exact ⟨rfl, rfl⟩
 | some d =>
   have hp' : grd (Nat.blt d fr.nt) (some (⟨Tr.put (some v) (Nat.succ d) fr.t d, fr.nt, fr.ds⟩ : Fr)) = some fr' := hp
   rw [zaf] at hp'
   cases hp'.2
   exact ⟨rfl, rfl⟩
end Go.Xe
end
section
namespace Go.Xe
noncomputable section
structure MER (e : Env) (m : ME) (x : MapEntry) : Prop where
 k : VR e m.k x.key
 v : VR e m.v x.val
 s : e.stp m.s = some x.born
inductive MERs (e : Env) : List ME → List MapEntry → Prop
 | nil : MERs e [] []
 | cons (m : ME) (x : MapEntry) (l : List ME) (l' : List MapEntry) (h : MER e m x) (ht : MERs e l l') : MERs e (m :: l) (x :: l')
theorem MER.mono {e e' : Env} (he : e.le e') {m : ME} {x : MapEntry} (h : MER e m x) : MER e' m x := ⟨h.k.mono he, h.v.mono he, he.stp _ _ h.s⟩
theorem MERs.mono {e e' : Env} (he : e.le e') {l : List ME} {l' : List MapEntry} (h : MERs e l l') : MERs e' l l' := by
 induction h with
 | nil => exact .nil
 | cons m x l l' h _ ih => exact .cons _ _ _ _ (h.mono he) ih
def keyNe : Value → Value → Prop
 | .bool a, .bool b => a ≠ b
 | .int k a, .int j b => k = j ∧ a ≠ b
 | .string a, .string b => a ≠ b
 | _, _ => False
structure MapR (e : Env) (es : List ME) (ents : Array MapEntry) (clock : Nat) : Prop where
 perm : ∃ p, p.Perm es ∧ MERs e p ents.toList
 born : ∀ x ∈ ents.toList, x.born < clock
 stamps : ents.toList.Pairwise fun x y => x.born ≠ y.born
 keys : ents.toList.Pairwise fun x y => keyNe x.key y.key
structure CellsR (e : Env) (cs : List AV) (ty fz : Nat) (l : Loc) (arr : Array Value) (T : TypeId) (lo hi : Nat) : Prop where
 room : l.off + l.ext ≤ arr.size
 len : cs.length ≤ l.ext
 vals : ∀ (i : Nat) v, cs[i]? = some v → ∃ u, arr[l.off + i]? = some u ∧ VR e v u
 free : ∀ i, fz ≤ i → i < l.ext → ¬ (lo ≤ l.off + i ∧ l.off + i < hi)
 ty : ty ≠ 0 → T = ty ∧ l.off = 0 ∧ lo = 0 ∧ (fz = 0 → hi = 0)
structure IterR (e : Env) (fm : Nat × List ME) (m j n fam lc : Nat) (ss : List ME) (mb since stepped : Nat) (seen : Array Nat) : Prop where
 map : ∃ l, e.loc m = some l ∧ mb = l.blk
 size : seen.size = j
 le : j ≤ n
 nodup : seen.toList.Nodup
 st : stepped = lc
 plain : fam = 0 → ss.length = n ∧ n ≤ 1 ∧ (∀ x ∈ ss, ∃ v, e.stp x.s = some v ∧ v < since ∧ v < stepped) ∧ ∀ (k : Nat) v, seen[k]? = some v → ∃ x ∈ ss, e.stp x.s = some v
 famly : fam ≠ 0 → fam = fm.1 → fm.2.length = n ∧ (∀ x ∈ fm.2, ∃ v, e.stp x.s = some v ∧ v < since ∧ v < stepped) ∧
  (∀ (k : Nat) v, seen[k]? = some v → ∃ x ∈ fm.2, e.stp x.s = some v ∧ ∃ s u, e.key (fm.1 + k) = some s ∧ e.val (fm.1 + k) = some u ∧ VR e x.k (.string s) ∧ VR e x.v u) ∧
  ∀ k, j ≤ k → e.key (fm.1 + k) = none ∧ e.val (fm.1 + k) = none
inductive EntR (e : Env) (fm : Nat × List ME) : Ent → Loc → Obj → Prop
 | cells (cs : List AV) (ty : Nat) (wr : Bool) (fz : Nat) (olds : List Nat) (l : Loc) (arr : Array Value) (T : TypeId) (lo hi : Nat)
   (h : CellsR e cs ty fz l arr T lo hi) : EntR e fm (.cells cs ty wr fz olds) l (.cells arr T (lo, hi))
 | map (es : List ME) (ck : Nat) (l : Loc) (ents : Array MapEntry) (h : MapR e es ents ck) : EntR e fm (.map es ck) l (.map ents ck)
 | siter (n c p : Nat) (l : Loc) (h0 : l.off = 0) : EntR e fm (.siter n c p) l (.stringIter (zae n c) p)
 | miter (m j n fam lc : Nat) (ss : List ME) (l : Loc) (mb since stepped : Nat) (seen : Array Nat)
   (h : IterR e fm m j n fam lc ss mb since stepped seen) (h0 : l.off = 0) : EntR e fm (.miter m j n fam lc ss) l (.mapIter (some mb) since seen stepped)
 | loop (L : Go.Loop) (tm : Tr AV) (nt d : Nat) (l ld : Loc) (ht : TR e tm nt L.tmps) (hd : e.loc d = some ld) (hb : L.defers = ld.blk) :
   EntR e fm (.loop L.state L.pending tm nt L.params.toList L.assign L.body d) l (.loop L)
 | dfr0 (l : Loc) : EntR e fm (.dfr none) l (.deferred none)
 | dfr (ds : List ADef) (l : Loc) (ds' : List Deferred) (h : DRs e ds ds') : EntR e fm (.dfr (some ds)) l (.deferred (some ds'))
theorem MapR.mono {e e' : Env} (he : e.le e') {es : List ME} {ents : Array MapEntry} {clock : Nat} (h : MapR e es ents clock) : MapR e' es ents clock :=
 ⟨let ⟨p, hp, hm⟩ := h.perm; ⟨p, hp, hm.mono he⟩, h.born, h.stamps, h.keys⟩
theorem CellsR.mono {e e' : Env} (he : e.le e') {cs : List AV} {ty fz : Nat} {l : Loc} {arr : Array Value} {T : TypeId} {lo hi : Nat}
  (h : CellsR e cs ty fz l arr T lo hi) : CellsR e' cs ty fz l arr T lo hi :=
 ⟨h.room, h.len, fun i v hv => let ⟨u, hu, hr⟩ := h.vals i v hv; ⟨u, hu, hr.mono he⟩, h.free, h.ty⟩
theorem IterR.mono {e e' : Env} (he : e.le e') (hk : e'.key = e.key) (hv : e'.val = e.val) {fm : Nat × List ME} {m j n fam lc : Nat} {ss : List ME} {mb since stepped : Nat} {seen : Array Nat}
  (h : IterR e fm m j n fam lc ss mb since stepped seen) : IterR e' fm m j n fam lc ss mb since stepped seen := by
 refine ⟨let ⟨l, a, b⟩ := h.map; ⟨l, he.loc _ _ a, b⟩, h.size, h.le, h.nodup, h.st, fun h0 => ?_, fun h0 h1 => ?_⟩
 ·obtain ⟨a, b, c, d⟩ := h.plain h0
  refine ⟨a, b, fun x hx => ?_, fun k v hv => ?_⟩
  ·obtain ⟨v, hv, hl⟩ := c x hx; exact ⟨v, he.stp _ _ hv, hl⟩
  ·obtain ⟨x, hx, hs⟩ := d k v hv; exact ⟨x, hx, he.stp _ _ hs⟩
 ·obtain ⟨a, c, d, f⟩ := h.famly h0 h1
  refine ⟨a, fun x hx => ?_, fun k v hv => ?_, fun k hj => by rw [hk, hv]; exact f k hj⟩
  ·obtain ⟨v, hv, hl⟩ := c x hx; exact ⟨v, he.stp _ _ hv, hl⟩
  ·obtain ⟨x, hx, hs, s, u, q1, q2, q3, q4⟩ := d k v hv
   exact ⟨x, hx, he.stp _ _ hs, s, u, he.key _ _ q1, he.val _ _ q2, q3.mono he, q4.mono he⟩
theorem EntR.mono {e e' : Env} (he : e.le e') (hk : e'.key = e.key) (hv : e'.val = e.val) {fm : Nat × List ME} {en : Ent} {l : Loc} {o : Obj} (h : EntR e fm en l o) : EntR e' fm en l o := by
 cases h with
 | cells _ _ _ _ _ _ _ _ _ _ h => exact .cells _ _ _ _ _ _ _ _ _ _ (h.mono he)
 | map _ _ _ _ h => exact .map _ _ _ _ (h.mono he)
 | siter _ _ _ _ h0 => exact .siter _ _ _ _ h0
 | miter _ _ _ _ _ _ _ _ _ _ _ h h0 => exact .miter _ _ _ _ _ _ _ _ _ _ _ (h.mono he hk hv) h0
 | loop _ _ _ _ _ _ ht hd hb => exact .loop _ _ _ _ _ _ (ht.mono he) (he.loc _ _ hd) hb
 | dfr0 => exact .dfr0 _
 | dfr _ _ _ h => exact .dfr _ _ _ (h.mono he)
def za5 : Ent → List Nat
 | .cells _ _ _ _ olds => olds
 | _ => []
def lenE : Ent → Nat
 | .cells l _ _ _ _ => l.length
 | _ => 0
def wrE : Ent → Bool
 | .cells _ _ wr _ _ => wr
 | _ => true
structure FamOk (e : Env) (fb : Nat) (fam : List ME) : Prop where
 key : ∀ i s, zb9 fb fam i = true → e.key i = some s → ∃ kv ∈ fam, ∃ n c, kv.k = .str n c ∧ s = zae n c ∧ ∃ u, e.val i = some u ∧ VR e kv.v u
 inj : ∀ i j s, zb9 fb fam i = true → zb9 fb fam j = true → e.key i = some s → e.key j = some s → i = j
theorem FamOk.mono {e e' : Env} (he : e.le e') (hk : e'.key = e.key) {fb : Nat} {fam : List ME} (h : FamOk e fb fam) : FamOk e' fb fam :=
 ⟨fun i s hi hs => let ⟨kv, hm, n, c, a, b, u, hu, hv⟩ := h.key i s hi (hk ▸ hs); ⟨kv, hm, n, c, a, b, u, he.val _ _ hu, hv.mono he⟩,
  fun i j s hi hj a b => h.inj i j s hi hj (hk ▸ a) (hk ▸ b)⟩
def AH.fm (h : AH) : Nat × List ME := (h.fb, h.fam)
def Own (e : Env) (h : AH) (X : Nat) : Prop := ∃ b en l, h.get b = some en ∧ e.loc b = some l ∧ l.blk = X
def theG : Nat := 0
def Kp (e : Env) (X : Nat) : Prop := X = theG ∨ ∃ o, e.out X = some o
structure GOk (e : Env) (h : AH) (H : Array Obj) : Prop where
 int : ∃ m t, H[theG]? = some (.cells #[.int .i64 m] t)
 out : ∀ X o, e.out X = some o → H[X]? = some o
 own : ∀ X, Kp e X → ¬ Own e h X
theorem GOk.of {e e' : Env} {h h' : AH} {H H' : Array Obj} (g : GOk e h H) (k : ∀ X, X < H.size → ¬ Own e h X → H'[X]? = H[X]? ∧ ¬ Own e' h' X) (ho : e'.out = e.out := by rfl) : GOk e' h' H' := by
 obtain ⟨⟨m, t, hm⟩, hout, hn⟩ := g
 have hx : ∀ X o, H[X]? = some o → Kp e X → H'[X]? = H[X]? ∧ ¬ Own e' h' X := fun X o hX hk => k X (Array.getElem?_eq_some_iff.1 hX).1 (hn X hk)
 refine ⟨⟨m, t, (hx theG _ hm (.inl rfl)).1.trans hm⟩, fun X o h1 => ?_, fun X h1 => ?_⟩
 ·rw [ho] at h1
  exact (hx X o (hout X o h1) (.inr ⟨o, h1⟩)).1.trans (hout X o h1)
 ·rcases h1 with rfl | ⟨o, h1⟩
  ·exact (hx theG _ hm (.inl rfl)).2
  ·rw [ho] at h1
   exact (hx X o (hout X o h1) (.inr ⟨o, h1⟩)).2
theorem GOk.less {e e' : Env} {h h' : AH} {H : Array Obj} (g : GOk e h H) (k : ∀ X, Own e' h' X → Own e h X) (ho : e'.out = e.out := by rfl) : GOk e' h' H :=
 ⟨g.int, fun X o h1 => g.out X o (ho ▸ h1), fun X h1 hx => g.own X (by rcases h1 with h1 | ⟨o, h1⟩; exact .inl h1; exact .inr ⟨o, ho ▸ h1⟩) (k _ hx)⟩
def famE : Ent → Nat
 | .miter _ _ _ fam _ _ => fam
 | _ => 0
structure Sat (e : Env) (h : AH) (H : Array Obj) : Prop where
 ents : ∀ b en, h.get b = some en → ∃ l o, e.loc b = some l ∧ H[l.blk]? = some o ∧ EntR e h.fm en l o
 locs : ∀ b l, e.loc b = some l → b < h.next ∧ l.blk < H.size
 nums : ∀ g j v, e.num g j = some v → g < h.next
 numI : ∀ g i j v, e.num g i = some v → e.num g j = some v → i = j
 stps : ∀ s v, e.stp s = some v → s < h.next
 keys : ∀ i v, e.key i = some v → i < h.next
 vals : ∀ i v, e.val i = some v → i < h.next
 sep : ∀ b c en en' l l', h.get b = some en → h.get c = some en' → e.loc b = some l → e.loc c = some l' → b ≠ c → l.blk = l'.blk → c ∈ za5 en ∨ b ∈ za5 en'
 olds : ∀ b c en en' l l', h.get b = some en → c ∈ za5 en → h.get c = some en' → e.loc b = some l → e.loc c = some l' → l.blk = l'.blk → wrE en' = false
 oldsLt : ∀ b c en, h.get b = some en → c ∈ za5 en → c < h.next
 fam : FamOk e h.fb h.fam
 ends : ∀ b c en en' l l', h.get b = some en → c ∈ za5 en → h.get c = some en' → e.loc b = some l → e.loc c = some l' → l.blk = l'.blk → l'.off + lenE en' ≤ l.off + lenE en
 its : ∀ b en, h.get b = some en → famE en = 0 ∨ famE en = b + 1
 room : h.fb + h.fam.length ≤ h.next
 glob : GOk e h H
structure Step (e : Env) (h : AH) (w : World) (e' : Env) (h' : AH) (w' : World) : Prop where
 le : e.le e'
 nxt : h.next ≤ h'.next
 size : w.heap.size ≤ w'.heap.size
 keep : ∀ X, X < w.heap.size → ¬ Own e h X → w'.heap[X]? = w.heap[X]? ∧ ¬ Own e' h' X
 os : w'.os = w.os
 tape : w'.tape = w.tape
 output : w'.output = w.output
 new : ∀ b l, e'.loc b = some l → e.loc b = some l ∨ h.next ≤ b
 gone : ∀ b, b < h.next → h.get b = none → h'.get b = none
theorem Step.refl (e : Env) (h : AH) (w : World) : Step e h w e h w := ⟨.refl e, Nat.le_refl _, Nat.le_refl _, fun _ _ k => ⟨rfl, k⟩, rfl, rfl, rfl, fun _ _ h => .inl h, fun _ _ h => h⟩
theorem Step.trans {e e1 e2 : Env} {h h1 h2 : AH} {w w1 w2 : World} (a : Step e h w e1 h1 w1) (b : Step e1 h1 w1 e2 h2 w2) : Step e h w e2 h2 w2 :=
 ⟨a.le.trans b.le, Nat.le_trans a.nxt b.nxt, Nat.le_trans a.size b.size, fun X hX hO =>
  let ⟨p, q⟩ := a.keep X hX hO
  let ⟨r, s⟩ := b.keep X (Nat.lt_of_lt_of_le hX a.size) q
  ⟨r.trans p, s⟩, b.os.trans a.os, b.tape.trans a.tape, b.output.trans a.output, fun c l hc => (b.new c l hc).elim (a.new c l) fun h => .inr (Nat.le_trans a.nxt h), fun c hc hg => b.gone c (Nat.lt_of_lt_of_le hc a.nxt) (a.gone c hc hg)⟩
theorem Step.drawn {e e' : Env} {h h' : AH} {w w' : World} (a : Step e h w e' h' w') (n : Nat) : Step e h w e' h' { w' with drawn := n } :=
 ⟨a.le, a.nxt, a.size, a.keep, a.os, a.tape, a.output, a.new, a.gone⟩
theorem Step.below {e e' : Env} {h h' : AH} {w w' : World} (a : Step e h w e' h' w') (h0 : ∀ b, h.get b = none) : RowKit.Below w.heap.size w w' :=
 ⟨a.os, a.tape, a.output, a.size, fun k hk => (a.keep k hk (fun ⟨b, _, _, hb, _⟩ => by rw [h0 b] at hb; cases hb)).1⟩
def Env.at_ (e : Env) (b : Nat) (l : Loc) : Env := { e with loc := fun c => if c = b then some l else e.loc c }
theorem Env.at_le {e : Env} {b : Nat} {l : Loc} (h : e.loc b = none) : e.le (e.at_ b l) := by
 refine ⟨fun c l' hc => ?_, fun _ _ _ h => h, fun _ _ h => h, fun _ _ h => h, fun _ _ h => h, rfl⟩
 show (if c = b then some l else e.loc c) = some l'
 by_cases hcb : c = b
 ·subst hcb; rw [h] at hc; cases hc
 ·rw [if_neg hcb]; exact hc
theorem Env.at_self (e : Env) (b : Nat) (l : Loc) : (e.at_ b l).loc b = some l := if_pos rfl
theorem Env.at_ne {e : Env} {b c : Nat} (l : Loc) (h : c ≠ b) : (e.at_ b l).loc c = e.loc c := if_neg h
theorem Sat.fresh {e : Env} {h : AH} {H : Array Obj} (s : Sat e h H) : e.loc h.next = none := by
 cases hl : e.loc h.next with
 | none => rfl
 | some l => exact absurd (s.locs _ _ hl).1 (Nat.lt_irrefl _)
def AH.add (h : AH) (en : Ent) : AH := ⟨Nat.succ h.next, Tr.put (some en) (Nat.succ h.next) h.t h.next, h.fb, h.fam⟩
theorem AH.new_eq {α : Type} (h : AH) (en : Ent) (k : Nat → AH → α) : h.new en k = k h.next (h.add en) := zaG _ _
theorem AH.get_add (h : AH) (en : Ent) (b : Nat) : (h.add en).get b = if b = h.next then some en else h.get b := Tr.get_put _ _ _ _
theorem AH.get_set (h : AH) (c : Nat) (en : Ent) (b : Nat) : (h.set c en).get b = if b = c then some en else h.get b := Tr.get_put _ _ _ _
theorem AH.get_drop (h : AH) (c : Nat) (b : Nat) : (h.drop c).get b = if b = c then none else h.get b := Tr.get_put _ _ _ _
theorem Sat.get_lt {e : Env} {h : AH} {H : Array Obj} (s : Sat e h H) {b : Nat} {en : Ent} (hb : h.get b = some en) : b < h.next :=
 let ⟨_, _, hl, _, _⟩ := s.ents b en hb
 (s.locs _ _ hl).1
theorem Sat.add {e : Env} {h : AH} {w : World} (s : Sat e h w.heap) {en : Ent} {o : Obj} (x : Nat) (ho : za5 en = [])
  (hr : EntR (e.at_ h.next ⟨w.heap.size, 0, x⟩) h.fm en ⟨w.heap.size, 0, x⟩ o) (hf : famE en = 0 ∨ famE en = h.next + 1 := by exact .inl rfl) :
  Sat (e.at_ h.next ⟨w.heap.size, 0, x⟩) (h.add en) (w.heap.push o) ∧
  Step e h w (e.at_ h.next ⟨w.heap.size, 0, x⟩) (h.add en) { w with heap := w.heap.push o } := by
 have hle : e.le (e.at_ h.next ⟨w.heap.size, 0, x⟩) := Env.at_le s.fresh
 have hlt : ∀ b l, e.loc b = some l → b ≠ h.next := fun b l hb he => Nat.lt_irrefl _ (he ▸ (s.locs b l hb).1)
 have loc' : ∀ b l, (e.at_ h.next ⟨w.heap.size, 0, x⟩).loc b = some l → (b = h.next ∧ l = ⟨w.heap.size, 0, x⟩) ∨ (b ≠ h.next ∧ e.loc b = some l) := fun b l hb => by
  by_cases hbn : b = h.next
  ·subst hbn; rw [Env.at_self] at hb; cases hb; exact .inl ⟨rfl, rfl⟩
  ·rw [Env.at_ne _ hbn] at hb; exact .inr ⟨hbn, hb⟩
 constructor
 ·constructor
  ·intro b en' hb
   rw [AH.get_add] at hb
   by_cases hbn : b = h.next
   ·subst hbn
    rw [if_pos rfl] at hb; cases hb
    exact ⟨_, o, Env.at_self _ _ _, by simp, hr⟩
   ·rw [if_neg hbn] at hb
    obtain ⟨l, o', hl, ho', hr'⟩ := s.ents b en' hb
    refine ⟨l, o', (Env.at_ne _ hbn).trans hl, ?_, hr'.mono hle rfl rfl⟩
    rw [Array.getElem?_push, if_neg (by have := (s.locs _ _ hl).2; omega)]; exact ho'
  ·intro b l hb
   rcases loc' b l hb with ⟨rfl, rfl⟩ | ⟨_, hb⟩
   ·exact ⟨Nat.lt_succ_self _, by simp⟩
   ·have := s.locs b l hb
    exact ⟨Nat.lt_succ_of_lt this.1, by simp; omega⟩
  ·exact fun g j v hv => Nat.lt_succ_of_lt (s.nums g j v hv)
  ·exact s.numI
  ·exact fun i v hv => Nat.lt_succ_of_lt (s.stps i v hv)
  ·exact fun i v hv => Nat.lt_succ_of_lt (s.keys i v hv)
  ·exact fun i v hv => Nat.lt_succ_of_lt (s.vals i v hv)
  ·intro b c en1 en2 l l' hb hc hl hl' hne hblk
   rw [AH.get_add] at hb hc
   rcases loc' b l hl with ⟨rfl, rfl⟩ | ⟨hbn, hl⟩
   ·rcases loc' c l' hl' with ⟨rfl, _⟩ | ⟨_, hl'⟩
    ·exact absurd rfl hne
    ·have := (s.locs c l' hl').2; simp only at hblk; omega
   ·rcases loc' c l' hl' with ⟨rfl, rfl⟩ | ⟨hcn, hl'⟩
    ·have := (s.locs b l hl).2; simp only at hblk; omega
    ·rw [if_neg hbn] at hb; rw [if_neg hcn] at hc
     exact s.sep b c en1 en2 l l' hb hc hl hl' hne hblk
  ·intro b c en1 en2 l l' hb hc hc2 hl hl' hblk
   rw [AH.get_add] at hb hc2
   by_cases hbn : b = h.next
   ·subst hbn; rw [if_pos rfl] at hb; cases hb; rw [ho] at hc; cases hc
   ·rw [if_neg hbn] at hb
    by_cases hcn : c = h.next
    ·subst hcn
     rw [if_pos rfl] at hc2
     exact absurd (s.oldsLt b _ en1 hb hc) (Nat.lt_irrefl _)
    ·rw [if_neg hcn] at hc2
     rw [Env.at_ne _ hbn] at hl
     rw [Env.at_ne _ hcn] at hl'
     exact s.olds b c en1 en2 l l' hb hc hc2 hl hl' hblk
  ·intro b c en1 hb hc
   rw [AH.get_add] at hb
   by_cases hbn : b = h.next
   ·rw [if_pos hbn] at hb; cases hb; rw [ho] at hc; cases hc
   ·rw [if_neg hbn] at hb; exact Nat.lt_succ_of_lt (s.oldsLt b c en1 hb hc)
  ·exact s.fam.mono hle rfl
  ·intro b c en1 en2 l l' hb hc hc2 hl hl' hblk
   rw [AH.get_add] at hb hc2
   by_cases hbn : b = h.next
   ·subst hbn; rw [if_pos rfl] at hb; cases hb; rw [ho] at hc; cases hc
   ·rw [if_neg hbn] at hb
    by_cases hcn : c = h.next
    ·subst hcn
     exact absurd (s.oldsLt b _ en1 hb hc) (Nat.lt_irrefl _)
    ·rw [if_neg hcn] at hc2
     rcases loc' b l hl with ⟨rfl, _⟩ | ⟨_, hl⟩
     ·exact absurd rfl hbn
     ·rcases loc' c l' hl' with ⟨rfl, _⟩ | ⟨_, hl'⟩
      ·exact absurd rfl hcn
      ·exact s.ends b c en1 en2 l l' hb hc hc2 hl hl' hblk
  ·intro b en1 hb
   rw [AH.get_add] at hb
   by_cases hbn : b = h.next
   ·rw [if_pos hbn] at hb; cases hb; rw [hbn]; exact hf
   ·rw [if_neg hbn] at hb; exact s.its b en1 hb
  ·exact Nat.le_succ_of_le s.room
  ·refine s.glob.of fun X hX hO => ⟨?_, fun ⟨b, en', l, hb, hl, hX'⟩ => ?_⟩
   ·rw [Array.getElem?_push, if_neg (by omega)]
   ·rw [AH.get_add] at hb
    rcases loc' b l hl with ⟨rfl, rfl⟩ | ⟨hbn, hl⟩
    ·simp only at hX'; omega
    ·rw [if_neg hbn] at hb
     exact hO ⟨b, en', l, hb, hl, hX'⟩
 ·refine ⟨hle, Nat.le_succ _, by simp, fun X hX hO => ⟨?_, fun ⟨b, en', l, hb, hl, hX'⟩ => ?_⟩, rfl, rfl, rfl, fun b l hb => (loc' b l hb).elim (fun h => .inr (Nat.le_of_eq h.1.symm)) fun h => .inl h.2, fun b hb hg => (AH.get_add h en b).trans ((if_neg (Nat.ne_of_lt hb)).trans hg)⟩
  ·show (w.heap.push o)[X]? = _
   rw [Array.getElem?_push, if_neg (by omega)]
  ·rw [AH.get_add] at hb
   rcases loc' b l hl with ⟨rfl, rfl⟩ | ⟨hbn, hl⟩
   ·simp only at hX'; omega
   ·rw [if_neg hbn] at hb
    exact hO ⟨b, en', l, hb, hl, hX'⟩
theorem Own.drop {e : Env} {h : AH} {c X : Nat} (ho : Own e (h.drop c) X) : Own e h X := by
 obtain ⟨b, en, l, hb, hl, hX⟩ := ho
 rw [AH.get_drop] at hb
 by_cases hbc : b = c
 ·rw [if_pos hbc] at hb; cases hb
 ·rw [if_neg hbc] at hb; exact ⟨b, en, l, hb, hl, hX⟩
theorem Sat.drop {e : Env} {h : AH} {H : Array Obj} (s : Sat e h H) (c : Nat) : Sat e (h.drop c) H := by
 have g : ∀ b en, (h.drop c).get b = some en → h.get b = some en := fun b en hb => by
  rw [AH.get_drop] at hb
  by_cases hbc : b = c
  ·rw [if_pos hbc] at hb; cases hb
  ·rw [if_neg hbc] at hb; exact hb
 exact ⟨fun b en hb => s.ents b en (g b en hb), s.locs, s.nums, s.numI, s.stps, s.keys, s.vals,
  fun b c' en en' l l' hb hc => s.sep b c' en en' l l' (g _ _ hb) (g _ _ hc), fun b c' en en' l l' hb hc hc' => s.olds b c' en en' l l' (g _ _ hb) hc (g _ _ hc'),
  fun b c' en hb hc => s.oldsLt b c' en (g _ _ hb) hc, s.fam, fun b c' en en' l l' hb hc hc' => s.ends b c' en en' l l' (g _ _ hb) hc (g _ _ hc'), fun b en hb => s.its b en (g _ _ hb), s.room, s.glob.less fun X hX => hX.drop⟩
theorem kill_nil (h : AH) : AH.kill [] h = h := rfl
theorem kill_cons (c : Nat) (l : List Nat) (h : AH) : AH.kill (c :: l) h = (AH.kill l h).drop c := rfl
theorem Sat.kill {e : Env} {h : AH} {H : Array Obj} (s : Sat e h H) (l : List Nat) : Sat e (AH.kill l h) H := by
 induction l with
 | nil => exact s
 | cons c l ih => exact ih.drop c
theorem Own.kill {e : Env} {h : AH} {l : List Nat} {X : Nat} (ho : Own e (AH.kill l h) X) : Own e h X := by
 induction l with
 | nil => exact ho
 | cons c l ih => exact ih ho.drop
theorem zb5 (l : List Nat) (h : AH) (b : Nat) : (AH.kill l h).get b = if b ∈ l then none else h.get b := by
 induction l with
 | nil => simp [kill_nil]
 | cons c l ih =>
   rw [kill_cons, AH.get_drop, ih]
   by_cases hbc : b = c
   ·simp [hbc]
   ·rw [if_neg hbc]
    by_cases hbl : b ∈ l
    ·rw [if_pos hbl, if_pos (List.mem_cons_of_mem _ hbl)]
    ·rw [if_neg hbl, if_neg (by simp [hbc, hbl])]
theorem zbk (l : List Nat) (h : AH) : (AH.kill l h).next = h.next ∧ (AH.kill l h).fb = h.fb ∧ (AH.kill l h).fam = h.fam := by
 induction l with
 | nil => exact ⟨rfl, rfl, rfl⟩
 | cons c l ih => exact ih
theorem kill_fm (l : List Nat) (h : AH) : (AH.kill l h).fm = h.fm := by
 unfold AH.fm
 rw [(zbk l h).2.1, (zbk l h).2.2]
def AH.more (h : AH) : AH := ⟨Nat.succ h.next, h.t, h.fb, h.fam⟩
theorem AH.skip_eq {α : Type} (h : AH) (k : Nat → AH → α) : h.skip k = k h.next h.more := zaG _ _
theorem Sat.more {e : Env} {h : AH} {H : Array Obj} (s : Sat e h H) : Sat e h.more H :=
 ⟨s.ents, fun b l hb => ⟨Nat.lt_succ_of_lt (s.locs b l hb).1, (s.locs b l hb).2⟩, fun g j v hv => Nat.lt_succ_of_lt (s.nums g j v hv), s.numI,
  fun i v hv => Nat.lt_succ_of_lt (s.stps i v hv), fun i v hv => Nat.lt_succ_of_lt (s.keys i v hv), fun i v hv => Nat.lt_succ_of_lt (s.vals i v hv), s.sep, s.olds,
  fun b c en hb hc => Nat.lt_succ_of_lt (s.oldsLt b c en hb hc), s.fam, s.ends, s.its, Nat.le_succ_of_le s.room, s.glob.less fun X ⟨b, en, l, hb, hl, hX⟩ => ⟨b, en, l, hb, hl, hX⟩⟩
def Env.stamp (e : Env) (s v : Nat) : Env := { e with stp := fun i => if i = s then some v else e.stp i }
theorem Sat.noStp {e : Env} {h : AH} {H : Array Obj} (s : Sat e h H) : e.stp h.next = none := by
 cases hl : e.stp h.next with
 | none => rfl
 | some l => exact absurd (s.stps _ _ hl) (Nat.lt_irrefl _)
theorem Env.stamp_le {e : Env} {s v : Nat} (h : e.stp s = none) : e.le (e.stamp s v) := by
 refine ⟨fun _ _ h => h, fun _ _ _ h => h, fun i v' hi => ?_, fun _ _ h => h, fun _ _ h => h, rfl⟩
 show (if i = s then some v else e.stp i) = some v'
 by_cases his : i = s
 ·subst his; rw [h] at hi; cases hi
 ·rw [if_neg his]; exact hi
theorem Sat.stamp {e : Env} {h : AH} {H : Array Obj} (s : Sat e h H) (v : Nat) : Sat (e.stamp h.next v) h.more H := by
 have hle := Env.stamp_le (v := v) s.noStp
 have m := s.more
 refine ⟨fun b en hb => ?_, m.locs, m.nums, m.numI, fun i v' hi => ?_, m.keys, m.vals, m.sep, m.olds, m.oldsLt, m.fam.mono hle rfl, m.ends, m.its, m.room, m.glob.less fun X ⟨b, en, l, hb, hl, hX⟩ => ⟨b, en, l, hb, hl, hX⟩⟩
 ·obtain ⟨l, o, hl, ho, hr⟩ := m.ents b en hb
  exact ⟨l, o, hl, ho, hr.mono hle rfl rfl⟩
 ·have hi' : (if i = h.next then some v else e.stp i) = some v' := hi
  by_cases his : i = h.next
  ·subst his; exact Nat.lt_succ_self _
  ·rw [if_neg his] at hi'; exact m.stps i v' hi'
def Alone (e : Env) (h : AH) (b : Nat) (l : Loc) : Prop := ∀ c en l', h.get c = some en → e.loc c = some l' → l'.blk = l.blk → c = b
theorem Sat.setObj {e : Env} {h : AH} {H : Array Obj} (s : Sat e h H) {b : Nat} {en en' : Ent} {l : Loc} {o' : Obj} (hb : h.get b = some en) (hl : e.loc b = some l)
  (ha : Alone e h b l) (hr : EntR e h.fm en' l o') (ho : ∀ c, c ∈ za5 en' → c ∈ za5 en) (hw : wrE en = false → wrE en' = false)
  (hlen : lenE en' = lenE en := by rfl) (hfm : famE en' = famE en := by rfl) :
  Sat e (h.set b en') (H.setIfInBounds l.blk o') := by
 have hlt := (s.locs b l hl).2
 constructor
 ·intro c en2 hc
  rw [AH.get_set] at hc
  by_cases hcb : c = b
  ·subst hcb
   rw [if_pos rfl] at hc; cases hc
   exact ⟨l, o', hl, by simp [hlt], hr⟩
  ·rw [if_neg hcb] at hc
   obtain ⟨l2, o2, hl2, ho2, hr2⟩ := s.ents c en2 hc
   refine ⟨l2, o2, hl2, ?_, hr2⟩
   rw [Array.getElem?_setIfInBounds_ne (fun hx => hcb (ha c en2 l2 hc hl2 hx.symm))]; exact ho2
 ·exact fun c l2 hc => ⟨(s.locs c l2 hc).1, by simpa using (s.locs c l2 hc).2⟩
 ·exact s.nums
 ·exact s.numI
 ·exact s.stps
 ·exact s.keys
 ·exact s.vals
 ·intro c d en1 en2 l1 l2 hc hd hl1 hl2 hne hblk
  rw [AH.get_set] at hc hd
  by_cases hcb : c = b
  ·subst hcb
   by_cases hdb : d = c
   ·exact absurd hdb.symm hne
   ·rw [if_neg hdb] at hd
    rw [hl] at hl1; cases hl1
    exact absurd (ha d en2 l2 hd hl2 hblk.symm) hdb
  ·rw [if_neg hcb] at hc
   by_cases hdb : d = b
   ·subst hdb
    rw [hl] at hl2; cases hl2
    exact absurd (ha c en1 l1 hc hl1 hblk) hcb
   ·rw [if_neg hdb] at hd
    exact s.sep c d en1 en2 l1 l2 hc hd hl1 hl2 hne hblk
 ·intro c d en1 en2 l1 l2 hc hd hd2 hl1 hl2 hblk
  rw [AH.get_set] at hc hd2
  have hd' : ∃ en0, h.get c = some en0 ∧ d ∈ za5 en0 := by
   by_cases hcb : c = b
   ·rw [if_pos hcb] at hc; cases hc; exact ⟨en, hcb ▸ hb, ho d hd⟩
   ·rw [if_neg hcb] at hc; exact ⟨en1, hc, hd⟩
  obtain ⟨en0, hc0, hd0⟩ := hd'
  by_cases hdb : d = b
  ·subst hdb
   rw [if_pos rfl] at hd2; cases hd2
   exact hw (s.olds c d en0 en l1 l2 hc0 hd0 hb hl1 hl2 hblk)
  ·rw [if_neg hdb] at hd2
   exact s.olds c d en0 en2 l1 l2 hc0 hd0 hd2 hl1 hl2 hblk
 ·intro c d en1 hc hd
  rw [AH.get_set] at hc
  by_cases hcb : c = b
  ·rw [if_pos hcb] at hc; cases hc; exact s.oldsLt b d en hb (ho d hd)
  ·rw [if_neg hcb] at hc; exact s.oldsLt c d en1 hc hd
 ·exact s.fam
 ·intro c d en1 en2 l1 l2 hc hd hd2 hl1 hl2 hblk
  rw [AH.get_set] at hc hd2
  have hc' : ∃ en0, h.get c = some en0 ∧ d ∈ za5 en0 ∧ lenE en1 = lenE en0 := by
   by_cases hcb : c = b
   ·rw [if_pos hcb] at hc; cases hc; exact ⟨en, hcb ▸ hb, ho d hd, hlen⟩
   ·rw [if_neg hcb] at hc; exact ⟨en1, hc, hd, rfl⟩
  have hd' : ∃ en0, h.get d = some en0 ∧ lenE en2 = lenE en0 := by
   by_cases hdb : d = b
   ·rw [if_pos hdb] at hd2; cases hd2; exact ⟨en, hdb ▸ hb, hlen⟩
   ·rw [if_neg hdb] at hd2; exact ⟨en2, hd2, rfl⟩
  obtain ⟨en0, hc0, hd0, hx⟩ := hc'
  obtain ⟨en3, hd3, hy⟩ := hd'
  rw [hx, hy]
  exact s.ends c d en0 en3 l1 l2 hc0 hd0 hd3 hl1 hl2 hblk
 ·intro c en1 hc
  rw [AH.get_set] at hc
  by_cases hcb : c = b
  ·rw [if_pos hcb] at hc; cases hc; rw [hfm, hcb]; exact s.its b en hb
  ·rw [if_neg hcb] at hc; exact s.its c en1 hc
 ·exact s.room
 ·refine s.glob.of fun X hX hO => ⟨?_, fun ⟨c, en2, l2, hc, hl2, hX2⟩ => ?_⟩
  ·rw [Array.getElem?_setIfInBounds_ne (fun hx => hO ⟨b, en, l, hb, hl, hx⟩)]
  ·rw [AH.get_set] at hc
   by_cases hcb : c = b
   ·subst hcb; rw [hl] at hl2; cases hl2; exact hO ⟨c, en, l, hb, hl, hX2⟩
   ·rw [if_neg hcb] at hc; exact hO ⟨c, en2, l2, hc, hl2, hX2⟩
theorem Step.setObj {e : Env} {h : AH} {w : World} (s : Sat e h w.heap) {b : Nat} {en en' : Ent} {l : Loc} (o' : Obj) (hb : h.get b = some en) (hl : e.loc b = some l) :
  Step e h w e (h.set b en') { w with heap := w.heap.setIfInBounds l.blk o' } := by
 refine ⟨.refl e, Nat.le_refl _, by simp, fun X hX hO => ⟨?_, fun ⟨c, en2, l2, hc, hl2, hX2⟩ => ?_⟩, rfl, rfl, rfl, fun _ _ h => .inl h, fun c _ hg => (AH.get_set h b en' c).trans ((if_neg fun hx => by rw [hx, hb] at hg; cases hg).trans hg)⟩
 ·show (w.heap.setIfInBounds l.blk o')[X]? = _
  rw [Array.getElem?_setIfInBounds_ne (fun hx => hO ⟨b, en, l, hb, hl, hx⟩)]
 ·rw [AH.get_set] at hc
  by_cases hcb : c = b
  ·subst hcb; rw [hl] at hl2; cases hl2; exact hO ⟨c, en, l, hb, hl, hX2⟩
  ·rw [if_neg hcb] at hc; exact hO ⟨c, en2, l2, hc, hl2, hX2⟩
theorem Sat.alone {e : Env} {h : AH} {H : Array Obj} (s : Sat e h H) {b : Nat} {en : Ent} {l : Loc} (hb : h.get b = some en) (hl : e.loc b = some l)
  (hn : cellsE en = none) : Alone e h b l := by
 intro c en' l' hc hl' hblk
 apply Classical.byContradiction
 intro hne
 obtain ⟨l1, o1, hl1, ho1, hr1⟩ := s.ents b en hb
 obtain ⟨l2, o2, hl2, ho2, hr2⟩ := s.ents c en' hc
 rw [hl] at hl1; cases hl1
 rw [hl'] at hl2; cases hl2
 rw [hblk, ho1] at ho2; cases ho2
 rcases s.sep b c en en' l l' hb hc hl hl' (fun h => hne h.symm) hblk.symm with h1 | h1
 ·cases en <;> simp [za5, cellsE] at h1 hn
 ·cases en' with
  | cells cs ty wr fz olds =>
    cases hr2
    cases hr1
    simp [cellsE] at hn
  | _ => simp [za5] at h1
theorem Sat.aloneW {e : Env} {h : AH} {H : Array Obj} (s : Sat e h H) {b : Nat} {en : Ent} {l : Loc} (hb : h.get b = some en) (hl : e.loc b = some l)
  (hw : wrE en = true) (ho : ∀ c, c ∈ za5 en → h.get c = none) : Alone e h b l := by
 intro c en' l' hc hl' hblk
 apply Classical.byContradiction
 intro hne
 rcases s.sep b c en en' l l' hb hc hl hl' (fun h => hne h.symm) hblk.symm with h1 | h1
 ·rw [ho c h1] at hc; cases hc
 ·have := s.olds c b en' en l' l hc h1 hb hl' hl hblk
  rw [hw] at this; cases this
def zgc (arr : Array Value) (o : Nat) : List Value → Array Value
 | [] => arr
 | v :: vs => zgc (arr.setIfInBounds o v) (o + 1) vs
theorem zfE (vs : List Value) : ∀ (arr : Array Value) (o : Nat), (zgc arr o vs).size = arr.size := by
 induction vs with
 | nil => exact fun _ _ => rfl
 | cons v vs ih => intro arr o; rw [zgc, ih]; simp
theorem overC_get (vs : List Value) : ∀ (arr : Array Value) (o i : Nat), o + vs.length ≤ arr.size →
  (zgc arr o vs)[i]? = if o ≤ i ∧ i < o + vs.length then vs[i - o]? else arr[i]? := by
 induction vs with
 | nil =>
   intro arr o i _
   rw [zgc, if_neg]
   intro h
   simp at h
   omega
 | cons v vs ih =>
   intro arr o i h
   simp at h
   rw [zgc, ih _ _ _ (by simp; omega)]
   by_cases h1 : o + 1 ≤ i ∧ i < o + 1 + vs.length
   ·rw [if_pos h1, if_pos (by simp; omega)]
    have : i - o = (i - (o + 1)) + 1 := by omega
    rw [this]; rfl
   ·rw [if_neg h1]
    by_cases h2 : i = o
    ·subst h2
     rw [if_pos (by simp), Array.getElem?_setIfInBounds_self]
     simp
     omega
    ·rw [if_neg (by simp; omega), Array.getElem?_setIfInBounds_ne (fun h => h2 h.symm)]
theorem run_store_cell {α : Type} {P : Program} {w : World} {B p : Nat} {arr : Array Value} {T : TypeId} {lo hi : Nat} (hH : w.heap[B]? = some (.cells arr T (lo, hi)))
  (hp : p < arr.size) (hf : ¬ (lo ≤ p ∧ p < hi)) {v : Value} (hv : cellU v = true) (k : Sem α) :
  (Sem.store .plain ⟨B, p, none⟩ v k).run P w = k.run P { w with heap := w.heap.setIfInBounds B (.cells (arr.setIfInBounds p v) T (lo, hi)) } := by
 have hB : B < w.heap.size := by
  rcases Nat.lt_or_ge B w.heap.size with h | h
  ·exact h
  ·rw [Array.getElem?_eq_none h] at hH; cases hH
 have hg : w.heap[B] = .cells arr T (lo, hi) := by
  rw [Array.getElem?_eq_getElem hB] at hH; exact Option.some.inj hH
 have hc : w.cell? ⟨B, p, none⟩ = some arr[p] := by
  simp [World.cell?, hH, hp]
 have hfz : w.frozen? ⟨B, p, none⟩ = false := by
  simp only [World.frozen?, hH]
  simp only [Bool.and_eq_false_iff, decide_eq_false_iff_not]
  by_cases h1 : lo ≤ p
  ·exact .inr (fun h2 => hf ⟨h1, h2⟩)
  ·exact .inl h1
 have hs : w.setCell ⟨B, p, none⟩ v = { w with heap := w.heap.setIfInBounds B (.cells (arr.setIfInBounds p v) T (lo, hi)) } := by
  simp only [World.setCell]
  congr 1
  apply Array.ext_getElem?
  intro i
  rw [Array.getElem?_modify, Array.getElem?_setIfInBounds]
  by_cases hi' : B = i
  ·subst hi'
   simp [hg, hB]
  ·simp [hi']
 cases v <;> first | (simp [cellU] at hv; done) | (simp only [Sem.run, hc, hfz, hs]; rfl)
theorem setIf_twice {α : Type} (a : Array α) (i : Nat) (x y : α) : (a.setIfInBounds i x).setIfInBounds i y = a.setIfInBounds i y := by
 apply Array.ext_getElem?
 intro j
 simp only [Array.getElem?_setIfInBounds]
 by_cases h : i = j
 ·subst h
  by_cases h2 : i < a.size <;> simp [h2]
 ·simp [h]
theorem zcY {P : Program} : ∀ (vs : List Value) (i : Nat) {w : World} {B p : Nat} {arr : Array Value} {T : TypeId} {lo hi : Nat}, w.heap[B]? = some (.cells arr T (lo, hi)) →
  p + i + vs.length ≤ arr.size → (∀ k, p + i ≤ k → k < p + i + vs.length → ¬ (lo ≤ k ∧ k < hi)) → (∀ v ∈ vs, cellU v = true) →
  (storeCells ⟨B, p, none⟩ vs i).run P w = .ok () { w with heap := w.heap.setIfInBounds B (.cells (zgc arr (p + i) vs) T (lo, hi)) }
 | [], i, w, B, p, arr, T, lo, hi, hH, _, _, _ => by
   have : w.heap.setIfInBounds B (.cells arr T (lo, hi)) = w.heap := by
    apply Array.ext_getElem?
    intro j
    rw [Array.getElem?_setIfInBounds]
    by_cases h : B = j
    ·subst h
     by_cases h2 : B < w.heap.size
     ·simp [h2] at hH ⊢; exact hH.symm
     ·simp [h2]
    ·simp [h]
   simp only [zgc, this]
   rfl
 | v :: vs, i, w, B, p, arr, T, lo, hi, hH, hr, hf, hc => by
   simp only [List.length_cons] at hr hf
   have hadd : (⟨B, p, none⟩ : Addr).add i = ⟨B, p + i, none⟩ := by
    unfold Addr.add
    by_cases h : i = 0
    ·subst h; rfl
    ·rw [if_neg h]
   have h1 : (storeCells ⟨B, p, none⟩ (v :: vs) i).run P w = ((Sem.store .plain ⟨B, p + i, none⟩ v (.pure ())).bind fun _ => storeCells ⟨B, p, none⟩ vs (i + 1)).run P w := by
    rw [← hadd]; rfl
   rw [h1]
   show (Sem.store .plain ⟨B, p + i, none⟩ v (storeCells ⟨B, p, none⟩ vs (i + 1))).run P w = _
   rw [run_store_cell hH (by omega) (hf (p + i) (Nat.le_refl _) (by omega)) (hc v (List.mem_cons_self ..))]
   have hB : B < w.heap.size := by
    rcases Nat.lt_or_ge B w.heap.size with h | h
    ·exact h
    ·rw [Array.getElem?_eq_none h] at hH; cases hH
   have ih := zcY (P := P) vs (i + 1) (w := { w with heap := w.heap.setIfInBounds B (.cells (arr.setIfInBounds (p + i) v) T (lo, hi)) }) (B := B) (p := p)
    (arr := arr.setIfInBounds (p + i) v) (T := T) (lo := lo) (hi := hi) (by simp [hB]) (by simp; omega) (fun k h1 h2 => hf k (by omega) (by omega)) (fun u hu => hc u (List.mem_cons_of_mem _ hu))
   rw [ih]
   simp only [setIf_twice, zgc]
   rw [show p + (i + 1) = p + i + 1 from rfl]
theorem zeY {α : Type} {P : Program} {w : World} {B p : Nat} {arr : Array Value} {T : TypeId} {fr : Nat × Nat} (hH : w.heap[B]? = some (.cells arr T fr))
  {v : Value} (hp : arr[p]? = some v) (k : Value → Sem α) : (Sem.load .plain ⟨B, p, none⟩ k).run P w = (k v).run P w := by
 have hc : w.cell? ⟨B, p, none⟩ = some v := by simp [World.cell?, hH, hp]
 simp only [Sem.run, hc]
theorem zbp {P : Program} {w : World} {B p : Nat} {arr : Array Value} {T : TypeId} {fr : Nat × Nat} (hH : w.heap[B]? = some (.cells arr T fr)) :
  ∀ (n i : Nat) (acc : Array Value), p + i + n ≤ arr.size → (loadCellsFrom ⟨B, p, none⟩ i n acc).run P w = .ok (acc ++ (arr.extract (p + i) (p + i + n))) w
 | 0, i, acc, _ => by
   show Result.ok acc w = _
   congr 1
   apply Array.ext'
   simp
 | n + 1, i, acc, h => by
   have hadd : (⟨B, p, none⟩ : Addr).add i = ⟨B, p + i, none⟩ := by
    unfold Addr.add
    by_cases h : i = 0
    ·subst h; rfl
    ·rw [if_neg h]
   have hv : arr[p + i]? = some arr[p + i] := Array.getElem?_eq_getElem (by omega)
   have h1 : (loadCellsFrom ⟨B, p, none⟩ i (n + 1) acc).run P w = (Sem.load .plain ⟨B, p + i, none⟩ fun v => loadCellsFrom ⟨B, p, none⟩ (i + 1) n (acc.push v)).run P w := by
    rw [← hadd]; rfl
   rw [h1, zeY hH hv, zbp hH n (i + 1) _ (by omega)]
   congr 1
   apply Array.ext'
   simp only [Array.toList_append, Array.toList_push, Array.toList_extract, List.append_assoc]
   congr 1
   rw [show p + (i + 1) = p + i + 1 from rfl, List.extract_eq_take_drop, List.extract_eq_take_drop]
   rw [show p + i + 1 + n - (p + i + 1) = n by omega, show p + i + (n + 1) - (p + i) = n + 1 by omega]
   rw [List.drop_eq_getElem_cons (i := p + i) (by simpa using (by omega : p + i < arr.size))]
   simp
end
end Go.Xe
end
section
namespace Go.Xe
noncomputable section
def Runs {α : Type} (P : Program) (s : Sem α) (w : World) (Q : α → World → Prop) : Prop := ∃ a w', s.run P w = .ok a w' ∧ Q a w'
theorem run_bind {α β : Type} (P : Program) (s : Sem α) (f : α → Sem β) (w : World) :
  (s.bind f).run P w = match s.run P w with | .ok a w' => (f a).run P w' | .halt h w' => .halt h w' := by
 show Sem.run P (s >>= f) w = _
 rw [Sem.run_bind]
 cases s.run P w <;> rfl
theorem Runs.bind {α β : Type} {P : Program} {s : Sem α} {f : α → Sem β} {w : World} {Q : β → World → Prop}
  (h : Runs P s w fun a w' => Runs P (f a) w' Q) : Runs P (s.bind f) w Q := by
 obtain ⟨a, w', hs, b, w'', hf, hQ⟩ := h
 exact ⟨b, w'', by rw [run_bind, hs]; exact hf, hQ⟩
theorem Runs.bind' {α β : Type} {P : Program} {s : Sem α} {f : α → Sem β} {w : World} {Q : β → World → Prop}
  (h : Runs P s w fun a w' => Runs P (f a) w' Q) : Runs P (s >>= f) w Q := Runs.bind h
theorem Runs.pure {α : Type} {P : Program} {a : α} {w : World} {Q : α → World → Prop} (h : Q a w) : Runs P (Sem.pure a) w Q := ⟨a, w, rfl, h⟩
theorem Runs.pure' {α : Type} {P : Program} {a : α} {w : World} {Q : α → World → Prop} (h : Q a w) : Runs P (Pure.pure a : Sem α) w Q := ⟨a, w, rfl, h⟩
theorem Runs.mono {α : Type} {P : Program} {s : Sem α} {w : World} {Q Q' : α → World → Prop} (h : Runs P s w Q) (k : ∀ a w', Q a w' → Q' a w') : Runs P s w Q' :=
 let ⟨a, w', hs, hQ⟩ := h; ⟨a, w', hs, k _ _ hQ⟩
theorem Runs.of {α : Type} {P : Program} {s : Sem α} {w w' : World} {a : α} {Q : α → World → Prop} (h : s.run P w = .ok a w') (hQ : Q a w') : Runs P s w Q := ⟨a, w', h, hQ⟩
section
variable {P : Program} {w : World}
theorem zcw {α : Type} {t : TypeId} {d : TypeDesc} (h : P.underlying t = some d) {f : TypeDesc → Sem α} {Q : α → World → Prop} (k : Runs P (f d) w Q) : Runs P (underlying t >>= f) w Q := by
 refine Runs.bind' ⟨d, w, ?_, k⟩
 show (match P.underlying t with | some i => (Pure.pure i : Sem TypeDesc) | none => stuck "no such type").run P w = _
 rw [h]; rfl
theorem zb6 {t : TypeId} {i : TypeInfo} (h : P.info? t = some i) : (typeInfo t).run P w = .ok i w := by
 show (match P.info? t with | some i => (Pure.pure i : Sem TypeInfo) | none => stuck "no such type").run P w = _
 rw [h]; rfl
theorem zdG {t : TypeId} {d : TypeDesc} (h : P.underlying t = some d) : (underlying t).run P w = .ok d w := by
 show (match P.underlying t with | some i => (Pure.pure i : Sem TypeDesc) | none => stuck "no such type").run P w = _
 rw [h]; rfl
theorem sizeA_eq {t n : Nat} (h : zaQ P t = some n) : ∃ i, P.info? t = some i ∧ i.size = n := by
 unfold zaQ at h; rw [zab] at h
 obtain ⟨i, hi, hn⟩ := h
 exact ⟨i, hi, Option.some.inj hn⟩
theorem zbh {t n : Nat} (h : zaQ P t = some n) : (sizeOf t).run P w = .ok n w := by
 obtain ⟨i, hi, rfl⟩ := sizeA_eq h
 show ((typeInfo t).bind fun i => Pure.pure i.size).run P w = _
 rw [run_bind, zb6 hi]; rfl
theorem zcF {α : Type} {t n : Nat} (h : zaQ P t = some n) {f : Nat → Sem α} {Q : α → World → Prop} (k : Runs P (f n) w Q) : Runs P (sizeOf t >>= f) w Q :=
 Runs.bind' ⟨n, w, zbh h, k⟩
theorem run_isAgg {t : Nat} {g : Bool} (h : aggA P t = some g) : (isAgg t).run P w = .ok g w := by
 unfold aggA at h; rw [zab] at h
 obtain ⟨d, hd, hg⟩ := h
 cases hg
 show ((underlying t).bind fun d => match d with | .struct _ => Pure.pure true | .array _ _ => Pure.pure true | _ => Pure.pure false).run P w = _
 rw [run_bind, zdG hd]
 cases d <;> rfl
theorem runs_isAgg {α : Type} {t : Nat} {g : Bool} (h : aggA P t = some g) {f : Bool → Sem α} {Q : α → World → Prop} (k : Runs P (f g) w Q) : Runs P (isAgg t >>= f) w Q :=
 Runs.bind' ⟨g, w, run_isAgg h, k⟩
end
theorem zd7 {h : AH} {b : Nat} {l : List AV} (hc : h.cells b = some l) : ∃ ty wr fz olds, h.get b = some (.cells l ty wr fz olds) := by
 unfold AH.cells at hc; rw [zab] at hc
 obtain ⟨en, he, hl⟩ := hc
 cases en <;> simp [cellsE] at hl
 subst hl
 exact ⟨_, _, _, _, he⟩
theorem Sat.row {e : Env} {h : AH} {H : Array Obj} (s : Sat e h H) {b : Nat} {l : List AV} {ty fz : Nat} {wr : Bool} {olds : List Nat} {L : Loc}
  (hb : h.get b = some (.cells l ty wr fz olds)) (hl : e.loc b = some L) :
  ∃ arr T lo hi, H[L.blk]? = some (.cells arr T (lo, hi)) ∧ CellsR e l ty fz L arr T lo hi := by
 obtain ⟨L', o, hl', ho, hr⟩ := s.ents b _ hb
 rw [hl] at hl'; cases hl'
 cases hr with
 | cells _ _ _ _ _ _ arr T lo hi hr => exact ⟨arr, T, lo, hi, ho, hr⟩
theorem readCell_sound {P : Program} {e : Env} {h : AH} {w : World} (s : Sat e h w.heap) {b o : Nat} {v : AV} {L : Loc} (hl : e.loc b = some L) (hr : zcQ h b o = some v) :
  ∃ u, (Go.load ⟨L.blk, L.off + o, none⟩).run P w = .ok u w ∧ VR e v u := by
 unfold zcQ at hr; rw [zab] at hr
 obtain ⟨l, hc, hv⟩ := hr
 obtain ⟨ty, wr, fz, olds, hb⟩ := zd7 hc
 obtain ⟨arr, T, lo, hi, hH, hR⟩ := s.row hb hl
 rw [za3] at hv
 obtain ⟨u, hu, hvr⟩ := hR.vals o v hv
 exact ⟨u, zeY hH hu .pure, hvr⟩
theorem zbl {P : Program} {e : Env} {h : AH} {w : World} (s : Sat e h w.heap) {b o n : Nat} {r : List AV} {L : Loc} (hl : e.loc b = some L) (hr : zba h b o n = some r) :
  ∃ us : Array Value, (loadCells ⟨L.blk, L.off + o, none⟩ n).run P w = .ok us w ∧ VRs e r us.toList := by
 unfold zba at hr; rw [zab] at hr
 obtain ⟨l, hc, hv⟩ := hr
 obtain ⟨ty, wr, fz, olds, hb⟩ := zd7 hc
 obtain ⟨arr, T, lo, hi, hH, hR⟩ := s.row hb hl
 rw [cut_eq] at hv
 by_cases hlen : o + n ≤ l.length
 ·rw [if_pos hlen] at hv
  cases hv
  have h1 := hR.len
  have h2 := hR.room
  refine ⟨arr.extract (L.off + o) (L.off + o + n), ?_, ?_⟩
  ·have := zbp (P := P) hH n 0 #[] (p := L.off + o) (by omega)
   rw [show (loadCells ⟨L.blk, L.off + o, none⟩ n) = loadCellsFrom ⟨L.blk, L.off + o, none⟩ 0 n #[] from rfl, this]
   simp
  ·refine VRs.of_get (by simp; omega) fun i v u hi' hu => ?_
   have hin : i < n := by
    have : i < ((l.drop o).take n).length := by
     rcases Nat.lt_or_ge i ((l.drop o).take n).length with h | h
     ·exact h
     ·rw [List.getElem?_eq_none h] at hi'; cases hi'
    simp at this; omega
   have hv : l[o + i]? = some v := by
    rw [List.getElem?_take, if_pos hin, List.getElem?_drop] at hi'; exact hi'
   obtain ⟨u', hu', hvr⟩ := hR.vals (o + i) v hv
   have : (arr.extract (L.off + o) (L.off + o + n)).toList[i]? = some u' := by
    rw [Array.getElem?_toList, Array.getElem?_extract, if_pos (by omega), show L.off + o + i = L.off + (o + i) by omega]; exact hu'
   rw [this] at hu; cases hu; exact hvr
 ·rw [if_neg hlen] at hv; cases hv
theorem allC_iff (l : List AV) : allC l = true ↔ ∀ v ∈ l, cellV v = true := by
 induction l with
 | nil => simp [allC]
 | cons v l ih =>
   show ite' (cellV v) (allC l) false = true ↔ _
   rw [zaj, Bool.and_eq_true, ih]; simp
theorem allC_us {e : Env} : {l : List AV} → {us : List Value} → VRs e l us → allC l = true → ∀ u ∈ us, cellU u = true
 | _, _, .nil, _ => by simp
 | _, _, .cons v u l l' h ht, hc => by
   rw [allC_iff] at hc
   intro x hx
   rcases List.mem_cons.1 hx with rfl | hx
   ·exact h.cellU (hc v (List.mem_cons_self ..))
   ·exact allC_us ht ((allC_iff _).2 fun v hv => hc v (List.mem_cons_of_mem _ hv)) x hx
theorem zaV (a b : Nat) : Nat.ble a b = true ↔ a ≤ b := by rw [Nat.ble_eq]
theorem Step.kill {e : Env} {h : AH} {w : World} (l : List Nat) : Step e h w e (AH.kill l h) w :=
 ⟨.refl e, by rw [(zbk l h).1]; exact Nat.le_refl _, Nat.le_refl _, fun _ _ hO => ⟨rfl, fun hO' => hO hO'.kill⟩, rfl, rfl, rfl, fun _ _ h => .inl h, fun b _ hg => by rw [zb5, hg]; split <;> rfl⟩
theorem zfF {l vs l' : List AV} {o : Nat} (h : zc4 l o vs = some l') (i : Nat) :
  l'.length = l.length ∧ o + vs.length ≤ l.length ∧ l'[i]? = if o ≤ i ∧ i < o + vs.length then vs[i - o]? else l[i]? := by
 rw [splice_eq] at h
 by_cases hb : o + vs.length ≤ l.length
 ·rw [if_pos hb] at h
  cases h
  refine ⟨by simp; omega, hb, ?_⟩
  by_cases h1 : i < o
  ·rw [if_neg (by omega), List.append_assoc, List.getElem?_append_left (by simp; omega), List.getElem?_take, if_pos h1]
  ·by_cases h2 : i < o + vs.length
   ·rw [if_pos (by omega), List.append_assoc, List.getElem?_append_right (by simp; omega), List.getElem?_append_left (by simp; omega)]
    congr 1; simp; omega
   ·rw [if_neg (by omega), List.getElem?_append_right (by simp; omega), List.getElem?_drop]
    congr 1; simp; omega
 ·rw [if_neg hb] at h; cases h
theorem zcf {P : Program} {e : Env} {h h' : AH} {w : World} (s : Sat e h w.heap) {b o : Nat} {vs : List AV} {us : List Value} {L : Loc} (hl : e.loc b = some L)
  (hv : VRs e vs us) (hw : za2 h b o vs = some h') :
  ∃ w', (storeCells ⟨L.blk, L.off + o, none⟩ us).run P w = .ok () w' ∧ Sat e h' w'.heap ∧ Step e h w e h' w' := by
 unfold za2 at hw; rw [zab] at hw
 obtain ⟨en, hb, hw⟩ := hw
 cases en <;> try (simp [writeE] at hw; done)
 rename_i l ty wr fz olds
 have hw' : grd wr (grd (Nat.ble fz o) (grd (allC vs) (bnd (zc4 l o vs) fun l' => some (AH.set (AH.kill olds h) b (.cells l' ty true fz []))))) = some h' := hw
 rw [zaf, zaf, zaf, zab] at hw'
 obtain ⟨rfl, hfz, hac, l', hsp, hh⟩ := hw'
 cases hh
 obtain ⟨arr, T, lo, hi, hH, hR⟩ := s.row hb hl
 have hlen := (zfF hsp 0).1
 have hbd := (zfF hsp 0).2.1
 have h1 := hR.len
 have h2 := hR.room
 have hus := hv.length
 have hfz' : fz ≤ o := (zaV _ _).1 hfz
 have hrun := zcY (P := P) us 0 (w := w) (B := L.blk) (p := L.off + o) hH (by omega)
  (fun k hk1 hk2 => by
   have := hR.free (k - L.off) (by omega) (by omega)
   rwa [show L.off + (k - L.off) = k by omega] at this) (allC_us hv hac)
 refine ⟨_, hrun, ?_, ?_⟩
 ·have hnb : b ∉ olds := fun hm => by
   have := s.olds b b _ _ L L hb hm hb hl hl rfl
   simp [wrE] at this
  have hkb : (AH.kill olds h).get b = some (.cells l ty true fz olds) := by rw [zb5, if_neg hnb]; exact hb
  have hal := (s.kill olds).aloneW hkb hl rfl fun c hc => by rw [zb5]; exact if_pos hc
  refine (s.kill olds).setObj hkb hl hal ?_ (fun c hc => by cases hc) (fun hx => by simp [wrE] at hx) hlen
  rw [kill_fm]
  refine .cells _ _ _ _ _ _ _ _ _ _ ⟨by rw [zfE]; exact h2, by omega, fun i v hi' => ?_, hR.free, hR.ty⟩
  rw [(zfF hsp i).2.2] at hi'
  rw [overC_get _ _ _ _ (by omega)]
  by_cases hin : o ≤ i ∧ i < o + vs.length
  ·rw [if_pos hin] at hi'
   rw [if_pos (by omega)]
   obtain ⟨u, hu, hvr⟩ := hv.get hi'
   exact ⟨u, by rw [show L.off + i - (L.off + o + 0) = i - o by omega]; exact hu, hvr⟩
  ·rw [if_neg hin] at hi'
   rw [if_neg (by omega)]
   exact hR.vals i v hi'
 ·refine (Step.kill (w := w) olds).trans ?_
  have hnb : b ∉ olds := fun hm => by
   have := s.olds b b _ _ L L hb hm hb hl hl rfl
   simp [wrE] at this
  have hkb : (AH.kill olds h).get b = some (.cells l ty true fz olds) := by rw [zb5, if_neg hnb]; exact hb
  exact Step.setObj (s.kill olds) _ hkb hl
end
end Go.Xe
end
section
namespace Go.Xe
noncomputable section
section
variable {α : Type}
theorem zdH {a : AV} {k : Nat → Nat → Option α} {y : α} : ptrV a k = some y ↔ ∃ b o, a = .ptr b o ∧ k b o = some y := by
 cases a <;> first | (simp [ptrV]; done) | exact ⟨fun h => ⟨_, _, rfl, h⟩, fun ⟨_, _, h, k⟩ => by cases h; exact k⟩
theorem zfG {a : AV} {k : Int → Option α} {y : α} : intV a k = some y ↔ ∃ kd i, a = .int kd i ∧ k i = some y := by
 cases a <;> first | (simp [intV]; done) | exact ⟨fun h => ⟨_, _, rfl, h⟩, fun ⟨_, _, h, k⟩ => by cases h; exact k⟩
theorem natI_eq {i : Int} {k : Nat → Option α} {y : α} : natI i k = some y ↔ ∃ n : Nat, i = (n : Int) ∧ k n = some y := by
 cases i with
 | ofNat n => exact ⟨fun h => ⟨n, rfl, h⟩, fun ⟨m, hm, h⟩ => by cases hm; exact h⟩
 | negSucc n =>
   constructor
   ·intro h; cases h
   ·rintro ⟨m, hm, _⟩; cases hm
theorem zew {a : AV} {k : Nat → Option α} {y : α} : natV a k = some y ↔ ∃ kd, ∃ n : Nat, a = .int kd (n : Int) ∧ k n = some y := by
 unfold natV; rw [zfG]
 constructor
 ·rintro ⟨kd, i, rfl, h⟩
  rw [natI_eq] at h
  obtain ⟨n, rfl, h⟩ := h
  exact ⟨kd, n, rfl, h⟩
 ·rintro ⟨kd, n, rfl, h⟩
  exact ⟨kd, n, rfl, natI_eq.2 ⟨n, rfl, h⟩⟩
theorem zdi {a : AV} {k : List AV → Option α} {y : α} : aggV a k = some y ↔ ∃ l, a = .agg l ∧ k l = some y := by cases a <;> simp [aggV]
theorem tupV_eq {a : AV} {k : List AV → Option α} {y : α} : tupV a k = some y ↔ ∃ l, a = .tup l ∧ k l = some y := by cases a <;> simp [tupV]
theorem zex {a : AV} {k : Nat → Nat → Option α} {y : α} : strV a k = some y ↔ ∃ n c, a = .str n c ∧ k n c = some y := by
 cases a <;> first | (simp [strV]; done) | exact ⟨fun h => ⟨_, _, rfl, h⟩, fun ⟨_, _, h, k⟩ => by cases h; exact k⟩
theorem zdI {a : AV} {k : Nat → Option α} {y : α} : mapV a k = some y ↔ ∃ b, a = .map b ∧ k b = some y := by cases a <;> simp [mapV]
theorem stpV_eq {a : AV} {k : Nat → Option α} {y : α} : stpV a k = some y ↔ ∃ b, a = .stp b ∧ k b = some y := by cases a <;> simp [stpV]
theorem zav {b : Bool} {x y : Option α} {z : α} : ite' b x y = some z ↔ (b = true ∧ x = some z) ∨ (b = false ∧ y = some z) := by cases b <;> simp
end
theorem zcG {e : Env} {b o : Nat} {u : Value} (h : VR e (.ptr b o) u) : ∃ l, e.loc b = some l ∧ u = .pointer (some ⟨l.blk, l.off + o, none⟩) := by
 cases h with | ptr _ _ l h => exact ⟨l, h, rfl⟩
theorem vr_int {e : Env} {k : IntKind} {n : Int} {u : Value} (h : VR e (.int k n) u) : u = .int k n := by cases h; rfl
theorem zbm {e : Env} {n c : Nat} {u : Value} (h : VR e (.str n c) u) : u = .string (zae n c) := by cases h; rfl
theorem vr_agg {e : Env} {l : List AV} {u : Value} (h : VR e (.agg l) u) : ∃ us : Array Value, u = .agg us ∧ VRs e l us.toList := by
 cases h with | agg _ l' h => exact ⟨l', rfl, h⟩
theorem vr_tup {e : Env} {l : List AV} {u : Value} (h : VR e (.tup l) u) : ∃ us : Array Value, u = .tuple us ∧ VRs e l us.toList := by
 cases h with | tup _ l' h => exact ⟨l', rfl, h⟩
theorem vr_sl {e : Env} {b o n z : Nat} {u : Value} (h : VR e (.sl b o n z) u) : ∃ l c, e.loc b = some l ∧ 0 < z ∧ o + c * z = l.ext ∧ n ≤ c ∧ u = .slice (some ⟨l.blk, l.off + o, none⟩) n c := by
 cases h with | sl _ _ _ _ c l h h0 h1 h2 => exact ⟨l, c, h, h0, h1, h2, rfl⟩
theorem zeZ {e : Env} {b : Nat} {u : Value} (h : VR e (.map b) u) : ∃ l, e.loc b = some l ∧ u = .map (some l.blk) := by
 cases h with | map _ l h => exact ⟨l, h, rfl⟩
theorem vr_bool {e : Env} {b : Bool} {u : Value} (h : VR e (.bool b) u) : u = .bool b := by cases h; rfl
theorem zaZ (k : IntKind) (n : Int) : zbT k n = .int k n := by
 unfold zbT
 cases n with
 | ofNat m => rw [iE_nat, zaG]
 | negSucc m => rw [iE_neg, zaG]
theorem zd8 (n c : Nat) : mkStr n c = .str n c := by unfold mkStr; rw [zaG, zaG]
theorem zaM (b : Bool) : zbI b = .bool b := by cases b <;> rfl
theorem zd9 (n : Nat) : zde n = .int .i64 (n : Int) := by unfold zde; rw [zaG]; rfl
theorem Addr.add_eq (B o n : Nat) : (⟨B, o, none⟩ : Addr).add n = ⟨B, o + n, none⟩ := by
 unfold Go.Addr.add
 by_cases h : n = 0
 ·subst h; rfl
 ·rw [if_neg h]
theorem vr_cells {e : Env} {v : AV} {u : Value} (h : VR e v u) (hs : ∀ i, v ≠ .sval i) : VRs e v.cells u.cells.toList := by
 cases h with
 | agg l l' h => exact h
 | sval i v h hc => exact absurd rfl (hs i)
 | _ => first | exact .cons _ _ _ _ (by constructor <;> assumption) .nil | exact .cons _ _ _ _ (by first | exact .bool _ | exact .int _ _ | exact .str _ _ | exact .pnil | exact .gptr _ | exact .sle _ _ | exact .snil | exact .mnil | exact .fnil | exact .inil) .nil
theorem zcH {e : Env} {v : AV} {u : Value} (h : VR e v u) : VRs e v.cells u.cells.toList := by
 cases v with
 | sval i =>
   cases h with
   | sval _ _ h hc =>
     have : u.cells = #[u] := by cases u <;> first | rfl | (simp [Go.Xe.cellU] at hc)
     rw [this]
     exact .cons _ _ _ _ (.sval i u h hc) .nil
 | _ => exact vr_cells h (fun i h => by cases h)
theorem zfH {P : Program} {e : Env} {h : AH} {w : World} (s : Sat e h w.heap) {t : TypeId} {a v : AV} {ua : Value} (ha : VR e a ua) (hv : load P t a h = some v) :
  Runs P (Instr.loadAt t ua) w fun u w' => VR e v u ∧ w' = w := by
 unfold load at hv
 rw [zdH] at hv
 obtain ⟨b, o, rfl, hv⟩ := hv
 rw [zab] at hv
 obtain ⟨g, hg, hv⟩ := hv
 obtain ⟨L, hl, rfl⟩ := zcG ha
 unfold Instr.loadAt
 refine Runs.bind' ⟨⟨L.blk, L.off + o, none⟩, w, rfl, ?_⟩
 unfold loadVar
 refine runs_isAgg hg ?_
 cases g with
 | true =>
   rw [ite'_true, zab] at hv
   obtain ⟨n, hn, hv⟩ := hv
   rw [zab] at hv
   obtain ⟨r, hr, hv⟩ := hv
   cases hv
   obtain ⟨us, hus, hvr⟩ := zbl (P := P) s hl hr
   simp only [if_true]
   refine zcF hn ?_
   refine Runs.bind' ⟨us, w, hus, ?_⟩
   exact Runs.pure' ⟨.agg _ _ hvr, rfl⟩
 | false =>
   rw [ite'_false] at hv
   obtain ⟨u, hu, hvr⟩ := readCell_sound (P := P) s hl hv
   simp only [Bool.false_eq_true, if_false]
   exact ⟨u, w, hu, hvr, rfl⟩
theorem store_sound {P : Program} {e : Env} {h h' : AH} {w : World} (s : Sat e h w.heap) {t : TypeId} {a v : AV} {ua u : Value} (ha : VR e a ua) (hvu : VR e v u) (hs : store P t a v h = some h') :
  Runs P (Instr.storeAt t ua u) w fun _ w' => Sat e h' w'.heap ∧ Step e h w e h' w' := by
 unfold store at hs
 rw [zdH] at hs
 obtain ⟨b, o, rfl, hs⟩ := hs
 rw [zab] at hs
 obtain ⟨n, hn, hs⟩ := hs
 rw [zaf] at hs
 obtain ⟨hlen, hs⟩ := hs
 obtain ⟨L, hl, rfl⟩ := zcG ha
 have hc := zcH hvu
 obtain ⟨w', hrun, hS, hT⟩ := zcf (P := P) s hl hc hs
 unfold Instr.storeAt
 refine Runs.bind' ⟨⟨L.blk, L.off + o, none⟩, w, rfl, ?_⟩
 unfold storeVar
 refine zcF hn ?_
 rw [zah, zaH] at hlen
 have : u.cells.size = n := by rw [← hlen, hc.length]; simp
 rw [if_neg (fun hne => hne this)]
 exact ⟨(), w', hrun, hS, hT⟩
theorem underField {P : Program} {t f : Nat} {fd : Field} (h : fieldA P t f = some fd) : ∃ fs : Array Field, P.underlying t = some (.struct fs) ∧ fs[f]? = some fd := by
 unfold fieldA at h; rw [zab] at h
 obtain ⟨d, hd, h⟩ := h
 rw [zab] at h
 obtain ⟨l, hl, h⟩ := h
 cases d <;> simp [structD] at hl
 subst hl
 rw [za3, Array.getElem?_toList] at h
 exact ⟨_, hd, h⟩
theorem zdJ {P : Program} {e : Env} {w : World} {t f : Nat} {a v : AV} {ua : Value} (ha : VR e a ua) (hv : fieldAddr P t f a = some v) :
  Runs P (Instr.fieldAt t ua f) w fun u w' => VR e v u ∧ w' = w := by
 unfold fieldAddr at hv
 rw [zdH] at hv
 obtain ⟨b, o, rfl, hv⟩ := hv
 rw [zab] at hv
 obtain ⟨fd, hf, hv⟩ := hv
 rw [zab] at hv
 obtain ⟨n, hn, hv⟩ := hv
 rw [zaf, zat] at hv
 obtain ⟨h0, hv⟩ := hv
 rw [zaG] at hv
 cases hv
 obtain ⟨fs, hd, hfd⟩ := underField hf
 obtain ⟨L, hl, rfl⟩ := zcG ha
 unfold Instr.fieldAt
 refine zcw hd ?_
 simp only [hfd]
 refine Runs.bind' ⟨⟨L.blk, L.off + o, none⟩, w, rfl, ?_⟩
 refine Runs.bind' ?_
 unfold fieldPlace
 refine zcF hn ?_
 rw [if_neg (by omega)]
 refine Runs.pure' (Runs.pure' ⟨?_, rfl⟩)
 rw [Addr.add_eq, Nat.add_assoc]
 exact .ptr b _ L hl
theorem zfI {P : Program} {e : Env} {w : World} {t off : Nat} {cs : List AV} {us : Array Value} (hc : VRs e cs us.toList) {v : AV} (hv : partA P t cs off = some v) :
  Runs P (part t us off) w fun u w' => VR e v u ∧ w' = w := by
 unfold partA at hv
 rw [zab] at hv
 obtain ⟨g, hg, hv⟩ := hv
 unfold part
 refine runs_isAgg hg ?_
 cases g with
 | true =>
   rw [ite'_true, zab] at hv
   obtain ⟨n, hn, hv⟩ := hv
   rw [zab] at hv
   obtain ⟨r, hr, hv⟩ := hv
   cases hv
   simp only [if_true]
   refine zcF hn ?_
   refine Runs.pure' ⟨.agg _ _ ?_, rfl⟩
   rw [cut_eq] at hr
   by_cases hb : off + n ≤ cs.length
   ·rw [if_pos hb] at hr; cases hr
    have := (hc.drop off).take n
    rw [Array.toList_extract, List.extract_eq_take_drop]
    rwa [show off + n - off = n by omega]
   ·rw [if_neg hb] at hr; cases hr
 | false =>
   rw [ite'_false, za3] at hv
   simp only [Bool.false_eq_true, if_false]
   obtain ⟨u, hu, hvr⟩ := hc.get hv
   rw [Array.getElem?_toList] at hu
   simp only [hu]
   exact Runs.pure' ⟨hvr, rfl⟩
theorem field_sound {P : Program} {e : Env} {w : World} {t f : Nat} {a v : AV} {ua : Value} (ha : VR e a ua) (hv : field P t f a = some v) :
  Runs P (Instr.field t ua f) w fun u w' => VR e v u ∧ w' = w := by
 unfold field at hv
 rw [zdi] at hv
 obtain ⟨l, rfl, hv⟩ := hv
 rw [zab] at hv
 obtain ⟨fd, hf, hv⟩ := hv
 obtain ⟨fs, hd, hfd⟩ := underField hf
 obtain ⟨us, rfl, hc⟩ := vr_agg ha
 unfold Instr.field
 refine zcw hd ?_
 simp only [hfd]
 exact Runs.bind' ⟨us, w, rfl, zfI hc hv⟩
theorem asIntOf_int {α : Type} {P : Program} {w : World} (k : IntKind) (n : Int) {f : IntKind × Int → Sem α} {Q : α → World → Prop} (h : Runs P (f (k, n)) w Q) :
  Runs P (asIntOf (.int k n) >>= f) w Q := Runs.bind' ⟨(k, n), w, rfl, h⟩
end
end Go.Xe
end
