/-
  The ground: bytes, rows of texts, rows of rows, appends; Lists as texts: escapes, elements, the elements of a list. Plain functions, no program in sig. Conditions: none.
-/
import Derived.Test.YtfkeeieoapimlaaGreatDoorProg
import Derived.WalkKit
import Derived.ProofKit
import Derived.OpenShut
import Derived.Deep.QuietTactic
import Derived.BigQuiet
import Derived.LoopTactic
import Derived.RegionTactic
import Derived.WalkLawsBesides
import Derived.Handy
import Derived.Deep.LoopGhost
import Derived.Lib.Hide
import Derived.OwnWalk
import Derived.Maps.AppendAt
import Derived.Laws.CopyOwn
import Derived.RangeFuncOwn
import Derived.Shelf.Strings.Builder1
import Derived.RangeFuncNested
set_option linter.unusedVariables false
set_option linter.unusedSimpArgs false
set_option linter.unusedSectionVars false
set_option linter.deprecated false
section
namespace Go.Proofs.YtfkeeieoapimlaaGreatDoor
open Go.ChangeShapes Go.WideShapes Go.ChangeAt Go.RowKit
set_option maxRecDepth 100000
def byte (s : ByteArray) (k : Nat) : Nat := if h : k < s.size then (s[k]'h).toNat else 0
theorem zaN (s : ByteArray) : ∀ (n : Nat) (h : n < s.size), ((s[n]'h).toNat : Int) = (byte s n : Int) := fun n h => by unfold byte; rw [dif_pos h]
theorem zdx (s : ByteArray) (k : Nat) : byte s k < 256 := by
 unfold byte; split
 ·exact (s[k]).toNat_lt
 ·decide
theorem zco {a b : Bool} (h : a = b) : Ending.returned (.bool a) = Ending.returned (.bool b) := by rw [h]
def L (s : ByteArray) : List UInt8 := s.data.toList
theorem zcX (s : ByteArray) : (L s).length = s.size := by simp [L]
def ub (s : ByteArray) (k : Nat) : UInt8 := (byte s k).toUInt8
theorem zci (s : ByteArray) (k : Nat) : (ub s k).toNat = byte s k := by
 unfold ub
 have := zdx s k
 simp [Nat.toUInt8, UInt8.toNat_ofNat']
 omega
theorem L_get (s : ByteArray) {j : Nat} (h : j < s.size) : (L s)[j]'(by rw [zcX]; exact h) = ub s j := by
 apply UInt8.toNat.inj
 rw [zci]
 unfold byte
 rw [dif_pos h]
 rfl
theorem L_drop (s : ByteArray) {j : Nat} (h : j < s.size) : (L s).drop j = ub s j :: (L s).drop (j + 1) := by
 rw [List.drop_eq_getElem_cons (by rw [zcX]; exact h), L_get s h]
theorem zd0 (s : ByteArray) {j : Nat} (h : s.size ≤ j) : (L s).drop j = [] := List.drop_eq_nil_of_le (by rw [zcX]; exact h)
theorem L_mk (l : List UInt8) : L ⟨l.toArray⟩ = l := rfl
theorem mk_L (s : ByteArray) : (⟨(L s).toArray⟩ : ByteArray) = s := rfl
theorem L_empty (t : ByteArray) (h : t.size = 0) : L t = [] := List.eq_nil_of_length_eq_zero (by rw [zcX]; exact h)
theorem emp_true (t : ByteArray) (h : t.size = 0) : t.toList.isEmpty = true := by rw [Lib.toList_data]; have := L_empty t h; unfold L at this; rw [this]; rfl
theorem zeO (t : ByteArray) (h : ¬ t.size = 0) : t.toList.isEmpty = false := by
 rw [Lib.toList_data]
 have := zcX t
 unfold L at this
 cases hd : t.data.toList with
 | nil => rw [hd] at this; exact absurd this.symm h
 | cons a l => rfl
theorem L_cut (t : ByteArray) (a b : Nat) : L (t.extract a b) = ((L t).drop a).take (b - a) := by
 unfold L
 rw [ByteArray.data_extract, Array.toList_extract, List.extract_eq_drop_take]
theorem L_from (t : ByteArray) (a : Nat) : L (t.extract a t.size) = (L t).drop a := by
 rw [L_cut, List.take_of_length_le]
 rw [List.length_drop, zcX]; omega
def strV (t : List UInt8) : Value := .string ⟨t.toArray⟩
theorem zbE {W : World} {b : Nat} {e : TypeId} {size : Nat} {v : Value} {n : Nat} {xs : List Value} (h : W.ownsRow b e size v n xs) : ∃ a c, v = .slice a n c := by
 rcases h.2 with ⟨rfl, rfl⟩ | ⟨g, cap, cur, rfl, _⟩
 ·exact ⟨_, _, rfl⟩
 ·exact ⟨_, _, rfl⟩
theorem zal {w : World} {base e size : Nat} {v : Value} {n : Nat} {xs : List Value} (h : w.ownsRow base e size v n xs) {k : Nat} (hk : v.ownBlock = some k) : ∃ c, w.heap[k]? = some (.cells c e (0, 0)) := by
 rcases h.2 with ⟨rfl, _⟩ | ⟨g, cap, cur, rfl, _, hg, _⟩
 ·cases hk
 ·cases hk; exact ⟨_, hg⟩
theorem zaq {w : World} {b base : Nat} {e : TypeId} {size : Nat} {v : Value} {n : Nat} {xs : List Value} (h : w.ownsRow base e size v n xs) (hb : b ≤ base) : w.ownsRow b e size v n xs := by
 refine ⟨h.1, ?_⟩
 rcases h.2 with h | ⟨g, cap, cur, h1, h2, h3⟩
 ·exact .inl h
 ·exact .inr ⟨g, cap, cur, h1, Nat.le_trans hb h2, h3⟩
theorem zak {w w' : World} {base e size : Nat} {v : Value} {n : Nat} {xs : List Value} (h : w.ownsRow base e size v n xs)
  (ha : ∀ k, v.ownBlock = some k → w'.heap[k]? = w.heap[k]?) : w'.ownsRow base e size v n xs := by
 refine ⟨h.1, ?_⟩
 rcases h.2 with hn | ⟨g, cap, cur, rfl, hb, hgg, rest⟩
 ·exact .inl hn
 ·exact .inr ⟨g, cap, cur, rfl, hb, by rw [ha g rfl]; exact hgg, rest⟩
theorem zaz {w w' : World} {base e size : Nat} {v : Value} {n : Nat} {xs : List Value} (h : w.ownsRow base e size v n xs) (hb : Below w.heap.size w w') : w'.ownsRow base e size v n xs :=
 zak h fun k hk => hb.block k (h.lt k hk).2
theorem info9 : (Tryz.prog.info? 9).map (fun i => (i.zero, i.size, i.bytes)) = some (some (.string ⟨#[]⟩), 1, 16) := by kernel_rfl
def StrRow (w : World) (v : Value) (l : List (List UInt8)) : Prop :=
 (v = .slice none 0 0 ∧ l = []) ∨ ∃ (a : Addr) (c : Nat), v = .slice (some a) l.length c ∧ ∀ i t, l[i]? = some t → w.cell? (a.add i) = some (strV t)
theorem zcv {w w' : World} {p : Addr} {v : Value} (h : w.cell? p = some v) (hb : Below w.heap.size w w') : w'.cell? p = some v := by
 obtain ⟨o, ho, _⟩ := cells_of_cell h
 exact (World.cell?_of_block (hb.block _ (Array.getElem?_eq_some_iff.1 ho).1)).trans h
theorem StrRow.later {w w' : World} {v : Value} {l : List (List UInt8)} (h : StrRow w v l) (hb : Below w.heap.size w w') : StrRow w' v l := by
 rcases h with h | ⟨a, c, h1, h2⟩
 ·exact .inl h
 ·exact .inr ⟨a, c, h1, fun i t hi => zcv (h2 i t hi) hb⟩
theorem ownsRow_str {w : World} {b : Nat} {v : Value} {l : List (List UInt8)} (h : w.ownsRow b 9 1 v l.length (l.map strV)) : StrRow w v l := by
 rcases h.2 with ⟨hv, h0⟩ | ⟨g, cap, cur, rfl, h1, h2, h3⟩
 ·exact .inl ⟨by rw [hv], List.eq_nil_of_length_eq_zero h0⟩
 ·refine .inr ⟨⟨g, 0, none⟩, cap, rfl, fun i t hi => ?_⟩
  have := h.cells (g := g) rfl i (strV t) (by rw [List.getElem?_map, hi]; rfl)
  exact this
theorem StrRow.form {w : World} {v : Value} {l : List (List UInt8)} (h : StrRow w v l) : ∃ a c, v = .slice a l.length c ∧ ∀ i t, l[i]? = some t → ∃ p, a = some p ∧ w.cell? (p.add i) = some (strV t) := by
 rcases h with ⟨rfl, rfl⟩ | ⟨a, c, h1, h2⟩
 ·exact ⟨none, 0, rfl, fun i t hi => by simp at hi⟩
 ·exact ⟨some a, c, h1, fun i t hi => ⟨a, rfl, h2 i t hi⟩⟩
theorem zgs (t : List UInt8) : (⟨t.toArray⟩ : ByteArray).size = t.length := by simp [ByteArray.size]
section
variable {P : Program} {w : World}
def SameOrNew (w : World) (v v' : Value) : Prop := v'.ownBlock = v.ownBlock ∨ ∀ k, v'.ownBlock = some k → w.heap.size ≤ k
theorem run_append_tag (base : Nat) (t ty e : TypeId) (i : TypeInfo) (z : Value) (size bytes : Nat) (ht : P.underlying t = some (.slice e)) (hi : P.info? e = some i) (hz : i.zero = some z)
  (hsize : i.size = size) (hby : i.bytes = bytes) (hzs : z.cells.size = size) (hsz : 0 < size)
  (v : Value) (n : Nat) (xs : List Value) (hown : w.ownsRow base e size v n xs)
  (a : Addr) (m c : Nat) (news : List Value) (hl : news.length = m * size) (hnews : ∀ j u, news[j]? = some u → w.cell? (a.add j) = some u) (h1 : ∀ u ∈ news, u.oneCell' = true)
  (h63 : n + m ≤ maxLen) (hbytes : (n + m) * bytes ≤ 140737488355328) (hbase : base ≤ w.heap.size) :
  ∃ v' w', (Builtin.append_ #[t, t] ty #[v, .slice (some a) m c]).run P w = .ok v' w' ∧ w'.ownsRow base e size v' (n + m) (xs ++ news) ∧ w.grownBy w' v.ownBlock ∧ SameOrNew w v v' := by
 obtain ⟨v', w', hr, h2, h3, h4⟩ := run_append_own (P := P) w base t ty e i z size bytes ht hi hz hsize hby hzs hsz v n xs hown a m c news hl hnews h1 h63 hbytes hbase
 refine ⟨v', w', hr, h2, h3, ?_⟩
 subst hsize
 rcases hown.2 with ⟨rfl, rfl⟩ | ⟨g, cap, cur, rfl, hbg, hg, hnc, hcm, hcs, htake⟩
 ·
  have hx : xs = [] := List.eq_nil_of_length_eq_zero (by simpa using hown.1)
  subst hx
  obtain ⟨v2, w2, hr2, g2, g3, g4⟩ := run_append_own (P := P) w w.heap.size t ty e i z i.size bytes ht hi hz rfl hby hzs hsz (.slice none 0 0) 0 [] (World.ownsRow_nil w _ e i.size) a m c news hl hnews h1 h63 hbytes (Nat.le_refl _)
  rw [hr] at hr2
  cases hr2
  exact .inr fun k hk => (g2.lt k hk).1
 ·by_cases hroom : n + m ≤ cap
  ·have hfit : n * i.size + news.length ≤ cur.size := by rw [hl, hcs, ← Nat.add_mul]; exact Nat.mul_le_mul_right _ hroom
   have hr2 := run_append_room (P := P) w t ty e i ht hi g n cap cur hg a m c news hl hnews h1 hroom hfit
   rw [hr] at hr2
   cases hr2
   exact .inl rfl
  ·have holds : ∀ j u, xs[j]? = some u → w.cell? ((⟨g, 0, none⟩ : Addr).add j) = some u := hown.cells (g := g) rfl
   have hm' : n + m ≤ 9223372036854775807 := by simp only [maxLen] at h63; omega
   have hr2 := run_append_grow (P := P) w t ty e i z ht hi hz ⟨g, 0, none⟩ n cap xs hown.1 holds a m c news hl hnews (by omega) (by omega) (growslice_fits (by omega) (by rw [hby]; exact hbytes))
   rw [hr] at hr2
   cases hr2
   exact .inr fun k hk => by simp [Value.ownBlock] at hk; omega
theorem zeP {o : Oper} {a : Act} {K : Act → World → Prop} {Q : Exit → Act → World → Prop} (s x : Operand) (t : TypeId)
  (ho : o.op = .call { callee := .builtin .append, args := #[s, x], argTypes := #[t, t] })
  (base : Nat) (e : TypeId) (i : TypeInfo) (z : Value) (size bytes : Nat) (ht : P.underlying t = some (.slice e)) (hi : P.info? e = some i) (hz : i.zero = some z)
  (hsize : i.size = size) (hby : i.bytes = bytes) (hzs : z.cells.size = size) (hsz : 0 < size)
  (v : Value) (n : Nat) (xs : List Value) (hs : a.eval s = v) (hown : w.ownsRow base e size v n xs)
  (ad : Addr) (m c : Nat) (news : List Value) (hx : a.eval x = .slice (some ad) m c) (hl : news.length = m * size) (hnews : ∀ j u, news[j]? = some u → w.cell? (ad.add j) = some u) (h1 : ∀ u ∈ news, u.oneCell' = true)
  (h63 : n + m ≤ maxLen) (hbytes : (n + m) * bytes ≤ 140737488355328) (hbase : base ≤ w.heap.size)
  (h : ∀ v' w', w'.ownsRow base e size v' (n + m) (xs ++ news) → w.grownBy w' v.ownBlock → SameOrNew w v v' → K (a.put o.dst v') w') : o.wp P a w K Q := by
 obtain ⟨v', w', hr, h2, h3, h4⟩ := run_append_tag (P := P) (w := w) base t o.type e i z size bytes ht hi hz hsize hby hzs hsz v n xs hown ad m c news hl hnews h1 h63 hbytes hbase
 unfold Oper.wp execOp
 simp only [ho, resolve, invoke, builtin, Sem.run_bind, Sem.run_pure, Result.andThen_ok, List.map_toArray, List.map_cons, List.map_nil, hs, hx, hr]
 exact h v' w' h2 h3 h4
theorem zaa {ops : Array Oper} {rest : List Oper} {o : Oper} {a : Act} {Q : Exit → Act → World → Prop} (hgd : o.guard = none) (s x : Operand) (t : TypeId)
  (ho : o.op = .call { callee := .builtin .append, args := #[s, x], argTypes := #[t, t] })
  (base : Nat) (e : TypeId) (i : TypeInfo) (z : Value) (size bytes : Nat) (ht : P.underlying t = some (.slice e)) (hi : P.info? e = some i) (hz : i.zero = some z)
  (hsize : i.size = size) (hby : i.bytes = bytes) (hzs : z.cells.size = size) (hsz : 0 < size)
  (v : Value) (n : Nat) (xs : List Value) (hs : a.eval s = v) (hown : w.ownsRow base e size v n xs)
  (ad : Addr) (m c : Nat) (news : List Value) (hx : a.eval x = .slice (some ad) m c) (hl : news.length = m * size) (hnews : ∀ j u, news[j]? = some u → w.cell? (ad.add j) = some u) (h1 : ∀ u ∈ news, u.oneCell' = true)
  (h63 : n + m ≤ maxLen) (hbytes : (n + m) * bytes ≤ 140737488355328) (hbase : base ≤ w.heap.size)
  (h : ∀ v' w', w'.ownsRow base e size v' (n + m) (xs ++ news) → w.grownBy w' v.ownBlock → SameOrNew w v v' → wpList P ops Q rest (a.put o.dst v') w') : wpList P ops Q (o :: rest) a w :=
 wpList_plain hgd fun _ hK => zeP s x t ho base e i z size bytes ht hi hz hsize hby hzs hsz v n xs hs hown ad m c news hx hl hnews h1 h63 hbytes hbase fun v' w' h2 h3 h4 => hK _ _ (h v' w' h2 h3 h4)
end
def OwnTx (w : World) (m : Nat) (v : Value) (l : List (List UInt8)) : Prop := w.ownsRow m 9 1 v l.length (l.map strV)
theorem OwnTx.str {w : World} {m : Nat} {v : Value} {l : List (List UInt8)} (h : OwnTx w m v l) : StrRow w v l := ownsRow_str h
theorem OwnTx.later {w w' : World} {m : Nat} {v : Value} {l : List (List UInt8)} (h : OwnTx w m v l) (hb : Below w.heap.size w w') : OwnTx w' m v l := zaz h hb
theorem OwnTx.alloc {w : World} {m : Nat} {v : Value} {l : List (List UInt8)} (h : OwnTx w m v l) (o : Obj) : (w.alloc o).ownsRow m 9 1 v l.length (l.map strV) := World.ownsRow.alloc h o
theorem OwnTx.nil (w : World) (m : Nat) : OwnTx w m (.slice none 0 0) [] := World.ownsRow_nil w m 9 1
def Apart (u v : Value) : Prop := ∀ k, u.ownBlock = some k → v.ownBlock ≠ some k
theorem Apart.symm {u v : Value} (h : Apart u v) : Apart v u := fun k h1 h2 => h k h2 h1
theorem apart_nil (v : Value) : Apart (.slice none 0 0) v := fun k h => by cases h
theorem apart_grown {w w0 w' : World} {m : Nat} {u u' v : Value} {l : List (List UInt8)} (hv : OwnTx w m v l) (ha : Apart u v) (hs : w.heap.size ≤ w0.heap.size) (hold : ∀ k, k < w.heap.size → w0.heap[k]? = w.heap[k]?)
  (hg : w0.grownBy w' u.ownBlock) (hn : SameOrNew w0 u u') : OwnTx w' m v l ∧ Apart u' v := by
 refine ⟨zak hv fun k hk => ?_, fun k hk hk2 => ?_⟩
 ·have hlt := (hv.lt k hk).2
  rw [hg.block k (by omega) (fun e => ha k e.symm hk), hold k hlt]
 ·rcases hn with h | h
  ·exact ha k (by rw [← h]; exact hk) hk2
  ·have := h k hk
   have := (hv.lt k hk2).2
   omega
theorem OwnTx.snoc {w : World} {m : Nat} {v : Value} {l : List (List UInt8)} {x : List UInt8} (h : w.ownsRow m 9 1 v (l.length + 1) (l.map strV ++ [.string ⟨x.toArray⟩])) : OwnTx w m v (l ++ [x]) := by
 unfold OwnTx
 simpa [strV] using h
def Rows2 (W : World) (v : Value) (ls : List (List (List UInt8))) : Prop :=
 ∃ a c, v = .slice a ls.length c ∧ ∀ (i : Nat) (l : List (List UInt8)), ls[i]? = some l → ∃ p u, a = some p ∧ W.cell? (p.add i) = some u ∧ OwnTx W 0 u l
theorem Rows2.later {W W' : World} {v : Value} {ls : List (List (List UInt8))} (h : Rows2 W v ls) (hb : Below W.heap.size W W') : Rows2 W' v ls := by
 obtain ⟨a, c, rfl, h2⟩ := h
 refine ⟨a, c, rfl, fun i l hi => ?_⟩
 obtain ⟨p, u, h3, h4, h5⟩ := h2 i l hi
 exact ⟨p, u, h3, zcv h4 hb, h5.later hb⟩
def OwnRows (W : World) (m : Nat) (v : Value) (ls : List (List (List UInt8))) : Prop :=
 ∃ us, W.ownsRow m 24 1 v ls.length us ∧ ∀ (i : Nat) (l : List (List UInt8)), ls[i]? = some l → ∃ u, us[i]? = some u ∧ OwnTx W 0 u l
theorem OwnRows.later {W W' : World} {m : Nat} {v : Value} {ls : List (List (List UInt8))} (h : OwnRows W m v ls) (hb : Below W.heap.size W W') : OwnRows W' m v ls := by
 obtain ⟨us, h1, h2⟩ := h
 refine ⟨us, zaz h1 hb, fun i l hi => ?_⟩
 obtain ⟨u, h3, h4⟩ := h2 i l hi
 exact ⟨u, h3, h4.later hb⟩
theorem OwnRows.nil (W : World) (m : Nat) : OwnRows W m (.slice none 0 0) [] := ⟨[], World.ownsRow_nil W m 24 1, fun i l hi => by simp at hi⟩
theorem apart_types {w : World} {m m' e e' size size' n n' : Nat} {u v : Value} {xs ys : List Value} (hu : w.ownsRow m e size u n xs) (hv : w.ownsRow m' e' size' v n' ys) (he : e ≠ e') : Apart u v := by
 intro k h1 h2
 obtain ⟨c, hc⟩ := zal hu h1
 obtain ⟨d, hd⟩ := zal hv h2
 rw [hc] at hd
 cases hd
 exact he rfl
theorem OwnRows.snoc {W W2 : World} {m : Nat} {v v' x : Value} {ls : List (List (List UInt8))} {us : List Value} {l : List (List UInt8)} {tmp : Obj} (h1 : W.ownsRow m 24 1 v ls.length us) (h2 : ∀ (i : Nat) (l : List (List UInt8)), ls[i]? = some l → ∃ u, us[i]? = some u ∧ OwnTx W 0 u l)
  (hul : us.length = ls.length) (hx : OwnTx W 0 x l) (o : W2.ownsRow m 24 1 v' (ls.length + 1) (us ++ [x])) (g : (W.alloc tmp).grownBy W2 v.ownBlock) : OwnRows W2 m v' (ls ++ [l]) := by
 have keep : ∀ {y : Value} {t : List (List UInt8)}, OwnTx W 0 y t → OwnTx W2 0 y t := fun {y t} hy => by
  refine zak hy fun k hk => ?_
  have hlt := (hy.lt k hk).2
  rw [g.block k (by simp; omega) (fun e => apart_types h1 hy (by decide) k e.symm hk), heap_alloc_old W _ hlt]
 refine ⟨us ++ [x], by simpa using o, fun i t hi => ?_⟩
 by_cases hlt : i < ls.length
 ·rw [List.getElem?_append_left hlt] at hi
  obtain ⟨u, h3, h4⟩ := h2 i t hi
  exact ⟨u, by rw [List.getElem?_append_left (by omega)]; exact h3, keep h4⟩
 ·have hil : i = ls.length := by
   have := (List.getElem?_eq_some_iff.1 hi).1
   simp at this; omega
  subst hil
  rw [List.getElem?_append_right (Nat.le_refl _)] at hi
  simp at hi
  subst hi
  exact ⟨x, by rw [List.getElem?_append_right (by omega)]; simp [hul], keep hx⟩
theorem ub_eq (s : ByteArray) (k n : Nat) (hn : n < 256) : ub s k = UInt8.ofNat n ↔ byte s k = n := by
 constructor
 ·intro h; rw [← zci, h]; simp [UInt8.toNat_ofNat']; omega
 ·intro h; apply UInt8.toNat.inj; rw [zci, h]; simp [UInt8.toNat_ofNat']; omega
theorem ub_mk (s : ByteArray) (k : Nat) {n : Nat} (hn : n < 256) (h : byte s k = n) : ub s k = UInt8.ofNat n := (ub_eq s k n hn).2 h
def whN (c : Nat) : Bool := (decide (9 ≤ c) && decide (c ≤ 13)) || decide (c = 32)
set_option maxHeartbeats 400000 in
theorem zeQ (c : Nat) (hc : c < 256) (w : World) : Calls Tryz.prog 153 #[.int .u8 (c : Int)] w fun e w' => e = .returned (.bool (whN c)) ∧ w = w' := by
 have hcase : (9 ≤ c ∧ c ≤ 13) ∨ (13 < c ∧ c ≠ 32) ∨ (13 < c ∧ c = 32) ∨ c < 9 := by omega
 rcases hcase with ⟨a, b⟩ | ⟨a, b⟩ | ⟨a, b⟩ | a
 ·have h1 : (9 : Int) ≤ c := by omega
  have h2 : (c : Int) ≤ 13 := by omega
  go_enter Tryz.func153, Tryz.ntmps153
  go_wp2
  go_ret
  exact ⟨zco (by simp [whN]; omega), rfl⟩
 ·have h1 : (9 : Int) ≤ c := by omega
  have h2 : ¬ (c : Int) ≤ 13 := by omega
  have h3 : ((c : Int) == 32) = false := by simp; omega
  go_enter Tryz.func153, Tryz.ntmps153
  go_wp2
  go_ret
  exact ⟨zco (by simp [whN]; omega), rfl⟩
 ·subst b
  go_enter Tryz.func153, Tryz.ntmps153
  go_wp2
  go_ret
  exact ⟨rfl, rfl⟩
 ·have h1 : ¬ (9 : Int) ≤ c := by omega
  have h3 : ((c : Int) == 32) = false := by simp; omega
  go_enter Tryz.func153, Tryz.ntmps153
  go_wp2
  go_ret
  exact ⟨zco (by simp [whN]; omega), rfl⟩
theorem zag (w : World) (cs : Array Value) (T : TypeId) : ∃ A, w.alloc (.cells cs T) = A ∧ A.heap.size = w.heap.size + 1 ∧ A.heap[w.heap.size]? = some (.cells cs T (0, 0)) ∧ (∀ j, j < w.heap.size → A.heap[j]? = w.heap[j]?) ∧ Below w.heap.size w A :=
 ⟨_, rfl, by simp, heap_alloc_new w _, fun j hj => heap_alloc_old w _ hj, (Below.refl _ w).alloc (Nat.le_refl _) _⟩
end Go.Proofs.YtfkeeieoapimlaaGreatDoor
end
section
namespace Go.Proofs.YtfkeeieoapimlaaGreatDoor
def wh (c : UInt8) : Bool := (decide (9 ≤ c.toNat) && decide (c.toNat ≤ 13)) || c == 32
def dig (c : UInt8) : Nat :=
 if 48 ≤ c.toNat ∧ c.toNat ≤ 57 then c.toNat - 48
 else if 65 ≤ c.toNat ∧ c.toNat ≤ 70 then c.toNat - 55
 else if 97 ≤ c.toNat ∧ c.toNat ≤ 102 then c.toNat - 87
 else 16
def digs (base : Nat) : List UInt8 → Nat → Nat → Nat × Nat
 | c :: r, m + 1, v => if dig c < base then ((digs base r m (v * base + dig c)).1, (digs base r m (v * base + dig c)).2 + 1) else (v, 0)
 | _, _, v => (v, 0)
def ltr (c : UInt8) : Option UInt8 :=
 if c = 97 then some 7 else if c = 98 then some 8 else if c = 116 then some 9 else if c = 110 then some 10 else if c = 118 then some 11 else if c = 102 then some 12 else if c = 114 then some 13 else none
def blk : List UInt8 → Nat
 | [] => 0
 | c :: r => if c = 32 ∨ c = 9 then blk r + 1 else 0
def une2 (c : UInt8) (base at_ : Nat) (p : Nat × Nat) : List UInt8 × Nat :=
 if p.2 = 0 then ([c], 2) else ([UInt8.ofNat p.1], at_ + p.2)
def une1 (c : UInt8) (t : List UInt8) : List UInt8 × Nat :=
 match ltr c with
 | some b => ([b], 2)
 | none =>
   if c = 10 then ([32], blk t + 2)
   else if c = 120 then une2 c 16 2 (digs 16 t 2 0)
   else une2 c 8 1 (digs 8 (c :: t) 3 0)
def une : List UInt8 → List UInt8 × Nat
 | [] => ([], 0)
 | a :: r => if a ≠ 92 then ([], 0) else match r with
   | [] => ([92], 1)
   | c :: t => une1 c t
theorem une2_pos (c : UInt8) (base at_ : Nat) (p : Nat × Nat) : 1 ≤ (une2 c base at_ p).2 := by
 unfold une2
 split <;> simp
 omega
theorem une1_pos (c : UInt8) (t : List UInt8) : 1 ≤ (une1 c t).2 := by
 unfold une1
 split
 ·simp
 ·split
  ·simp
  ·split <;> exact une2_pos _ _ _ _
theorem une_pos (r : List UInt8) : 1 ≤ (une (92 :: r)).2 := by
 unfold une
 cases r with
 | nil => simp
 | cons c t => simpa using une1_pos c t
def bare (l : List UInt8) : List UInt8 × Nat :=
 match l with
 | [] => ([], 0)
 | c :: r => if wh c = true then ([], 0)
   else if hc : c = 92 then ((une (c :: r)).1 ++ (bare ((c :: r).drop (une (c :: r)).2)).1, (une (c :: r)).2 + (bare ((c :: r).drop (une (c :: r)).2)).2)
   else (c :: (bare r).1, 1 + (bare r).2)
termination_by l.length
decreasing_by
 all_goals first
  | (subst hc; have := une_pos r; simp only [List.length_drop, List.length_cons]; omega)
  | simp
def quo (l : List UInt8) : Option (List UInt8 × Nat) :=
 match l with
 | [] => none
 | c :: r => if c = 34 then some ([], 0)
   else if hc : c = 92 then (quo ((c :: r).drop (une (c :: r)).2)).map fun p => ((une (c :: r)).1 ++ p.1, (une (c :: r)).2 + p.2)
   else (quo r).map fun p => (c :: p.1, 1 + p.2)
termination_by l.length
decreasing_by
 all_goals first
  | (subst hc; have := une_pos r; simp only [List.length_drop, List.length_cons]; omega)
  | simp
def clo : List UInt8 → Int → Option Nat
 | [], _ => none
 | [c], d => if c = 92 then none else if c = 123 then none else if c = 125 then (if d - 1 = 0 then some 0 else none) else none
 | c :: b :: r, d => if c = 92 then (clo r d).map (· + 2) else if c = 123 then (clo (b :: r) (d + 1)).map (· + 1) else if c = 125 then (if d - 1 = 0 then some 0 else (clo (b :: r) (d - 1)).map (· + 1)) else (clo (b :: r) d).map (· + 1)
def elm (l : List UInt8) : Option (List UInt8 × Nat) :=
 match l with
 | [] => none
 | c :: r => if c = 123 then (clo (c :: r) 0).map fun k => (((c :: r).take k).drop 1, k + 1)
   else if c = 34 then (quo r).map fun p => (p.1, p.2 + 2)
   else some (bare (c :: r))
def endOk : List UInt8 → Bool
 | [] => true
 | c :: _ => wh c
theorem bare_pos {c : UInt8} {r : List UInt8} (hw : wh c = false) : 1 ≤ (bare (c :: r)).2 := by
 unfold bare
 simp only [hw]
 split
 ·contradiction
 ·split
  ·rename_i hc; subst hc; have := une_pos r; simp; omega
  ·simp
theorem elm_pos {c : UInt8} {r : List UInt8} (hw : wh c = false) {p : List UInt8 × Nat} (h : elm (c :: r) = some p) : 1 ≤ p.2 := by
 unfold elm at h
 simp only at h
 split at h
 ·obtain ⟨q, hq, rfl⟩ := Option.map_eq_some_iff.1 h; simp
 ·split at h
  ·obtain ⟨q, hq, rfl⟩ := Option.map_eq_some_iff.1 h; simp
  ·cases h; exact bare_pos hw
def spl (l : List UInt8) : Option (List (List UInt8)) :=
 match l with
 | [] => some []
 | c :: r => if hw : wh c = true then spl r
   else match he : elm (c :: r) with
    | none => none
    | some p => if endOk ((c :: r).drop p.2) = true then (spl ((c :: r).drop p.2)).map (p.1 :: ·) else none
termination_by l.length
decreasing_by
 ·simp
 ·have := elm_pos (by simpa using hw) he
  simp only [List.length_drop, List.length_cons]; omega
end Go.Proofs.YtfkeeieoapimlaaGreatDoor
end
section
namespace Go.Proofs.YtfkeeieoapimlaaGreatDoor
abbrev Tx := List UInt8
def zbU (w : Tx) : List Tx → List Tx
 | [] => []
 | c :: r => if c = w then r else c :: r
def zeR : Tx := [116, 104, 101, 110]
def zft : Tx := [101, 108, 115, 101, 105, 102]
def wElse : Tx := [101, 108, 115, 101]
theorem dropIf_len (w : Tx) (l : List Tx) : (zbU w l).length ≤ l.length := by
 unfold zbU
 split
 ·simp
 ·split <;> simp
def cnd (l : List Tx) : Option (List Tx × List Tx) :=
 match l with
 | [] => none
 | c :: r => match hd : zbU zeR r with
   | [] => none
   | [b] => some ([c], [b])
   | b :: x :: r3 => if x = zft then (cnd r3).map fun p => (c :: p.1, b :: p.2)
     else match zbU wElse (x :: r3) with
      | [z] => some ([c], [b, z])
      | _ => none
termination_by l.length
decreasing_by
 have := dropIf_len zeR r
 rw [hd] at this
 simp at this ⊢; omega
def rowOf (k : Nat) (v l : List Tx) : List Tx := (List.range v.length).map fun j => (l[k * v.length + j]?).getD []
def rowAll (k : Nat) (vs ls : List (List Tx)) : List Tx := (vs.zip ls).flatMap fun p => rowOf k p.1 p.2
def most (vs ls : List (List Tx)) : Nat := (vs.zip ls).foldl (fun m p => max m ((p.2.length + p.1.length - 1) / p.1.length)) 0
def splAll : List Tx → Option (List (List Tx))
 | [] => some []
 | s :: r => match spl s, splAll r with
   | some x, some y => some (x :: y)
   | _, _ => none
def rnd (names lists : List Tx) : Except Int (List (List Tx)) :=
 if names.length ≠ lists.length ∨ names.length = 0 then .error 1
 else match splAll names, splAll lists with
  | some vs, some ls => if vs.any (·.isEmpty) then .error 8 else .ok ((List.range (most vs ls)).map fun k => rowAll k vs ls)
  | _, _ => .error 2
end Go.Proofs.YtfkeeieoapimlaaGreatDoor
end
section
namespace Go.Proofs.YtfkeeieoapimlaaGreatDoor
open Go.ChangeShapes Go.WideShapes Go.ChangeAt Go.RowKit
set_option maxRecDepth 100000
def CondR (w : World) (l : List (List UInt8)) (e : Ending) (w' : World) : Prop :=
 (∀ cs bs, cnd l = some (cs, bs) → ∃ u v, e = .returned (.tuple #[u, v, .int .i64 0]) ∧ OwnTx w' w.heap.size u cs ∧ OwnTx w' w.heap.size v bs) ∧
 (cnd l = none → e = .returned (.tuple #[.slice none 0 0, .slice none 0 0, .int .i64 2])) ∧ Below w.heap.size w w'
theorem CondR.some {w w' : World} {l : List (List UInt8)} {cs bs : List (List UInt8)} {u v : Value} (h : cnd l = some (cs, bs)) (h1 : OwnTx w' w.heap.size u cs) (h2 : OwnTx w' w.heap.size v bs) (hb : Below w.heap.size w w') :
  CondR w l (.returned (.tuple #[u, v, .int .i64 0])) w' :=
 ⟨fun cs' bs' h' => by rw [h] at h'; cases h'; exact ⟨u, v, rfl, h1, h2⟩, fun h' => by (rw [h] at h'; cases h'), hb⟩
theorem CondR.none {w w' : World} {l : List (List UInt8)} (h : cnd l = none) (hb : Below w.heap.size w w') : CondR w l (.returned (.tuple #[.slice none 0 0, .slice none 0 0, .int .i64 2])) w' :=
 ⟨fun cs' bs' h' => by (rw [h] at h'; cases h'), fun _ => rfl, hb⟩
theorem cnd_nil : cnd [] = none := by simp [cnd]
theorem cnd_one (c : List UInt8) : cnd [c] = none := by rw [cnd.eq_def]; simp [zbU]
theorem zaJ (w : List UInt8) (r : List (List UInt8)) : zbU w (w :: r) = r := by simp [zbU]
theorem zaP {w x : List UInt8} (r : List (List UInt8)) (h : ¬ x = w) : zbU w (x :: r) = x :: r := by simp [zbU, h]
theorem cnd_then_end (c : List UInt8) : cnd [c, zeR] = none := by
 rw [cnd.eq_def]; simp only
 have h := zaJ zeR []
 split <;> simp_all
theorem zbg {c b : List UInt8} {r r1 : List (List UInt8)} (h : zbU zeR r1 = b :: r) : cnd (c :: r1) =
  match r with
  | [] => some ([c], [b])
  | x :: r3 => if x = zft then (cnd r3).map fun p => (c :: p.1, b :: p.2)
    else match zbU wElse (x :: r3) with
     | [z] => some ([c], [b, z])
     | _ => none := by
 rw [cnd.eq_def]; simp only
 split
 ·rename_i h2; rw [h] at h2; cases h2
 ·rename_i h2; rw [h] at h2; cases h2; rfl
 ·rename_i h2; rw [h] at h2; cases h2; rfl
theorem zbj {l r : List (List UInt8)} {i : Nat} {c : List UInt8} (h : l.drop i = c :: r) : l[i]? = some c ∧ l.drop (i + 1) = r ∧ i < l.length := by
 have hi : i < l.length := by
  rcases Nat.lt_or_ge i l.length with h' | h'
  ·exact h'
  ·rw [List.drop_eq_nil_of_le h'] at h; cases h
 rw [List.drop_eq_getElem_cons hi] at h
 injection h with h1 h2
 exact ⟨by rw [List.getElem?_eq_getElem hi, h1], h2, hi⟩
theorem zbH {l : List (List UInt8)} {i : Nat} (h : l.drop i = []) : l.length ≤ i := by
 rcases Nat.lt_or_ge i l.length with h' | h'
 ·rw [List.drop_eq_getElem_cons h'] at h; cases h
 ·exact h'
end Go.Proofs.YtfkeeieoapimlaaGreatDoor
end
section
namespace Go.Proofs.YtfkeeieoapimlaaGreatDoor
open Go.ChangeShapes Go.WideShapes Go.ChangeAt Go.RowKit
set_option maxRecDepth 100000
structure CI (w : World) (b : Nat) (tv : Value) (i e : Int) (u v : Value) (cs bs : List (List UInt8)) (W : World) : Prop where
 wd : Boxed W b 24 tv
 er : Boxed W (b + 1) 28 (.int .i64 e)
 ix : Boxed W (b + 2) 3 (.int .i64 i)
 ru : OwnTx W (b + 3) u cs
 rv : OwnTx W (b + 3) v bs
 ap : Apart u v
 bel : Below w.heap.size w W
 hb : w.heap.size ≤ b
 sz : b + 3 ≤ W.heap.size
theorem OwnTx.setBox {W : World} {m B : Nat} {v x : Value} {l : List (List UInt8)} (h : OwnTx W m v l) (hB : B < m) : OwnTx (W.setCell ⟨B, 0, none⟩ x) m v l :=
 zak h fun k hk => heap_setCell_other _ _ _ _ (by have := (h.lt k hk).1; simp; omega)
theorem CI.cast {w W : World} {b : Nat} {i j e : Int} {tv u v : Value} {cs bs : List (List UInt8)} (h : CI w b tv i e u v cs bs W) (hj : j = i) : CI w b tv j e u v cs bs W := hj ▸ h
theorem CI.step {w W : World} {b : Nat} {i e : Int} {tv u v : Value} {cs bs : List (List UInt8)} (h : CI w b tv i e u v cs bs W) (j : Int) : CI w b tv j e u v cs bs (W.setCell ⟨b + 2, 0, none⟩ (.int .i64 j)) := by
 have hb := h.hb
 exact {
  wd := h.wd.other (by omega) _
  er := h.er.other (by omega) _
  ix := h.ix.set _
  ru := h.ru.setBox (by omega)
  rv := h.rv.setBox (by omega)
  ap := h.ap
  bel := h.bel.setCell (p := ⟨b + 2, 0, none⟩) (by simp; omega) _
  hb := hb
  sz := by have := h.sz; simp; exact this }
theorem CI.fail {w W : World} {b : Nat} {i e : Int} {tv u v : Value} {cs bs : List (List UInt8)} (h : CI w b tv i e u v cs bs W) : CI w b tv i 2 u v cs bs (W.setCell ⟨b + 1, 0, none⟩ (.int .i64 2)) := by
 have hb := h.hb
 exact {
  wd := h.wd.other (by omega) _
  er := h.er.set _
  ix := h.ix.other (by omega) _
  ru := h.ru.setBox (by omega)
  rv := h.rv.setBox (by omega)
  ap := h.ap
  bel := h.bel.setCell (p := ⟨b + 1, 0, none⟩) (by simp; omega) _
  hb := hb
  sz := by have := h.sz; simp; exact this }
theorem CI.fail0 {w W : World} {b : Nat} {i e : Int} {tv u v : Value} {cs bs : List (List UInt8)} (h : CI w b tv i e u v cs bs W) : CI w b tv i 0 u v cs bs (W.setCell ⟨b + 1, 0, none⟩ (.int .i64 0)) := by
 have hb := h.hb
 exact {
  wd := h.wd.other (by omega) _
  er := h.er.set _
  ix := h.ix.other (by omega) _
  ru := h.ru.setBox (by omega)
  rv := h.rv.setBox (by omega)
  ap := h.ap
  bel := h.bel.setCell (p := ⟨b + 1, 0, none⟩) (by simp; omega) _
  hb := hb
  sz := by have := h.sz; simp; exact this }
theorem CI.swap {w W : World} {b : Nat} {i e : Int} {tv u v : Value} {cs bs : List (List UInt8)} (h : CI w b tv i e u v cs bs W) : CI w b tv i e v u bs cs W :=
 ⟨h.wd, h.er, h.ix, h.rv, h.ru, h.ap.symm, h.bel, h.hb, h.sz⟩
theorem CI.app {w W w2 : World} {b : Nat} {i e : Int} {tv u v u' : Value} {cs bs : List (List UInt8)} {x : List UInt8} {tmp : Obj} (h : CI w b tv i e u v cs bs W)
  (o : w2.ownsRow (b + 3) 9 1 u' (cs.length + 1) (cs.map strV ++ [.string ⟨x.toArray⟩])) (g : (W.alloc tmp).grownBy w2 u.ownBlock) (n : SameOrNew (W.alloc tmp) u u') : CI w b tv i e u' v (cs ++ [x]) bs w2 := by
 have hne : ∀ B, B < b + 3 → some B ≠ u.ownBlock := fun B hB he => by
  have := (h.ru.lt B he.symm).1
  omega
 obtain ⟨h1, h2⟩ := apart_grown h.rv h.ap (by simp) (fun k hk => heap_alloc_old _ _ hk) g n
 have hsz := h.sz
 exact {
  wd := (h.wd.alloc tmp).kept g (hne _ (by omega))
  er := (h.er.alloc tmp).kept g (hne _ (by omega))
  ix := (h.ix.alloc tmp).kept g (hne _ (by omega))
  ru := by unfold OwnTx; simpa [strV] using o
  rv := h1
  ap := h2
  bel := h.bel.trans (((Below.refl w.heap.size W).alloc h.bel.size _).grown g (by have := h.bel.size; simp; omega) (fun k hk => by have := (h.ru.lt k hk).1; have := h.hb; omega))
  hb := h.hb
  sz := by have := g.size; simp at this; omega }
set_option maxHeartbeats 400000 in
theorem next_hit (W : World) (b i : Nat) (a : Option Addr) (len cap : Nat) (x : List UInt8) (p : Addr) (hpb : p.block < b) (ha : a = some p) (hx : W.cell? (p.add i) = some (.string ⟨x.toArray⟩)) (hi : i < len) (hl : len ≤ 1000000)
  (c0 : W.cell? ⟨b, 0, none⟩ = some (.slice a len cap)) (c2 : W.cell? ⟨b + 2, 0, none⟩ = some (.int .i64 (i : Int))) (f2 : W.frozen? ⟨b + 2, 0, none⟩ = false) :
  Calls Tryz.prog 168 #[.pointer (some ⟨b + 2, 0, none⟩), .pointer (some ⟨b, 0, none⟩), .pointer (some ⟨b + 1, 0, none⟩)] W fun e w' => e = .returned (.string ⟨x.toArray⟩) ∧ w' = W.setCell ⟨b + 2, 0, none⟩ (.int .i64 ((i : Int) + 1)) := by
 subst ha
 have t1 : ¬ (len : Int) ≤ (i : Int) := by omega
 have t2 : (i : Int) < (len : Int) := by omega
 have hx2 : (W.setCell ⟨b + 2, 0, none⟩ (.int .i64 ((i : Int) + 1))).cell? (p.add i) = some (.string ⟨x.toArray⟩) := by
  refine (World.cell?_of_block ?_).trans hx
  rw [show (p.add i).block = p.block by unfold Addr.add; split <;> rfl]
  exact heap_setCell_other _ _ _ _ (by simp; omega)
 go_enter Tryz.func168, Tryz.ntmps168
 go_wp2
 go_ret
 exact ⟨rfl, rfl⟩
set_option maxHeartbeats 400000 in
theorem next_fail (W : World) (b i : Nat) (a : Option Addr) (len cap : Nat) (hi : len ≤ i) (hl : i ≤ 1000000)
  (c0 : W.cell? ⟨b, 0, none⟩ = some (.slice a len cap)) (c2 : W.cell? ⟨b + 2, 0, none⟩ = some (.int .i64 (i : Int))) (e : Int) (c1 : W.cell? ⟨b + 1, 0, none⟩ = some (.int .i64 e)) (f1 : W.frozen? ⟨b + 1, 0, none⟩ = false) :
  Calls Tryz.prog 168 #[.pointer (some ⟨b + 2, 0, none⟩), .pointer (some ⟨b, 0, none⟩), .pointer (some ⟨b + 1, 0, none⟩)] W fun e w' => e = .returned (.string ⟨#[]⟩) ∧ w' = W.setCell ⟨b + 1, 0, none⟩ (.int .i64 2) := by
 have t1 : (len : Int) ≤ (i : Int) := by omega
 go_enter Tryz.func168, Tryz.ntmps168
 go_wp2
 go_ret
 exact ⟨rfl, rfl⟩
def CellsOf (w : World) (p : Addr) (l : List (List UInt8)) : Prop := ∀ W, Below w.heap.size w W → ∀ j y, l[j]? = some y → W.cell? (p.add j) = some (.string ⟨y.toArray⟩)
theorem CI.hit {w W : World} {b : Nat} {i e : Int} {u v : Value} {cs bs l : List (List UInt8)} {p : Addr} {c : Nat} {x : List UInt8} (h : CI w b (.slice (some p) l.length c) i e u v cs bs W) (hc : CellsOf w p l) (hpb : p.block < b) (hl : l.length ≤ 1000)
  (k : Nat) (hk : i = (k : Int)) (hx : l[k]? = some x) :
  Calls Tryz.prog 168 #[.pointer (some ⟨b + 2, 0, none⟩), .pointer (some ⟨b, 0, none⟩), .pointer (some ⟨b + 1, 0, none⟩)] W fun e' W' => e' = .returned (.string ⟨x.toArray⟩) ∧ CI w b (.slice (some p) l.length c) (i + 1) e u v cs bs W' := by
 subst hk
 have hlt : k < l.length := (List.getElem?_eq_some_iff.1 hx).1
 refine (next_hit W b k (some p) l.length c x p hpb rfl (hc W h.bel k x hx) hlt (by omega) h.wd.cell h.ix.cell h.ix.frozen).mono ?_
 rintro e' W' ⟨rfl, rfl⟩
 exact ⟨rfl, h.step _⟩
theorem CI.miss {w W : World} {b : Nat} {i e : Int} {u v : Value} {cs bs l : List (List UInt8)} {a : Option Addr} {c : Nat} (h : CI w b (.slice a l.length c) i e u v cs bs W)
  (k : Nat) (hk : i = (k : Int)) (hlk : l.length ≤ k) (hk2 : k ≤ 1000000) :
  Calls Tryz.prog 168 #[.pointer (some ⟨b + 2, 0, none⟩), .pointer (some ⟨b, 0, none⟩), .pointer (some ⟨b + 1, 0, none⟩)] W fun e' W' => e' = .returned (.string ⟨#[]⟩) ∧ CI w b (.slice a l.length c) i 2 u v cs bs W' := by
 subst hk
 refine (next_fail W b k a l.length c hlk hk2 h.wd.cell h.ix.cell e h.er.cell h.er.frozen).mono ?_
 rintro e' W' ⟨rfl, rfl⟩
 exact ⟨rfl, h.fail⟩
theorem zaC {fn : Func} {p q r : Tmp} (h : fn.results = #[.tmp p, .tmp q, .cell r 28]) (tmps : Array Value) (w : World) {c : Addr} {z : Value} (hr : tmps.getD r undef = .pointer (some c)) (hc : w.cell? c = some z) :
  (results fn tmps).run Tryz.prog w = .ok (.tuple #[tmps.getD p undef, tmps.getD q undef, z]) w := by
 rw [Array.getD_eq_getD_getElem?] at hr
 simp [results, h, hr, asAddr, loadVar, Tryz.isAgg28, run_load, hc, Result.andThen]
end Go.Proofs.YtfkeeieoapimlaaGreatDoor
end
