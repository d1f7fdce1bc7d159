/-
  Lists as texts: escapes, elements, the elements of a list. Plain functions, no program in sight; Parameters and what they get: plain functions, no pro. Conditions: none.
-/
import Derived.Test.YtppjodfehhlniaaGreatDoorProg
import Derived.WalkKit
import Derived.ProofKit
import Derived.OpenShut
import Derived.Deep.QuietTactic
import Derived.BigQuiet
import Derived.LoopTactic
import Derived.RegionTactic
import Derived.WalkLawsBesides
import Derived.Handy
import Derived.Deep.LoopGhost
import Derived.Lib.Hide
import Derived.Shelf.Strings.Builder1
import Derived.Shelf.Small.Strs
import Derived.Shelf.LaysM
import Derived.Shelf.Strings.Prefix
import Derived.Laws.BytesArg
import Derived.Test.YtppjodfehhlniaaGreatDoorWl0ToWl2
import Derived.Test.YtppjodfehhlniaaGreatDoorRows
import Derived.JoinedCond
import Derived.Test.YtppjodfehhlniaaGreatDoorWrl
import Derived.Test.YtppjodfehhlniaaGreatDoorWkinPlace
import Derived.Test.YtppjodfehhlniaaGreatDoorWknamed
import Derived.Test.YtppjodfehhlniaaGreatDoorWkkeys
import Derived.Test.YtppjodfehhlniaaGreatDoorWkenter
import Derived.Test.YtppjodfehhlniaaGreatDoorVt1
import Derived.Test.YtppjodfehhlniaaGreatDoorVt2
import Derived.Test.YtppjodfehhlniaaGreatDoorVt4
import Derived.LaidByTextLater
import Derived.SevenTiedAt
set_option linter.unusedVariables false
set_option linter.unusedSimpArgs false
set_option linter.unusedSectionVars false
set_option linter.deprecated false
section
namespace Go.Proofs.YtppjodfehhlniaaGreatDoor
def wh (c : UInt8) : Bool := (decide (9 ≤ c.toNat) && decide (c.toNat ≤ 13)) || c == 32
def dig (c : UInt8) : Nat :=
 if 48 ≤ c.toNat ∧ c.toNat ≤ 57 then c.toNat - 48
 else if 65 ≤ c.toNat ∧ c.toNat ≤ 70 then c.toNat - 55
 else if 97 ≤ c.toNat ∧ c.toNat ≤ 102 then c.toNat - 87
 else 16
def digs (base : Nat) : List UInt8 → Nat → Nat → Nat × Nat
 | c :: r, m + 1, v => if dig c < base then ((digs base r m (v * base + dig c)).1, (digs base r m (v * base + dig c)).2 + 1) else (v, 0)
 | _, _, v => (v, 0)
def ltr (c : UInt8) : Option UInt8 :=
 if c = 97 then some 7 else if c = 98 then some 8 else if c = 116 then some 9 else if c = 110 then some 10 else if c = 118 then some 11 else if c = 102 then some 12 else if c = 114 then some 13 else none
def blk : List UInt8 → Nat
 | [] => 0
 | c :: r => if c = 32 ∨ c = 9 then blk r + 1 else 0
def une2 (c : UInt8) (base at_ : Nat) (p : Nat × Nat) : List UInt8 × Nat :=
 if p.2 = 0 then ([c], 2) else ([UInt8.ofNat p.1], at_ + p.2)
def une1 (c : UInt8) (t : List UInt8) : List UInt8 × Nat :=
 match ltr c with
 | some b => ([b], 2)
 | none =>
   if c = 10 then ([32], blk t + 2)
   else if c = 120 then une2 c 16 2 (digs 16 t 2 0)
   else une2 c 8 1 (digs 8 (c :: t) 3 0)
def une : List UInt8 → List UInt8 × Nat
 | [] => ([], 0)
 | a :: r => if a ≠ 92 then ([], 0) else match r with
   | [] => ([92], 1)
   | c :: t => une1 c t
theorem zey {a : UInt8} {r : List UInt8} (h : a ≠ 92) : une (a :: r) = ([], 0) := by simp [une, h]
theorem zhA (base : Nat) : ∀ (l : List UInt8) (m v : Nat), (digs base l m v).2 ≤ l.length ∧ (digs base l m v).2 ≤ m := by
 intro l
 induction l with
 | nil => intro m v; cases m <;> simp [digs]
 | cons c r ih =>
   intro m v
   cases m with
   | zero => simp [digs]
   | succ m =>
     unfold digs
     split
     ·have := ih m (v * base + dig c); simp only [List.length_cons]; omega
     ·simp
theorem zuK : ∀ l : List UInt8, blk l ≤ l.length := by
 intro l
 induction l with
 | nil => simp [blk]
 | cons c r ih => unfold blk; split <;> simp <;> omega
theorem zs6 (c : UInt8) (base at_ : Nat) (p : Nat × Nat) : 1 ≤ (une2 c base at_ p).2 := by
 unfold une2
 split <;> simp
 omega
theorem zs7 (c : UInt8) (t : List UInt8) : 1 ≤ (une1 c t).2 := by
 unfold une1
 split
 ·simp
 ·split
  ·simp
  ·split <;> exact zs6 _ _ _ _
theorem zcg (r : List UInt8) : 1 ≤ (une (92 :: r)).2 := by
 unfold une
 cases r with
 | nil => simp
 | cons c t => simpa using zs7 c t
theorem zn0 (l : List UInt8) : (une l).2 ≤ l.length := by
 unfold une
 cases l with
 | nil => simp
 | cons a r =>
   simp only
   split
   ·simp
   ·cases r with
    | nil => simp
    | cons c t =>
      simp only [List.length_cons]
      unfold une1
      split
      ·simp
      ·split
       ·have := zuK t; simp; omega
       ·split
        ·have := zhA 16 t 2 0
         unfold une2; split <;> simp; omega
        ·have := zhA 8 (c :: t) 3 0
         simp only [List.length_cons] at this
         unfold une2; split <;> simp <;> omega
def bare (l : List UInt8) : List UInt8 × Nat :=
 match l with
 | [] => ([], 0)
 | c :: r => if wh c = true then ([], 0)
   else if hc : c = 92 then ((une (c :: r)).1 ++ (bare ((c :: r).drop (une (c :: r)).2)).1, (une (c :: r)).2 + (bare ((c :: r).drop (une (c :: r)).2)).2)
   else (c :: (bare r).1, 1 + (bare r).2)
termination_by l.length
decreasing_by
 all_goals first
  | (subst hc; have := zcg r; simp only [List.length_drop, List.length_cons]; omega)
  | simp
def quo (l : List UInt8) : Option (List UInt8 × Nat) :=
 match l with
 | [] => none
 | c :: r => if c = 34 then some ([], 0)
   else if hc : c = 92 then (quo ((c :: r).drop (une (c :: r)).2)).map fun p => ((une (c :: r)).1 ++ p.1, (une (c :: r)).2 + p.2)
   else (quo r).map fun p => (c :: p.1, 1 + p.2)
termination_by l.length
decreasing_by
 all_goals first
  | (subst hc; have := zcg r; simp only [List.length_drop, List.length_cons]; omega)
  | simp
def clo : List UInt8 → Int → Option Nat
 | [], _ => none
 | [c], d => if c = 92 then none else if c = 123 then none else if c = 125 then (if d - 1 = 0 then some 0 else none) else none
 | c :: b :: r, d => if c = 92 then (clo r d).map (· + 2) else if c = 123 then (clo (b :: r) (d + 1)).map (· + 1) else if c = 125 then (if d - 1 = 0 then some 0 else (clo (b :: r) (d - 1)).map (· + 1)) else (clo (b :: r) d).map (· + 1)
def elm (l : List UInt8) : Option (List UInt8 × Nat) :=
 match l with
 | [] => none
 | c :: r => if c = 123 then (clo (c :: r) 0).map fun k => (((c :: r).take k).drop 1, k + 1)
   else if c = 34 then (quo r).map fun p => (p.1, p.2 + 2)
   else some (bare (c :: r))
def zez : List UInt8 → Bool
 | [] => true
 | c :: _ => wh c
theorem zs8 : ∀ (n : Nat) (l : List UInt8), l.length ≤ n → (bare l).2 ≤ l.length := by
 intro n
 induction n with
 | zero => intro l h; have : l = [] := List.eq_nil_of_length_eq_zero (by omega); subst this; simp [bare]
 | succ n ih =>
   intro l h
   unfold bare
   cases l with
   | nil => simp
   | cons c r =>
     simp only
     split
     ·simp
     ·split
      ·rename_i hc; subst hc
       have h1 := zcg r
       have h2 := zn0 (92 :: r)
       have h3 := ih ((92 :: r).drop (une (92 :: r)).2) (by simp at h ⊢; omega)
       simp at h3 h2 ⊢; omega
      ·have h3 := ih r (by simpa using h)
       simp; omega
theorem zuL : ∀ (n : Nat) (l : List UInt8), l.length ≤ n → ∀ p, quo l = some p → p.2 + 1 ≤ l.length := by
 intro n
 induction n with
 | zero => intro l h p hp; have : l = [] := List.eq_nil_of_length_eq_zero (by omega); subst this; simp [quo] at hp
 | succ n ih =>
   intro l h p hp
   unfold quo at hp
   cases l with
   | nil => simp at hp
   | cons c r =>
     simp only at hp
     split at hp
     ·cases hp; simp
     ·split at hp
      ·rename_i hc; subst hc
       have h1 := zcg r
       have h2 := zn0 (92 :: r)
       obtain ⟨q, hq, rfl⟩ := Option.map_eq_some_iff.1 hp
       have h3 := ih _ (by simp at h ⊢; omega) q hq
       simp at h3 h2 ⊢; omega
      ·obtain ⟨q, hq, rfl⟩ := Option.map_eq_some_iff.1 hp
       have h3 := ih r (by simpa using h) q hq
       simp; omega
theorem zrs : ∀ (n : Nat) (l : List UInt8) (d : Int), l.length ≤ n → ∀ k, clo l d = some k → k + 1 ≤ l.length := by
 intro n
 induction n with
 | zero => intro l d h k hk; have : l = [] := List.eq_nil_of_length_eq_zero (by omega); subst this; simp [clo] at hk
 | succ n ih =>
   intro l d h k hk
   match l, h, hk with
   | [], h, hk => simp [clo] at hk
   | [c], h, hk =>
     unfold clo at hk
     split at hk
     ·cases hk
     ·split at hk
      ·cases hk
      ·split at hk
       ·split at hk
        ·cases hk; simp
        ·cases hk
       ·cases hk
   | c :: b :: r, h, hk =>
     unfold clo at hk
     simp only [List.length_cons] at h ⊢
     split at hk
     ·obtain ⟨q, hq, rfl⟩ := Option.map_eq_some_iff.1 hk
      have := ih r d (by omega) q hq; omega
     ·split at hk
      ·obtain ⟨q, hq, rfl⟩ := Option.map_eq_some_iff.1 hk
       have := ih (b :: r) _ (by simp; omega) q hq; simp at this; omega
      ·split at hk
       ·split at hk
        ·cases hk; omega
        ·obtain ⟨q, hq, rfl⟩ := Option.map_eq_some_iff.1 hk
         have := ih (b :: r) _ (by simp; omega) q hq; simp at this; omega
       ·obtain ⟨q, hq, rfl⟩ := Option.map_eq_some_iff.1 hk
        have := ih (b :: r) _ (by simp; omega) q hq; simp at this; omega
theorem zs9 {c : UInt8} {r : List UInt8} (hw : wh c = false) : 1 ≤ (bare (c :: r)).2 := by
 unfold bare
 simp only [hw]
 split
 ·contradiction
 ·split
  ·rename_i hc; subst hc; have := zcg r; simp; omega
  ·simp
theorem zfy {c : UInt8} {r : List UInt8} (hw : wh c = false) {p : List UInt8 × Nat} (h : elm (c :: r) = some p) : 1 ≤ p.2 := by
 unfold elm at h
 simp only at h
 split at h
 ·obtain ⟨q, hq, rfl⟩ := Option.map_eq_some_iff.1 h; simp
 ·split at h
  ·obtain ⟨q, hq, rfl⟩ := Option.map_eq_some_iff.1 h; simp
  ·cases h; exact zs9 hw
theorem zn1 {l : List UInt8} {p : List UInt8 × Nat} (h : elm l = some p) : p.2 ≤ l.length := by
 unfold elm at h
 cases l with
 | nil => cases h
 | cons c r =>
   simp only at h
   split at h
   ·obtain ⟨q, hq, rfl⟩ := Option.map_eq_some_iff.1 h; exact zrs _ _ _ (Nat.le_refl _) _ hq
   ·split at h
    ·obtain ⟨q, hq, rfl⟩ := Option.map_eq_some_iff.1 h; have := zuL _ _ (Nat.le_refl _) _ hq; simp; omega
    ·cases h; exact zs8 _ _ (Nat.le_refl _)
def spl (l : List UInt8) : Option (List (List UInt8)) :=
 match l with
 | [] => some []
 | c :: r => if hw : wh c = true then spl r
   else match he : elm (c :: r) with
    | none => none
    | some p => if zez ((c :: r).drop p.2) = true then (spl ((c :: r).drop p.2)).map (p.1 :: ·) else none
termination_by l.length
decreasing_by
 ·simp
 ·have := zfy (by simpa using hw) he
  simp only [List.length_drop, List.length_cons]; omega
theorem zf2 {c : UInt8} {r : List UInt8} (h : wh c = true) : spl (c :: r) = spl r := by
 rw [spl]; simp [h]
theorem zhB {c : UInt8} {r : List UInt8} (h : wh c = false) (he : elm (c :: r) = none) : spl (c :: r) = none := by
 rw [spl]; simp only [h]; rw [dif_neg (by decide)]
 split
 ·rfl
 ·rename_i hs; rw [he] at hs; cases hs
theorem zf3 {c : UInt8} {r : List UInt8} (h : wh c = false) {p : List UInt8 × Nat} (he : elm (c :: r) = some p) :
  spl (c :: r) = if zez ((c :: r).drop p.2) = true then (spl ((c :: r).drop p.2)).map (p.1 :: ·) else none := by
 rw [spl]; simp only [h]; rw [dif_neg (by decide)]
 split
 ·rename_i hs; rw [he] at hs; cases hs
 ·rename_i q hs; rw [he] at hs; cases hs; rfl
end Go.Proofs.YtppjodfehhlniaaGreatDoor
end
section
namespace Go.Proofs.YtppjodfehhlniaaGreatDoor
structure Prm where
 name : List UInt8
 other : List UInt8
 has : Bool
def two : List UInt8 → Bool
 | [] => false
 | [_] => false
 | a :: b :: r => (a == 58 && b == 58) || two (b :: r)
def zbb (met : List (List UInt8)) (m : List UInt8) : Bool := m.isEmpty || m.contains 40 || two m || met.contains m
def prm1 (met : List (List UInt8)) (s : List UInt8) : Except Nat Prm :=
 match spl s with
 | none => .error 2
 | some [] => .error 5
 | some [m] => if zbb met m = true then .error 5 else .ok ⟨m, [], false⟩
 | some [m, d] => if zbb met m = true then .error 5 else .ok ⟨m, d, true⟩
 | some _ => .error 5
def prms : List (List UInt8) → List (List UInt8) → Except Nat (List Prm)
 | _, [] => .ok []
 | met, s :: r => match prm1 met s with
   | .error e => .error e
   | .ok p => match prms (p.name :: met) r with
     | .error e => .error e
     | .ok l => .ok (p :: l)
def zbu (s : List UInt8) : Except Nat (List Prm) := match spl s with
 | none => .error 2
 | some l => prms [] l
def restOf (l : List Prm) : Bool := match l.getLast? with
 | none => false
 | some p => p.name == [97, 114, 103, 115] && !p.has
def gets : List Prm → List (List UInt8) → Except Nat (List (List UInt8) × List (List UInt8))
 | [], ws => .ok ([], ws)
 | p :: r, w :: ws => match gets r ws with
   | .error e => .error e
   | .ok q => .ok (w :: q.1, q.2)
 | p :: r, [] => if p.has = true then (match gets r [] with
   | .error e => .error e
   | .ok q => .ok (p.other :: q.1, q.2)) else .error 8
def spc (c : UInt8) : Bool := wh c || c == 34 || c == 92 || c == 123 || c == 125 || c == 36 || c == 91 || c == 93 || c == 59
def bal : List UInt8 → Nat → Bool
 | [], d => d == 0
 | [c], d => if c = 92 then false else if c = 123 then false else if c = 125 then d == 1 else d == 0
 | c :: b :: r, d => if c = 92 then bal r d else if c = 123 then bal (b :: r) (d + 1) else if c = 125 then (if d = 0 then false else bal (b :: r) (d - 1)) else bal (b :: r) d
def slf : List UInt8 → Bool
 | [] => false
 | [_] => false
 | a :: b :: r => (a == 92 && b == 10) || slf (b :: r)
def sla1 (first : Bool) (c : UInt8) : List UInt8 :=
 if c = 9 then [92, 116] else if c = 10 then [92, 110] else if c = 11 then [92, 118] else if c = 12 then [92, 102] else if c = 13 then [92, 114]
 else if spc c || (first && c == 35) then [92, c] else [c]
def sla : Bool → List UInt8 → List UInt8
 | _, [] => []
 | b, c :: r => sla1 b c ++ sla false r
def quoT (s : List UInt8) : List UInt8 := match s with
 | [] => [123, 125]
 | c :: r => if c != 35 && (c :: r).all (fun x => !spc x) then c :: r
   else if bal (c :: r) 0 && !slf (c :: r) then 123 :: (c :: r) ++ [125]
   else sla true (c :: r)
def zbY : List (List UInt8) → List UInt8
 | [] => []
 | [s] => quoT s
 | s :: t :: r => quoT s ++ 32 :: zbY (t :: r)
def zbS (ps : List Prm) (ws : List (List UInt8)) : Except Nat (List (List UInt8)) :=
 if restOf ps = true then (match gets ps.dropLast ws with
  | .error e => .error e
  | .ok q => .ok (q.1 ++ [zbY q.2]))
 else match gets ps ws with
  | .error e => .error e
  | .ok q => if q.2.isEmpty then .ok q.1 else .error 4
def zda (s : List UInt8) : Option Nat :=
 if s.length = 0 ∨ 9 < s.length ∨ (s.all fun c => decide (48 ≤ c.toNat) && decide (c.toNat ≤ 57)) = false then none
 else some (s.foldl (fun n c => 10 * n + (c.toNat - 48)) 0)
def lvl (s : List UInt8) (now : Int) : Int × Nat :=
 match s with
 | 35 :: r => (match zda r with
   | none => (0, 2)
   | some n => if now < 0 ∨ now < n then (0, 7) else (n, 0))
 | s => (match zda s with
   | none => (0, 2)
   | some n => if now < 0 ∨ now < n then (0, 7) else (now - n, 0))
end Go.Proofs.YtppjodfehhlniaaGreatDoor
end
section
namespace Go.Proofs.YtppjodfehhlniaaGreatDoor
def zfz (pre : List Prm) : List (List UInt8) := (pre.map (·.name)).reverse
theorem zpX (pre : List Prm) (p : Prm) : zfz (pre ++ [p]) = p.name :: zfz pre := by simp [zfz]
theorem zmv (pre : List Prm) (m : List UInt8) : (zfz pre).contains m = pre.any fun p => p.name == m := by
 unfold zfz
 rw [Bool.eq_iff_iff]
 simp only [List.contains_eq_mem, List.mem_reverse, List.mem_map, decide_eq_true_eq, List.any_eq_true, beq_iff_eq]
def zgL (pre : List Prm) : Except Nat (List Prm) → Except Nat (List Prm)
 | .error e => .error e
 | .ok l => .ok (pre ++ l)
theorem zrt (x : Except Nat (List Prm)) : zgL [] x = x := by cases x <;> rfl
theorem zn2 (a b : List Prm) (x : Except Nat (List Prm)) : zgL a (zgL b x) = zgL (a ++ b) x := by
 cases x
 ·rfl
 ·simp [zgL]
theorem zk5 {met : List (List UInt8)} {s : List UInt8} {r : List (List UInt8)} {e : Nat} (h : prm1 met s = .error e) : prms met (s :: r) = .error e := by
 unfold prms; rw [h]
theorem zk6 {met : List (List UInt8)} {s : List UInt8} {r : List (List UInt8)} {p : Prm} (h : prm1 met s = .ok p) : prms met (s :: r) = zgL [p] (prms (p.name :: met) r) := by
 rw [prms, h]
 dsimp only
 cases prms (p.name :: met) r <;> rfl
theorem zdz {l : List (List UInt8)} {i : Nat} {pre : List Prm} {s : List UInt8} {p : Prm} (hall : prms [] l = zgL pre (prms (zfz pre) (l.drop i))) (hs : l[i]? = some s) (h : prm1 (zfz pre) s = .ok p) :
  prms [] l = zgL (pre ++ [p]) (prms (zfz (pre ++ [p])) (l.drop (i + 1))) := by
 have hd : l.drop i = s :: l.drop (i + 1) := by
  obtain ⟨hlt, he⟩ := List.getElem?_eq_some_iff.1 hs
  rw [List.drop_eq_getElem_cons hlt, he]
 rw [hall, hd, zk6 h, zn2, zpX]
theorem zc2 {l : List (List UInt8)} {i : Nat} {pre : List Prm} {s : List UInt8} {e : Nat} (hall : prms [] l = zgL pre (prms (zfz pre) (l.drop i))) (hs : l[i]? = some s) (h : prm1 (zfz pre) s = .error e) : prms [] l = .error e := by
 have hd : l.drop i = s :: l.drop (i + 1) := by
  obtain ⟨hlt, he⟩ := List.getElem?_eq_some_iff.1 hs
  rw [List.drop_eq_getElem_cons hlt, he]
 rw [hall, hd, zk5 h]; rfl
theorem zru {l : List (List UInt8)} {i : Nat} {pre : List Prm} (hall : prms [] l = zgL pre (prms (zfz pre) (l.drop i))) (hi : l.length ≤ i) : prms [] l = .ok pre := by
 rw [hall, List.drop_eq_nil_of_le hi]; simp [prms, zgL]
theorem zk7 {met : List (List UInt8)} {s : List UInt8} (h : spl s = none) : prm1 met s = .error 2 := by unfold prm1; rw [h]
theorem ziM {met : List (List UInt8)} {s : List UInt8} (h : spl s = some []) : prm1 met s = .error 5 := by unfold prm1; rw [h]
theorem ziN {met : List (List UInt8)} {s : List UInt8} {m : List (List UInt8)} (h : spl s = some m) (hm : 2 < m.length) : prm1 met s = .error 5 := by
 unfold prm1; rw [h]
 match m, hm with
 | a :: b :: c :: r, _ => rfl
theorem zbs {met : List (List UInt8)} {s : List UInt8} {m : List (List UInt8)} {a : List UInt8} (h : spl s = some m) (h1 : 1 ≤ m.length) (h2 : m.length ≤ 2) (ha : m[0]? = some a) (hb : zbb met a = true) : prm1 met s = .error 5 := by
 unfold prm1; rw [h]
 match m, h1, h2 with
 | [x], _, _ => simp at ha; subst ha; simp [hb]
 | [x, y], _, _ => simp at ha; subst ha; simp [hb]
theorem zf4 {met : List (List UInt8)} {s : List UInt8} {a : List UInt8} (h : spl s = some [a]) (hb : zbb met a = false) : prm1 met s = .ok ⟨a, [], false⟩ := by unfold prm1; rw [h]; simp [hb]
theorem zf5 {met : List (List UInt8)} {s : List UInt8} {a d : List UInt8} (h : spl s = some [a, d]) (hb : zbb met a = false) : prm1 met s = .ok ⟨a, d, true⟩ := by unfold prm1; rw [h]; simp [hb]
end Go.Proofs.YtppjodfehhlniaaGreatDoor
end
section
namespace Go.Proofs.YtppjodfehhlniaaGreatDoor
structure It where
 p : Prm
 e : Nat
def its : List (List UInt8) → List (List UInt8) → List It
 | _, [] => []
 | met, s :: r => match prm1 met s with
   | .error e => ⟨⟨[], [], false⟩, e⟩ :: its met r
   | .ok p => ⟨p, 0⟩ :: its (p.name :: met) r
theorem zbD {met r : List (List UInt8)} {s : List UInt8} {e : Nat} (h : prm1 met s = .error e) : its met (s :: r) = ⟨⟨[], [], false⟩, e⟩ :: its met r := by rw [its, h]
theorem zdh {met r : List (List UInt8)} {s : List UInt8} {p : Prm} (h : prm1 met s = .ok p) : its met (s :: r) = ⟨p, 0⟩ :: its (p.name :: met) r := by rw [its, h]
theorem zn3 {met : List (List UInt8)} {s : List UInt8} {e : Nat} (h : prm1 met s = .error e) : e = 2 ∨ e = 5 := by
 unfold prm1 at h
 split at h
 ·cases h; exact .inl rfl
 ·cases h; exact .inr rfl
 ·split at h
  ·cases h; exact .inr rfl
  ·cases h
 ·split at h
  ·cases h; exact .inr rfl
  ·cases h
 ·cases h; exact .inr rfl
theorem zgM : ∀ (met l : List (List UInt8)), (its met l).length = l.length
 | _, [] => rfl
 | met, s :: r => by
   cases h : prm1 met s with
   | error e => rw [zbD h, List.length_cons, zgM met r, List.length_cons]
   | ok p => rw [zdh h, List.length_cons, zgM _ r, List.length_cons]
theorem zt6 : ∀ (met l : List (List UInt8)), (∀ x ∈ its met l, x.e = 0) → prms met l = .ok ((its met l).map (·.p))
 | _, [], _ => by simp [prms, its]
 | met, s :: r, h => by
   cases h1 : prm1 met s with
   | error e =>
     rw [zbD h1] at h
     have := h _ (List.mem_cons_self ..)
     have h2 := zn3 h1
     simp at this
     omega
   | ok p =>
     rw [zdh h1] at h
     rw [zk6 h1, zdh h1, zt6 _ r (fun x hx => h x (List.mem_cons_of_mem _ hx))]
     rfl
theorem zrv : ∀ (met l : List (List UInt8)) (pre : List It) (x : It), pre ++ [x] <+: its met l → (∀ y ∈ pre, y.e = 0) → x.e ≠ 0 → prms met l = .error x.e
 | _, [], pre, x, h, _, _ => by
   rw [its, List.prefix_nil] at h
   simp at h
 | met, s :: r, pre, x, h, hp, hx => by
   cases h1 : prm1 met s with
   | error e =>
     rw [zbD h1] at h
     cases pre with
     | nil =>
       simp only [List.nil_append, List.cons_prefix_cons] at h
       rw [zk5 h1, h.1]
     | cons y pre =>
       simp only [List.cons_append, List.cons_prefix_cons] at h
       have h3 := hp y (List.mem_cons_self ..)
       rw [h.1] at h3
       have h2 := zn3 h1
       simp at h3
       omega
   | ok p =>
     rw [zdh h1] at h
     cases pre with
     | nil =>
       simp only [List.nil_append, List.cons_prefix_cons] at h
       rw [h.1] at hx
       exact absurd rfl hx
     | cons y pre =>
       simp only [List.cons_append, List.cons_prefix_cons] at h
       rw [zk6 h1, zrv _ r pre x h.2 (fun z hz => hp z (List.mem_cons_of_mem _ hz)) hx]
       rfl
theorem zdY : ∀ (ps : List Prm) (ws : List (List UInt8)) (q : List (List UInt8) × List (List UInt8)), gets ps ws = .ok q → q.1.length = ps.length
 | [], ws, q, h => by rw [gets] at h; cases h; rfl
 | p :: r, w :: ws, q, h => by
   rw [gets] at h
   cases hg : gets r ws with
   | error e => rw [hg] at h; cases h
   | ok x => rw [hg] at h; cases h; simp [zdY r ws x hg]
 | p :: r, [], q, h => by
   rw [gets] at h
   split at h
   ·cases hg : gets r [] with
    | error e => rw [hg] at h; cases h
    | ok x => rw [hg] at h; cases h; simp [zdY r [] x hg]
   ·cases h
theorem zhc {ps : List Prm} {ws q : List (List UInt8)} (h : zbS ps ws = .ok q) : q.length = ps.length := by
 unfold zbS at h
 split at h
 ·rename_i hr
  have hne : ps ≠ [] := by rintro rfl; simp [restOf] at hr
  cases hg : gets ps.dropLast ws with
  | error e => rw [hg] at h; cases h
  | ok x =>
    rw [hg] at h
    cases h
    have := zdY _ _ _ hg
    rw [List.length_dropLast] at this
    have := List.length_pos_iff.2 hne
    simp; omega
 ·cases hg : gets ps ws with
  | error e => rw [hg] at h; cases h
  | ok x =>
    rw [hg] at h
    dsimp only at h
    split at h
    ·cases h; exact zdY _ _ _ hg
    ·cases h
end Go.Proofs.YtppjodfehhlniaaGreatDoor
end
section
namespace Go.Proofs.YtppjodfehhlniaaGreatDoor
open Go.ChangeShapes Go.WideShapes Go.ChangeAt Go.RowKit
set_option maxRecDepth 100000
def byte (s : ByteArray) (k : Nat) : Nat := if h : k < s.size then (s[k]'h).toNat else 0
theorem zam (s : ByteArray) : ∀ (n : Nat) (h : n < s.size), ((s[n]'h).toNat : Int) = (byte s n : Int) := fun n h => by unfold byte; rw [dif_pos h]
theorem zaA (s : ByteArray) (k : Nat) : byte s k < 256 := by
 unfold byte; split
 ·exact (s[k]).toNat_lt
 ·decide
theorem zap {a b : Bool} (h : a = b) : Ending.returned (.bool a) = Ending.returned (.bool b) := by rw [h]
theorem zdZ {a b : Int} (h : a = b) : Ending.returned (.int .i64 a) = Ending.returned (.int .i64 b) := by rw [h]
def whN (c : Nat) : Bool := (decide (9 ≤ c) && decide (c ≤ 13)) || decide (c = 32)
set_option maxHeartbeats 400000 in
theorem zb5 (c : Nat) (hc : c < 256) (w : World) : Calls Tryz.prog 100 #[.int .u8 (c : Int)] w fun e w' => e = .returned (.bool (whN c)) ∧ w = w' := by
 have hcase : (9 ≤ c ∧ c ≤ 13) ∨ (13 < c ∧ c ≠ 32) ∨ (13 < c ∧ c = 32) ∨ c < 9 := by omega
 rcases hcase with ⟨a, b⟩ | ⟨a, b⟩ | ⟨a, b⟩ | a
 ·have h1 : (9 : Int) ≤ c := by omega
  have h2 : (c : Int) ≤ 13 := by omega
  go_enter Tryz.func100, Tryz.ntmps100
  go_wp2
  go_ret
  exact ⟨zap (by simp [whN]; omega), rfl⟩
 ·have h1 : (9 : Int) ≤ c := by omega
  have h2 : ¬ (c : Int) ≤ 13 := by omega
  have h3 : ((c : Int) == 32) = false := by simp; omega
  go_enter Tryz.func100, Tryz.ntmps100
  go_wp2
  go_ret
  exact ⟨zap (by simp [whN]; omega), rfl⟩
 ·subst b
  go_enter Tryz.func100, Tryz.ntmps100
  go_wp2
  go_ret
  exact ⟨rfl, rfl⟩
 ·have h1 : ¬ (9 : Int) ≤ c := by omega
  have h3 : ((c : Int) == 32) = false := by simp; omega
  go_enter Tryz.func100, Tryz.ntmps100
  go_wp2
  go_ret
  exact ⟨zap (by simp [whN]; omega), rfl⟩
def kindN (c : Nat) : Nat := if c = 123 then 1 else if c = 34 then 2 else 0
set_option maxHeartbeats 400000 in
theorem zk8 (c : Nat) (hc : c < 256) (w : World) : Calls Tryz.prog 101 #[.int .u8 (c : Int)] w fun e w' => e = .returned (.int .i64 (kindN c : Int)) ∧ w = w' := by
 have hcase : c = 123 ∨ c = 34 ∨ (c ≠ 123 ∧ c ≠ 34) := by omega
 rcases hcase with rfl | rfl | ⟨a, b⟩
 ·go_enter Tryz.func101, Tryz.ntmps101
  go_wp2
  go_ret
  exact ⟨rfl, rfl⟩
 ·go_enter Tryz.func101, Tryz.ntmps101
  go_wp2
  go_ret
  exact ⟨rfl, rfl⟩
 ·have h1 : ((c : Int) == 123) = false := by simp; omega
  have h2 : ((c : Int) == 34) = false := by simp; omega
  go_enter Tryz.func101, Tryz.ntmps101
  go_wp2
  go_ret
  exact ⟨by simp [kindN, a, b], rfl⟩
set_option maxHeartbeats 400000 in
theorem zdA (c lo hi : Nat) (w : World) : Calls Tryz.prog 336 #[.int .i64 (c : Int), .int .i64 (lo : Int), .int .i64 (hi : Int)] w fun e w' => e = .returned (.bool (decide (lo ≤ c) && decide (c ≤ hi))) ∧ w = w' := by
 by_cases h1 : lo ≤ c
 ·have h1' : (lo : Int) ≤ c := by omega
  by_cases h2 : c ≤ hi
  ·have h2' : (c : Int) ≤ hi := by omega
   go_enter Tryz.func336, Tryz.ntmps336
   go_wp2
   go_ret
   exact ⟨zap (by simp [h1, h2]), rfl⟩
  ·have h2' : ¬ (c : Int) ≤ hi := by omega
   go_enter Tryz.func336, Tryz.ntmps336
   go_wp2
   go_ret
   exact ⟨zap (by simp [h2]), rfl⟩
 ·have h1' : ¬ (lo : Int) ≤ c := by omega
  go_enter Tryz.func336, Tryz.ntmps336
  go_wp2
  go_ret
  exact ⟨zap (by simp [h1]), rfl⟩
set_option maxHeartbeats 400000 in
theorem za4 (c : Nat) (hc : c < 256) (w : World) : Calls Tryz.prog 217 #[.int .u8 (c : Int)] w fun e w' => e = .returned (.bool (whN c)) ∧ w = w' := by
 by_cases h : 9 ≤ c ∧ c ≤ 13
 ·have e : (decide (9 ≤ c) && decide (c ≤ 13)) = true := by simp [h]
  go_enter Tryz.func217, Tryz.ntmps217
  go_wp2_with (go_at_call 336; refine (zdA c 9 13 _).mono ?_; rintro e w' ⟨rfl, rfl⟩; rw [e])
  go_ret
  exact ⟨zap (by simp [whN, e]), rfl⟩
 ·have e : (decide (9 ≤ c) && decide (c ≤ 13)) = false := by simp; omega
  by_cases h3 : c = 32
  ·subst h3
   go_enter Tryz.func217, Tryz.ntmps217
   go_wp2_with (go_at_call 336; refine (zdA 32 9 13 _).mono ?_; rintro e w' ⟨rfl, rfl⟩; rw [show (decide (9 ≤ 32) && decide (32 ≤ 13)) = false from rfl])
   go_ret
   exact ⟨rfl, rfl⟩
  ·have h2 : ((c : Int) == 32) = false := by simp; omega
   go_enter Tryz.func217, Tryz.ntmps217
   go_wp2_with (go_at_call 336; refine (zdA c 9 13 _).mono ?_; rintro e w' ⟨rfl, rfl⟩; rw [e])
   go_ret
   exact ⟨zap (by simp [whN, e, h3]), rfl⟩
end Go.Proofs.YtppjodfehhlniaaGreatDoor
end
section
namespace Go.Proofs.YtppjodfehhlniaaGreatDoor
open Go.ChangeShapes Go.WideShapes Go.ChangeAt Go.RowKit
set_option maxRecDepth 100000
def lowN (c : Nat) : Nat := if 65 ≤ c ∧ c ≤ 90 then c + 32 else c
set_option maxHeartbeats 4000000 in
theorem zeA (c : Nat) (hc : c < 256) (w : World) : Calls Tryz.prog 467 #[.int .u8 (c : Int)] w fun e w' => e = .returned (.int .u8 (lowN c : Int)) ∧ w = w' := by
 have hcase : (65 ≤ c ∧ c ≤ 90) ∨ (90 < c) ∨ c < 65 := by omega
 rcases hcase with ⟨a, b⟩ | a | a
 ·have h1 : (65 : Int) ≤ c := by omega
  have h2 : (c : Int) ≤ 90 := by omega
  go_enter Tryz.func467, Tryz.ntmps467
  go_wp2
  go_ret
  exact ⟨by simp [lowN, a, b], rfl⟩
 ·have h1 : (65 : Int) ≤ c := by omega
  have h2 : ¬ (c : Int) ≤ 90 := by omega
  go_enter Tryz.func467, Tryz.ntmps467
  go_wp2
  go_ret
  exact ⟨by rw [show lowN c = c by unfold lowN; rw [if_neg (by omega)]]; rfl, rfl⟩
 ·have h1 : ¬ (65 : Int) ≤ c := by omega
  go_enter Tryz.func467, Tryz.ntmps467
  go_wp2
  go_ret
  exact ⟨by rw [show lowN c = c by unfold lowN; rw [if_neg (by omega)]]; rfl, rfl⟩
set_option maxHeartbeats 4000000 in
theorem zgN (c : Nat) (hc : c < 256) (w : World) : Calls Tryz.prog 347 #[.int .u8 (c : Int)] w fun e w' => e = .returned (.int .u8 (lowN c : Int)) ∧ w = w' := by
 by_cases h : 65 ≤ c ∧ c ≤ 90
 ·have e : (decide (65 ≤ c) && decide (c ≤ 90)) = true := by simp [h]
  have h2 : (c : Int) ≤ 90 := by omega
  go_enter Tryz.func347, Tryz.ntmps347
  go_wp2_with (go_at_call 336; refine (zdA c 65 90 _).mono ?_; rintro e w' ⟨rfl, rfl⟩; rw [e])
  go_ret
  exact ⟨by simp [lowN, h], rfl⟩
 ·have e : (decide (65 ≤ c) && decide (c ≤ 90)) = false := by simp; omega
  go_enter Tryz.func347, Tryz.ntmps347
  go_wp2_with (go_at_call 336; refine (zdA c 65 90 _).mono ?_; rintro e w' ⟨rfl, rfl⟩; rw [e])
  go_ret
  exact ⟨by rw [show lowN c = c by unfold lowN; rw [if_neg h]]; rfl, rfl⟩
set_option maxHeartbeats 4000000 in
theorem zc3 (c : Nat) (hc : c < 256) (w : World) : Calls Tryz.prog 539 #[.int .u8 (c : Int)] w fun e w' => e = .returned (.bool (decide (48 ≤ c) && decide (c ≤ 57))) ∧ w = w' := by
 by_cases h1 : 48 ≤ c
 ·have h1' : (48 : Int) ≤ c := by omega
  by_cases h2 : c ≤ 57
  ·have h2' : (c : Int) ≤ 57 := by omega
   go_enter Tryz.func539, Tryz.ntmps539
   go_wp2
   go_ret
   exact ⟨zap (by simp [h1, h2]), rfl⟩
  ·have h2' : ¬ (c : Int) ≤ 57 := by omega
   go_enter Tryz.func539, Tryz.ntmps539
   go_wp2
   go_ret
   exact ⟨zap (by simp [h2]), rfl⟩
 ·have h1' : ¬ (48 : Int) ≤ c := by omega
  go_enter Tryz.func539, Tryz.ntmps539
  go_wp2
  go_ret
  exact ⟨zap (by simp [h1]), rfl⟩
def digN (c : Nat) : Nat :=
 if 48 ≤ c ∧ c ≤ 57 then c - 48
 else if 65 ≤ c ∧ c ≤ 70 then c - 55
 else if 97 ≤ c ∧ c ≤ 102 then c - 87
 else 16
theorem zrw {c : Nat} (hc : c < 256) : lowN c < 256 := by unfold lowN; split <;> omega
theorem zta (c : Nat) : digN c = if 48 ≤ lowN c ∧ lowN c ≤ 57 then lowN c - 48 else if 97 ≤ lowN c ∧ lowN c ≤ 102 then lowN c - 97 + 10 else 16 := by
 unfold digN lowN
 repeat' split
 all_goals omega
set_option maxHeartbeats 1000000 in
theorem zmw (c : Nat) (hc : c < 256) (w : World) : Calls Tryz.prog 475 #[.int .u8 (c : Int)] w fun e w' => e = .returned (.int .i64 (digN c : Int)) ∧ w = w' := by
 have hl := zrw hc
 rw [zta]
 have hcase : (48 ≤ lowN c ∧ lowN c ≤ 57) ∨ (97 ≤ lowN c ∧ lowN c ≤ 102) ∨ (102 < lowN c) ∨ (57 < lowN c ∧ lowN c < 97) ∨ lowN c < 48 := by omega
 rcases hcase with ⟨a, b⟩ | ⟨a, b⟩ | a | ⟨a, b⟩ | a
 ·have e9 : (decide (48 ≤ lowN c) && decide (lowN c ≤ 57)) = true := by simp [a, b]
  have h1 : (48 : Int) ≤ lowN c := by omega
  have h2 : (lowN c : Int) ≤ 57 := by omega
  go_enter Tryz.func475, Tryz.ntmps475
  go_wp2_with (first | (go_at_call 467; refine (zeA c hc _).mono ?_; rintro e w' ⟨rfl, rfl⟩) | (go_at_call 539; refine (zc3 _ hl _).mono ?_; rintro e w' ⟨rfl, rfl⟩; rw [e9]))
  go_ret
  exact ⟨zdZ (by first | rfl | omega | (rw [if_pos ⟨a, b⟩]; omega)), rfl⟩
 ·have e9 : (decide (48 ≤ lowN c) && decide (lowN c ≤ 57)) = false := by simp; omega
  have h1 : (97 : Int) ≤ lowN c := by omega
  have h2 : (lowN c : Int) ≤ 102 := by omega
  go_enter Tryz.func475, Tryz.ntmps475
  go_wp2_with (first | (go_at_call 467; refine (zeA c hc _).mono ?_; rintro e w' ⟨rfl, rfl⟩) | (go_at_call 539; refine (zc3 _ hl _).mono ?_; rintro e w' ⟨rfl, rfl⟩; rw [e9]))
  go_ret
  exact ⟨zdZ (by first | rfl | omega | (rw [if_neg (by omega), if_pos ⟨a, b⟩]; omega)), rfl⟩
 ·have e9 : (decide (48 ≤ lowN c) && decide (lowN c ≤ 57)) = false := by simp; omega
  have h1 : (97 : Int) ≤ lowN c := by omega
  have h2 : ¬ (lowN c : Int) ≤ 102 := by omega
  go_enter Tryz.func475, Tryz.ntmps475
  go_wp2_with (first | (go_at_call 467; refine (zeA c hc _).mono ?_; rintro e w' ⟨rfl, rfl⟩) | (go_at_call 539; refine (zc3 _ hl _).mono ?_; rintro e w' ⟨rfl, rfl⟩; rw [e9]))
  go_ret
  exact ⟨zdZ (by first | rfl | omega), rfl⟩
 ·have e9 : (decide (48 ≤ lowN c) && decide (lowN c ≤ 57)) = false := by simp; omega
  have h1 : ¬ (97 : Int) ≤ lowN c := by omega
  have h2 : (0 : Int) ≤ lowN c := by omega
  go_enter Tryz.func475, Tryz.ntmps475
  go_wp2_with (first | (go_at_call 467; refine (zeA c hc _).mono ?_; rintro e w' ⟨rfl, rfl⟩) | (go_at_call 539; refine (zc3 _ hl _).mono ?_; rintro e w' ⟨rfl, rfl⟩; rw [e9]))
  go_ret
  exact ⟨zdZ (by first | rfl | omega), rfl⟩
 ·have e9 : (decide (48 ≤ lowN c) && decide (lowN c ≤ 57)) = false := by simp; omega
  have h1 : ¬ (97 : Int) ≤ lowN c := by omega
  have h2 : (0 : Int) ≤ lowN c := by omega
  go_enter Tryz.func475, Tryz.ntmps475
  go_wp2_with (first | (go_at_call 467; refine (zeA c hc _).mono ?_; rintro e w' ⟨rfl, rfl⟩) | (go_at_call 539; refine (zc3 _ hl _).mono ?_; rintro e w' ⟨rfl, rfl⟩; rw [e9]))
  go_ret
  exact ⟨zdZ (by first | rfl | omega), rfl⟩
set_option maxHeartbeats 400000 in
theorem zf6 (c lo hi : Int) (w : World) : Calls Tryz.prog 336 #[.int .i64 c, .int .i64 lo, .int .i64 hi] w fun e w' => e = .returned (.bool (decide (lo ≤ c) && decide (c ≤ hi))) ∧ w = w' := by
 by_cases h1 : lo ≤ c
 ·by_cases h2 : c ≤ hi
  ·go_enter Tryz.func336, Tryz.ntmps336
   go_wp2
   go_ret
   exact ⟨zap (by simp [h1, h2]), rfl⟩
  ·go_enter Tryz.func336, Tryz.ntmps336
   go_wp2
   go_ret
   exact ⟨zap (by simp [h2]), rfl⟩
 ·go_enter Tryz.func336, Tryz.ntmps336
  go_wp2
  go_ret
  exact ⟨zap (by simp; omega), rfl⟩
def rdg (c base : Nat) : Int := if digN c < base then (digN c : Int) else -1
theorem zrx (c : Nat) : ∃ v : Nat, (if 48 ≤ c ∧ c ≤ 57 then (c : Int) - 48 else if 97 ≤ lowN c ∧ lowN c ≤ 122 then (lowN c : Int) - 97 + 10 else -1) = (if v = 99 then -1 else (v : Int)) ∧ v < 100 ∧ (v = 99 ∨ v < 16 ∧ digN c = v ∨ 16 ≤ v ∧ digN c = 16) ∧ (v = 99 → digN c = 16) := by
 unfold digN
 by_cases h1 : 48 ≤ c ∧ c ≤ 57
 ·exact ⟨c - 48, by rw [if_pos h1, if_neg (by omega)]; omega, by omega, .inr (.inl ⟨by omega, by rw [if_pos h1]⟩), by omega⟩
 ·by_cases h2 : 97 ≤ lowN c ∧ lowN c ≤ 122
  ·refine ⟨lowN c - 87, by rw [if_neg h1, if_pos h2, if_neg (by omega)]; omega, by omega, ?_, by omega⟩
   unfold lowN at h2 ⊢
   split at h2 <;> rename_i h3
   ·rw [if_pos h3]
    by_cases h4 : c ≤ 70
    ·exact .inr (.inl ⟨by omega, by rw [if_neg h1, if_pos (by omega)]; omega⟩)
    ·exact .inr (.inr ⟨by omega, by rw [if_neg h1, if_neg (by omega), if_neg (by omega)]⟩)
   ·rw [if_neg h3]
    by_cases h4 : c ≤ 102
    ·exact .inr (.inl ⟨by omega, by rw [if_neg h1, if_neg (by omega), if_pos (by omega)]⟩)
    ·exact .inr (.inr ⟨by omega, by rw [if_neg h1, if_neg (by omega), if_neg (by omega)]⟩)
  ·refine ⟨99, by rw [if_neg h1, if_neg h2, if_pos rfl], by omega, .inl rfl, fun _ => ?_⟩
   unfold lowN at h2
   rw [if_neg h1]
   split at h2 <;> rename_i h3
   ·rw [if_neg (by omega), if_neg (by omega)]
   ·rw [if_neg (by omega), if_neg (by omega)]
set_option maxHeartbeats 1000000 in
theorem zch (c base : Nat) (hc : c < 256) (hb : 1 ≤ base) (hb2 : base ≤ 16) (w : World) : Calls Tryz.prog 230 #[.int .u8 (c : Int), .int .i64 (base : Int)] w fun e w' => e = .returned (.int .i64 (rdg c base)) ∧ w = w' := by
 obtain ⟨v, hv, hv1, hv2, hv3⟩ := zrx c
 have hl := zrw hc
 have hr : rdg c base = if v = 99 then -1 else if (base : Int) ≤ (v : Int) then -1 else (v : Int) := by
  unfold rdg
  rcases hv2 with rfl | ⟨h, h2⟩ | ⟨h, h2⟩
  ·rw [hv3 rfl, if_neg (by omega), if_pos rfl]
  ·rw [h2, if_neg (by omega : ¬ v = 99)]
   by_cases hx : v < base
   ·rw [if_pos hx, if_neg (by omega)]
   ·rw [if_neg hx, if_pos (by omega)]
  ·rw [h2, if_neg (by omega)]; split
   ·rfl
   ·rw [if_pos (by omega)]
 by_cases h1 : 48 ≤ c ∧ c ≤ 57
 ·have e9 : (decide ((48 : Int) ≤ (c : Int)) && decide ((c : Int) ≤ 57)) = true := by simp; omega
  have h48 : (48 : Int) ≤ c := by omega
  rw [if_pos h1] at hv
  have hv9 : ¬ v = 99 := by intro h; rw [if_pos h] at hv; omega
  rw [if_neg hv9] at hv hr
  rw [hr]
  by_cases hx : (base : Int) ≤ (v : Int)
  ·have hx2 : (base : Int) ≤ (c : Int) - 48 := by omega
   rw [if_pos hx]
   go_enter Tryz.func230, Tryz.ntmps230
   go_wp2_with (first | (go_at_call 336; refine (zf6 _ _ _ _).mono ?_; rintro e w' ⟨rfl, rfl⟩; rw [e9]))
   go_ret
   exact ⟨rfl, rfl⟩
  ·have hx2 : ¬ (base : Int) ≤ (c : Int) - 48 := by omega
   rw [if_neg hx]
   go_enter Tryz.func230, Tryz.ntmps230
   go_wp2_with (first | (go_at_call 336; refine (zf6 _ _ _ _).mono ?_; rintro e w' ⟨rfl, rfl⟩; rw [e9]))
   go_ret
   exact ⟨zdZ (by omega), rfl⟩
 ·have e9 : (decide ((48 : Int) ≤ (c : Int)) && decide ((c : Int) ≤ 57)) = false := by simp; omega
  rw [if_neg h1] at hv
  by_cases h2 : 97 ≤ lowN c ∧ lowN c ≤ 122
  ·have e8 : (decide ((97 : Int) ≤ (lowN c : Int)) && decide ((lowN c : Int) ≤ 122)) = true := by simp; omega
   have h97 : (97 : Int) ≤ lowN c := by omega
   rw [if_pos h2] at hv
   have hv9 : ¬ v = 99 := by intro h; rw [if_pos h] at hv; omega
   rw [if_neg hv9] at hv hr
   rw [hr]
   by_cases hx : (base : Int) ≤ (v : Int)
   ·have hx2 : (base : Int) ≤ (lowN c : Int) - 97 + 10 := by omega
    rw [if_pos hx]
    go_enter Tryz.func230, Tryz.ntmps230
    go_wp2_with (first | (go_at_call 336; refine (zf6 _ _ _ _).mono ?_; rintro e w' ⟨rfl, rfl⟩; first | rw [e9] | rw [e8]) | (go_at_call 347; refine (zgN c hc _).mono ?_; rintro e w' ⟨rfl, rfl⟩))
    go_ret
    exact ⟨rfl, rfl⟩
   ·have hx2 : ¬ (base : Int) ≤ (lowN c : Int) - 97 + 10 := by omega
    rw [if_neg hx]
    go_enter Tryz.func230, Tryz.ntmps230
    go_wp2_with (first | (go_at_call 336; refine (zf6 _ _ _ _).mono ?_; rintro e w' ⟨rfl, rfl⟩; first | rw [e9] | rw [e8]) | (go_at_call 347; refine (zgN c hc _).mono ?_; rintro e w' ⟨rfl, rfl⟩))
    go_ret
    exact ⟨zdZ (by omega), rfl⟩
  ·have e8 : (decide ((97 : Int) ≤ (lowN c : Int)) && decide ((lowN c : Int) ≤ 122)) = false := by simp; omega
   rw [if_neg h2] at hv
   have hv9 : v = 99 := by
    rcases Decidable.em (v = 99) with h | h
    ·exact h
    ·rw [if_neg h] at hv; omega
   rw [hr, if_pos hv9]
   have hb' : ¬ (base : Int) ≤ -1 := by omega
   clear hr hv hv1 hv2 hv3 hv9
   go_enter Tryz.func230, Tryz.ntmps230
   go_wp2_with (first | (go_at_call 336; refine (zf6 _ _ _ _).mono ?_; rintro e w' ⟨rfl, rfl⟩; first | rw [e9] | rw [e8]) | (go_at_call 347; refine (zgN c hc _).mono ?_; rintro e w' ⟨rfl, rfl⟩))
   go_ret
   exact ⟨rfl, rfl⟩
end Go.Proofs.YtppjodfehhlniaaGreatDoor
end
section
namespace Go.Proofs.YtppjodfehhlniaaGreatDoor
open Go.ChangeShapes Go.WideShapes Go.ChangeAt Go.RowKit
set_option maxRecDepth 100000
def L (s : ByteArray) : List UInt8 := s.data.toList
theorem za7 (s : ByteArray) : (L s).length = s.size := by simp [L]
def ub (s : ByteArray) (k : Nat) : UInt8 := (byte s k).toUInt8
theorem zaE (s : ByteArray) (k : Nat) : (ub s k).toNat = byte s k := by
 unfold ub
 have := zaA s k
 simp [Nat.toUInt8, UInt8.toNat_ofNat']
 omega
theorem ztb (s : ByteArray) {j : Nat} (h : j < s.size) : (L s)[j]'(by rw [za7]; exact h) = ub s j := by
 apply UInt8.toNat.inj
 rw [zaE]
 unfold byte
 rw [dif_pos h]
 rfl
theorem zak (s : ByteArray) {j : Nat} (h : j < s.size) : (L s).drop j = ub s j :: (L s).drop (j + 1) := by
 rw [List.drop_eq_getElem_cons (by rw [za7]; exact h), ztb s h]
theorem zas (s : ByteArray) {j : Nat} (h : s.size ≤ j) : (L s).drop j = [] := List.drop_eq_nil_of_le (by rw [za7]; exact h)
theorem L_mk (l : List UInt8) : L ⟨l.toArray⟩ = l := rfl
theorem zbv (s : ByteArray) (k n : Nat) (hn : n < 256) : ub s k = UInt8.ofNat n ↔ byte s k = n := by
 constructor
 ·intro h; rw [← zaE, h]; simp [UInt8.toNat_ofNat']; omega
 ·intro h; apply UInt8.toNat.inj; rw [zaE, h]; simp [UInt8.toNat_ofNat']; omega
theorem zj1 (s : ByteArray) (k : Nat) : dig (ub s k) = digN (byte s k) := by
 rw [← zaE]; rfl
theorem zf7 (s : ByteArray) (k : Nat) : wh (ub s k) = whN (byte s k) := by
 unfold wh whN
 rw [zaE]
 congr 1
 have := zbv s k 32 (by decide)
 by_cases h : byte s k = 32
 ·rw [this.2 h]; simp [h]
 ·have h2 : ¬ ub s k = UInt8.ofNat 32 := fun e => h (this.1 e)
  simp [h]; exact h2
theorem zn4 (c : Nat) : digN c ≤ 16 := by
 unfold digN
 repeat' split
 all_goals omega
set_option maxHeartbeats 1000000 in
theorem zdB (t : ByteArray) (base most : Nat) (hb : 1 ≤ base) (hb2 : base ≤ 16) (hm : most ≤ 3) (hs : t.size ≤ 1000000) (w : World) :
  Calls Tryz.prog 415 #[.string t, .int .i64 (base : Int), .int .i64 (most : Int)] w fun e w' => e = .returned (.tuple #[.int .u8 (((digs base (L t) most 0).1 % 256 : Nat) : Int), .int .i64 ((digs base (L t) most 0).2 : Int)]) ∧ w = w' := by
 have hby := zam t
 go_enter Tryz.func415, Tryz.ntmps415
 go_wp2
 go_loopg [8, 9] most (fun k v n wr => ∃ (a i : Nat), v = .int .i64 (a : Int) ∧ n = .int .i64 (i : Int) ∧ k = most - i ∧ i ≤ most ∧ i ≤ t.size ∧ a + 1 ≤ 16 ^ i ∧
  digs base (L t) most 0 = ((digs base ((L t).drop i) (most - i) a).1, i + (digs base ((L t).drop i) (most - i) a).2) ∧ w = wr)
 case atStart => exact ⟨0, 0, rfl, rfl, by omega, by omega, by omega, by simp, by simp, rfl⟩
 case round =>
  obtain ⟨a, i, rfl, rfl, hk, him, his, ha, heq, rfl⟩ := hrel
  have HK := Lib.hid hk
  have HEQ := Lib.hid heq
  have h16 : 16 ^ i ≤ 4096 := Nat.le_trans (Nat.pow_le_pow_right (by decide) (show i ≤ 3 by omega)) (by decide)
  have ha2 : a ≤ 4095 := by omega
  have hmul : a * base ≤ a * 16 := Nat.mul_le_mul_left _ hb2
  have hmi : (a : Int) * (base : Int) ≤ 70000 := by rw [← Int.natCast_mul]; omega
  have hmi2 : (0 : Int) ≤ (a : Int) * (base : Int) := by rw [← Int.natCast_mul]; omega
  have hdl := zn4 (byte t i)
  have hbl := zaA t i
  have HA := Lib.hid ha
  clear hk heq ha h16 hmul
  by_cases hlt : i < most ∧ i < t.size
  ·have t1 : (i : Int) < min (most : Int) (t.size : Int) := by omega
   have t2 : (i : Int) < (t.size : Int) := by omega
   obtain ⟨j, hj⟩ : ∃ j, most - i = j + 1 := ⟨most - i - 1, by omega⟩
   by_cases hd : digN (byte t i) < base
   ·have t3 : (digN (byte t i) : Int) < (base : Int) := by omega
    go_wp2_with (go_at_call 475; refine (zmw _ hbl _).mono ?_; rintro e w' ⟨rfl, rfl⟩)
    all_goals
     go_roundg (most - (i + 1))
     case measure => rw [HK.out]; omega
     case rel =>
      refine ⟨a * base + digN (byte t i), i + 1, ?_, by go_num, rfl, by omega, by omega, ?_, ?_, rfl⟩
      ·rw [Int.natCast_add, Int.natCast_mul]
      ·have hA := HA.out
       have h1 : a * base + digN (byte t i) + 1 ≤ a * base + base := by omega
       have h2 : a * base + base = (a + 1) * base := by rw [Nat.add_mul, Nat.one_mul]
       have h3 : (a + 1) * base ≤ 16 ^ i * 16 := Nat.mul_le_mul hA hb2
       rw [Nat.pow_succ]; omega
      ·rw [HEQ.out, zak t hlt.2, hj]
       conv => lhs; unfold digs
       rw [zj1, if_pos hd, show most - (i + 1) = j by omega]
       simp only [Prod.mk.injEq, true_and]
       omega
   ·have t3 : ¬ (digN (byte t i) : Int) < (base : Int) := by omega
    go_wp2_with (go_at_call 475; refine (zmw _ hbl _).mono ?_; rintro e w' ⟨rfl, rfl⟩)
    all_goals
     go_ret2
     refine ⟨?_, rfl⟩
     have hz : digs base ((L t).drop i) (most - i) a = (a, 0) := by
      rw [zak t hlt.2, hj]
      unfold digs
      rw [zj1, if_neg hd]
     rw [HEQ.out, hz]
     simp
  ·have t1 : ¬ (i : Int) < min (most : Int) (t.size : Int) := by omega
   go_wp2
   all_goals
    go_ret2
    refine ⟨?_, rfl⟩
    have hz : digs base ((L t).drop i) (most - i) a = (a, 0) := by
     by_cases h2 : i < t.size
     ·rw [show most - i = 0 by omega, zak t h2]; rfl
     ·rw [zas t (by omega)]; rfl
    rw [HEQ.out, hz]
    simp
end Go.Proofs.YtppjodfehhlniaaGreatDoor
end
section
namespace Go.Proofs
open Go.Shelf
def Tryz.lays169_ren : Go.Shelf.Ren := ⟨fun | 169 => 43 | n => n, fun | 70 => 77 | 9 => 9 | 0 => 0 | 72 => 80 | 37 => 78 | 127 => 164 | 3 => 3 | 5 => 5 | n => n, fun | n => n⟩
theorem Tryz.lays169 : Go.Proofs.Lays.n169 Tryz.prog Tryz.lays169_ren := {
 mixed := by kernel_rfl
 f169 := Tryz.func43.trans (congrArg some (by kernel_rfl))
 t0 := Tryz.underlying0
 a0 := Tryz.isAgg0
 z0 := Tryz.sizeOf0
 v0 := Tryz.zeroValue0
 t3 := Tryz.underlying3
 a3 := Tryz.isAgg3
 z3 := Tryz.sizeOf3
 v3 := Tryz.zeroValue3
 t9 := Tryz.underlying9
 a9 := Tryz.isAgg9
 z9 := Tryz.sizeOf9
 v9 := Tryz.zeroValue9
 t37 := Tryz.underlying78
 a37 := Tryz.isAgg78
 z37 := Tryz.sizeOf78
 v37 := Tryz.zeroValue78
 t70 := Tryz.underlying77
 a70 := Tryz.isAgg77
 z70 := Tryz.sizeOf77
 v70 := Tryz.zeroValue77
 t72 := Tryz.underlying80
 a72 := Tryz.isAgg80
 z72 := Tryz.sizeOf80
 v72 := Tryz.zeroValue80
 t127 := Tryz.underlying164
 a127 := Tryz.isAgg164
 z127 := Tryz.sizeOf164
 v127 := Tryz.zeroValue164 }
theorem Tryz.Builder_Extra_169 : Builder.Extra Tryz.prog Tryz.lays169_ren := {
 sizeBuilder := by kernel_rfl
 liesBuilder := by kernel_rfl
 t5 := Tryz.underlying5
 a5 := Tryz.isAgg5
 z5 := Tryz.sizeOf5
 v5 := Tryz.zeroValue5
 infoByte := by kernel_rfl
 cellsByte := by kernel_rfl
 sizeByte := by kernel_rfl
 neB5 := by decide }
open Go.RowKit in
theorem Tryz.Builder_String_any (B b : Nat) (l : List UInt8) (w : World) (h : Lib.IsBuilder 80 5 B b (Lib.byteCells l) w) (hBw : B ≤ w.heap.size) :
  Calls Tryz.prog 43 #[.pointer (some ⟨b, 0, none⟩)] w fun e w' => e = .returned (.string ⟨l.toArray⟩) ∧ Below B w w' := Any.Builder_String_any Tryz.lays169 Tryz.Builder_Extra_169 B b l w h hBw
def Tryz.lays137_ren : Go.Shelf.Ren := ⟨fun | 137 => 221 | 217 => 332 | 266 => 416 | n => n, fun | 9 => 9 | 5 => 5 | 3 => 3 | n => n, fun | n => n⟩
theorem Tryz.lays137 : Go.Proofs.Lays.n137 Tryz.prog Tryz.lays137_ren := {
 mixed := by kernel_rfl
 f137 := Tryz.func221.trans (congrArg some (by kernel_rfl))
 f217 := Tryz.func332.trans (congrArg some (by kernel_rfl))
 f266 := Tryz.func416.trans (congrArg some (by kernel_rfl))
 t3 := Tryz.underlying3
 a3 := Tryz.isAgg3
 z3 := Tryz.sizeOf3
 v3 := Tryz.zeroValue3
 t5 := Tryz.underlying5
 a5 := Tryz.isAgg5
 z5 := Tryz.sizeOf5
 v5 := Tryz.zeroValue5
 t9 := Tryz.underlying9
 a9 := Tryz.isAgg9
 z9 := Tryz.sizeOf9
 v9 := Tryz.zeroValue9 }
open Go.RowKit in
theorem Tryz.strings_IndexByte (s : ByteArray) (c : Int) (w : World) :
  Calls Tryz.prog 221 #[.string s, .int .u8 c] w fun e w' => e = .returned (.int .i64 (Lib.indexByte s.data.toList c.toNat.toUInt8)) ∧ w' = w := Any.strings_IndexByte Tryz.lays137 s c w
end Go.Proofs
end
section
namespace Go.Proofs.YtppjodfehhlniaaGreatDoor
open Go.ChangeShapes Go.WideShapes Go.ChangeAt Go.RowKit
set_option maxRecDepth 100000
theorem zry : (Tryz.prog.info? 80).map (·.size) = some 2 := by kernel_rfl
set_option maxHeartbeats 400000 in
theorem zjl (b : Nat) (w : World) (h0 : w.cell? ⟨b, 0, none⟩ = some (.pointer (some ⟨b, 0, none⟩))) :
  Calls Tryz.prog 105 #[.pointer (some ⟨b, 0, none⟩)] w fun e w' => e = .returned (.tuple #[]) ∧ w' = w := by
 obtain ⟨j, hj, hjs⟩ := Option.map_eq_some_iff.1 zry
 go_enter Tryz.func105, Tryz.ntmps105
 go_wp2
 rw [Lib.run_neq_ptr_same w _ Tryz.underlying77 hj]
 go_wp2
 go_end0
 exact ⟨rfl, rfl⟩
set_option maxHeartbeats 400000 in
theorem ziO (b : Nat) (w : World) (h0 : w.cell? ⟨b, 0, none⟩ = some (.pointer none)) (hsh : w.shape? b = some (80, 2)) (hfz : w.frozen? ⟨b, 0, none⟩ = false) :
  Calls Tryz.prog 105 #[.pointer (some ⟨b, 0, none⟩)] w fun e w' => e = .returned (.tuple #[]) ∧ w' = w.setCell ⟨b, 0, none⟩ (.pointer (some ⟨b, 0, none⟩)) := by
 obtain ⟨j, hj, hjs⟩ := Option.map_eq_some_iff.1 zry
 go_enter Tryz.func105, Tryz.ntmps105
 go_wp2
 rw [Lib.run_to_unsafe w ⟨b, 0, none⟩ Tryz.underlying77 Tryz.underlying254 hj (by rw [hjs]; decide) hsh (Nat.zero_lt_succ 1)]
 simp only [Result.andThen]
 rw [Oper.upon_value]
 go_wp2
 rw [run_callFunc_extern Tryz.func220 (by kernel_rfl) (by kernel_rfl) (by kernel_rfl) (e := Extern.AbiNoEscape.same) (by kernel_rfl)]
 rw [Lib.run_noEscape]
 simp only [Result.andThen]
 rw [Oper.upon_value]
 go_wp2
 rw [Lib.run_from_unsafe w ⟨b, 0, none⟩ Tryz.underlying254 Tryz.underlying77 hj hsh (by kernel_rfl)]
 simp only [Result.andThen]
 rw [Oper.upon_value]
 go_wp2
 go_end0
 exact ⟨rfl, rfl⟩
theorem zf8 (B b : Nat) (bs : List Value) (w : World) (h : Lib.IsBuilder 80 5 B b bs w) :
  Calls Tryz.prog 105 #[.pointer (some ⟨b, 0, none⟩)] w fun e w' => e = .returned (.tuple #[]) ∧ (Lib.BuilderAt 80 5 B b (.pointer (some ⟨b, 0, none⟩)) bs w' ∧ Below B w w') := by
 rcases h with h | h
 ·refine (ziO b w h.cell0 h.shape h.frozen0).mono ?_
  rintro e w' ⟨rfl, rfl⟩
  exact ⟨rfl, h.used _, (Below.refl B w).setCell (p := ⟨b, 0, none⟩) h.1 _⟩
 ·refine (zjl b w h.cell0).mono ?_
  rintro e w' ⟨rfl, rfl⟩
  exact ⟨rfl, h, Below.refl B _⟩
theorem infoByte : (Tryz.prog.info? 5).map (fun i => (i.zero, i.size, i.bytes)) = some (some (.int .u8 0), 1, 1) := by kernel_rfl
set_option maxHeartbeats 400000 in
theorem zao (B b : Nat) (bs : List Value) (c : Int) (w : World) (h : Lib.IsBuilder 80 5 B b bs w) (hlen : bs.length + 1 ≤ 140737488355328) (hBw : B ≤ w.heap.size) :
  Calls Tryz.prog 39 #[.pointer (some ⟨b, 0, none⟩), .int .u8 c] w fun e w' => e = .returned .nilIface ∧ (Lib.BuilderAt 80 5 B b (.pointer (some ⟨b, 0, none⟩)) (bs ++ [.int .u8 c]) w' ∧ Below B w w') := by
 obtain ⟨i0, hi, hz0, hz1, hz2⟩ := info_parts infoByte
 go_enter Tryz.func39, Tryz.ntmps39
 go_wp2_with (go_at_call 105; refine (zf8 B b bs _ h).mono ?_)
 rintro e w1 ⟨rfl, h1, hb1⟩
 obtain ⟨hB, v, hbk, hown, hne⟩ := h1
 have c0 : w1.cell? ⟨b, 0, none⟩ = some (.pointer (some ⟨b, 0, none⟩)) := by rw [Lib.cell_of_heap hbk]; rfl
 have c1 : w1.cell? ⟨b, 1, none⟩ = some v := by rw [Lib.cell_of_heap hbk]; rfl
 go_wp2_with (at_builtin; refine wpList_append_own _ rfl _ _ 78 rfl B 5 i0 (.int .u8 0) 1 1 Tryz.underlying78 hi hz0 hz1 hz2 rfl (by decide) _ _ _ rfl (hown.alloc _) ⟨w1.heap.size, 0, none⟩ 1 1 [.int .u8 c] rfl rfl ?c1 ?c2 ?c3 ?c4 ?c5 ?_)
 case c1 =>
  intro j u hj
  match j, hj with
  | 0, hj => simp at hj; subst hj; simp [Addr.add]
 case c2 => intro u hu; simp at hu; subst hu; rfl
 case c3 => unfold maxLen; omega
 case c4 => omega
 case c5 => have := hb1.size; simp; omega
 intro v' w2 hown' hgrow _
 have hlt : b < w1.heap.size := by
  rcases Nat.lt_or_ge b w1.heap.size with h' | h'
  ·exact h'
  ·simp [Array.getElem?_eq_none h'] at hbk
 have hb2 : w2.heap[b]? = some (.cells #[.pointer (some ⟨b, 0, none⟩), v] 80 (0, 0)) := by
  rw [hgrow.block b (by simp; omega) (fun e => hne e.symm), Lib.alloc_old w1 _ b hlt]
  exact hbk
 have d0 : w2.cell? ⟨b, 0, none⟩ = some (.pointer (some ⟨b, 0, none⟩)) := by rw [Lib.cell_of_heap hb2]; rfl
 have d1 : w2.cell? ⟨b, 1, none⟩ = some v := by rw [Lib.cell_of_heap hb2]; rfl
 have f1 : w2.frozen? ⟨b, 1, none⟩ = false := Lib.frozen_of_heap hb2 1
 obtain ⟨g, cap, rfl⟩ : ∃ g cap, v' = .slice (some ⟨g, 0, none⟩) (bs.length + 1) cap := by
  rcases hown'.2 with ⟨_, h0⟩ | ⟨g, cap, cur, hv, _⟩
  ·omega
  ·exact ⟨g, cap, hv⟩
 go_wp2
 go_ret
 refine ⟨rfl, ?_, ?_⟩
 ·exact Lib.BuilderAt.put (T := 80) (e := 5) hB hb2 (bs' := bs ++ [.int .u8 c]) (by simpa using hown') (by decide)
 ·exact ((hb1.alloc (by have := hb1.size; omega) _).grown hgrow (by have := hb1.size; simp; omega) (fun k hk => (hown.lt k hk).1)).setCell (p := ⟨b, 1, none⟩) hB _
set_option maxHeartbeats 400000 in
theorem zb6 (B b : Nat) (bs : List Value) (s : ByteArray) (w : World) (h : Lib.IsBuilder 80 5 B b bs w) (hlen : bs.length + s.size ≤ 140737488355328) (hBw : B ≤ w.heap.size) :
  Calls Tryz.prog 40 #[.pointer (some ⟨b, 0, none⟩), .string s] w fun e w' => e = .returned (.tuple #[.int .i64 s.size, .nilIface]) ∧ (Lib.BuilderAt 80 5 B b (.pointer (some ⟨b, 0, none⟩)) (bs ++ Lib.strCells s) w' ∧ Below B w w') := by
 obtain ⟨i0, hi, hz0, hz1, hz2⟩ := info_parts infoByte
 go_enter Tryz.func40, Tryz.ntmps40
 go_wp2_with (go_at_call 105; refine (zf8 B b bs _ h).mono ?_)
 rintro e w1 ⟨rfl, h1, hb1⟩
 obtain ⟨hB, v, hbk, hown, hne⟩ := h1
 have c0 : w1.cell? ⟨b, 0, none⟩ = some (.pointer (some ⟨b, 0, none⟩)) := by rw [Lib.cell_of_heap hbk]; rfl
 have c1 : w1.cell? ⟨b, 1, none⟩ = some v := by rw [Lib.cell_of_heap hbk]; rfl
 go_wp2_with (at_builtin; refine Lib.wpList_append_own_string _ rfl _ _ 78 9 rfl B 5 i0 Tryz.underlying78 Tryz.underlying9 hi hz0 hz1 hz2 _ _ _ rfl hown s rfl ?c3 ?c4 ?c5 ?_)
 case c3 => unfold maxLen; omega
 case c4 => omega
 case c5 => have := hb1.size; omega
 intro v' w2 hown' hgrow _
 have hlt : b < w1.heap.size := by
  rcases Nat.lt_or_ge b w1.heap.size with h' | h'
  ·exact h'
  ·simp [Array.getElem?_eq_none h'] at hbk
 have hb2 : w2.heap[b]? = some (.cells #[.pointer (some ⟨b, 0, none⟩), v] 80 (0, 0)) := by
  rw [hgrow.block b hlt (fun e => hne e.symm)]
  exact hbk
 have d0 : w2.cell? ⟨b, 0, none⟩ = some (.pointer (some ⟨b, 0, none⟩)) := by rw [Lib.cell_of_heap hb2]; rfl
 have d1 : w2.cell? ⟨b, 1, none⟩ = some v := by rw [Lib.cell_of_heap hb2]; rfl
 have f1 : w2.frozen? ⟨b, 1, none⟩ = false := Lib.frozen_of_heap hb2 1
 obtain ⟨ao, n', cap, rfl⟩ : ∃ ao n' cap, v' = .slice ao n' cap := by
  rcases hown'.2 with ⟨hv, _⟩ | ⟨g, cap, cur, hv, _⟩
  ·exact ⟨_, _, _, hv⟩
  ·exact ⟨_, _, _, hv⟩
 go_wp2
 go_ret2
 refine ⟨rfl, ?_, ?_⟩
 ·exact Lib.BuilderAt.put (T := 80) (e := 5) hB hb2 (bs' := bs ++ Lib.strCells s) (by simpa [Lib.strCells_length] using hown') (by decide)
 ·exact (hb1.grown hgrow (by have := hb1.size; omega) (fun k hk => (hown.lt k hk).1)).setCell (p := ⟨b, 1, none⟩) hB _
theorem zci (l : List UInt8) (s : ByteArray) (k : Nat) : Lib.byteCells l ++ [.int .u8 (byte s k : Int)] = Lib.byteCells (l ++ [ub s k]) := by
 simp [Lib.byteCells, zaE]
theorem ziP (l m : List UInt8) : Lib.byteCells l ++ Lib.strCells ⟨m.toArray⟩ = Lib.byteCells (l ++ m) := by
 simp [Lib.byteCells, Lib.strCells]
theorem zaH (w : World) (cs : Array Value) (T : TypeId) : ∃ A, w.alloc (.cells cs T) = A ∧ A.heap.size = w.heap.size + 1 ∧ A.heap[w.heap.size]? = some (.cells cs T (0, 0)) ∧ (∀ j, j < w.heap.size → A.heap[j]? = w.heap[j]?) ∧ Below w.heap.size w A :=
 ⟨_, rfl, by simp, heap_alloc_new w _, fun j hj => heap_alloc_old w _ hj, (Below.refl _ w).alloc (Nat.le_refl _) _⟩
end Go.Proofs.YtppjodfehhlniaaGreatDoor
end
section
namespace Go.Proofs.YtppjodfehhlniaaGreatDoor
open Go.ChangeShapes Go.WideShapes Go.ChangeAt Go.RowKit
set_option maxRecDepth 100000
theorem zc4 (t : ByteArray) (h : t.size = 0) : L t = [] := List.eq_nil_of_length_eq_zero (by rw [za7]; exact h)
theorem zd0 (t : ByteArray) (h : t.size = 0) : t.toList.isEmpty = true := by rw [Lib.toList_data]; have := zc4 t h; unfold L at this; rw [this]; rfl
theorem zaI (t : ByteArray) (h : ¬ t.size = 0) : t.toList.isEmpty = false := by
 rw [Lib.toList_data]
 have := za7 t
 unfold L at this
 cases hd : t.data.toList with
 | nil => rw [hd] at this; exact absurd this.symm h
 | cons a l => rfl
theorem ze0 (t : ByteArray) (a b : Nat) : L (t.extract a b) = ((L t).drop a).take (b - a) := by
 unfold L
 rw [ByteArray.data_extract, Array.toList_extract, List.extract_eq_drop_take]
theorem zdi (t : ByteArray) (a : Nat) : L (t.extract a t.size) = (L t).drop a := by
 rw [ze0, List.take_of_length_le]
 rw [List.length_drop, za7]; omega
theorem za3 (s : ByteArray) (k : Nat) {n : Nat} (hn : n < 256) (h : byte s k = n) : ub s k = UInt8.ofNat n := (zbv s k n hn).2 h
def abt (c : UInt8) : Int := if c = 97 then 0 else if c = 98 then 1 else if c = 116 then 2 else if c = 110 then 3 else if c = 118 then 4 else if c = 102 then 5 else if c = 114 then 6 else -1
theorem zuM (c : UInt8) : Lib.indexByte [97, 98, 116, 110, 118, 102, 114] c = abt c := by
 unfold abt
 by_cases h1 : c = 97
 ·subst h1; rfl
 by_cases h2 : c = 98
 ·subst h2; rfl
 by_cases h3 : c = 116
 ·subst h3; rfl
 by_cases h4 : c = 110
 ·subst h4; rfl
 by_cases h5 : c = 118
 ·subst h5; rfl
 by_cases h6 : c = 102
 ·subst h6; rfl
 by_cases h7 : c = 114
 ·subst h7; rfl
 rw [if_neg h1, if_neg h2, if_neg h3, if_neg h4, if_neg h5, if_neg h6, if_neg h7]
 have q : ∀ n : UInt8, c ≠ n → (n == c) = false := fun n h => by simp; exact fun e => h e.symm
 simp [Lib.indexByte, q _ h1, q _ h2, q _ h3, q _ h4, q _ h5, q _ h6, q _ h7]
theorem zuN (c : UInt8) : (∃ i : Nat, i < 7 ∧ abt c = (i : Int) ∧ ltr c = some (UInt8.ofNat (7 + i))) ∨ (abt c = -1 ∧ ltr c = none) := by
 unfold abt ltr
 by_cases h1 : c = 97
 ·exact .inl ⟨0, by decide, by rw [if_pos h1]; rfl, by rw [if_pos h1]; rfl⟩
 by_cases h2 : c = 98
 ·exact .inl ⟨1, by decide, by rw [if_neg h1, if_pos h2]; rfl, by rw [if_neg h1, if_pos h2]; rfl⟩
 by_cases h3 : c = 116
 ·exact .inl ⟨2, by decide, by rw [if_neg h1, if_neg h2, if_pos h3]; rfl, by rw [if_neg h1, if_neg h2, if_pos h3]; rfl⟩
 by_cases h4 : c = 110
 ·exact .inl ⟨3, by decide, by rw [if_neg h1, if_neg h2, if_neg h3, if_pos h4]; rfl, by rw [if_neg h1, if_neg h2, if_neg h3, if_pos h4]; rfl⟩
 by_cases h5 : c = 118
 ·exact .inl ⟨4, by decide, by rw [if_neg h1, if_neg h2, if_neg h3, if_neg h4, if_pos h5]; rfl, by rw [if_neg h1, if_neg h2, if_neg h3, if_neg h4, if_pos h5]; rfl⟩
 by_cases h6 : c = 102
 ·exact .inl ⟨5, by decide, by rw [if_neg h1, if_neg h2, if_neg h3, if_neg h4, if_neg h5, if_pos h6]; rfl, by rw [if_neg h1, if_neg h2, if_neg h3, if_neg h4, if_neg h5, if_pos h6]; rfl⟩
 by_cases h7 : c = 114
 ·exact .inl ⟨6, by decide, by rw [if_neg h1, if_neg h2, if_neg h3, if_neg h4, if_neg h5, if_neg h6, if_pos h7]; rfl, by rw [if_neg h1, if_neg h2, if_neg h3, if_neg h4, if_neg h5, if_neg h6, if_pos h7]; rfl⟩
 ·exact .inr ⟨by rw [if_neg h1, if_neg h2, if_neg h3, if_neg h4, if_neg h5, if_neg h6, if_neg h7], by rw [if_neg h1, if_neg h2, if_neg h3, if_neg h4, if_neg h5, if_neg h6, if_neg h7]⟩
theorem zgO (s : ByteArray) (hs : s.data.toList = [97, 98, 116, 110, 118, 102, 114]) (c z : Int) (hz : abt c.toNat.toUInt8 = z) (w : World) :
  Calls Tryz.prog 221 #[.string s, .int .u8 c] w fun e w' => e = .returned (.int .i64 z) ∧ w = w' := by
 refine (Tryz.strings_IndexByte s c w).mono ?_
 rintro e w' ⟨rfl, rfl⟩
 rw [hs, ← hz, ← zuM]
 exact ⟨rfl, rfl⟩
theorem zjm (W : World) (x : Int) : (convert 78 9 (.slice (some ⟨W.heap.size, 0, none⟩) 1 1)).run Tryz.prog (W.alloc (.cells #[.int .u8 x] 5)) = .ok (.string (strOfNums [x])) (W.alloc (.cells #[.int .u8 x] 5)) := by
 refine run_convert_bytes_arg _ 78 5 Tryz.underlying78 Tryz.underlying5 _ 0 1 1 [x] rfl ?_ 9 Tryz.underlying9
 intro i hi
 have : i = 0 := by omega
 subst this
 rw [Lib.cell_of_heap (heap_alloc_new W _)]
 rfl
theorem ze9 (x : Int) : L (strOfNums [x]) = [UInt8.ofNat x.toNat] := by simp [L, strOfNums]
theorem zcu (n : Nat) : UInt8.ofNat (n % 256) = UInt8.ofNat n := by
 apply UInt8.toNat.inj
 simp [UInt8.toNat_ofNat']
def uneV (l : List UInt8) : Ending := .returned (.tuple #[.string ⟨(une l).1.toArray⟩, .int .i64 ((une l).2 : Int)])
theorem zaS {l : List UInt8} {s : ByteArray} {n : Int} (h1 : (une l).1 = L s) (h2 : ((une l).2 : Int) = n) : Ending.returned (.tuple #[.string s, .int .i64 n]) = uneV l := by
 unfold uneV
 rw [h1, h2]; rfl
theorem zdo {t : ByteArray} (h0 : byte t 0 = 92) (h1 : 1 < t.size) : une (L t) = une1 (ub t 1) ((L t).drop 2) := by
 have a := zak t (show 0 < t.size by omega)
 have b := zak t h1
 rw [List.drop_zero] at a
 rw [a, b, za3 t 0 (by decide) h0]
 rfl
end Go.Proofs.YtppjodfehhlniaaGreatDoor
end
section
namespace Go.Proofs.YtppjodfehhlniaaGreatDoor
set_option maxRecDepth 100000
theorem zpn : (Rows.procsBindsUptoRow.unfollowed == Tryz.prog.unfollowed 3) = true := by
 unfold Program.unfollowed
 rw [zlp]
 kernel_rfl
end Go.Proofs.YtppjodfehhlniaaGreatDoor
end
section
namespace Go.Proofs.YtppjodfehhlniaaGreatDoor
set_option maxRecDepth 100000
theorem unf3 : Tryz.prog.unfollowed 3 = true := (beq_iff_eq.1 zpn).symm.trans rfl
theorem ztH : (Rows.procsBindsUptoRow.recurses == Tryz.prog.recurses 3) = true := by
 unfold Program.recurses
 rw [unf3]
 rfl
end Go.Proofs.YtppjodfehhlniaaGreatDoor
end
section
namespace Go.Proofs.YtppjodfehhlniaaGreatDoor
set_option maxRecDepth 100000
theorem zqd : (Rows.procsBindsUptoRow.lifted == Tryz.prog.liftsFinal) = true := by kernel_rfl
end Go.Proofs.YtppjodfehhlniaaGreatDoor
end
section
namespace Go.Proofs.YtppjodfehhlniaaGreatDoor
set_option maxRecDepth 100000
theorem zu7 : (Rows.procsBindsUptoRow.wf (OpenSpec.ofChange (Rows.OpenSpec.upto Rows.procsBindsSpec).bare)) = true := by kernel_rfl
end Go.Proofs.YtppjodfehhlniaaGreatDoor
end
section
namespace Go.Proofs.YtppjodfehhlniaaGreatDoor
set_option maxRecDepth 100000
theorem zqe : Tryz.prog.stopsHeard = true := (Bool.and_eq_true_iff.1 zkf).1
theorem ztI : Tryz.prog.mayEnter = true := (Bool.and_eq_true_iff.1 zkf).2
theorem zu8 : joinedFacts Tryz.prog 3 Tryz.f3 (Rows.OpenSpec.upto Rows.procsBindsSpec).bare Rows.procsBindsUptoRow = true := by
 unfold joinedFacts
 rw [zu7, Tryz.laidOut, Tryz.mapsRowed, zm2, zpn, ztH, zqc, zsq, zqd, zqe, ztI]
 kernel_rfl
end Go.Proofs.YtppjodfehhlniaaGreatDoor
end
section
namespace Go.Proofs.YtppjodfehhlniaaGreatDoor
theorem zvb : Tryz.prog.laidByTextLater laidL [.data, .sentinel, .sentinel, .data, .data, .data] true :=
 Program.laidByTextLater_by_one 400 8 65 zvX zvR ztK zvZ zvY zv0 zva
theorem zm5 : Rows.procsBindsUptoRow.laidByTextAt .later Tryz.pinned [.pinned, .data, .sentinel, .sentinel, .data, .data, .data] true :=
 OpenClaim.laidByTextAt_pinned rfl rfl zvb rfl rfl rfl rfl (fun y hy _e => by
  simp only [Rows.procsBindsUptoRow, List.zip_cons_cons, List.zip_nil_right, List.mem_cons, List.mem_nil_iff, or_false] at hy
  rcases hy with rfl | rfl | rfl | rfl | rfl | rfl | rfl
  ·exact ⟨zss, by kernel_rfl⟩
  ·cases _e
  ·cases _e
  ·cases _e
  ·cases _e
  ·cases _e
  ·cases _e) ztL
end Go.Proofs.YtppjodfehhlniaaGreatDoor
end
