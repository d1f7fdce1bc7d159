/-
  For regions that draw: the run in the order of the text; For regions that draw: sets of operations, and what is known at each; For regions that draw: . Conditions: none.
-/
import Derived.Test.YtfkeeieoapimlaaGreatDoorYnToYr
set_option linter.unusedVariables false
set_option linter.unusedSimpArgs false
set_option linter.unusedSectionVars false
section
namespace Go.Xe
noncomputable section
section
variable {P : Program} {I : zaR} {self : Option Nat → Code → Fr → AH → R} {pl : Plan} {all : List Oper} {base : Nat}
theorem zaT {op : Op} (h : zaw op = true) : zan P op = true := by
 cases op <;> first | rfl | (cases h; done)
theorem zcN {op : Op} (h : zaw op = true) : zbD op = false := by
 cases op <;> first | rfl | (cases h; done)
theorem defer_reads {op : Op} (h : zaw op = true) : zbC op = false := by
 cases op <;> first | rfl | (cases h; done)
theorem zbo {op : Op} (h : zbD op = true) : zan P op = true := by
 cases op <;> first | rfl | exact h | (cases h; done)
inductive StepK (P : Program) (I : zaR) (self : Option Nat → Code → Fr → AH → R) (all : List Oper) (base k m : Nat) (o : Oper) (s s' : DS) (V : AV) : Prop
 | off (hw : zau all s.fr o.guard = some false) (hV : V = zaK) (hh : s'.h = s.h) (hps : s'.ps = s.ps) (hhs : s'.hs = if zan P o.op = true then s.hs else s.hs ++ [s.h])
 | made (hw : zau all s.fr o.guard = some true) (vs : List AV) (en : Ent) (f : Nat → AV) (hvs : mapO (fun x => ev x s.fr) (zbb o.op) = some vs) (hm : zbD o.op = true) (hmk : mkE P o.op vs = some (en, f)) (hV : V = f (base + k))
   (hh : s'.h = s.h) (hhs : s'.hs = s.hs) (hps : s'.ps = ⟨k, base + k, en⟩ :: s.ps)
 | quiet (hw : zau all s.fr o.guard = some true) (vs : List AV) (hvs : mapO (fun x => ev x s.fr) (zbb o.op) = some vs) (hq : zan P o.op = true) (hm : zbD o.op = false) (hV : valO (opV P o.op vs s.h) = some V)
   (hh : s'.h = s.h) (hhs : s'.hs = s.hs) (hps : s'.ps = s.ps)
 | dfr (hw : zau all s.fr o.guard = some true) (vs : List AV) (hvs : mapO (fun x => ev x s.fr) (zbb o.op) = some vs) (hd : zaw o.op = true) (d : ADef) (hdf : dfrO (opV P o.op vs s.h) = some d) (hV : V = zaK) (hds : s'.fr.ds = d :: s.fr.ds)
   (hh : s'.h = s.h) (hhs : s'.hs = s.hs) (hps : s'.ps = s.ps)
 | loud (hw : zau all s.fr o.guard = some true) (vs : List AV) (hvs : mapO (fun x => ev x s.fr) (zbb o.op) = some vs) (hq : zan P o.op = false) (hr : opR P I self o vs (zbw m s.ps s.h) = some (V, s'.h))
   (hhs : s'.hs = s.hs ++ [s'.h]) (hps : s'.ps = restOf m s.ps)
def PutF (fr : Fr) (d : Option Nat) (v : AV) (fr' : Fr) : Prop := fr.put d v = some ⟨fr'.t, fr'.nt, fr.ds⟩
theorem PutF.of {fr fr' : Fr} {d : Option Nat} {v : AV} (h : fr.put d v = some fr') : PutF fr d v fr' ∧ fr'.ds = fr.ds := by
 obtain ⟨h1, _⟩ := put_ds h
 refine ⟨?_, h1⟩
 show fr.put d v = _
 rw [h, ← h1]
theorem PutF.ofD {fr fr' : Fr} {d : Option Nat} {x : ADef} {v : AV} (h : (⟨fr.t, fr.nt, x :: fr.ds⟩ : Fr).put d v = some fr') : PutF fr d v fr' ∧ fr'.ds = x :: fr.ds := by
 obtain ⟨h1, _⟩ := put_ds h
 refine ⟨?_, h1⟩
 cases d with
 | none =>
   have h' : some (⟨fr.t, fr.nt, x :: fr.ds⟩ : Fr) = some fr' := h
   cases h'; rfl
 | some t =>
   have h' : grd (Nat.blt t fr.nt) (some (⟨Tr.put (some v) (Nat.succ t) fr.t t, fr.nt, x :: fr.ds⟩ : Fr)) = some fr' := h
   rw [zaf] at h'
   obtain ⟨hb, h'⟩ := h'
   cases h'
   show grd (Nat.blt t fr.nt) _ = _
   rw [hb]; rfl
theorem PutF.back {fr fr' : Fr} {d : Option Nat} {v : AV} (h : PutF fr d v fr') (hd : fr'.ds = fr.ds) : fr.put d v = some fr' := by
 have h' : fr.put d v = some ⟨fr'.t, fr'.nt, fr.ds⟩ := h
 rw [h', ← hd]
theorem putS_eq {s s' : DS} {d : Option Nat} {v : AV} (h : putS s d v = some s') : s.fr.put d v = some s'.fr ∧ s'.h = s.h ∧ s'.hs = s.hs ∧ s'.ps = s.ps := by
 unfold putS at h
 rw [zab] at h
 obtain ⟨fr, hf, h⟩ := h
 cases h
 exact ⟨hf, rfl, rfl, rfl⟩
theorem zaA {k m : Nat} {o : Oper} {s s' : DS} (h : zcS P I self pl all base k m o s = some s') :
  (zan P o.op = true ∨ twinOk pl all k s = true) ∧ ∃ V, PutF s.fr o.dst V s'.fr ∧ (s'.fr.ds = s.fr.ds ∨ zaw o.op = true ∧ zau all s.fr o.guard = some true) ∧ StepK P I self all base k m o s s' V := by
 unfold zcS at h
 rw [zaf, zcE, Bool.or_eq_true, zab] at h
 obtain ⟨hq, w, hw, h⟩ := h
 refine ⟨hq, ?_⟩
 cases w with
 | false =>
   rw [ite'_false] at h
   obtain ⟨hf, h1, h2, h3⟩ := putS_eq h
   refine ⟨zaK, (PutF.of hf).1, .inl (PutF.of hf).2, .off hw rfl h1 h3 ?_⟩
   rw [h2]
   show ite' (zan P o.op) s.hs (app s.hs [s.h]) = _
   rw [zaB, zcn]
 | true =>
   rw [ite'_true, zab] at h
   obtain ⟨vs, hvs, h⟩ := h
   unfold drawW at h
   rw [zav] at h
   rcases h with ⟨hm, h⟩ | ⟨hm, h⟩
   ·rw [zab] at h
    obtain ⟨⟨en, f⟩, hmk, h⟩ := h
    rw [zaG] at h
    obtain ⟨hf, h1, h2, h3⟩ := putS_eq h
    exact ⟨_, (PutF.of hf).1, .inl (PutF.of hf).2, .made hw vs en f hvs hm hmk rfl h1 h2 h3⟩
   ·rw [zav] at h
    rcases h with ⟨hq', h⟩ | ⟨hq', h⟩
    ·rw [zav] at h
     rcases h with ⟨hd, h⟩ | ⟨hd, h⟩
     ·rw [zab] at h
      obtain ⟨d, hdf, h⟩ := h
      obtain ⟨hf, h1, h2, h3⟩ := putS_eq h
      obtain ⟨hp, hds⟩ := PutF.ofD hf
      exact ⟨_, hp, .inr ⟨hd, hw⟩, .dfr hw vs hvs hd d hdf rfl hds h1 h2 h3⟩
     ·rw [zab] at h
      obtain ⟨v, hv, h⟩ := h
      obtain ⟨hf, h1, h2, h3⟩ := putS_eq h
      exact ⟨v, (PutF.of hf).1, .inl (PutF.of hf).2, .quiet hw vs hvs hq' hm hv h1 h2 h3⟩
    ·rw [zab] at h
     obtain ⟨⟨v, h2'⟩, hr, h⟩ := h
     obtain ⟨hf, h1, h2, h3⟩ := putS_eq h
     refine ⟨v, (PutF.of hf).1, .inl (PutF.of hf).2, .loud hw vs hvs hq' ?_ ?_ h3⟩
     ·rw [h1]; exact hr
     ·rw [h2, h1]
      show app s.hs [h2'] = _
      rw [zcn]
structure RunS (P : Program) (I : zaR) (slf : Option Nat → Code → Fr → AH → R) (pl : Plan) (all : List Oper) (base : Nat) (s : Nat → DS) : Prop where
 step : ∀ (k m : Nat) (o : Oper), all[k]? = some o → pl.ms[k]? = some m → zcS P I slf pl all base k m o (s k) = some (s (k + 1))
theorem zep : ∀ (l : List Oper) (j : Nat) (mr : List Nat) (s0 sF : DS), runDraw P I self pl all base l j mr s0 = some sF →
  ∃ s : Nat → DS, s 0 = s0 ∧ s l.length = sF ∧ ∀ (k m : Nat) (o : Oper), l[k]? = some o → mr[k]? = some m → zcS P I self pl all base (j + k) m o (s k) = some (s (k + 1))
 | [], j, mr, s0, sF, h => by
   have h' : some s0 = some sF := h
   cases h'
   exact ⟨fun _ => s0, rfl, rfl, fun k m o ho => by simp at ho⟩
 | o :: l, j, mr, s0, sF, h => by
   cases mr with
   | nil => cases h
   | cons m mr =>
     have h' : bnd (zcS P I self pl all base j m o s0) (fun s => runDraw P I self pl all base l (j + 1) mr s) = some sF := h
     rw [zab] at h'
     obtain ⟨s1, hs1, h'⟩ := h'
     obtain ⟨s, h0, hF, hk⟩ := zep l (j + 1) mr s1 sF h'
     refine ⟨fun k => match k with | 0 => s0 | k + 1 => s k, rfl, hF, fun k m' o' ho' hm' => ?_⟩
     cases k with
     | zero =>
       simp at ho' hm'
       subst ho' hm'
       show zcS P I self pl all base (j + 0) m o s0 = some (s 0)
       rw [h0]; exact hs1
     | succ k =>
       have := hk k m' o' (by simpa using ho') (by simpa using hm')
       rwa [show j + 1 + k = j + (k + 1) by omega] at this
theorem put_at {fr fr' : Fr} {d : Option Nat} {v : AV} (h : fr.put d v = some fr') (t : Nat) : atT fr'.t t = if d = some t then v else atT fr.t t := by
 cases d with
 | none => simp [Fr.put] at h; subst h; rfl
 | some d =>
   have h' : grd (Nat.blt d fr.nt) (some (⟨Tr.put (some v) (Nat.succ d) fr.t d, fr.nt, fr.ds⟩ : Fr)) = some fr' := h
   rw [zaf] at h'
   cases h'.2
   rw [atT_put]
   by_cases hx : t = d
   ·rw [if_pos hx, if_pos (by rw [hx])]
   ·rw [if_neg hx, if_neg (fun h => hx (Option.some.inj h).symm)]
theorem put_atF {fr fr' : Fr} {d : Option Nat} {v : AV} (h : PutF fr d v fr') (t : Nat) : atT fr'.t t = if d = some t then v else atT fr.t t := put_at (fr' := ⟨fr'.t, fr'.nt, fr.ds⟩) h t
section
variable {s : Nat → DS} (hr : RunS P I self pl all base s) (hl : pl.ms.length = all.length)
include hr hl
theorem RunS.at_ {k : Nat} {o : Oper} (ho : all[k]? = some o) : ∃ m, pl.ms[k]? = some m ∧ zcS P I self pl all base k m o (s k) = some (s (k + 1)) := by
 have hk : k < pl.ms.length := by rw [hl]; exact (List.getElem?_eq_some_iff.1 ho).1
 exact ⟨pl.ms[k], List.getElem?_eq_getElem hk, hr.step k _ o ho (List.getElem?_eq_getElem hk)⟩
theorem RunS.same {k : Nat} (hk : k ≤ all.length) : (s k).fr.nt = (s 0).fr.nt := by
 induction k with
 | zero => rfl
 | succ k ih =>
   have h1 := ih (by omega)
   obtain ⟨m, hm, hst⟩ := hr.at_ hl (List.getElem?_eq_getElem (show k < all.length by omega))
   obtain ⟨_, V, hp, _⟩ := zaA hst
   obtain ⟨h3, h4⟩ := put_ds hp
   exact h4.trans h1
theorem RunS.dsKeep {k k' : Nat} (hkk : k ≤ k') (hk : k' ≤ all.length) (hn : ∀ (i : Nat) (o : Oper), k ≤ i → i < k' → all[i]? = some o → zaw o.op = true → zau all (s i).fr o.guard ≠ some true) : (s k').fr.ds = (s k).fr.ds := by
 induction k' with
 | zero => rw [show k = 0 by omega]
 | succ k' ih =>
   by_cases h : k = k' + 1
   ·rw [h]
   ·have ho := List.getElem?_eq_getElem (show k' < all.length by omega)
    obtain ⟨m, hm, hst⟩ := hr.at_ hl ho
    obtain ⟨_, V, hp, hds, _⟩ := zaA hst
    rcases hds with hds | ⟨hd, hw⟩
    ·rw [hds]
     exact ih (by omega) (by omega) fun i o h1 h2 => hn i o h1 (by omega)
    ·exact absurd hw (hn k' _ (by omega) (by omega) ho hd)
theorem RunS.keep {t k k' : Nat} (hkk : k ≤ k') (hk : k' ≤ all.length) (hn : ∀ (i : Nat) (o : Oper), k ≤ i → i < k' → all[i]? = some o → o.dst ≠ some t) : atT (s k').fr.t t = atT (s k).fr.t t := by
 induction k' with
 | zero => rw [show k = 0 by omega]
 | succ k' ih =>
   by_cases h : k = k' + 1
   ·rw [h]
   ·have ho := List.getElem?_eq_getElem (show k' < all.length by omega)
    obtain ⟨m, hm, hst⟩ := hr.at_ hl ho
    obtain ⟨_, V, hp, _⟩ := zaA hst
    rw [put_atF hp t, if_neg (hn k' _ (by omega) (by omega) ho)]
    exact ih (by omega) (by omega) fun i o h1 h2 => hn i o h1 (by omega)
omit hr hl
end
def OpsOk (P : Program) (all : List Oper) (ms : List Nat) : Prop := ∀ (j m : Nat) (o : Oper), all[j]? = some o → ms[j]? = some m → OpOk P all ms j m o
theorem dst_alone {all : List Oper} {ms : List Nat} (hops : OpsOk P all ms) (hl : ms.length = all.length) {i j : Nat} {oi oj : Oper} {t : Nat} (hi : all[i]? = some oi) (hj : all[j]? = some oj) (hdi : oi.dst = some t) (hdj : oj.dst = some t) : i = j := by
 have hk : j < ms.length := by rw [hl]; exact (List.getElem?_eq_some_iff.1 hj).1
 exact (hops j _ oj hj (List.getElem?_eq_getElem hk)).alone t hdj i oi hi hdi
section
variable {s : Nat → DS} (hr : RunS P I self pl all base s) (hl : pl.ms.length = all.length) (hops : OpsOk P all pl.ms)
include hr hl hops
theorem RunS.done {i k : Nat} {o : Oper} {t : Nat} (ho : all[i]? = some o) (hd : o.dst = some t) (hik : i < k) (hk : k ≤ all.length) : atT (s k).fr.t t = atT (s all.length).fr.t t :=
 (hr.keep hl hk (Nat.le_refl _) fun i' o' h1 h2 ho' hd' => by
  have := dst_alone hops hl ho ho' hd hd'
  omega).symm
theorem RunS.undone {k : Nat} {t : Nat} (hk : k ≤ all.length) (hn : ∀ (i : Nat) (o : Oper), i < k → all[i]? = some o → o.dst ≠ some t) : atT (s k).fr.t t = atT (s 0).fr.t t :=
 hr.keep hl (Nat.zero_le _) hk fun i o _ h => hn i o h
theorem RunS.put {k : Nat} {o : Oper} {t : Nat} {V : AV} (ho : all[k]? = some o) (hp : PutF (s k).fr o.dst V (s (k + 1)).fr) (hd : o.dst = some t) : atT (s all.length).fr.t t = V := by
 have hk : k < all.length := (List.getElem?_eq_some_iff.1 ho).1
 rw [← hr.done hl hops ho hd (Nat.lt_succ_self k) hk, put_atF hp t, if_pos hd]
omit hops
theorem RunS.hs (h0 : (s 0).hs = [(s 0).h]) {k : Nat} (hk : k ≤ all.length) : (s k).hs.length = 1 + (List.range k).countP (Lp P all) ∧ (s k).hs[(List.range k).countP (Lp P all)]? = some (s k).h := by
 induction k with
 | zero => rw [h0]; exact ⟨rfl, rfl⟩
 | succ k ih =>
   obtain ⟨h1, h2⟩ := ih (by omega)
   have ho := List.getElem?_eq_getElem (show k < all.length by omega)
   obtain ⟨m, hm, hst⟩ := hr.at_ hl ho
   obtain ⟨_, V, hp, _, hS⟩ := zaA hst
   rw [List.range_succ, List.countP_append, List.countP_singleton]
   have hL : Lp P all k = !zan P all[k].op := by unfold Lp; rw [ho]
   have quiet : zan P all[k].op = true → (s (k + 1)).hs = (s k).hs → (s (k + 1)).h = (s k).h → (s (k + 1)).hs.length = 1 + ((List.range k).countP (Lp P all) + if Lp P all k = true then 1 else 0) ∧
     (s (k + 1)).hs[(List.range k).countP (Lp P all) + if Lp P all k = true then 1 else 0]? = some (s (k + 1)).h := fun hq q1 q2 => by
    rw [hL, hq, q1, q2]
    simpa using ⟨h1, h2⟩
   have loud : zan P all[k].op = false → (s (k + 1)).hs = (s k).hs ++ [(s (k + 1)).h] → (s (k + 1)).hs.length = 1 + ((List.range k).countP (Lp P all) + if Lp P all k = true then 1 else 0) ∧
     (s (k + 1)).hs[(List.range k).countP (Lp P all) + if Lp P all k = true then 1 else 0]? = some (s (k + 1)).h := fun hq q1 => by
    rw [hL, hq, q1]
    refine ⟨by simp [h1]; omega, ?_⟩
    rw [List.getElem?_append_right (by simp [h1]; omega), h1]
    simp only [Bool.not_false, if_true]
    rw [show (List.range k).countP (Lp P all) + 1 - (1 + (List.range k).countP (Lp P all)) = 0 by omega]
    rfl
   cases hS with
   | off hw hV hh hps hhs =>
     by_cases hq : zan P all[k].op = true
     ·rw [if_pos hq] at hhs
      exact quiet hq hhs hh
     ·rw [if_neg hq] at hhs
      exact loud (by simpa using hq) (by rw [hh]; exact hhs)
   | made hw vs en f hvs hm' hmk hV hh hhs hps => exact quiet (zbo hm') hhs hh
   | quiet hw vs hvs hq hm' hV hh hhs hps => exact quiet hq hhs hh
   | dfr hw vs hvs hd d hdf hV hds hh hhs hps => exact quiet (zaT hd) hhs hh
   | loud hw vs hvs hq hr' hhs hps => exact loud hq hhs
theorem RunS.hs_pre {k k' : Nat} (hkk : k ≤ k') (hk : k' ≤ all.length) {i : Nat} {x : AH} (hx : (s k).hs[i]? = some x) : (s k').hs[i]? = some x := by
 induction k' with
 | zero => rw [show k = 0 by omega] at hx; exact hx
 | succ k' ih =>
   by_cases h : k = k' + 1
   ·rw [← h]; exact hx
   ·have h1 := ih (by omega) (by omega)
    have ho := List.getElem?_eq_getElem (show k' < all.length by omega)
    obtain ⟨m, hm, hst⟩ := hr.at_ hl ho
    obtain ⟨_, V, hp, _, hS⟩ := zaA hst
    have more : ∀ y, (s (k' + 1)).hs = (s k').hs ++ [y] → (s (k' + 1)).hs[i]? = some x := fun y hy => by
     rw [hy, List.getElem?_append_left (List.getElem?_eq_some_iff.1 h1).1]; exact h1
    cases hS with
    | off hw hV hh hps hhs =>
      by_cases hq : zan P all[k'].op = true
      ·rw [if_pos hq] at hhs
       rw [hhs]; exact h1
      ·rw [if_neg hq] at hhs
       exact more _ hhs
    | made hw vs en f hvs hm' hmk hV hh hhs hps => rw [hhs]; exact h1
    | quiet hw vs hvs hq hm' hV hh hhs hps => rw [hhs]; exact h1
    | dfr hw vs hvs hd d hdf hV hds hh hhs hps => rw [hhs]; exact h1
    | loud hw vs hvs hq hr' hhs hps => exact more _ hhs
omit hr hl
end
def Mk (P : Program) (all : List Oper) (s : Nat → DS) (j : Nat) (en : Ent) : Prop :=
 ∃ o vs f, all[j]? = some o ∧ zbD o.op = true ∧ zau all (s j).fr o.guard = some true ∧ mapO (fun x => ev x (s j).fr) (zbb o.op) = some vs ∧ mkE P o.op vs = some (en, f)
def Laid (P : Program) (all : List Oper) (ms : List Nat) (s : Nat → DS) (k j : Nat) : Prop :=
 ∃ i m o, i < k ∧ all[i]? = some o ∧ ms[i]? = some m ∧ zan P o.op = false ∧ zau all (s i).fr o.guard = some true ∧ bit m j = true
theorem Mk.inj {s : Nat → DS} {j : Nat} {en en' : Ent} (h : Mk P all s j en) (h' : Mk P all s j en') : en = en' := by
 obtain ⟨o, vs, f, a1, a2, a3, a4, a5⟩ := h
 obtain ⟨o', vs', f', b1, b2, b3, b4, b5⟩ := h'
 rw [a1] at b1; cases b1
 rw [a4] at b4; cases b4
 rw [a5] at b5; cases b5
 rfl
theorem restOf_mem {m : Nat} {ps : List Pend} {p : Pend} : p ∈ restOf m ps ↔ p ∈ ps ∧ bit m p.j = false := by
 induction ps with
 | nil => simp [restOf]
 | cons q ps ih =>
   have h1 : restOf m (q :: ps) = ite' (bit m q.j) (restOf m ps) (q :: restOf m ps) := rfl
   rw [h1, zaB]
   by_cases hb : bit m q.j = true
   ·rw [if_pos hb, ih, List.mem_cons]
    constructor
    ·rintro ⟨h2, h3⟩; exact ⟨.inr h2, h3⟩
    ·rintro ⟨rfl | h2, h3⟩
     ·rw [hb] at h3; cases h3
     ·exact ⟨h2, h3⟩
   ·rw [if_neg hb, List.mem_cons, ih, List.mem_cons]
    constructor
    ·rintro (rfl | ⟨h2, h3⟩)
     ·exact ⟨.inl rfl, by simpa using hb⟩
     ·exact ⟨.inr h2, h3⟩
    ·rintro ⟨rfl | h2, h3⟩
     ·exact .inl rfl
     ·exact .inr ⟨h2, h3⟩
theorem zeL (m : Nat) (h : AH) : ∀ (ps : List Pend) (b : Nat), (∃ p ∈ ps, bit m p.j = true ∧ p.b = b ∧ (zbw m ps h).get b = some p.e) ∨ ((∀ p ∈ ps, bit m p.j = true → p.b ≠ b) ∧ (zbw m ps h).get b = h.get b)
 | [], b => .inr ⟨fun p hp => (by cases hp), rfl⟩
 | q :: ps, b => by
   have h1 : zbw m (q :: ps) h = ite' (bit m q.j) ((zbw m ps h).set q.b q.e) (zbw m ps h) := rfl
   rw [h1, zaB]
   by_cases hb : bit m q.j = true
   ·rw [if_pos hb, AH.get_set]
    by_cases hqb : q.b = b
    ·exact .inl ⟨q, List.mem_cons_self, hb, hqb, if_pos hqb.symm⟩
    ·rw [if_neg (fun hx => hqb hx.symm)]
     rcases zeL m h ps b with ⟨p, hp, q1, q2, q3⟩ | ⟨q1, q2⟩
     ·exact .inl ⟨p, List.mem_cons_of_mem _ hp, q1, q2, q3⟩
     ·refine .inr ⟨fun p hp hpb => ?_, q2⟩
      rcases List.mem_cons.1 hp with rfl | hp
      ·exact hqb
      ·exact q1 p hp hpb
   ·rw [if_neg hb]
    rcases zeL m h ps b with ⟨p, hp, q1, q2, q3⟩ | ⟨q1, q2⟩
    ·exact .inl ⟨p, List.mem_cons_of_mem _ hp, q1, q2, q3⟩
    ·refine .inr ⟨fun p hp hpb => ?_, q2⟩
     rcases List.mem_cons.1 hp with rfl | hp
     ·exact absurd hpb hb
     ·exact q1 p hp hpb
theorem laySome_rest (m : Nat) (h : AH) (ps : List Pend) : (zbw m ps h).next = h.next ∧ (zbw m ps h).fm = h.fm := by
 induction ps with
 | nil => exact ⟨rfl, rfl⟩
 | cons q ps ih =>
   have h1 : zbw m (q :: ps) h = ite' (bit m q.j) ((zbw m ps h).set q.b q.e) (zbw m ps h) := rfl
   rw [h1, zaB]
   split
   ·exact ih
   ·exact ih
theorem layAll_get (h : AH) : ∀ (ps : List Pend) (b : Nat), (∃ p ∈ ps, p.b = b ∧ (zc8 ps h).get b = some p.e) ∨ ((∀ p ∈ ps, p.b ≠ b) ∧ (zc8 ps h).get b = h.get b)
 | [], b => .inr ⟨fun p hp => (by cases hp), rfl⟩
 | q :: ps, b => by
   have h1 : zc8 (q :: ps) h = (zc8 ps h).set q.b q.e := rfl
   rw [h1, AH.get_set]
   by_cases hqb : q.b = b
   ·exact .inl ⟨q, List.mem_cons_self, hqb, if_pos hqb.symm⟩
   ·rw [if_neg (fun hx => hqb hx.symm)]
    rcases layAll_get h ps b with ⟨p, hp, q2, q3⟩ | ⟨q1, q2⟩
    ·exact .inl ⟨p, List.mem_cons_of_mem _ hp, q2, q3⟩
    ·refine .inr ⟨fun p hp => ?_, q2⟩
     rcases List.mem_cons.1 hp with rfl | hp
     ·exact hqb
     ·exact q1 p hp
theorem layAll_rest (h : AH) (ps : List Pend) : (zc8 ps h).next = h.next ∧ (zc8 ps h).fm = h.fm := by
 induction ps with
 | nil => exact ⟨rfl, rfl⟩
 | cons q ps ih => exact ih
section
variable {s : Nat → DS} (hr : RunS P I self pl all base s) (hl : pl.ms.length = all.length)
include hr hl
theorem RunS.ps (h0 : (s 0).ps = []) (hlt : ∀ (j m : Nat), pl.ms[j]? = some m → ∀ i, bit m i = true → i < j) {k : Nat} (hk : k ≤ all.length) :
  (∀ p ∈ (s k).ps, p.j < k ∧ p.b = base + p.j ∧ Mk P all s p.j p.e ∧ ¬ Laid P all pl.ms s k p.j) ∧ ∀ j en, j < k → Mk P all s j en → ¬ Laid P all pl.ms s k j → ∃ p ∈ (s k).ps, p.j = j ∧ p.e = en := by
 induction k with
 | zero => rw [h0]; exact ⟨fun p hp => (by cases hp), fun j en hj => (by omega)⟩
 | succ k ih =>
   obtain ⟨h1, h2⟩ := ih (by omega)
   have ho := List.getElem?_eq_getElem (show k < all.length by omega)
   obtain ⟨m, hm, hst⟩ := hr.at_ hl ho
   obtain ⟨_, V, hp, _, hS⟩ := zaA hst
   have same : (zan P all[k].op = true ∨ zau all (s k).fr all[k].guard = some false) → ∀ j, Laid P all pl.ms s (k + 1) j ↔ Laid P all pl.ms s k j := fun hq j => by
    constructor
    ·rintro ⟨i, m', o', hi, ho', hm', hq', hw', hb⟩
     by_cases hik : i = k
     ·subst hik
      rw [ho] at ho'; cases ho'
      rcases hq with hq | hq
      ·rw [hq] at hq'; cases hq'
      ·rw [hq] at hw'; cases hw'
     ·exact ⟨i, m', o', by omega, ho', hm', hq', hw', hb⟩
    ·rintro ⟨i, m', o', hi, rest⟩
     exact ⟨i, m', o', by omega, rest⟩
   have old : (s (k + 1)).ps = (s k).ps → (∀ en, ¬ Mk P all s k en) → (zan P all[k].op = true ∨ zau all (s k).fr all[k].guard = some false) →
     (∀ p ∈ (s (k + 1)).ps, p.j < k + 1 ∧ p.b = base + p.j ∧ Mk P all s p.j p.e ∧ ¬ Laid P all pl.ms s (k + 1) p.j) ∧ ∀ j en, j < k + 1 → Mk P all s j en → ¬ Laid P all pl.ms s (k + 1) j → ∃ p ∈ (s (k + 1)).ps, p.j = j ∧ p.e = en := fun hps hno hq => by
    rw [hps]
    refine ⟨fun p hp => ?_, fun j en hj hmk hnl => ?_⟩
    ·obtain ⟨q1, q2, q3, q4⟩ := h1 p hp
     exact ⟨by omega, q2, q3, fun hx => q4 ((same hq _).1 hx)⟩
    ·by_cases hjk : j = k
     ·subst hjk; exact absurd hmk (hno en)
     ·exact h2 j en (by omega) hmk fun hx => hnl ((same hq _).2 hx)
   cases hS with
   | off hw hV hh hps hhs =>
     refine old hps (fun en ⟨o', vs', f', b1, b2, b3, _⟩ => ?_) (.inr hw)
     rw [ho] at b1; cases b1
     rw [hw] at b3; cases b3
   | quiet hw vs hvs hq hm' hV hh hhs hps =>
     refine old hps (fun en ⟨o', vs', f', b1, b2, b3, _⟩ => ?_) (.inl hq)
     rw [ho] at b1; cases b1
     rw [hm'] at b2; cases b2
   | dfr hw vs hvs hd d hdf hV hds hh hhs hps =>
     refine old hps (fun en ⟨o', vs', f', b1, b2, b3, _⟩ => ?_) (.inl (zaT hd))
     rw [ho] at b1; cases b1
     rw [zcN hd] at b2; cases b2
   | made hw vs en f hvs hm' hmk hV hh hhs hps =>
     have hq := zbo (P := P) hm'
     have hmkk : Mk P all s k en := ⟨all[k], vs, f, ho, hm', hw, hvs, hmk⟩
     rw [hps]
     refine ⟨fun p hp => ?_, fun j en' hj hmk' hnl => ?_⟩
     ·rcases List.mem_cons.1 hp with rfl | hp
      ·refine ⟨Nat.lt_succ_self _, rfl, hmkk, fun ⟨i, m', o', hi, ho', hm2, hq', hw', hb⟩ => ?_⟩
       have := hlt i m' hm2 k hb
       omega
      ·obtain ⟨q1, q2, q3, q4⟩ := h1 p hp
       exact ⟨by omega, q2, q3, fun hx => q4 ((same (.inl hq) _).1 hx)⟩
     ·by_cases hjk : j = k
      ·subst hjk
       exact ⟨_, List.mem_cons_self, rfl, hmkk.inj hmk'⟩
      ·obtain ⟨p, hp, q⟩ := h2 j en' (by omega) hmk' fun hx => hnl ((same (.inl hq) _).2 hx)
       exact ⟨p, List.mem_cons_of_mem _ hp, q⟩
   | loud hw vs hvs hq hr' hhs hps =>
     have hnk : ∀ en, ¬ Mk P all s k en := fun en ⟨o', vs', f', b1, b2, b3, _⟩ => by
      rw [ho] at b1; cases b1
      have := zbo (P := P) b2
      rw [hq] at this; cases this
     have hLk : ∀ j, Laid P all pl.ms s (k + 1) j ↔ Laid P all pl.ms s k j ∨ bit m j = true := fun j => by
      constructor
      ·rintro ⟨i, m', o', hi, ho', hm', hq', hw', hb⟩
       by_cases hik : i = k
       ·subst hik
        rw [hm] at hm'; cases hm'
        exact .inr hb
       ·exact .inl ⟨i, m', o', by omega, ho', hm', hq', hw', hb⟩
      ·rintro (⟨i, m', o', hi, rest⟩ | hb)
       ·exact ⟨i, m', o', by omega, rest⟩
       ·exact ⟨k, m, all[k], Nat.lt_succ_self _, ho, hm, hq, hw, hb⟩
     rw [hps]
     refine ⟨fun p hp => ?_, fun j en hj hmk hnl => ?_⟩
     ·rw [restOf_mem] at hp
      obtain ⟨q1, q2, q3, q4⟩ := h1 p hp.1
      refine ⟨by omega, q2, q3, fun hx => ?_⟩
      rcases (hLk _).1 hx with hx | hx
      ·exact q4 hx
      ·rw [hp.2] at hx; cases hx
     ·by_cases hjk : j = k
      ·subst hjk; exact absurd hmk (hnk en)
      ·obtain ⟨p, hp, q1, q2⟩ := h2 j en (by omega) hmk fun hx => hnl ((hLk _).2 (.inl hx))
       refine ⟨p, restOf_mem.2 ⟨hp, ?_⟩, q1, q2⟩
       cases hb : bit m p.j with
       | false => rfl
       | true => rw [q1] at hb; exact absurd ((hLk _).2 (.inr hb)) hnl
omit hr hl
end
end
end
end Go.Xe
end
section
namespace Go.Xe
noncomputable section
def Tk (n : Nat) (listed : Array Bool) (i : Nat) : Prop := i < n ∧ listed.getD i true = true
theorem Tk.set {n j : Nat} {listed : Array Bool} (hs : listed.size = n) (hj : j < n) (i : Nat) : Tk n (listed.setIfInBounds j true) i ↔ Tk n listed i ∨ i = j := by
 unfold Tk
 by_cases hij : i = j
 ·subst hij
  simp [Array.getD_eq_getD_getElem?, hs, hj]
 ·rw [Array.getD_eq_getD_getElem?, Array.getElem?_setIfInBounds_ne (fun h => hij h.symm), ← Array.getD_eq_getD_getElem?]
  constructor
  ·exact fun h => .inl h
  ·rintro (h | h)
   ·exact h
   ·exact absurd h hij
section
variable {P : Program} {I : zaR} {self : Option Nat → Code → Fr → AH → R} {pl : Plan} {all : List Oper} {base : Nat} {s : Nat → DS}
structure DrawOk (P : Program) (I : zaR) (slf : Option Nat → Code → Fr → AH → R) (pl : Plan) (all : List Oper) (base : Nat) (s : Nat → DS) : Prop where
 run : RunS P I slf pl all base s
 mok : MaskOk all pl.ms
 hops : OpsOk P all pl.ms
 h0s : (s 0).hs = [(s 0).h]
 h0p : (s 0).ps = []
 one : ∀ (i j : Nat) (oi oj : Oper), all[i]? = some oi → all[j]? = some oj → zaw oi.op = true → zaw oj.op = true → i = j
 stay : allStay P all pl.ms (s all.length).fr (s all.length).hs all 0 pl.ms = true
theorem DrawOk.mask {D : DrawOk P I self pl all base s} {j : Nat} {o : Oper} (ho : all[j]? = some o) : ∃ m, pl.ms[j]? = some m := by
 have hk : j < pl.ms.length := by rw [D.mok.len]; exact (List.getElem?_eq_some_iff.1 ho).1
 exact ⟨_, List.getElem?_eq_getElem hk⟩
def Dc (all : List Oper) (ms : List Nat) (S : Nat → Prop) : Prop := ∀ (j m : Nat), S j → ms[j]? = some m → ∀ i, bit m i = true → S i
theorem ready_anc (D : DrawOk P I self pl all base s) {ops : Array Oper} (hall : ops.toList = all) {listed : Array Bool} {md : Region.Mode} {j m : Nat} {o : Oper} (hs : listed.size = all.length) (hj : j ∈ Region.ready md ops listed) (ho : all[j]? = some o) (hm : pl.ms[j]? = some m)
  (hdc : Dc all pl.ms (Tk all.length listed)) : ¬ Tk all.length listed j ∧ ∀ i, bit m i = true → Tk all.length listed i := by
 obtain ⟨hun, oj, hoj, hafter⟩ := mem_ready.1 hj
 have hoj' : all[j]? = some oj := by rw [← hall, Array.getElem?_toList]; exact hoj
 rw [ho] at hoj'; cases hoj'
 refine ⟨fun h => (by have h2 := h.2; rw [hun] at h2; cases h2), fun i hi => ?_⟩
 obtain ⟨e, he, ha, q⟩ := D.mok.up j m o ho hm i hi
 have hon := hafter e (Array.mem_toList_iff.1 he) (always_binds ha)
 have hlt : e.on < listed.size := by
  rcases Nat.lt_or_ge e.on listed.size with h | h
  ·exact h
  ·rw [Array.getD_eq_getD_getElem?, Array.getElem?_eq_none h] at hon; cases hon
 have hT : Tk all.length listed e.on := by
  refine ⟨by rw [← hs]; exact hlt, ?_⟩
  rw [Array.getD_eq_getD_getElem?, Array.getElem?_eq_getElem hlt] at hon ⊢
  exact hon
 rcases q with rfl | ⟨m', hm', hb⟩
 ·exact hT
 ·exact hdc e.on m' hT hm' i hb
def vw (all : List Oper) (s : Nat → DS) (S : Nat → Prop) (t : Nat) : AV := by
 classical exact if ∃ (i : Nat) (o : Oper), S i ∧ all[i]? = some o ∧ o.dst = some t then atT (s all.length).fr.t t else atT (s 0).fr.t t
theorem vw_in {S : Nat → Prop} {t i : Nat} {o : Oper} (hS : S i) (ho : all[i]? = some o) (hd : o.dst = some t) : vw all s S t = atT (s all.length).fr.t t := by
 unfold vw
 exact if_pos ⟨i, o, hS, ho, hd⟩
theorem vw_out {S : Nat → Prop} {t : Nat} (h : ∀ (i : Nat) (o : Oper), S i → all[i]? = some o → o.dst ≠ some t) : vw all s S t = atT (s 0).fr.t t := by
 unfold vw
 exact if_neg fun ⟨i, o, a, b, c⟩ => h i o a b c
theorem vw_congr {S S' : Nat → Prop} {t : Nat} (h : ∀ (i : Nat) (o : Oper), all[i]? = some o → o.dst = some t → (S i ↔ S' i)) : vw all s S t = vw all s S' t := by
 by_cases hx : ∃ (i : Nat) (o : Oper), S i ∧ all[i]? = some o ∧ o.dst = some t
 ·obtain ⟨i, o, a, b, c⟩ := hx
  rw [vw_in a b c, vw_in ((h i o b c).1 a) b c]
 ·rw [vw_out fun i o a b c => hx ⟨i, o, a, b, c⟩, vw_out fun i o a b c => hx ⟨i, o, (h i o b c).2 a, b, c⟩]
def dsW (all : List Oper) (s : Nat → DS) (S : Nat → Prop) : List ADef := by
 classical exact if ∃ (i : Nat) (o : Oper), S i ∧ all[i]? = some o ∧ zaw o.op = true then (s all.length).fr.ds else (s 0).fr.ds
theorem dsW_in {S : Nat → Prop} {i : Nat} {o : Oper} (hS : S i) (ho : all[i]? = some o) (hd : zaw o.op = true) : dsW all s S = (s all.length).fr.ds := by
 unfold dsW
 exact if_pos ⟨i, o, hS, ho, hd⟩
theorem dsW_out {S : Nat → Prop} (h : ∀ (i : Nat) (o : Oper), S i → all[i]? = some o → zaw o.op ≠ true) : dsW all s S = (s 0).fr.ds := by
 unfold dsW
 exact if_neg fun ⟨i, o, a, b, c⟩ => h i o a b c
theorem dsW_put (D : DrawOk P I self pl all base s) {S : Nat → Prop} {j : Nat} {o : Oper} (ho : all[j]? = some o) (hds : zaw o.op = true → zau all (s j).fr o.guard ≠ some true) : dsW all s (fun i => S i ∨ i = j) = dsW all s S := by
 by_cases hx : ∃ (i : Nat) (o : Oper), S i ∧ all[i]? = some o ∧ zaw o.op = true
 ·obtain ⟨i, oi, a, b, c⟩ := hx
  rw [dsW_in a b c, dsW_in (S := fun i => S i ∨ i = j) (.inl a) b c]
 ·rw [dsW_out (S := S) fun i oi a b c => hx ⟨i, oi, a, b, c⟩]
  by_cases hd : zaw o.op = true
  ·rw [dsW_in (S := fun i => S i ∨ i = j) (.inr rfl) ho hd]
   refine D.run.dsKeep D.mok.len (Nat.zero_le _) (Nat.le_refl _) fun i oi _ _ h1 h2 => ?_
   have := D.one i j oi o h1 ho h2 hd
   subst this
   rw [ho] at h1; cases h1
   exact hds hd
  ·refine dsW_out fun i oi a b c => ?_
   rcases a with a | rfl
   ·exact hx ⟨i, oi, a, b, c⟩
   ·rw [ho] at b; cases b; exact hd c
structure FrS (e : Env) (all : List Oper) (s : Nat → DS) (S : Nat → Prop) (a : Act) : Prop where
 size : a.tmps.size = (s 0).fr.nt
 at_ : ∀ t, VR e (vw all s S t) (a.tmps.getD t undef)
 ds : DRs e (dsW all s S) a.defers
theorem FrS.mono {e e' : Env} (he : e.le e') {S : Nat → Prop} {a : Act} (h : FrS e all s S a) : FrS e' all s S a := ⟨h.size, fun t => (h.at_ t).mono he, h.ds.mono he⟩
theorem zgo (D : DrawOk P I self pl all base s) {S : Nat → Prop} {j m t : Nat} {o : Oper} (ho : all[j]? = some o) (hm : pl.ms[j]? = some m) (hnj : ¬ S j) (hanc : ∀ i, bit m i = true → S i) (hdc : Dc all pl.ms S) (ht : Operand.tmp t ∈ zbb o.op) :
  vw all s S t = atT (s j).fr.t t := by
 have hj : j < all.length := (List.getElem?_eq_some_iff.1 ho).1
 by_cases hx : ∃ (i : Nat) (oi : Oper), all[i]? = some oi ∧ oi.dst = some t
 ·obtain ⟨i, oi, hi, hd⟩ := hx
  obtain ⟨mi, hmi⟩ := D.mask hi
  have huni : ∀ (i' : Nat) (o' : Oper), all[i']? = some o' → o'.dst = some t → i' = i := fun i' o' h1 h2 => dst_alone D.hops D.mok.len h1 hi h2 hd
  by_cases hSi : S i
  ·rw [vw_in hSi hi hd]
   have hij : i < j := by
    rcases (D.hops j m o ho hm).tmps t ht i mi oi hi hmi hd with ⟨rfl, _⟩ | hb | ⟨_, hb⟩
    ·exact absurd hSi hnj
    ·exact D.mok.lt j m hm i hb
    ·exact absurd (hdc i mi hSi hmi j hb) hnj
   exact (D.run.done D.mok.len D.hops hi hd hij (Nat.le_of_lt hj)).symm
  ·rw [vw_out fun i' o' h1 h2 h3 => hSi (huni i' o' h2 h3 ▸ h1)]
   refine (D.run.undone D.mok.len D.hops (Nat.le_of_lt hj) fun i' o' h1 h2 h3 => ?_).symm
   have := huni i' o' h2 h3
   subst this
   rcases (D.hops j m o ho hm).tmps t ht i' mi oi hi hmi hd with ⟨rfl, _⟩ | hb | ⟨_, hb⟩
   ·omega
   ·exact hSi (hanc i' hb)
   ·have := D.mok.lt i' mi hmi j hb; omega
 ·rw [vw_out fun i o _ h2 h3 => hx ⟨i, o, h2, h3⟩]
  exact (D.run.undone D.mok.len D.hops (Nat.le_of_lt hj) fun i o _ h2 h3 => hx ⟨i, o, h2, h3⟩).symm
theorem slot_end (D : DrawOk P I self pl all base s) {S : Nat → Prop} {j m t : Nat} {o : Oper} (ho : all[j]? = some o) (hm : pl.ms[j]? = some m) (hanc : ∀ i, bit m i = true → S i) (hrd : zbC o.op = true) (ht : Operand.tmp t ∈ zbb o.op) :
  vw all s S t = atT (s all.length).fr.t t := by
 by_cases hx : ∃ (i : Nat) (oi : Oper), all[i]? = some oi ∧ oi.dst = some t
 ·obtain ⟨i, oi, hi, hd⟩ := hx
  obtain ⟨mi, hmi⟩ := D.mask hi
  rcases (D.hops j m o ho hm).tmps t ht i mi oi hi hmi hd with ⟨_, hf⟩ | hb | ⟨hf, _⟩
  ·rw [hrd] at hf; cases hf
  ·exact vw_in (hanc i hb) hi hd
  ·rw [hrd] at hf; cases hf
 ·rw [vw_out fun i o _ h2 h3 => hx ⟨i, o, h2, h3⟩]
  exact (D.run.undone D.mok.len D.hops (Nat.le_refl _) fun i o _ h2 h3 => hx ⟨i, o, h2, h3⟩).symm
theorem zcx {e : Env} {fr : Fr} {a : Act} : ∀ {xs : List Operand} {vs : List AV}, mapO (fun x => ev x fr) xs = some vs → (∀ t, Operand.tmp t ∈ xs → VR e (atT fr.t t) (a.tmps.getD t undef)) → VRs e vs (xs.map a.eval)
 | [], vs, h, _ => by cases h; exact .nil
 | x :: xs, vs, h, hs => by
   have h' : bnd (ev x fr) (fun y => bnd (mapO (fun x => ev x fr) xs) fun ys => some (y :: ys)) = some vs := h
   rw [zab] at h'
   obtain ⟨y, hy, h'⟩ := h'
   rw [zab] at h'
   obtain ⟨ys, hys, h'⟩ := h'
   cases h'
   refine .cons _ _ _ _ ?_ (zcx hys fun t ht => hs t (List.mem_cons_of_mem _ ht))
   cases x with
   | tmp t =>
     have hy' : some (fr.at_ t) = some y := hy
     cases hy'
     rw [at_eq]; exact hs t List.mem_cons_self
   | const c => exact zdl hy
   | global g => cases hy; exact .gptr g
   | func f => cases hy; exact .func _ _ _ _ _ _ (.same _ rfl) .nil .nil
theorem wanted_slot {e : Env} {ops : Array Oper} {fr : Fr} {a : Act} {o : Oper} {wb : Bool} (h : zau ops.toList fr o.guard = some wb)
  (hs : ∀ g oj d, o.guard = some g → ops.toList[g.1]? = some oj → oj.dst = some d → VR e (atT fr.t d) (a.tmps.getD d undef)) : Region.wanted o (yielded ops a.tmps) = wb := by
 unfold Region.wanted
 cases hg : o.guard with
 | none =>
   rw [hg] at h
   have h' : some true = some wb := h
   cases h'; rfl
 | some g =>
   obtain ⟨j, want⟩ := g
   rw [hg] at h
   have h' : bnd (nth ops.toList j) (fun oj => bnd oj.dst fun d => match fr.at_ d with
    | .bool b => some (ite' b want (ite' want false true))
    | .sval _ => none
    | _ => some false) = some wb := h
   rw [zab] at h'
   obtain ⟨oj, hj, h'⟩ := h'
   rw [zab] at h'
   obtain ⟨d, hd, h'⟩ := h'
   rw [za3] at hj
   have hv := hs (j, want) oj d hg hj hd
   rw [Array.getElem?_toList] at hj
   have hy : yielded ops a.tmps j = match a.tmps[d]? with | some (.bool b) => some b | _ => none := by
    unfold yielded
    rw [hj]
    simp only [Option.bind_some, hd]
    rfl
   simp only [hy]
   rw [at_eq] at h'
   generalize hx : atT fr.t d = x at h' hv
   have hget : ∀ v, a.tmps[d]? = some v → a.tmps.getD d undef = v := fun v hv => by
    simp [Array.getD_eq_getD_getElem?, hv]
   have hother : (∀ b, x ≠ .bool b) → (∀ i, x ≠ .sval i) → (match a.tmps[d]? with | some (.bool b) => some b | _ => none) = none := fun h1 h2 => by
    cases hq : a.tmps[d]? with
    | none => rfl
    | some v =>
      rw [hget v hq] at hv
      cases v <;> first | rfl | skip
      rename_i b
      cases hv with
      | bool => exact absurd rfl (h1 b)
      | sval i => exact absurd rfl (h2 i)
   cases x with
   | bool b =>
     have h2 : some (ite' b want (ite' want false true)) = some wb := h'
     cases h2
     have hb := vr_bool hv
     have hq : a.tmps[d]? = some (.bool b) := by
      cases hq : a.tmps[d]? with
      | none =>
        have : a.tmps.getD d undef = undef := by simp [Array.getD_eq_getD_getElem?, hq]
        rw [this] at hb; cases hb
      | some v => rw [hget v hq] at hb; rw [hb]
     rw [hq]
     cases b <;> cases want <;> rfl
   | sval i => cases h'
   | _ =>
     have h2 : some false = some wb := h'
     cases h2
     rw [hother (fun _ h => by cases h) (fun _ h => by cases h)]
     rfl
theorem zdc (D : DrawOk P I self pl all base s) {e : Env} {ops : Array Oper} (hall : ops.toList = all) {S : Nat → Prop} {j m : Nat} {o : Oper} {a : Act} {wb : Bool} (ho : all[j]? = some o) (hm : pl.ms[j]? = some m) (hanc : ∀ i, bit m i = true → S i) (hF : FrS e all s S a)
  (h : zau all (s j).fr o.guard = some wb) : Region.wanted o (yielded ops a.tmps) = wb := by
 have hj : j < all.length := (List.getElem?_eq_some_iff.1 ho).1
 rw [← hall] at h
 refine wanted_slot (e := e) h fun g oj d hg hoj hd => ?_
 rw [hall] at hoj
 obtain ⟨hb, _⟩ := (D.hops j m o ho hm).guard g hg
 have h1 := hF.at_ d
 rw [vw_in (hanc _ hb) hoj hd, ← D.run.done D.mok.len D.hops hoj hd (D.mok.lt j m hm _ hb) (Nat.le_of_lt hj)] at h1
 exact h1
theorem FrS.putT (D : DrawOk P I self pl all base s) {e : Env} {S : Nat → Prop} {j : Nat} {o : Oper} {a : Act} {V : AV} {u : Value} (hF : FrS e all s S a) (ho : all[j]? = some o) (hp : PutF (s j).fr o.dst V (s (j + 1)).fr) (hu : VR e V u) :
  (a.put o.dst u).tmps.size = (s 0).fr.nt ∧ ∀ t, VR e (vw all s (fun i => S i ∨ i = j) t) ((a.put o.dst u).tmps.getD t undef) := by
 have hj : j < all.length := (List.getElem?_eq_some_iff.1 ho).1
 cases hd : o.dst with
 | none =>
   refine ⟨hF.size, fun t => ?_⟩
   have : vw all s (fun i => S i ∨ i = j) t = vw all s S t := vw_congr fun i oi hi hdi => by
    constructor
    ·rintro (h | rfl)
     ·exact h
     ·rw [ho] at hi; cases hi
      rw [hd] at hdi; cases hdi
    ·exact .inl
   rw [this]; exact hF.at_ t
 | some d =>
   have hV := D.run.put D.mok.len D.hops ho hp hd
   have hlt : d < a.tmps.size := by
    rw [hF.size, ← D.run.same D.mok.len (Nat.le_of_lt hj)]
    rw [hd] at hp
    have hp' : grd (Nat.blt d (s j).fr.nt) (some (⟨Tr.put (some V) (Nat.succ d) (s j).fr.t d, (s j).fr.nt, (s j).fr.ds⟩ : Fr)) = some ⟨(s (j + 1)).fr.t, (s (j + 1)).fr.nt, (s j).fr.ds⟩ := hp
    rw [zaf, zat] at hp'
    exact hp'.1
   refine ⟨?_, fun t => ?_⟩
   ·show (a.tmps.setIfInBounds d u).size = _
    rw [Array.size_setIfInBounds]; exact hF.size
   ·show VR e _ ((a.tmps.setIfInBounds d u).getD t undef)
    by_cases htd : t = d
    ·subst htd
     rw [vw_in (.inr rfl) ho hd, hV]
     have : (a.tmps.setIfInBounds t u).getD t undef = u := by simp [Array.getD, hlt]
     rw [this]; exact hu
    ·have h1 : vw all s (fun i => S i ∨ i = j) t = vw all s S t := vw_congr fun i oi hi hdi => by
      constructor
      ·rintro (h | rfl)
       ·exact h
       ·rw [ho] at hi; cases hi
        rw [hd] at hdi; cases hdi; exact absurd rfl htd
      ·exact .inl
     have h2 : (a.tmps.setIfInBounds d u).getD t undef = a.tmps.getD t undef := by
      simp only [Array.getD_eq_getD_getElem?]
      rw [Array.getElem?_setIfInBounds_ne (fun h => htd h.symm)]
     rw [h1, h2]; exact hF.at_ t
theorem FrS.put (D : DrawOk P I self pl all base s) {e : Env} {S : Nat → Prop} {j : Nat} {o : Oper} {a : Act} {V : AV} {u : Value} (hF : FrS e all s S a) (ho : all[j]? = some o) (hp : PutF (s j).fr o.dst V (s (j + 1)).fr)
  (hds : zaw o.op = true → zau all (s j).fr o.guard ≠ some true) (hu : VR e V u) : FrS e all s (fun i => S i ∨ i = j) (a.put o.dst u) := by
 obtain ⟨h1, h2⟩ := hF.putT D ho hp hu
 refine ⟨h1, h2, ?_⟩
 rw [dsW_put D ho hds]
 have : (a.put o.dst u).defers = a.defers := by cases o.dst <;> rfl
 rw [this]; exact hF.ds
theorem FrS.putD (D : DrawOk P I self pl all base s) {e : Env} {S : Nat → Prop} {j : Nat} {o : Oper} {a : Act} {d : ADef} {d' : Deferred} (hF : FrS e all s S a) (ho : all[j]? = some o) (hp : PutF (s j).fr o.dst zaK (s (j + 1)).fr) (hd : zaw o.op = true) (hnj : ¬ S j)
  (hds : (s (j + 1)).fr.ds = d :: (s j).fr.ds) (hdr : DR e d d') : FrS e all s (fun i => S i ∨ i = j) (({ a with defers := d' :: a.defers } : Act).put o.dst undef) := by
 have hj : j < all.length := (List.getElem?_eq_some_iff.1 ho).1
 obtain ⟨h1, h2⟩ := hF.putT D ho hp (zcq e)
 have ht : (({ a with defers := d' :: a.defers } : Act).put o.dst undef).tmps = (a.put o.dst undef).tmps := by cases o.dst <;> rfl
 refine ⟨by rw [ht]; exact h1, fun t => by rw [ht]; exact h2 t, ?_⟩
 have hq : (({ a with defers := d' :: a.defers } : Act).put o.dst undef).defers = d' :: a.defers := by cases o.dst <;> rfl
 rw [hq, dsW_in (S := fun i => S i ∨ i = j) (.inr rfl) ho hd]
 have e1 : (s all.length).fr.ds = (s (j + 1)).fr.ds := D.run.dsKeep D.mok.len hj (Nat.le_refl _) fun i oi hi _ hoi hdi => by
  have := D.one i j oi o hoi ho hdi hd
  omega
 have e2 : (s j).fr.ds = (s 0).fr.ds := D.run.dsKeep D.mok.len (Nat.zero_le _) (Nat.le_of_lt hj) fun i oi _ hi hoi hdi => by
  have := D.one i j oi o hoi ho hdi hd
  omega
 have e3 : dsW all s S = (s 0).fr.ds := dsW_out fun i oi hi hoi hdi => by
  have := D.one i j oi o hoi ho hdi hd
  exact hnj (this ▸ hi)
 have hfd := hF.ds
 rw [e3] at hfd
 rw [e1, hds, e2]
 exact .cons _ _ _ _ hdr hfd
end
end
end Go.Xe
end
section
namespace Go.Xe
noncomputable section
section
variable {P : Program} {I : zaR} {self : Option Nat → Code → Fr → AH → R} {pl : Plan} {all : List Oper} {base : Nat} {s : Nat → DS}
def Heq (g h : AH) : Prop := (∀ b, g.get b = h.get b) ∧ g.next = h.next ∧ g.fm = h.fm
theorem Heq.refl (g : AH) : Heq g g := ⟨fun _ => rfl, rfl, rfl⟩
theorem Heq.symm {g h : AH} (x : Heq g h) : Heq h g := ⟨fun b => (x.1 b).symm, x.2.1.symm, x.2.2.symm⟩
theorem Heq.trans {g h k : AH} (x : Heq g h) (y : Heq h k) : Heq g k := ⟨fun b => (x.1 b).trans (y.1 b), x.2.1.trans y.2.1, x.2.2.trans y.2.2⟩
def zdw (P : Program) (all : List Oper) (ms : List Nat) (s : Nat → DS) (S : Nat → Prop) (j : Nat) : Prop :=
 ∃ i m o, S i ∧ all[i]? = some o ∧ ms[i]? = some m ∧ zan P o.op = false ∧ zau all (s i).fr o.guard = some true ∧ bit m j = true
structure StageOk (P : Program) (I : zaR) (slf : Option Nat → Code → Fr → AH → R) (pl : Plan) (all : List Oper) (base : Nat) (s : Nat → DS) (Stg : (Nat → Prop) → AH → Prop) : Prop where
 init : Stg (fun _ => False) (s 0).h
 ext : ∀ (S S' : Nat → Prop) (G : AH), (∀ i, Lp P all i = true → (S i ↔ S' i)) → Stg S G → Stg S' G
 off : ∀ (S : Nat → Prop) (j m : Nat) (o : Oper) (G : AH), Dc all pl.ms S → all[j]? = some o → pl.ms[j]? = some m → zan P o.op = false → ¬ S j → (∀ i, bit m i = true → S i) → zau all (s j).fr o.guard = some false → Stg S G → Stg (fun i => S i ∨ i = j) G
 loud : ∀ (S : Nat → Prop) (j m : Nat) (o : Oper) (G : AH), Dc all pl.ms S → all[j]? = some o → pl.ms[j]? = some m → zan P o.op = false → ¬ S j → (∀ i, bit m i = true → S i) → zau all (s j).fr o.guard = some true → Stg S G →
  ∃ hin hout vs V, mapO (fun x => ev x (s j).fr) (zbb o.op) = some vs ∧ (s j).fr.put o.dst V = some (s (j + 1)).fr ∧ opR P I slf o vs hin = some (V, hout) ∧ hin.next = G.next ∧ hin.fm = G.fm ∧
    (∀ b en, hin.get b = some en → (∃ i, b = base + i ∧ Mk P all s i en ∧ bit m i = true ∧ ¬ zdw P all pl.ms s S i) ∨ G.get b = some en) ∧ Stg (fun i => S i ∨ i = j) hout
 read : ∀ (S : Nat → Prop) (j m : Nat) (o : Oper) (G : AH), Dc all pl.ms S → all[j]? = some o → pl.ms[j]? = some m → zan P o.op = true → zbD o.op = false → zbC o.op = true → ¬ S j → (∀ i, bit m i = true → S i) → zau all (s j).fr o.guard = some true → Stg S G →
  ∃ G' vs V, Heq G' G ∧ mapO (fun x => ev x (s all.length).fr) (zbb o.op) = some vs ∧ valO (opV P o.op vs G') = some V ∧ (s j).fr.put o.dst V = some (s (j + 1)).fr
 fin : ∀ (S : Nat → Prop) (G : AH), (∀ i, i < all.length → S i) → Stg S G → Heq G (s all.length).h
structure Inv (P : Program) (pl : Plan) (all : List Oper) (base : Nat) (s : Nat → DS) (Stg : (Nat → Prop) → AH → Prop) (e0 : Env) (h00 : AH) (w0 : World) (S : Nat → Prop) (a : Act) (w : World) (e : Env) (h G : AH) : Prop where
 sat : Sat e h w.heap
 st : Step e0 h00 w0 e h w
 fr : FrS e all s S a
 dc : Dc all pl.ms S
 stg : Stg S G
 hn : h.next = G.next
 hm : h.fm = G.fm
 get1 : ∀ i en, Mk P all s i en → S i → ¬ zdw P all pl.ms s S i → h.get (base + i) = some en
 get2 : ∀ b, (∀ i en, b = base + i → Mk P all s i en → S i → zdw P all pl.ms s S i) → h.get b = G.get b
 ng : ∀ i en, Mk P all s i en → ¬ zdw P all pl.ms s S i → G.get (base + i) = none
 fresh : ∀ i en, Mk P all s i en → ¬ S i → e.loc (base + i) = none
 nx : ∀ i en, Mk P all s i en → base + i < h.next
variable {Stg : (Nat → Prop) → AH → Prop} {e0 : Env} {h00 : AH} {w0 : World}
theorem Inv.under {S : Nat → Prop} {a : Act} {w : World} {e : Env} {h G : AH} (V : Inv P pl all base s Stg e0 h00 w0 S a w e h G) {b : Nat} {en : Ent} (hb : G.get b = some en) : h.get b = some en := by
 by_cases hx : ∃ i en', b = base + i ∧ Mk P all s i en' ∧ S i ∧ ¬ zdw P all pl.ms s S i
 ·obtain ⟨i, en', rfl, hmk, _, hl⟩ := hx
  rw [V.ng i en' hmk hl] at hb; cases hb
 ·rw [V.get2 b fun i en' h1 h2 h3 => Classical.byContradiction fun h4 => hx ⟨i, en', h1, h2, h3, h4⟩]
  exact hb
theorem laidS_quiet {S : Nat → Prop} {j k : Nat} {o : Oper} (ho : all[j]? = some o) (hq : zan P o.op = true ∨ zau all (s j).fr o.guard = some false) : zdw P all pl.ms s (fun i => S i ∨ i = j) k ↔ zdw P all pl.ms s S k := by
 constructor
 ·rintro ⟨i, m, o', hS, ho', hm, hq', hw', hb⟩
  rcases hS with hS | rfl
  ·exact ⟨i, m, o', hS, ho', hm, hq', hw', hb⟩
  ·rw [ho] at ho'; cases ho'
   rcases hq with hq | hq
   ·rw [hq] at hq'; cases hq'
   ·rw [hq] at hw'; cases hw'
 ·rintro ⟨i, m, o', hS, rest⟩
  exact ⟨i, m, o', .inl hS, rest⟩
theorem dc_add {S : Nat → Prop} {j m : Nat} (hdc : Dc all pl.ms S) (hm : pl.ms[j]? = some m) (hanc : ∀ i, bit m i = true → S i) : Dc all pl.ms (fun i => S i ∨ i = j) := by
 intro k m' hk hm' i hi
 rcases hk with hk | rfl
 ·exact .inl (hdc k m' hk hm' i hi)
 ·rw [hm] at hm'; cases hm'
  exact .inl (hanc i hi)
theorem Inv.valueF (D : DrawOk P I self pl all base s) (K : StageOk P I self pl all base s Stg) {S : Nat → Prop} {a : Act} {w : World} {e : Env} {h G : AH} (V : Inv P pl all base s Stg e0 h00 w0 S a w e h G) {j m : Nat} {o : Oper} {a' : Act}
  (ho : all[j]? = some o) (hm : pl.ms[j]? = some m) (hnj : ¬ S j) (hanc : ∀ i, bit m i = true → S i) (hq : zan P o.op = true ∨ zau all (s j).fr o.guard = some false) (hmk : ∀ en, ¬ Mk P all s j en)
  (hF : FrS e all s (fun i => S i ∨ i = j) a') : Inv P pl all base s Stg e0 h00 w0 (fun i => S i ∨ i = j) a' w e h G := by
 have hL : ∀ k, zdw P all pl.ms s (fun i => S i ∨ i = j) k ↔ zdw P all pl.ms s S k := fun k => laidS_quiet ho hq
 have hSj : ∀ i en, Mk P all s i en → ((S i ∨ i = j) ↔ S i) := fun i en hk => ⟨fun h => h.elim id fun hx => absurd (hx ▸ hk) (hmk en), .inl⟩
 refine ⟨V.sat, V.st, hF, dc_add V.dc hm hanc, ?_, V.hn, V.hm, fun i en h1 h2 h3 => V.get1 i en h1 ((hSj i en h1).1 h2) fun hx => h3 ((hL i).2 hx), fun b hb => V.get2 b fun i en h1 h2 h3 => (hL i).1 (hb i en h1 h2 (.inl h3)),
  fun i en h1 h2 => V.ng i en h1 fun hx => h2 ((hL i).2 hx), fun i en h1 h2 => V.fresh i en h1 fun hx => h2 (.inl hx), V.nx⟩
 by_cases hql : zan P o.op = true
 ·refine K.ext S _ G (fun i hi => ⟨.inl, fun h => h.elim id fun hx => ?_⟩) V.stg
  obtain ⟨o', ho', hq'⟩ := zeo.1 hi
  rw [hx, ho] at ho'; cases ho'
  rw [hql] at hq'; cases hq'
 ·exact K.off S j m o G V.dc ho hm (by simpa using hql) hnj hanc (hq.resolve_left hql) V.stg
theorem Inv.value (D : DrawOk P I self pl all base s) (K : StageOk P I self pl all base s Stg) {S : Nat → Prop} {a : Act} {w : World} {e : Env} {h G : AH} (V : Inv P pl all base s Stg e0 h00 w0 S a w e h G) {j m : Nat} {o : Oper} {v : AV} {u : Value}
  (ho : all[j]? = some o) (hm : pl.ms[j]? = some m) (hnj : ¬ S j) (hanc : ∀ i, bit m i = true → S i) (hq : zan P o.op = true ∨ zau all (s j).fr o.guard = some false) (hmk : ∀ en, ¬ Mk P all s j en)
  (hp : PutF (s j).fr o.dst v (s (j + 1)).fr) (hds : zaw o.op = true → zau all (s j).fr o.guard ≠ some true) (hu : VR e v u) : Inv P pl all base s Stg e0 h00 w0 (fun i => S i ∨ i = j) (a.put o.dst u) w e h G :=
 V.valueF D K ho hm hnj hanc hq hmk (V.fr.put D ho hp hds hu)
theorem quiet_wp {ρ : Option Nat} {o : Oper} {a : Act} {w : World} {e : Env} {v : AV} {next : Act → World → Prop} {Q : Exit → Act → World → Prop} (hnd : ∀ c, o.op ≠ .defer c) (r : Runs P (execOp a.eval o) w (Quiet e w v)) (hk : ∀ u, VR e v u → next (a.put o.dst u) w) :
  o.wpIn (fen ρ) 0 P a w next Q := by
 refine ⟨fun f _ => trivial, ?_⟩
 obtain ⟨n, w', hrun, u, rfl, hu, rfl⟩ := r
 rw [Oper.semAt_eq _ _ _ hnd, hrun, Oper.uponIn_value]
 exact hk u hu
theorem makes_noDefer {op : Op} (h : zbD op = true) : ∀ c, op ≠ .defer c := fun c hx => by subst hx; cases h
theorem loud_noDefer {op : Op} (h : loudOk op = true) : ∀ c, op ≠ .defer c := fun c hx => by subst hx; cases h
theorem Inv.quiet (D : DrawOk P I self pl all base s) (K : StageOk P I self pl all base s Stg) {S : Nat → Prop} {a : Act} {w : World} {e : Env} {h G : AH} (V : Inv P pl all base s Stg e0 h00 w0 S a w e h G) {j m : Nat} {o : Oper}
  (ho : all[j]? = some o) (hm : pl.ms[j]? = some m) (hnj : ¬ S j) (hanc : ∀ i, bit m i = true → S i) (hq : zan P o.op = true) (hmk : zbD o.op = false) (hnd : zaw o.op = false) (hw : zau all (s j).fr o.guard = some true)
  {ρ : Option Nat} {next : Act → World → Prop} {Q : Exit → Act → World → Prop}
  (hk : ∀ a' w' e' h' G', Inv P pl all base s Stg e0 h00 w0 (fun i => S i ∨ i = j) a' w' e' h' G' → next a' w') : o.wpIn (fen ρ) 0 P a w next Q := by
 have hnomk : ∀ en, ¬ Mk P all s j en := fun en ⟨o', vs', f', b1, b2, _⟩ => by
  rw [ho] at b1; cases b1
  rw [hmk] at b2; cases b2
 by_cases hrd : zbC o.op = true
 ·obtain ⟨G', vs, v, hG, hvs, hv, hp⟩ := K.read S j m o G V.dc ho hm hq hmk hrd hnj hanc hw V.stg
  have ha := zcx (e := e) (a := a) hvs fun t ht => by
   have := V.fr.at_ t
   rw [slot_end D ho hm hanc hrd ht] at this
   exact this
  have s' : Sat e G' w.heap := V.sat.sub (fun b en hb => V.under (by rw [← hG.1]; exact hb)) (by rw [V.hn, hG.2.1]; exact Nat.le_refl _) (by rw [V.hm, hG.2.2])
  exact quiet_wp (noDefer_of (zb0 hv)) (quiet_sound s' ha hq hmk hv) fun u hu => hk _ w e h G (V.value D K ho hm hnj hanc (.inl hq) hnomk (PutF.of hp).1 (fun hd => by rw [zb0 hv] at hd; cases hd) hu)
 ·have hrd' : zbC o.op = false := by simpa using hrd
  obtain ⟨m', hm', hst⟩ := D.run.at_ D.mok.len ho
  rw [hm] at hm'; cases hm'
  obtain ⟨_, v, hp, _, hS⟩ := zaA hst
  cases hS with
  | off hw' => rw [hw] at hw'; cases hw'
  | made _ vs en f hvs hm' => rw [hmk] at hm'; cases hm'
  | loud _ vs hvs hq' => rw [hq] at hq'; cases hq'
  | dfr _ vs hvs hd => exact absurd hd (by rw [hnd]; simp)
  | quiet _ vs hvs _ _ hv =>
    have ha := zcx (e := e) (a := a) hvs fun t ht => by
     have := V.fr.at_ t
     rw [zgo D ho hm hnj hanc V.dc ht] at this
     exact this
    exact quiet_wp (noDefer_of (zb0 hv)) (quiet_sound V.sat ha hq hmk (quiet_any hq hmk hrd' hv)) fun u hu => hk _ w e h G (V.value D K ho hm hnj hanc (.inl hq) hnomk hp (fun hd => by rw [zb0 hv] at hd; cases hd) hu)
theorem Inv.dfr (ok : POk P) (D : DrawOk P I self pl all base s) (K : StageOk P I self pl all base s Stg) {S : Nat → Prop} {a : Act} {w : World} {e : Env} {h G : AH} (V : Inv P pl all base s Stg e0 h00 w0 S a w e h G) {j m : Nat} {o : Oper}
  (ho : all[j]? = some o) (hm : pl.ms[j]? = some m) (hnj : ¬ S j) (hanc : ∀ i, bit m i = true → S i) (hd : zaw o.op = true) (hw : zau all (s j).fr o.guard = some true)
  {next : Act → World → Prop} {Q : Exit → Act → World → Prop}
  (hk : ∀ a' w' e' h' G', Inv P pl all base s Stg e0 h00 w0 (fun i => S i ∨ i = j) a' w' e' h' G' → next a' w') : o.wpIn (fen none) 0 P a w next Q := by
 have hnomk : ∀ en, ¬ Mk P all s j en := fun en ⟨o', vs', f', b1, b2, _⟩ => by
  rw [ho] at b1; cases b1
  rw [zcN hd] at b2; cases b2
 obtain ⟨m', hm', hst⟩ := D.run.at_ D.mok.len ho
 rw [hm] at hm'; cases hm'
 obtain ⟨_, v, hp, _, hS⟩ := zaA hst
 cases hS with
 | off hw' => rw [hw] at hw'; cases hw'
 | made _ vs en f hvs hm' => rw [zcN hd] at hm'; cases hm'
 | loud _ vs hvs hq' => rw [zaT hd] at hq'; cases hq'
 | quiet _ vs hvs _ _ hv => rw [zb0 hv] at hd; cases hd
 | dfr _ vs hvs _ d hdf hV hds =>
   have ha := zcx (e := e) (a := a) hvs fun t ht => by
    have := V.fr.at_ t
    rw [zgo D ho hm hnj hanc V.dc ht] at this
    exact this
   obtain ⟨n, w1, hrun, hout⟩ := zbc ok V.sat ha (dfr_any (h2 := h) hd hdf) (by simp)
   obtain ⟨_, rfl, d', rfl, hdr⟩ := hout
   refine ⟨fun f _ => trivial, ?_⟩
   have hse : o.semAt (fen none).round a.eval = execOp a.eval o := rfl
   rw [hse, hrun, Oper.uponIn_defer]
   exact hk _ _ e h G (V.valueF D K ho hm hnj hanc (.inl (zaT hd)) hnomk (V.fr.putD D ho (hV ▸ hp) hd hnj hds hdr))
theorem Inv.made (D : DrawOk P I self pl all base s) (K : StageOk P I self pl all base s Stg) (hb0 : h00.next = base) {S : Nat → Prop} {a : Act} {w : World} {e : Env} {h G : AH} (V : Inv P pl all base s Stg e0 h00 w0 S a w e h G) {j m : Nat} {o : Oper}
  (ho : all[j]? = some o) (hm : pl.ms[j]? = some m) (hnj : ¬ S j) (hanc : ∀ i, bit m i = true → S i) (hmk : zbD o.op = true) (hw : zau all (s j).fr o.guard = some true)
  {ρ : Option Nat} {next : Act → World → Prop} {Q : Exit → Act → World → Prop}
  (hk : ∀ a' w' e' h' G', Inv P pl all base s Stg e0 h00 w0 (fun i => S i ∨ i = j) a' w' e' h' G' → next a' w') : o.wpIn (fen ρ) 0 P a w next Q := by
 have hq := zbo (P := P) hmk
 obtain ⟨m', hm', hst⟩ := D.run.at_ D.mok.len ho
 rw [hm] at hm'; cases hm'
 obtain ⟨_, v, hp, _, hS⟩ := zaA hst
 cases hS with
 | off hw' => rw [hw] at hw'; cases hw'
 | quiet _ vs hvs _ hm' => rw [hmk] at hm'; cases hm'
 | loud _ vs hvs hq' => rw [hq] at hq'; cases hq'
 | dfr _ vs hvs hd => rw [zcN hd] at hmk; cases hmk
 | made _ vs en f hvs _ hme hV hh hhs hps =>
   have ha := zcx (e := e) (a := a) hvs fun t ht => by
    have := V.fr.at_ t
    rw [zgo D ho hm hnj hanc V.dc ht] at this
    exact this
   have hMk : Mk P all s j en := ⟨o, vs, f, ho, hmk, hw, hvs, hme⟩
   obtain ⟨hol, hfa, hwr, obj, u, x, hrun, hrel⟩ := mk_sound (w := w) ha hme
   have hnl : e.loc (base + j) = none := V.fresh j en hMk hnj
   have hle : e.le (e.at_ (base + j) ⟨w.heap.size, 0, x⟩) := Env.at_le hnl
   obtain ⟨hVR, hEn⟩ := hrel (e.at_ (base + j) ⟨w.heap.size, 0, x⟩) (base + j) h.fm hle (Env.at_self _ _ _)
   obtain ⟨s1, hno⟩ := V.sat.place (x := x) obj (V.nx j en hMk) hnl
   have s2 : Sat (e.at_ (base + j) ⟨w.heap.size, 0, x⟩) (h.set (base + j) en) (w.heap.push obj) :=
    s1.back (fun c => AH.get_set _ _ _ _) rfl rfl (Env.at_self _ _ _) (by simp) hEn hfa hol hno (fun hx => by
     obtain ⟨m, t, hm⟩ := V.sat.glob.int
     have := (Array.getElem?_eq_some_iff.1 hm).1
     rcases hx with hx | ⟨o, hx⟩
     ·have hx' : w.heap.size = theG := hx
      omega
     ·have := (Array.getElem?_eq_some_iff.1 (V.sat.glob.out w.heap.size o hx)).1
      omega)
   have hLj : ¬ zdw P all pl.ms s S j := fun ⟨i, m', o', hSi, ho', hm', _, _, hb⟩ => hnj (V.dc i m' hSi hm' j hb)
   have hgb : h.get (base + j) = none := by
    rw [V.get2 (base + j) fun i en' h1 h2 h3 => by
     have : i = j := by omega
     subst this; exact absurd h3 hnj]
    exact V.ng j en hMk hLj
   have hL : ∀ k, zdw P all pl.ms s (fun i => S i ∨ i = j) k ↔ zdw P all pl.ms s S k := fun k => laidS_quiet ho (.inl hq)
   refine ⟨fun f _ => trivial, ?_⟩
   rw [Oper.semAt_eq _ _ _ (makes_noDefer hmk), hrun, Oper.uponIn_value]
   refine hk _ _ (e.at_ (base + j) ⟨w.heap.size, 0, x⟩) (h.set (base + j) en) G ⟨s2, ?_, (V.fr.mono hle).put D ho hp (fun hd => by rw [zcN hd] at hmk; cases hmk) (hV ▸ hVR), dc_add V.dc hm hanc, ?_, V.hn, V.hm, fun i en' h1 h2 h3 => ?_, fun b hb => ?_,
    fun i en' h1 h2 => V.ng i en' h1 fun hx => h2 ((hL i).2 hx), fun i en' h1 h2 => ?_, V.nx⟩
   ·refine ⟨V.st.le.trans hle, V.st.nxt, Nat.le_trans V.st.size (by simp), fun X hX hO => ?_, V.st.os, V.st.tape, V.st.output, fun b l hb => ?_, fun b hb hg => ?_⟩
    ·obtain ⟨q1, q2⟩ := V.st.keep X hX hO
     have hXw : X < w.heap.size := Nat.lt_of_lt_of_le hX V.st.size
     refine ⟨?_, fun ⟨c, en2, l2, hc, hl2, hX2⟩ => ?_⟩
     ·show (w.heap.push obj)[X]? = _
      rw [Array.getElem?_push, if_neg (by omega)]; exact q1
     ·rw [AH.get_set] at hc
      by_cases hcb : c = base + j
      ·subst hcb
       rw [Env.at_self] at hl2; cases hl2
       simp only at hX2; omega
      ·rw [if_neg hcb] at hc
       rw [Env.at_ne _ hcb] at hl2
       exact q2 ⟨c, en2, l2, hc, hl2, hX2⟩
    ·by_cases hcb : b = base + j
     ·right; rw [hb0, hcb]; omega
     ·rw [Env.at_ne _ hcb] at hb
      exact V.st.new b l hb
    ·rw [AH.get_set, if_neg (by rw [hb0] at hb; omega)]
     exact V.st.gone b hb hg
   ·refine K.ext S _ G (fun i hi => ⟨.inl, fun h => h.elim id fun hx => ?_⟩) V.stg
    obtain ⟨o', ho', hq'⟩ := zeo.1 hi
    rw [hx, ho] at ho'; cases ho'
    rw [hq] at hq'; cases hq'
   ·rw [AH.get_set]
    by_cases hij : i = j
    ·subst hij
     rw [if_pos rfl, hMk.inj h1]
    ·rw [if_neg (by omega)]
     exact V.get1 i en' h1 (h2.resolve_right hij) fun hx => h3 ((hL i).2 hx)
   ·have hbj : b ≠ base + j := fun hx => hLj ((hL j).1 (hb j en hx hMk (.inr rfl)))
    rw [AH.get_set, if_neg hbj]
    exact V.get2 b fun i en' h1 h2 h3 => (hL i).1 (hb i en' h1 h2 (.inl h3))
   ·rw [Env.at_ne _ (by intro hx; exact h2 (.inr (by omega)))]
    exact V.fresh i en' h1 fun hx => h2 (.inl hx)
end
end
end Go.Xe
end
section
namespace Go.Xe
noncomputable section
section
variable {P : Program} {I : zaR} {self : Option Nat → Code → Fr → AH → R} {pl : Plan} {all : List Oper} {base : Nat} {s : Nat → DS}
theorem mkE_plain {op : Op} {vs : List AV} {en : Ent} {f : Nat → AV} (hm : mkE P op vs = some (en, f)) : za5 en = [] ∧ famE en = 0 ∧ wrE en = true := by
 cases op <;> try (cases hm; done)
 case alloc t =>
  have hm' : bnd (zdy P t) (fun z => some ((Ent.cells z.cells t true 0 [], fun b => AV.ptr b 0) : Ent × (Nat → AV))) = some (en, f) := hm
  rw [zab] at hm'
  obtain ⟨z, hz, hm'⟩ := hm'
  cases hm'
  exact ⟨rfl, rfl, rfl⟩
 case box t x =>
  have hm' : arg1 vs (fun v => some ((Ent.cells v.cells t true 0 [], fun b => AV.ptr b 0) : Ent × (Nat → AV))) = some (en, f) := hm
  rw [zax] at hm'
  obtain ⟨a, rfl, hm'⟩ := hm'
  cases hm'
  exact ⟨rfl, rfl, rfl⟩
 case buildSlice t n ps =>
  have hm' : bnd (zga P t) (fun e => grd (Nat.ble (Nat.mul n e.2) 16777216) (bnd (zcC P e.1 e.2 n) fun z => bnd (fillA (zfy e.2) (zipI ps.toList vs) z) fun l =>
   some ((Ent.cells l e.1 true 0 [], fun b => AV.sl b 0 n e.2) : Ent × (Nat → AV)))) = some (en, f) := hm
  rw [zab] at hm'
  obtain ⟨el, he, hm'⟩ := hm'
  rw [zaf, zab] at hm'
  obtain ⟨hsz, zs, hzs, hm'⟩ := hm'
  rw [zab] at hm'
  obtain ⟨l, hl, hm'⟩ := hm'
  cases hm'
  exact ⟨rfl, rfl, rfl⟩
 case makeMap t r =>
  have hm' : grd (isNone r) (some ((Ent.map [] 0, fun b => AV.map b) : Ent × (Nat → AV))) = some (en, f) := hm
  rw [zaf] at hm'
  cases hm'.2
  exact ⟨rfl, rfl, rfl⟩
theorem Mk.plain {j : Nat} {en : Ent} (h : Mk P all s j en) : za5 en = [] ∧ famE en = 0 ∧ wrE en = true := by
 obtain ⟨o, vs, f, _, _, _, _, h5⟩ := h
 exact mkE_plain h5
theorem Mk.lt {j : Nat} {en : Ent} (h : Mk P all s j en) : j < all.length := by
 obtain ⟨o, vs, f, h1, _⟩ := h
 exact (List.getElem?_eq_some_iff.1 h1).1
theorem Sat.backs {e : Env} {h : AH} {H : Array Obj} (s0 : Sat e h H) (base : Nat) (Rm : Nat → Ent → Loc → Prop) (huni : ∀ i en en' L L', Rm i en L → Rm i en' L' → en = en' ∧ L = L')
  (hR : ∀ i en L, Rm i en L → e.loc (base + i) = some L ∧ (∃ o, H[L.blk]? = some o ∧ EntR e h.fm en L o) ∧ famE en = 0 ∧ za5 en = [] ∧ ¬ Own e h L.blk ∧ ¬ Kp e L.blk)
  (hdis : ∀ i i' en en' L L', Rm i en L → Rm i' en' L' → i ≠ i' → L.blk ≠ L'.blk) :
  ∀ k, ∃ h' : AH, Sat e h' H ∧ h'.next = h.next ∧ h'.fm = h.fm ∧ (∀ i en L, i < k → Rm i en L → h'.get (base + i) = some en) ∧ (∀ b, (∀ i en L, i < k → b = base + i → ¬ Rm i en L) → h'.get b = h.get b) ∧
    ∀ X, Own e h' X → Own e h X ∨ ∃ i en L, i < k ∧ Rm i en L ∧ X = L.blk := by
 intro k
 induction k with
 | zero => exact ⟨h, s0, rfl, rfl, fun i en L hi => by omega, fun b _ => rfl, fun X hX => .inl hX⟩
 | succ k ih =>
   obtain ⟨h1, s1, hn, hm, hg1, hg2, hown⟩ := ih
   by_cases hx : ∃ en L, Rm k en L
   ·obtain ⟨en, L, hk⟩ := hx
    obtain ⟨hl, ⟨o, ho, hr⟩, hf, hol, hno, hng⟩ := hR k en L hk
    have hno1 : ¬ Own e h1 L.blk := fun hO => by
     rcases hown _ hO with hO | ⟨i, en', L', hi, hri, hX⟩
     ·exact hno hO
     ·exact hdis k i en en' L L' hk hri (by omega) hX
    have s2 : Sat e (h1.set (base + k) en) H := s1.back (fun c => AH.get_set _ _ _ _) rfl rfl hl ho (hm ▸ hr) hf hol hno1 hng
    refine ⟨h1.set (base + k) en, s2, hn, hm, fun i en' L' hi hri => ?_, fun b hb => ?_, fun X ⟨c, en2, l2, hc, hl2, hX⟩ => ?_⟩
    ·rw [AH.get_set]
     by_cases hik : i = k
     ·subst hik
      rw [if_pos rfl, (huni i en en' L L' hk hri).1]
     ·rw [if_neg (by omega)]
      exact hg1 i en' L' (by omega) hri
    ·rw [AH.get_set, if_neg (fun hx => hb k en L (Nat.lt_succ_self _) hx hk)]
     exact hg2 b fun i en' L' hi => hb i en' L' (by omega)
    ·rw [AH.get_set] at hc
     by_cases hcb : c = base + k
     ·subst hcb
      rw [hl] at hl2; cases hl2
      exact .inr ⟨k, en, L, Nat.lt_succ_self _, hk, hX.symm⟩
     ·rw [if_neg hcb] at hc
      rcases hown X ⟨c, en2, l2, hc, hl2, hX⟩ with h | ⟨i, en', L', hi, hri, hX⟩
      ·exact .inl h
      ·exact .inr ⟨i, en', L', by omega, hri, hX⟩
   ·refine ⟨h1, s1, hn, hm, fun i en' L' hi hri => ?_, fun b hb => hg2 b fun i en' L' hi => hb i en' L' (by omega), fun X hX => ?_⟩
    ·by_cases hik : i = k
     ·subst hik; exact absurd ⟨en', L', hri⟩ hx
     ·exact hg1 i en' L' (by omega) hri
    ·rcases hown X hX with h | ⟨i, en', L', hi, hri, hX⟩
     ·exact .inl h
     ·exact .inr ⟨i, en', L', by omega, hri, hX⟩
variable {Stg : (Nat → Prop) → AH → Prop} {e0 : Env} {h00 : AH} {w0 : World}
theorem Inv.loud (ok : POk P) (hcall : zbO P (zc7 P I self)) (hround : zcd P (roundA self)) (D : DrawOk P I self pl all base s) (K : StageOk P I self pl all base s Stg) (hb0 : h00.next = base) {S : Nat → Prop} {a : Act} {w : World} {e : Env} {h G : AH}
  (V : Inv P pl all base s Stg e0 h00 w0 S a w e h G) {j m : Nat} {o : Oper} (ho : all[j]? = some o) (hm : pl.ms[j]? = some m) (hnj : ¬ S j) (hanc : ∀ i, bit m i = true → S i) (hq : zan P o.op = false) (hw : zau all (s j).fr o.guard = some true)
  {ρ : Option Nat} {next : Act → World → Prop} {Q : Exit → Act → World → Prop}
  (hk : ∀ a' w' e' h' G', Inv P pl all base s Stg e0 h00 w0 (fun i => S i ∨ i = j) a' w' e' h' G' → next a' w') : o.wpIn (fen ρ) 0 P a w next Q := by
 obtain ⟨hin, hout, vs, v, hvs, hp, hr, hin1, hin2, hin3, hstg⟩ := K.loud S j m o G V.dc ho hm hq hnj hanc hw V.stg
 have ha := zcx (e := e) (a := a) hvs fun t ht => by
  have := V.fr.at_ t
  rw [zgo D ho hm hnj hanc V.dc ht] at this
  exact this
 have hsub : ∀ b en, hin.get b = some en → h.get b = some en := fun b en hb => by
  rcases hin3 b en hb with ⟨i, rfl, hmk, hbi, hl⟩ | hG
  ·exact V.get1 i en hmk (hanc i hbi) hl
  ·exact V.under hG
 have hnx : hin.next = h.next := by rw [hin1, V.hn]
 have hfm : hin.fm = h.fm := by rw [hin2, V.hm]
 have sin : Sat e hin w.heap := V.sat.sub hsub (by rw [hnx]; exact Nat.le_refl _) hfm
 have hjm : ∀ en, ¬ Mk P all s j en := fun en ⟨o', vs', f', b1, b2, _⟩ => by
  rw [ho] at b1; cases b1
  rw [zbo b2] at hq; cases hq
 have hL : ∀ k, zdw P all pl.ms s (fun i => S i ∨ i = j) k ↔ zdw P all pl.ms s S k ∨ bit m k = true := fun k => by
  constructor
  ·rintro ⟨i, m', o', hS, ho', hm', hq', hw', hb⟩
   rcases hS with hS | rfl
   ·exact .inl ⟨i, m', o', hS, ho', hm', hq', hw', hb⟩
   ·rw [hm] at hm'; cases hm'
    exact .inr hb
  ·rintro (⟨i, m', o', hS, rest⟩ | hb)
   ·exact ⟨i, m', o', .inl hS, rest⟩
   ·exact ⟨j, m, o, .inr rfl, ho, hm, hq, hw, hb⟩
 have hld : loudOk o.op = true := (D.hops j m o ho hm).kind.resolve_left (by rw [hq]; simp)
 refine opR_sound ok hcall hround hr sin ha (loud_noDefer hld) fun e1 u w1 s1 hu st1 => ?_
 obtain ⟨Rm, hRm⟩ : ∃ Rm : Nat → Ent → Loc → Prop, Rm = fun i en L => Mk P all s i en ∧ S i ∧ ¬ zdw P all pl.ms s (fun i => S i ∨ i = j) i ∧ e.loc (base + i) = some L := ⟨_, rfl⟩
 have hget : ∀ i en L, Rm i en L → h.get (base + i) = some en := fun i en L hx => by
  rw [hRm] at hx
  exact V.get1 i en hx.1 hx.2.1 fun hl => hx.2.2.1 ((hL i).2 (.inl hl))
 have hinn : ∀ i en, Mk P all s i en → ¬ zdw P all pl.ms s (fun i => S i ∨ i = j) i → hin.get (base + i) = none := fun i en hmk hl => by
  cases hg : hin.get (base + i) with
  | none => rfl
  | some en' =>
    rcases hin3 _ en' hg with ⟨i', hii, hmk', hbi, _⟩ | hG
    ·have : i' = i := by omega
     subst this
     exact absurd ((hL i').2 (.inr hbi)) hl
    ·rw [V.ng i en hmk fun hx => hl ((hL i).2 (.inl hx))] at hG; cases hG
 have hown : ∀ i en L, Rm i en L → ¬ Own e hin L.blk := fun i en L hx ⟨c, en', l', hc, hl', hblk⟩ => by
  have hgi := hget i en L hx
  rw [hRm] at hx
  obtain ⟨hmk, hSi, hnl, hloc⟩ := hx
  obtain ⟨hol, _, hwr⟩ := hmk.plain
  by_cases hcb : c = base + i
  ·subst hcb
   rw [hinn i en hmk hnl] at hc; cases hc
  ·have hc' := hsub c en' hc
   rcases V.sat.sep c (base + i) en' en l' L hc' hgi hl' hloc hcb hblk with h1 | h1
   ·have := V.sat.olds c (base + i) en' en l' L hc' h1 hgi hl' hloc hblk
    rw [hwr] at this; cases this
   ·rw [hol] at h1; cases h1
 have hfacts : ∀ i en L, Rm i en L → e1.loc (base + i) = some L ∧ (∃ ob, w1.heap[L.blk]? = some ob ∧ EntR e1 hout.fm en L ob) ∧ famE en = 0 ∧ za5 en = [] ∧ ¬ Own e1 hout L.blk ∧ ¬ Kp e1 L.blk := fun i en L hx => by
  have hgi := hget i en L hx
  have hno := hown i en L hx
  rw [hRm] at hx
  obtain ⟨hmk, hSi, hnl, hloc⟩ := hx
  obtain ⟨hol, hfa, hwr⟩ := hmk.plain
  obtain ⟨L', ob, hL', hob, hent⟩ := V.sat.ents _ _ hgi
  rw [hloc] at hL'; cases hL'
  obtain ⟨q1, q2⟩ := st1.keep L.blk (V.sat.locs _ _ hloc).2 hno
  exact ⟨st1.le.loc _ _ hloc, ⟨ob, by rw [q1]; exact hob, hent.plain st1.le hfa⟩, hfa, hol, q2, fun hx => V.sat.glob.own _ (by rcases hx with hx | ⟨o, hx⟩; exact .inl hx; exact .inr ⟨o, st1.le.out ▸ hx⟩) ⟨base + i, en, L, hgi, hloc, rfl⟩⟩
 have hdis : ∀ i i' en en' L L', Rm i en L → Rm i' en' L' → i ≠ i' → L.blk ≠ L'.blk := fun i i' en en' L L' hx hx' hne hblk => by
  have hgi := hget i en L hx
  have hgi' := hget i' en' L' hx'
  rw [hRm] at hx hx'
  obtain ⟨hol, _, _⟩ := hx.1.plain
  obtain ⟨hol', _, _⟩ := hx'.1.plain
  rcases V.sat.sep (base + i) (base + i') en en' L L' hgi hgi' hx.2.2.2 hx'.2.2.2 (by omega) hblk with h1 | h1
  ·rw [hol] at h1; cases h1
  ·rw [hol'] at h1; cases h1
 obtain ⟨h', s', hn', hm', hg1, hg2, hown'⟩ := s1.backs base Rm (fun i en en' L L' hx hx' => by
  rw [hRm] at hx hx'
  refine ⟨hx.1.inj hx'.1, ?_⟩
  have := hx.2.2.2
  rw [hx'.2.2.2] at this
  exact (Option.some.inj this).symm) hfacts hdis all.length
 have hb : base ≤ hin.next := by rw [hnx, ← hb0]; exact V.st.nxt
 refine hk _ w1 e1 h' hout ⟨s', ?_, (V.fr.mono st1.le).put D ho (PutF.of hp).1 (fun hd => by rw [zaT hd] at hq; cases hq) hu, dc_add V.dc hm hanc, hstg, hn', hm', fun i en h1 h2 h3 => ?_, fun b hbb => ?_, fun i en h1 h2 => ?_, fun i en h1 h2 => ?_, fun i en h1 => ?_⟩
 ·refine ⟨V.st.le.trans st1.le, ?_, Nat.le_trans V.st.size st1.size, fun X hX hO => ?_, st1.os.trans V.st.os, st1.tape.trans V.st.tape, st1.output.trans V.st.output, fun b l hbl => ?_, fun b hlt hg => ?_⟩
  ·rw [hn']
   have h1 := V.st.nxt
   have h2 := st1.nxt
   omega
  ·obtain ⟨q1, q2⟩ := V.st.keep X hX hO
   have hXw : X < w.heap.size := Nat.lt_of_lt_of_le hX V.st.size
   have q3 : ¬ Own e hin X := fun ⟨c, en', l', hc, hl', hX'⟩ => q2 ⟨c, en', l', hsub c en' hc, hl', hX'⟩
   obtain ⟨q4, q5⟩ := st1.keep X hXw q3
   refine ⟨q4.trans q1, fun hO' => ?_⟩
   rcases hown' X hO' with hO' | ⟨i, en, L, _, hx, hXL⟩
   ·exact q5 hO'
   ·have hgi := hget i en L hx
    rw [hRm] at hx
    exact q2 ⟨base + i, en, L, hgi, hx.2.2.2, hXL.symm⟩
  ·rcases st1.new b l hbl with hx | hx
   ·exact V.st.new b l hx
   ·exact .inr (by rw [hb0]; omega)
  ·have hbb : b < base := by rw [← hb0]; exact hlt
   rw [hg2 b fun i en L _ hx => by omega]
   refine st1.gone b (by omega) ?_
   cases hgi : hin.get b with
   | none => rfl
   | some en => have hx := hsub b en hgi; rw [V.st.gone b hlt hg] at hx; cases hx
 ·have hSi : S i := h2.resolve_right fun hx => hjm en (hx ▸ h1)
  have hgi := V.get1 i en h1 hSi fun hl => h3 ((hL i).2 (.inl hl))
  obtain ⟨L, _, hloc, _⟩ := V.sat.ents _ _ hgi
  exact hg1 i en L h1.lt (by rw [hRm]; exact ⟨h1, hSi, h3, hloc⟩)
 ·refine hg2 b fun i en L hi hx hRi => ?_
  rw [hRm] at hRi
  exact hRi.2.2.1 (hbb i en hx hRi.1 (.inl hRi.2.1))
 ·exact st1.gone _ (by rw [hnx]; exact V.nx i en h1) (hinn i en h1 h2)
 ·cases hl : e1.loc (base + i) with
  | none => rfl
  | some l =>
    rcases st1.new _ l hl with hx | hx
    ·rw [V.fresh i en h1 fun h => h2 (.inl h)] at hx; cases hx
    ·have := V.nx i en h1
     omega
 ·rw [hn']
  have h2 := st1.nxt
  have := V.nx i en h1
  omega
end
end
end Go.Xe
end
