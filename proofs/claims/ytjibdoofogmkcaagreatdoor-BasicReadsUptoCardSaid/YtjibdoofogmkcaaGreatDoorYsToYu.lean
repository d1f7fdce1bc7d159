/-
  For regions that draw: the run in the order of the text; For regions that draw: sets of operations, and what is known at each; For regions that draw: whatever the order. Conditions: none.
-/
import Derived.Test.YtjibdoofogmkcaaGreatDoorYoToYr
set_option linter.unusedVariables false
set_option linter.unusedSimpArgs false
set_option linter.unusedSectionVars false
section
namespace Go.Xe
noncomputable section
section
variable {P : Program} {I : Known} {self : Option Nat → Code → Fr → AH → R} {pl : Plan} {all : List Oper} {base : Nat}
theorem makes_quiet {op : Op} (h : makesOp op = true) : quietOp P op = true := by
  cases op <;> first | rfl | exact h | (cases h; done)
inductive StepK (P : Program) (I : Known) (self : Option Nat → Code → Fr → AH → R) (all : List Oper) (base k m : Nat) (o : Oper) (s s' : DS) (V : AV) : Prop
  | off (hw : wantedA all s.fr o.guard = some false) (hV : V = undefA) (hh : s'.h = s.h) (hps : s'.ps = s.ps) (hhs : s'.hs = if quietOp P o.op = true then s.hs else s.hs ++ [s.h])
  | made (hw : wantedA all s.fr o.guard = some true) (vs : List AV) (en : Ent) (f : Nat → AV) (hvs : mapO (fun x => ev x s.fr) (opnds o.op) = some vs) (hm : makesOp o.op = true) (hmk : mkE P o.op vs = some (en, f)) (hV : V = f (base + k))
      (hh : s'.h = s.h) (hhs : s'.hs = s.hs) (hps : s'.ps = ⟨k, base + k, en⟩ :: s.ps)
  | quiet (hw : wantedA all s.fr o.guard = some true) (vs : List AV) (hvs : mapO (fun x => ev x s.fr) (opnds o.op) = some vs) (hq : quietOp P o.op = true) (hm : makesOp o.op = false) (hV : valO (opV P o.op vs s.h) = some V)
      (hh : s'.h = s.h) (hhs : s'.hs = s.hs) (hps : s'.ps = s.ps)
  | loud (hw : wantedA all s.fr o.guard = some true) (vs : List AV) (hvs : mapO (fun x => ev x s.fr) (opnds o.op) = some vs) (hq : quietOp P o.op = false) (hr : opR P I self o vs (laySome m s.ps s.h) = some (V, s'.h))
      (hhs : s'.hs = s.hs ++ [s'.h]) (hps : s'.ps = restOf m s.ps)
theorem putS_eq {s s' : DS} {d : Option Nat} {v : AV} (h : putS s d v = some s') : s.fr.put d v = some s'.fr ∧ s'.h = s.h ∧ s'.hs = s.hs ∧ s'.ps = s.ps := by
  unfold putS at h
  rw [bnd_eq] at h
  obtain ⟨fr, hf, h⟩ := h
  cases h
  exact ⟨hf, rfl, rfl, rfl⟩
theorem drawStep_eq {k m : Nat} {o : Oper} {s s' : DS} (h : drawStep P I self pl all base k m o s = some s') :
    (quietOp P o.op = true ∨ twinOk pl all k s = true) ∧ ∃ V, s.fr.put o.dst V = some s'.fr ∧ StepK P I self all base k m o s s' V := by
  unfold drawStep at h
  rw [grd_eq, ite'_or, Bool.or_eq_true, bnd_eq] at h
  obtain ⟨hq, w, hw, h⟩ := h
  refine ⟨hq, ?_⟩
  cases w with
  | false =>
    rw [ite'_false] at h
    obtain ⟨hf, h1, h2, h3⟩ := putS_eq h
    refine ⟨undefA, hf, .off hw rfl h1 h3 ?_⟩
    rw [h2]
    show ite' (quietOp P o.op) s.hs (app s.hs [s.h]) = _
    rw [ite'_if, app_eq]
  | true =>
    rw [ite'_true, bnd_eq] at h
    obtain ⟨vs, hvs, h⟩ := h
    unfold drawW at h
    rw [ite'_eq] at h
    rcases h with ⟨hm, h⟩ | ⟨hm, h⟩
    · rw [bnd_eq] at h
      obtain ⟨⟨en, f⟩, hmk, h⟩ := h
      rw [frc_eq] at h
      obtain ⟨hf, h1, h2, h3⟩ := putS_eq h
      exact ⟨_, hf, .made hw vs en f hvs hm hmk rfl h1 h2 h3⟩
    · rw [ite'_eq] at h
      rcases h with ⟨hq', h⟩ | ⟨hq', h⟩
      · rw [bnd_eq] at h
        obtain ⟨v, hv, h⟩ := h
        obtain ⟨hf, h1, h2, h3⟩ := putS_eq h
        exact ⟨v, hf, .quiet hw vs hvs hq' hm hv h1 h2 h3⟩
      · rw [bnd_eq] at h
        obtain ⟨⟨v, h2'⟩, hr, h⟩ := h
        obtain ⟨hf, h1, h2, h3⟩ := putS_eq h
        refine ⟨v, hf, .loud hw vs hvs hq' ?_ ?_ h3⟩
        · rw [h1]; exact hr
        · rw [h2, h1]
          show app s.hs [h2'] = _
          rw [app_eq]
structure RunS (P : Program) (I : Known) (slf : Option Nat → Code → Fr → AH → R) (pl : Plan) (all : List Oper) (base : Nat) (s : Nat → DS) : Prop where
  step : ∀ (k m : Nat) (o : Oper), all[k]? = some o → pl.ms[k]? = some m → drawStep P I slf pl all base k m o (s k) = some (s (k + 1))
theorem runDraw_states : ∀ (l : List Oper) (j : Nat) (mr : List Nat) (s0 sF : DS), runDraw P I self pl all base l j mr s0 = some sF →
    ∃ s : Nat → DS, s 0 = s0 ∧ s l.length = sF ∧ ∀ (k m : Nat) (o : Oper), l[k]? = some o → mr[k]? = some m → drawStep P I self pl all base (j + k) m o (s k) = some (s (k + 1))
  | [], j, mr, s0, sF, h => by
    have h' : some s0 = some sF := h
    cases h'
    exact ⟨fun _ => s0, rfl, rfl, fun k m o ho => by simp at ho⟩
  | o :: l, j, mr, s0, sF, h => by
    cases mr with
    | nil => cases h
    | cons m mr =>
      have h' : bnd (drawStep P I self pl all base j m o s0) (fun s => runDraw P I self pl all base l (j + 1) mr s) = some sF := h
      rw [bnd_eq] at h'
      obtain ⟨s1, hs1, h'⟩ := h'
      obtain ⟨s, h0, hF, hk⟩ := runDraw_states l (j + 1) mr s1 sF h'
      refine ⟨fun k => match k with | 0 => s0 | k + 1 => s k, rfl, hF, fun k m' o' ho' hm' => ?_⟩
      cases k with
      | zero =>
        simp at ho' hm'
        subst ho' hm'
        show drawStep P I self pl all base (j + 0) m o s0 = some (s 0)
        rw [h0]; exact hs1
      | succ k =>
        have := hk k m' o' (by simpa using ho') (by simpa using hm')
        rwa [show j + 1 + k = j + (k + 1) by omega] at this
theorem put_at {fr fr' : Fr} {d : Option Nat} {v : AV} (h : fr.put d v = some fr') (t : Nat) : atT fr'.t t = if d = some t then v else atT fr.t t := by
  cases d with
  | none => simp [Fr.put] at h; subst h; rfl
  | some d =>
    have h' : grd (Nat.blt d fr.nt) (some (⟨Tr.put (some v) (Nat.succ d) fr.t d, fr.nt, fr.ds⟩ : Fr)) = some fr' := h
    rw [grd_eq] at h'
    cases h'.2
    rw [atT_put]
    by_cases hx : t = d
    · rw [if_pos hx, if_pos (by rw [hx])]
    · rw [if_neg hx, if_neg (fun h => hx (Option.some.inj h).symm)]
section
variable {s : Nat → DS} (hr : RunS P I self pl all base s) (hl : pl.ms.length = all.length)
include hr hl
theorem RunS.at_ {k : Nat} {o : Oper} (ho : all[k]? = some o) : ∃ m, pl.ms[k]? = some m ∧ drawStep P I self pl all base k m o (s k) = some (s (k + 1)) := by
  have hk : k < pl.ms.length := by rw [hl]; exact (List.getElem?_eq_some_iff.1 ho).1
  exact ⟨pl.ms[k], List.getElem?_eq_getElem hk, hr.step k _ o ho (List.getElem?_eq_getElem hk)⟩
theorem RunS.same {k : Nat} (hk : k ≤ all.length) : (s k).fr.nt = (s 0).fr.nt ∧ (s k).fr.ds = (s 0).fr.ds := by
  induction k with
  | zero => exact ⟨rfl, rfl⟩
  | succ k ih =>
    obtain ⟨h1, h2⟩ := ih (by omega)
    obtain ⟨m, hm, hst⟩ := hr.at_ hl (List.getElem?_eq_getElem (show k < all.length by omega))
    obtain ⟨_, V, hp, _⟩ := drawStep_eq hst
    obtain ⟨h3, h4⟩ := put_ds hp
    exact ⟨h4.trans h1, h3.trans h2⟩
theorem RunS.keep {t k k' : Nat} (hkk : k ≤ k') (hk : k' ≤ all.length) (hn : ∀ (i : Nat) (o : Oper), k ≤ i → i < k' → all[i]? = some o → o.dst ≠ some t) : atT (s k').fr.t t = atT (s k).fr.t t := by
  induction k' with
  | zero => rw [show k = 0 by omega]
  | succ k' ih =>
    by_cases h : k = k' + 1
    · rw [h]
    · have ho := List.getElem?_eq_getElem (show k' < all.length by omega)
      obtain ⟨m, hm, hst⟩ := hr.at_ hl ho
      obtain ⟨_, V, hp, _⟩ := drawStep_eq hst
      rw [put_at hp t, if_neg (hn k' _ (by omega) (by omega) ho)]
      exact ih (by omega) (by omega) fun i o h1 h2 => hn i o h1 (by omega)
omit hr hl
end
def OpsOk (P : Program) (all : List Oper) (ms : List Nat) : Prop := ∀ (j m : Nat) (o : Oper), all[j]? = some o → ms[j]? = some m → OpOk P all ms j m o
theorem dst_alone {all : List Oper} {ms : List Nat} (hops : OpsOk P all ms) (hl : ms.length = all.length) {i j : Nat} {oi oj : Oper} {t : Nat} (hi : all[i]? = some oi) (hj : all[j]? = some oj) (hdi : oi.dst = some t) (hdj : oj.dst = some t) : i = j := by
  have hk : j < ms.length := by rw [hl]; exact (List.getElem?_eq_some_iff.1 hj).1
  exact (hops j _ oj hj (List.getElem?_eq_getElem hk)).alone t hdj i oi hi hdi
section
variable {s : Nat → DS} (hr : RunS P I self pl all base s) (hl : pl.ms.length = all.length) (hops : OpsOk P all pl.ms)
include hr hl hops
theorem RunS.done {i k : Nat} {o : Oper} {t : Nat} (ho : all[i]? = some o) (hd : o.dst = some t) (hik : i < k) (hk : k ≤ all.length) : atT (s k).fr.t t = atT (s all.length).fr.t t :=
  (hr.keep hl hk (Nat.le_refl _) fun i' o' h1 h2 ho' hd' => by
    have := dst_alone hops hl ho ho' hd hd'
    omega).symm
theorem RunS.undone {k : Nat} {t : Nat} (hk : k ≤ all.length) (hn : ∀ (i : Nat) (o : Oper), i < k → all[i]? = some o → o.dst ≠ some t) : atT (s k).fr.t t = atT (s 0).fr.t t :=
  hr.keep hl (Nat.zero_le _) hk fun i o _ h => hn i o h
theorem RunS.put {k : Nat} {o : Oper} {t : Nat} {V : AV} (ho : all[k]? = some o) (hp : (s k).fr.put o.dst V = some (s (k + 1)).fr) (hd : o.dst = some t) : atT (s all.length).fr.t t = V := by
  have hk : k < all.length := (List.getElem?_eq_some_iff.1 ho).1
  rw [← hr.done hl hops ho hd (Nat.lt_succ_self k) hk, put_at hp t, if_pos hd]
omit hops
theorem RunS.hs (h0 : (s 0).hs = [(s 0).h]) {k : Nat} (hk : k ≤ all.length) : (s k).hs.length = 1 + (List.range k).countP (Lp P all) ∧ (s k).hs[(List.range k).countP (Lp P all)]? = some (s k).h := by
  induction k with
  | zero => rw [h0]; exact ⟨rfl, rfl⟩
  | succ k ih =>
    obtain ⟨h1, h2⟩ := ih (by omega)
    have ho := List.getElem?_eq_getElem (show k < all.length by omega)
    obtain ⟨m, hm, hst⟩ := hr.at_ hl ho
    obtain ⟨_, V, hp, hS⟩ := drawStep_eq hst
    rw [List.range_succ, List.countP_append, List.countP_singleton]
    have hL : Lp P all k = !quietOp P all[k].op := by unfold Lp; rw [ho]
    have quiet : quietOp P all[k].op = true → (s (k + 1)).hs = (s k).hs → (s (k + 1)).h = (s k).h → (s (k + 1)).hs.length = 1 + ((List.range k).countP (Lp P all) + if Lp P all k = true then 1 else 0) ∧
        (s (k + 1)).hs[(List.range k).countP (Lp P all) + if Lp P all k = true then 1 else 0]? = some (s (k + 1)).h := fun hq q1 q2 => by
      rw [hL, hq, q1, q2]
      simpa using ⟨h1, h2⟩
    have loud : quietOp P all[k].op = false → (s (k + 1)).hs = (s k).hs ++ [(s (k + 1)).h] → (s (k + 1)).hs.length = 1 + ((List.range k).countP (Lp P all) + if Lp P all k = true then 1 else 0) ∧
        (s (k + 1)).hs[(List.range k).countP (Lp P all) + if Lp P all k = true then 1 else 0]? = some (s (k + 1)).h := fun hq q1 => by
      rw [hL, hq, q1]
      refine ⟨by simp [h1]; omega, ?_⟩
      rw [List.getElem?_append_right (by simp [h1]; omega), h1]
      simp only [Bool.not_false, if_true]
      rw [show (List.range k).countP (Lp P all) + 1 - (1 + (List.range k).countP (Lp P all)) = 0 by omega]
      rfl
    cases hS with
    | off hw hV hh hps hhs =>
      by_cases hq : quietOp P all[k].op = true
      · rw [if_pos hq] at hhs
        exact quiet hq hhs hh
      · rw [if_neg hq] at hhs
        exact loud (by simpa using hq) (by rw [hh]; exact hhs)
    | made hw vs en f hvs hm' hmk hV hh hhs hps => exact quiet (makes_quiet hm') hhs hh
    | quiet hw vs hvs hq hm' hV hh hhs hps => exact quiet hq hhs hh
    | loud hw vs hvs hq hr' hhs hps => exact loud hq hhs
theorem RunS.hs_pre {k k' : Nat} (hkk : k ≤ k') (hk : k' ≤ all.length) {i : Nat} {x : AH} (hx : (s k).hs[i]? = some x) : (s k').hs[i]? = some x := by
  induction k' with
  | zero => rw [show k = 0 by omega] at hx; exact hx
  | succ k' ih =>
    by_cases h : k = k' + 1
    · rw [← h]; exact hx
    · have h1 := ih (by omega) (by omega)
      have ho := List.getElem?_eq_getElem (show k' < all.length by omega)
      obtain ⟨m, hm, hst⟩ := hr.at_ hl ho
      obtain ⟨_, V, hp, hS⟩ := drawStep_eq hst
      have more : ∀ y, (s (k' + 1)).hs = (s k').hs ++ [y] → (s (k' + 1)).hs[i]? = some x := fun y hy => by
        rw [hy, List.getElem?_append_left (List.getElem?_eq_some_iff.1 h1).1]; exact h1
      cases hS with
      | off hw hV hh hps hhs =>
        by_cases hq : quietOp P all[k'].op = true
        · rw [if_pos hq] at hhs
          rw [hhs]; exact h1
        · rw [if_neg hq] at hhs
          exact more _ hhs
      | made hw vs en f hvs hm' hmk hV hh hhs hps => rw [hhs]; exact h1
      | quiet hw vs hvs hq hm' hV hh hhs hps => rw [hhs]; exact h1
      | loud hw vs hvs hq hr' hhs hps => exact more _ hhs
omit hr hl
end
def Mk (P : Program) (all : List Oper) (s : Nat → DS) (j : Nat) (en : Ent) : Prop :=
  ∃ o vs f, all[j]? = some o ∧ makesOp o.op = true ∧ wantedA all (s j).fr o.guard = some true ∧ mapO (fun x => ev x (s j).fr) (opnds o.op) = some vs ∧ mkE P o.op vs = some (en, f)
def Laid (P : Program) (all : List Oper) (ms : List Nat) (s : Nat → DS) (k j : Nat) : Prop :=
  ∃ i m o, i < k ∧ all[i]? = some o ∧ ms[i]? = some m ∧ quietOp P o.op = false ∧ wantedA all (s i).fr o.guard = some true ∧ bit m j = true
theorem Mk.inj {s : Nat → DS} {j : Nat} {en en' : Ent} (h : Mk P all s j en) (h' : Mk P all s j en') : en = en' := by
  obtain ⟨o, vs, f, a1, a2, a3, a4, a5⟩ := h
  obtain ⟨o', vs', f', b1, b2, b3, b4, b5⟩ := h'
  rw [a1] at b1; cases b1
  rw [a4] at b4; cases b4
  rw [a5] at b5; cases b5
  rfl
theorem restOf_mem {m : Nat} {ps : List Pend} {p : Pend} : p ∈ restOf m ps ↔ p ∈ ps ∧ bit m p.j = false := by
  induction ps with
  | nil => simp [restOf]
  | cons q ps ih =>
    have h1 : restOf m (q :: ps) = ite' (bit m q.j) (restOf m ps) (q :: restOf m ps) := rfl
    rw [h1, ite'_if]
    by_cases hb : bit m q.j = true
    · rw [if_pos hb, ih, List.mem_cons]
      constructor
      · rintro ⟨h2, h3⟩; exact ⟨.inr h2, h3⟩
      · rintro ⟨rfl | h2, h3⟩
        · rw [hb] at h3; cases h3
        · exact ⟨h2, h3⟩
    · rw [if_neg hb, List.mem_cons, ih, List.mem_cons]
      constructor
      · rintro (rfl | ⟨h2, h3⟩)
        · exact ⟨.inl rfl, by simpa using hb⟩
        · exact ⟨.inr h2, h3⟩
      · rintro ⟨rfl | h2, h3⟩
        · exact .inl rfl
        · exact .inr ⟨h2, h3⟩
theorem laySome_get (m : Nat) (h : AH) : ∀ (ps : List Pend) (b : Nat), (∃ p ∈ ps, bit m p.j = true ∧ p.b = b ∧ (laySome m ps h).get b = some p.e) ∨ ((∀ p ∈ ps, bit m p.j = true → p.b ≠ b) ∧ (laySome m ps h).get b = h.get b)
  | [], b => .inr ⟨fun p hp => (by cases hp), rfl⟩
  | q :: ps, b => by
    have h1 : laySome m (q :: ps) h = ite' (bit m q.j) ((laySome m ps h).set q.b q.e) (laySome m ps h) := rfl
    rw [h1, ite'_if]
    by_cases hb : bit m q.j = true
    · rw [if_pos hb, AH.get_set]
      by_cases hqb : q.b = b
      · exact .inl ⟨q, List.mem_cons_self, hb, hqb, if_pos hqb.symm⟩
      · rw [if_neg (fun hx => hqb hx.symm)]
        rcases laySome_get m h ps b with ⟨p, hp, q1, q2, q3⟩ | ⟨q1, q2⟩
        · exact .inl ⟨p, List.mem_cons_of_mem _ hp, q1, q2, q3⟩
        · refine .inr ⟨fun p hp hpb => ?_, q2⟩
          rcases List.mem_cons.1 hp with rfl | hp
          · exact hqb
          · exact q1 p hp hpb
    · rw [if_neg hb]
      rcases laySome_get m h ps b with ⟨p, hp, q1, q2, q3⟩ | ⟨q1, q2⟩
      · exact .inl ⟨p, List.mem_cons_of_mem _ hp, q1, q2, q3⟩
      · refine .inr ⟨fun p hp hpb => ?_, q2⟩
        rcases List.mem_cons.1 hp with rfl | hp
        · exact absurd hpb hb
        · exact q1 p hp hpb
theorem laySome_rest (m : Nat) (h : AH) (ps : List Pend) : (laySome m ps h).next = h.next ∧ (laySome m ps h).fm = h.fm := by
  induction ps with
  | nil => exact ⟨rfl, rfl⟩
  | cons q ps ih =>
    have h1 : laySome m (q :: ps) h = ite' (bit m q.j) ((laySome m ps h).set q.b q.e) (laySome m ps h) := rfl
    rw [h1, ite'_if]
    split
    · exact ih
    · exact ih
theorem layAll_get (h : AH) : ∀ (ps : List Pend) (b : Nat), (∃ p ∈ ps, p.b = b ∧ (layAll ps h).get b = some p.e) ∨ ((∀ p ∈ ps, p.b ≠ b) ∧ (layAll ps h).get b = h.get b)
  | [], b => .inr ⟨fun p hp => (by cases hp), rfl⟩
  | q :: ps, b => by
    have h1 : layAll (q :: ps) h = (layAll ps h).set q.b q.e := rfl
    rw [h1, AH.get_set]
    by_cases hqb : q.b = b
    · exact .inl ⟨q, List.mem_cons_self, hqb, if_pos hqb.symm⟩
    · rw [if_neg (fun hx => hqb hx.symm)]
      rcases layAll_get h ps b with ⟨p, hp, q2, q3⟩ | ⟨q1, q2⟩
      · exact .inl ⟨p, List.mem_cons_of_mem _ hp, q2, q3⟩
      · refine .inr ⟨fun p hp => ?_, q2⟩
        rcases List.mem_cons.1 hp with rfl | hp
        · exact hqb
        · exact q1 p hp
theorem layAll_rest (h : AH) (ps : List Pend) : (layAll ps h).next = h.next ∧ (layAll ps h).fm = h.fm := by
  induction ps with
  | nil => exact ⟨rfl, rfl⟩
  | cons q ps ih => exact ih
section
variable {s : Nat → DS} (hr : RunS P I self pl all base s) (hl : pl.ms.length = all.length)
include hr hl
theorem RunS.ps (h0 : (s 0).ps = []) (hlt : ∀ (j m : Nat), pl.ms[j]? = some m → ∀ i, bit m i = true → i < j) {k : Nat} (hk : k ≤ all.length) :
    (∀ p ∈ (s k).ps, p.j < k ∧ p.b = base + p.j ∧ Mk P all s p.j p.e ∧ ¬ Laid P all pl.ms s k p.j) ∧ ∀ j en, j < k → Mk P all s j en → ¬ Laid P all pl.ms s k j → ∃ p ∈ (s k).ps, p.j = j ∧ p.e = en := by
  induction k with
  | zero => rw [h0]; exact ⟨fun p hp => (by cases hp), fun j en hj => (by omega)⟩
  | succ k ih =>
    obtain ⟨h1, h2⟩ := ih (by omega)
    have ho := List.getElem?_eq_getElem (show k < all.length by omega)
    obtain ⟨m, hm, hst⟩ := hr.at_ hl ho
    obtain ⟨_, V, hp, hS⟩ := drawStep_eq hst
    have same : (quietOp P all[k].op = true ∨ wantedA all (s k).fr all[k].guard = some false) → ∀ j, Laid P all pl.ms s (k + 1) j ↔ Laid P all pl.ms s k j := fun hq j => by
      constructor
      · rintro ⟨i, m', o', hi, ho', hm', hq', hw', hb⟩
        by_cases hik : i = k
        · subst hik
          rw [ho] at ho'; cases ho'
          rcases hq with hq | hq
          · rw [hq] at hq'; cases hq'
          · rw [hq] at hw'; cases hw'
        · exact ⟨i, m', o', by omega, ho', hm', hq', hw', hb⟩
      · rintro ⟨i, m', o', hi, rest⟩
        exact ⟨i, m', o', by omega, rest⟩
    have old : (s (k + 1)).ps = (s k).ps → (∀ en, ¬ Mk P all s k en) → (quietOp P all[k].op = true ∨ wantedA all (s k).fr all[k].guard = some false) →
        (∀ p ∈ (s (k + 1)).ps, p.j < k + 1 ∧ p.b = base + p.j ∧ Mk P all s p.j p.e ∧ ¬ Laid P all pl.ms s (k + 1) p.j) ∧ ∀ j en, j < k + 1 → Mk P all s j en → ¬ Laid P all pl.ms s (k + 1) j → ∃ p ∈ (s (k + 1)).ps, p.j = j ∧ p.e = en := fun hps hno hq => by
      rw [hps]
      refine ⟨fun p hp => ?_, fun j en hj hmk hnl => ?_⟩
      · obtain ⟨q1, q2, q3, q4⟩ := h1 p hp
        exact ⟨by omega, q2, q3, fun hx => q4 ((same hq _).1 hx)⟩
      · by_cases hjk : j = k
        · subst hjk; exact absurd hmk (hno en)
        · exact h2 j en (by omega) hmk fun hx => hnl ((same hq _).2 hx)
    cases hS with
    | off hw hV hh hps hhs =>
      refine old hps (fun en ⟨o', vs', f', b1, b2, b3, _⟩ => ?_) (.inr hw)
      rw [ho] at b1; cases b1
      rw [hw] at b3; cases b3
    | quiet hw vs hvs hq hm' hV hh hhs hps =>
      refine old hps (fun en ⟨o', vs', f', b1, b2, b3, _⟩ => ?_) (.inl hq)
      rw [ho] at b1; cases b1
      rw [hm'] at b2; cases b2
    | made hw vs en f hvs hm' hmk hV hh hhs hps =>
      have hq := makes_quiet (P := P) hm'
      have hmkk : Mk P all s k en := ⟨all[k], vs, f, ho, hm', hw, hvs, hmk⟩
      rw [hps]
      refine ⟨fun p hp => ?_, fun j en' hj hmk' hnl => ?_⟩
      · rcases List.mem_cons.1 hp with rfl | hp
        · refine ⟨Nat.lt_succ_self _, rfl, hmkk, fun ⟨i, m', o', hi, ho', hm2, hq', hw', hb⟩ => ?_⟩
          have := hlt i m' hm2 k hb
          omega
        · obtain ⟨q1, q2, q3, q4⟩ := h1 p hp
          exact ⟨by omega, q2, q3, fun hx => q4 ((same (.inl hq) _).1 hx)⟩
      · by_cases hjk : j = k
        · subst hjk
          exact ⟨_, List.mem_cons_self, rfl, hmkk.inj hmk'⟩
        · obtain ⟨p, hp, q⟩ := h2 j en' (by omega) hmk' fun hx => hnl ((same (.inl hq) _).2 hx)
          exact ⟨p, List.mem_cons_of_mem _ hp, q⟩
    | loud hw vs hvs hq hr' hhs hps =>
      have hnk : ∀ en, ¬ Mk P all s k en := fun en ⟨o', vs', f', b1, b2, b3, _⟩ => by
        rw [ho] at b1; cases b1
        have := makes_quiet (P := P) b2
        rw [hq] at this; cases this
      have hLk : ∀ j, Laid P all pl.ms s (k + 1) j ↔ Laid P all pl.ms s k j ∨ bit m j = true := fun j => by
        constructor
        · rintro ⟨i, m', o', hi, ho', hm', hq', hw', hb⟩
          by_cases hik : i = k
          · subst hik
            rw [hm] at hm'; cases hm'
            exact .inr hb
          · exact .inl ⟨i, m', o', by omega, ho', hm', hq', hw', hb⟩
        · rintro (⟨i, m', o', hi, rest⟩ | hb)
          · exact ⟨i, m', o', by omega, rest⟩
          · exact ⟨k, m, all[k], Nat.lt_succ_self _, ho, hm, hq, hw, hb⟩
      rw [hps]
      refine ⟨fun p hp => ?_, fun j en hj hmk hnl => ?_⟩
      · rw [restOf_mem] at hp
        obtain ⟨q1, q2, q3, q4⟩ := h1 p hp.1
        refine ⟨by omega, q2, q3, fun hx => ?_⟩
        rcases (hLk _).1 hx with hx | hx
        · exact q4 hx
        · rw [hp.2] at hx; cases hx
      · by_cases hjk : j = k
        · subst hjk; exact absurd hmk (hnk en)
        · obtain ⟨p, hp, q1, q2⟩ := h2 j en (by omega) hmk fun hx => hnl ((hLk _).2 (.inl hx))
          refine ⟨p, restOf_mem.2 ⟨hp, ?_⟩, q1, q2⟩
          cases hb : bit m p.j with
          | false => rfl
          | true => rw [q1] at hb; exact absurd ((hLk _).2 (.inr hb)) hnl
omit hr hl
end
end
end
end Go.Xe
end
section
namespace Go.Xe
noncomputable section
def Tk (n : Nat) (listed : Array Bool) (i : Nat) : Prop := i < n ∧ listed.getD i true = true
theorem Tk.set {n j : Nat} {listed : Array Bool} (hs : listed.size = n) (hj : j < n) (i : Nat) : Tk n (listed.setIfInBounds j true) i ↔ Tk n listed i ∨ i = j := by
  unfold Tk
  by_cases hij : i = j
  · subst hij
    simp [Array.getD_eq_getD_getElem?, hs, hj]
  · rw [Array.getD_eq_getD_getElem?, Array.getElem?_setIfInBounds_ne (fun h => hij h.symm), ← Array.getD_eq_getD_getElem?]
    constructor
    · exact fun h => .inl h
    · rintro (h | h)
      · exact h
      · exact absurd h hij
section
variable {P : Program} {I : Known} {self : Option Nat → Code → Fr → AH → R} {pl : Plan} {all : List Oper} {base : Nat} {s : Nat → DS}
structure DrawOk (P : Program) (I : Known) (slf : Option Nat → Code → Fr → AH → R) (pl : Plan) (all : List Oper) (base : Nat) (s : Nat → DS) : Prop where
  run : RunS P I slf pl all base s
  mok : MaskOk all pl.ms
  hops : OpsOk P all pl.ms
  h0s : (s 0).hs = [(s 0).h]
  h0p : (s 0).ps = []
  stay : allStay P all pl.ms (s all.length).fr (s all.length).hs all 0 pl.ms = true
theorem DrawOk.mask {D : DrawOk P I self pl all base s} {j : Nat} {o : Oper} (ho : all[j]? = some o) : ∃ m, pl.ms[j]? = some m := by
  have hk : j < pl.ms.length := by rw [D.mok.len]; exact (List.getElem?_eq_some_iff.1 ho).1
  exact ⟨_, List.getElem?_eq_getElem hk⟩
def Dc (all : List Oper) (ms : List Nat) (S : Nat → Prop) : Prop := ∀ (j m : Nat), S j → ms[j]? = some m → ∀ i, bit m i = true → S i
theorem ready_anc (D : DrawOk P I self pl all base s) {ops : Array Oper} (hall : ops.toList = all) {listed : Array Bool} {md : Region.Mode} {j m : Nat} {o : Oper} (hs : listed.size = all.length) (hj : j ∈ Region.ready md ops listed) (ho : all[j]? = some o) (hm : pl.ms[j]? = some m)
    (hdc : Dc all pl.ms (Tk all.length listed)) : ¬ Tk all.length listed j ∧ ∀ i, bit m i = true → Tk all.length listed i := by
  obtain ⟨hun, oj, hoj, hafter⟩ := mem_ready.1 hj
  have hoj' : all[j]? = some oj := by rw [← hall, Array.getElem?_toList]; exact hoj
  rw [ho] at hoj'; cases hoj'
  refine ⟨fun h => (by have h2 := h.2; rw [hun] at h2; cases h2), fun i hi => ?_⟩
  obtain ⟨e, he, ha, q⟩ := D.mok.up j m o ho hm i hi
  have hon := hafter e (Array.mem_toList_iff.1 he) (always_binds ha)
  have hlt : e.on < listed.size := by
    rcases Nat.lt_or_ge e.on listed.size with h | h
    · exact h
    · rw [Array.getD_eq_getD_getElem?, Array.getElem?_eq_none h] at hon; cases hon
  have hT : Tk all.length listed e.on := by
    refine ⟨by rw [← hs]; exact hlt, ?_⟩
    rw [Array.getD_eq_getD_getElem?, Array.getElem?_eq_getElem hlt] at hon ⊢
    exact hon
  rcases q with rfl | ⟨m', hm', hb⟩
  · exact hT
  · exact hdc e.on m' hT hm' i hb
def vw (all : List Oper) (s : Nat → DS) (S : Nat → Prop) (t : Nat) : AV := by
  classical exact if ∃ (i : Nat) (o : Oper), S i ∧ all[i]? = some o ∧ o.dst = some t then atT (s all.length).fr.t t else atT (s 0).fr.t t
theorem vw_in {S : Nat → Prop} {t i : Nat} {o : Oper} (hS : S i) (ho : all[i]? = some o) (hd : o.dst = some t) : vw all s S t = atT (s all.length).fr.t t := by
  unfold vw
  exact if_pos ⟨i, o, hS, ho, hd⟩
theorem vw_out {S : Nat → Prop} {t : Nat} (h : ∀ (i : Nat) (o : Oper), S i → all[i]? = some o → o.dst ≠ some t) : vw all s S t = atT (s 0).fr.t t := by
  unfold vw
  exact if_neg fun ⟨i, o, a, b, c⟩ => h i o a b c
theorem vw_congr {S S' : Nat → Prop} {t : Nat} (h : ∀ (i : Nat) (o : Oper), all[i]? = some o → o.dst = some t → (S i ↔ S' i)) : vw all s S t = vw all s S' t := by
  by_cases hx : ∃ (i : Nat) (o : Oper), S i ∧ all[i]? = some o ∧ o.dst = some t
  · obtain ⟨i, o, a, b, c⟩ := hx
    rw [vw_in a b c, vw_in ((h i o b c).1 a) b c]
  · rw [vw_out fun i o a b c => hx ⟨i, o, a, b, c⟩, vw_out fun i o a b c => hx ⟨i, o, (h i o b c).2 a, b, c⟩]
structure FrS (e : Env) (all : List Oper) (s : Nat → DS) (S : Nat → Prop) (a : Act) : Prop where
  size : a.tmps.size = (s 0).fr.nt
  at_ : ∀ t, VR e (vw all s S t) (a.tmps.getD t undef)
  ds : DRs e (s 0).fr.ds a.defers
theorem FrS.mono {e e' : Env} (he : e.le e') {S : Nat → Prop} {a : Act} (h : FrS e all s S a) : FrS e' all s S a := ⟨h.size, fun t => (h.at_ t).mono he, h.ds.mono he⟩
theorem slot_now (D : DrawOk P I self pl all base s) {S : Nat → Prop} {j m t : Nat} {o : Oper} (ho : all[j]? = some o) (hm : pl.ms[j]? = some m) (hnj : ¬ S j) (hanc : ∀ i, bit m i = true → S i) (hdc : Dc all pl.ms S) (ht : Operand.tmp t ∈ opnds o.op) :
    vw all s S t = atT (s j).fr.t t := by
  have hj : j < all.length := (List.getElem?_eq_some_iff.1 ho).1
  by_cases hx : ∃ (i : Nat) (oi : Oper), all[i]? = some oi ∧ oi.dst = some t
  · obtain ⟨i, oi, hi, hd⟩ := hx
    obtain ⟨mi, hmi⟩ := D.mask hi
    have huni : ∀ (i' : Nat) (o' : Oper), all[i']? = some o' → o'.dst = some t → i' = i := fun i' o' h1 h2 => dst_alone D.hops D.mok.len h1 hi h2 hd
    by_cases hSi : S i
    · rw [vw_in hSi hi hd]
      have hij : i < j := by
        rcases (D.hops j m o ho hm).tmps t ht i mi oi hi hmi hd with ⟨rfl, _⟩ | hb | ⟨_, hb⟩
        · exact absurd hSi hnj
        · exact D.mok.lt j m hm i hb
        · exact absurd (hdc i mi hSi hmi j hb) hnj
      exact (D.run.done D.mok.len D.hops hi hd hij (Nat.le_of_lt hj)).symm
    · rw [vw_out fun i' o' h1 h2 h3 => hSi (huni i' o' h2 h3 ▸ h1)]
      refine (D.run.undone D.mok.len D.hops (Nat.le_of_lt hj) fun i' o' h1 h2 h3 => ?_).symm
      have := huni i' o' h2 h3
      subst this
      rcases (D.hops j m o ho hm).tmps t ht i' mi oi hi hmi hd with ⟨rfl, _⟩ | hb | ⟨_, hb⟩
      · omega
      · exact hSi (hanc i' hb)
      · have := D.mok.lt i' mi hmi j hb; omega
  · rw [vw_out fun i o _ h2 h3 => hx ⟨i, o, h2, h3⟩]
    exact (D.run.undone D.mok.len D.hops (Nat.le_of_lt hj) fun i o _ h2 h3 => hx ⟨i, o, h2, h3⟩).symm
theorem slot_end (D : DrawOk P I self pl all base s) {S : Nat → Prop} {j m t : Nat} {o : Oper} (ho : all[j]? = some o) (hm : pl.ms[j]? = some m) (hanc : ∀ i, bit m i = true → S i) (hrd : readsOp o.op = true) (ht : Operand.tmp t ∈ opnds o.op) :
    vw all s S t = atT (s all.length).fr.t t := by
  by_cases hx : ∃ (i : Nat) (oi : Oper), all[i]? = some oi ∧ oi.dst = some t
  · obtain ⟨i, oi, hi, hd⟩ := hx
    obtain ⟨mi, hmi⟩ := D.mask hi
    rcases (D.hops j m o ho hm).tmps t ht i mi oi hi hmi hd with ⟨_, hf⟩ | hb | ⟨hf, _⟩
    · rw [hrd] at hf; cases hf
    · exact vw_in (hanc i hb) hi hd
    · rw [hrd] at hf; cases hf
  · rw [vw_out fun i o _ h2 h3 => hx ⟨i, o, h2, h3⟩]
    exact (D.run.undone D.mok.len D.hops (Nat.le_refl _) fun i o _ h2 h3 => hx ⟨i, o, h2, h3⟩).symm
theorem mapO_slots {e : Env} {fr : Fr} {a : Act} : ∀ {xs : List Operand} {vs : List AV}, mapO (fun x => ev x fr) xs = some vs → (∀ t, Operand.tmp t ∈ xs → VR e (atT fr.t t) (a.tmps.getD t undef)) → VRs e vs (xs.map a.eval)
  | [], vs, h, _ => by cases h; exact .nil
  | x :: xs, vs, h, hs => by
    have h' : bnd (ev x fr) (fun y => bnd (mapO (fun x => ev x fr) xs) fun ys => some (y :: ys)) = some vs := h
    rw [bnd_eq] at h'
    obtain ⟨y, hy, h'⟩ := h'
    rw [bnd_eq] at h'
    obtain ⟨ys, hys, h'⟩ := h'
    cases h'
    refine .cons _ _ _ _ ?_ (mapO_slots hys fun t ht => hs t (List.mem_cons_of_mem _ ht))
    cases x with
    | tmp t =>
      have hy' : some (fr.at_ t) = some y := hy
      cases hy'
      rw [at_eq]; exact hs t List.mem_cons_self
    | const c => exact ofValue_sound hy
    | global g => cases hy; exact .gptr g
    | func f => cases hy; exact .func _ _ _ _ _ _ (.same _ rfl) .nil .nil
theorem wanted_slot {e : Env} {ops : Array Oper} {fr : Fr} {a : Act} {o : Oper} {wb : Bool} (h : wantedA ops.toList fr o.guard = some wb)
    (hs : ∀ g oj d, o.guard = some g → ops.toList[g.1]? = some oj → oj.dst = some d → VR e (atT fr.t d) (a.tmps.getD d undef)) : Region.wanted o (yielded ops a.tmps) = wb := by
  unfold Region.wanted
  cases hg : o.guard with
  | none =>
    rw [hg] at h
    have h' : some true = some wb := h
    cases h'; rfl
  | some g =>
    obtain ⟨j, want⟩ := g
    rw [hg] at h
    have h' : bnd (nth ops.toList j) (fun oj => bnd oj.dst fun d => match fr.at_ d with
      | .bool b => some (ite' b want (ite' want false true))
      | .sval _ => none
      | _ => some false) = some wb := h
    rw [bnd_eq] at h'
    obtain ⟨oj, hj, h'⟩ := h'
    rw [bnd_eq] at h'
    obtain ⟨d, hd, h'⟩ := h'
    rw [nth_eq] at hj
    have hv := hs (j, want) oj d hg hj hd
    rw [Array.getElem?_toList] at hj
    have hy : yielded ops a.tmps j = match a.tmps[d]? with | some (.bool b) => some b | _ => none := by
      unfold yielded
      rw [hj]
      simp only [Option.bind_some, hd]
      rfl
    simp only [hy]
    rw [at_eq] at h'
    generalize hx : atT fr.t d = x at h' hv
    have hget : ∀ v, a.tmps[d]? = some v → a.tmps.getD d undef = v := fun v hv => by
      simp [Array.getD_eq_getD_getElem?, hv]
    have hother : (∀ b, x ≠ .bool b) → (∀ i, x ≠ .sval i) → (match a.tmps[d]? with | some (.bool b) => some b | _ => none) = none := fun h1 h2 => by
      cases hq : a.tmps[d]? with
      | none => rfl
      | some v =>
        rw [hget v hq] at hv
        cases v <;> first | rfl | skip
        rename_i b
        cases hv with
        | bool => exact absurd rfl (h1 b)
        | sval i => exact absurd rfl (h2 i)
    cases x with
    | bool b =>
      have h2 : some (ite' b want (ite' want false true)) = some wb := h'
      cases h2
      have hb := vr_bool hv
      have hq : a.tmps[d]? = some (.bool b) := by
        cases hq : a.tmps[d]? with
        | none =>
          have : a.tmps.getD d undef = undef := by simp [Array.getD_eq_getD_getElem?, hq]
          rw [this] at hb; cases hb
        | some v => rw [hget v hq] at hb; rw [hb]
      rw [hq]
      cases b <;> cases want <;> rfl
    | sval i => cases h'
    | _ =>
      have h2 : some false = some wb := h'
      cases h2
      rw [hother (fun _ h => by cases h) (fun _ h => by cases h)]
      rfl
theorem wanted_now (D : DrawOk P I self pl all base s) {e : Env} {ops : Array Oper} (hall : ops.toList = all) {S : Nat → Prop} {j m : Nat} {o : Oper} {a : Act} {wb : Bool} (ho : all[j]? = some o) (hm : pl.ms[j]? = some m) (hanc : ∀ i, bit m i = true → S i) (hF : FrS e all s S a)
    (h : wantedA all (s j).fr o.guard = some wb) : Region.wanted o (yielded ops a.tmps) = wb := by
  have hj : j < all.length := (List.getElem?_eq_some_iff.1 ho).1
  rw [← hall] at h
  refine wanted_slot (e := e) h fun g oj d hg hoj hd => ?_
  rw [hall] at hoj
  obtain ⟨hb, _⟩ := (D.hops j m o ho hm).guard g hg
  have h1 := hF.at_ d
  rw [vw_in (hanc _ hb) hoj hd, ← D.run.done D.mok.len D.hops hoj hd (D.mok.lt j m hm _ hb) (Nat.le_of_lt hj)] at h1
  exact h1
theorem FrS.put (D : DrawOk P I self pl all base s) {e : Env} {S : Nat → Prop} {j : Nat} {o : Oper} {a : Act} {V : AV} {u : Value} (hF : FrS e all s S a) (ho : all[j]? = some o) (hp : (s j).fr.put o.dst V = some (s (j + 1)).fr) (hu : VR e V u) :
    FrS e all s (fun i => S i ∨ i = j) (a.put o.dst u) := by
  have hj : j < all.length := (List.getElem?_eq_some_iff.1 ho).1
  cases hd : o.dst with
  | none =>
    refine ⟨hF.size, fun t => ?_, hF.ds⟩
    have : vw all s (fun i => S i ∨ i = j) t = vw all s S t := vw_congr fun i oi hi hdi => by
      constructor
      · rintro (h | rfl)
        · exact h
        · rw [ho] at hi; cases hi
          rw [hd] at hdi; cases hdi
      · exact .inl
    rw [this]; exact hF.at_ t
  | some d =>
    have hV := D.run.put D.mok.len D.hops ho hp hd
    have hlt : d < a.tmps.size := by
      rw [hF.size, ← (D.run.same D.mok.len (Nat.le_of_lt hj)).1]
      rw [hd] at hp
      have hp' : grd (Nat.blt d (s j).fr.nt) (some (⟨Tr.put (some V) (Nat.succ d) (s j).fr.t d, (s j).fr.nt, (s j).fr.ds⟩ : Fr)) = some (s (j + 1)).fr := hp
      rw [grd_eq, blt_iff] at hp'
      exact hp'.1
    refine ⟨?_, fun t => ?_, hF.ds⟩
    · show (a.tmps.setIfInBounds d u).size = _
      rw [Array.size_setIfInBounds]; exact hF.size
    · show VR e _ ((a.tmps.setIfInBounds d u).getD t undef)
      by_cases htd : t = d
      · subst htd
        rw [vw_in (.inr rfl) ho hd, hV]
        have : (a.tmps.setIfInBounds t u).getD t undef = u := by simp [Array.getD, hlt]
        rw [this]; exact hu
      · have h1 : vw all s (fun i => S i ∨ i = j) t = vw all s S t := vw_congr fun i oi hi hdi => by
          constructor
          · rintro (h | rfl)
            · exact h
            · rw [ho] at hi; cases hi
              rw [hd] at hdi; cases hdi; exact absurd rfl htd
          · exact .inl
        have h2 : (a.tmps.setIfInBounds d u).getD t undef = a.tmps.getD t undef := by
          simp only [Array.getD_eq_getD_getElem?]
          rw [Array.getElem?_setIfInBounds_ne (fun h => htd h.symm)]
        rw [h1, h2]; exact hF.at_ t
end
end
end Go.Xe
end
section
namespace Go.Xe
noncomputable section
section
variable {P : Program} {I : Known} {self : Option Nat → Code → Fr → AH → R} {pl : Plan} {all : List Oper} {base : Nat} {s : Nat → DS}
def Heq (g h : AH) : Prop := (∀ b, g.get b = h.get b) ∧ g.next = h.next ∧ g.fm = h.fm
theorem Heq.refl (g : AH) : Heq g g := ⟨fun _ => rfl, rfl, rfl⟩
theorem Heq.symm {g h : AH} (x : Heq g h) : Heq h g := ⟨fun b => (x.1 b).symm, x.2.1.symm, x.2.2.symm⟩
theorem Heq.trans {g h k : AH} (x : Heq g h) (y : Heq h k) : Heq g k := ⟨fun b => (x.1 b).trans (y.1 b), x.2.1.trans y.2.1, x.2.2.trans y.2.2⟩
def LaidS (P : Program) (all : List Oper) (ms : List Nat) (s : Nat → DS) (S : Nat → Prop) (j : Nat) : Prop :=
  ∃ i m o, S i ∧ all[i]? = some o ∧ ms[i]? = some m ∧ quietOp P o.op = false ∧ wantedA all (s i).fr o.guard = some true ∧ bit m j = true
structure StageOk (P : Program) (I : Known) (slf : Option Nat → Code → Fr → AH → R) (pl : Plan) (all : List Oper) (base : Nat) (s : Nat → DS) (Stg : (Nat → Prop) → AH → Prop) : Prop where
  init : Stg (fun _ => False) (s 0).h
  ext : ∀ (S S' : Nat → Prop) (G : AH), (∀ i, Lp P all i = true → (S i ↔ S' i)) → Stg S G → Stg S' G
  off : ∀ (S : Nat → Prop) (j m : Nat) (o : Oper) (G : AH), Dc all pl.ms S → all[j]? = some o → pl.ms[j]? = some m → quietOp P o.op = false → ¬ S j → (∀ i, bit m i = true → S i) → wantedA all (s j).fr o.guard = some false → Stg S G → Stg (fun i => S i ∨ i = j) G
  loud : ∀ (S : Nat → Prop) (j m : Nat) (o : Oper) (G : AH), Dc all pl.ms S → all[j]? = some o → pl.ms[j]? = some m → quietOp P o.op = false → ¬ S j → (∀ i, bit m i = true → S i) → wantedA all (s j).fr o.guard = some true → Stg S G →
    ∃ hin hout vs V, mapO (fun x => ev x (s j).fr) (opnds o.op) = some vs ∧ (s j).fr.put o.dst V = some (s (j + 1)).fr ∧ opR P I slf o vs hin = some (V, hout) ∧ hin.next = G.next ∧ hin.fm = G.fm ∧
      (∀ b en, hin.get b = some en → (∃ i, b = base + i ∧ Mk P all s i en ∧ bit m i = true ∧ ¬ LaidS P all pl.ms s S i) ∨ G.get b = some en) ∧ Stg (fun i => S i ∨ i = j) hout
  read : ∀ (S : Nat → Prop) (j m : Nat) (o : Oper) (G : AH), Dc all pl.ms S → all[j]? = some o → pl.ms[j]? = some m → quietOp P o.op = true → makesOp o.op = false → readsOp o.op = true → ¬ S j → (∀ i, bit m i = true → S i) → wantedA all (s j).fr o.guard = some true → Stg S G →
    ∃ G' vs V, Heq G' G ∧ mapO (fun x => ev x (s all.length).fr) (opnds o.op) = some vs ∧ valO (opV P o.op vs G') = some V ∧ (s j).fr.put o.dst V = some (s (j + 1)).fr
  fin : ∀ (S : Nat → Prop) (G : AH), (∀ i, i < all.length → S i) → Stg S G → Heq G (s all.length).h
structure Inv (P : Program) (pl : Plan) (all : List Oper) (base : Nat) (s : Nat → DS) (Stg : (Nat → Prop) → AH → Prop) (e0 : Env) (h00 : AH) (w0 : World) (S : Nat → Prop) (a : Act) (w : World) (e : Env) (h G : AH) : Prop where
  sat : Sat e h w.heap
  st : Step e0 h00 w0 e h w
  fr : FrS e all s S a
  dc : Dc all pl.ms S
  stg : Stg S G
  hn : h.next = G.next
  hm : h.fm = G.fm
  get1 : ∀ i en, Mk P all s i en → S i → ¬ LaidS P all pl.ms s S i → h.get (base + i) = some en
  get2 : ∀ b, (∀ i en, b = base + i → Mk P all s i en → S i → LaidS P all pl.ms s S i) → h.get b = G.get b
  ng : ∀ i en, Mk P all s i en → ¬ LaidS P all pl.ms s S i → G.get (base + i) = none
  fresh : ∀ i en, Mk P all s i en → ¬ S i → e.loc (base + i) = none
  nx : ∀ i en, Mk P all s i en → base + i < h.next
variable {Stg : (Nat → Prop) → AH → Prop} {e0 : Env} {h00 : AH} {w0 : World}
theorem Inv.under {S : Nat → Prop} {a : Act} {w : World} {e : Env} {h G : AH} (V : Inv P pl all base s Stg e0 h00 w0 S a w e h G) {b : Nat} {en : Ent} (hb : G.get b = some en) : h.get b = some en := by
  by_cases hx : ∃ i en', b = base + i ∧ Mk P all s i en' ∧ S i ∧ ¬ LaidS P all pl.ms s S i
  · obtain ⟨i, en', rfl, hmk, _, hl⟩ := hx
    rw [V.ng i en' hmk hl] at hb; cases hb
  · rw [V.get2 b fun i en' h1 h2 h3 => Classical.byContradiction fun h4 => hx ⟨i, en', h1, h2, h3, h4⟩]
    exact hb
theorem laidS_quiet {S : Nat → Prop} {j k : Nat} {o : Oper} (ho : all[j]? = some o) (hq : quietOp P o.op = true ∨ wantedA all (s j).fr o.guard = some false) : LaidS P all pl.ms s (fun i => S i ∨ i = j) k ↔ LaidS P all pl.ms s S k := by
  constructor
  · rintro ⟨i, m, o', hS, ho', hm, hq', hw', hb⟩
    rcases hS with hS | rfl
    · exact ⟨i, m, o', hS, ho', hm, hq', hw', hb⟩
    · rw [ho] at ho'; cases ho'
      rcases hq with hq | hq
      · rw [hq] at hq'; cases hq'
      · rw [hq] at hw'; cases hw'
  · rintro ⟨i, m, o', hS, rest⟩
    exact ⟨i, m, o', .inl hS, rest⟩
theorem dc_add {S : Nat → Prop} {j m : Nat} (hdc : Dc all pl.ms S) (hm : pl.ms[j]? = some m) (hanc : ∀ i, bit m i = true → S i) : Dc all pl.ms (fun i => S i ∨ i = j) := by
  intro k m' hk hm' i hi
  rcases hk with hk | rfl
  · exact .inl (hdc k m' hk hm' i hi)
  · rw [hm] at hm'; cases hm'
    exact .inl (hanc i hi)
theorem Inv.value (D : DrawOk P I self pl all base s) (K : StageOk P I self pl all base s Stg) {S : Nat → Prop} {a : Act} {w : World} {e : Env} {h G : AH} (V : Inv P pl all base s Stg e0 h00 w0 S a w e h G) {j m : Nat} {o : Oper} {v : AV} {u : Value}
    (ho : all[j]? = some o) (hm : pl.ms[j]? = some m) (hnj : ¬ S j) (hanc : ∀ i, bit m i = true → S i) (hq : quietOp P o.op = true ∨ wantedA all (s j).fr o.guard = some false) (hmk : ∀ en, ¬ Mk P all s j en)
    (hp : (s j).fr.put o.dst v = some (s (j + 1)).fr) (hu : VR e v u) : Inv P pl all base s Stg e0 h00 w0 (fun i => S i ∨ i = j) (a.put o.dst u) w e h G := by
  have hL : ∀ k, LaidS P all pl.ms s (fun i => S i ∨ i = j) k ↔ LaidS P all pl.ms s S k := fun k => laidS_quiet ho hq
  have hSj : ∀ i en, Mk P all s i en → ((S i ∨ i = j) ↔ S i) := fun i en hk => ⟨fun h => h.elim id fun hx => absurd (hx ▸ hk) (hmk en), .inl⟩
  refine ⟨V.sat, V.st, V.fr.put D ho hp hu, dc_add V.dc hm hanc, ?_, V.hn, V.hm, fun i en h1 h2 h3 => V.get1 i en h1 ((hSj i en h1).1 h2) fun hx => h3 ((hL i).2 hx), fun b hb => V.get2 b fun i en h1 h2 h3 => (hL i).1 (hb i en h1 h2 (.inl h3)),
    fun i en h1 h2 => V.ng i en h1 fun hx => h2 ((hL i).2 hx), fun i en h1 h2 => V.fresh i en h1 fun hx => h2 (.inl hx), V.nx⟩
  by_cases hql : quietOp P o.op = true
  · refine K.ext S _ G (fun i hi => ⟨.inl, fun h => h.elim id fun hx => ?_⟩) V.stg
    obtain ⟨o', ho', hq'⟩ := Lp_iff.1 hi
    rw [hx, ho] at ho'; cases ho'
    rw [hql] at hq'; cases hq'
  · exact K.off S j m o G V.dc ho hm (by simpa using hql) hnj hanc (hq.resolve_left hql) V.stg
theorem quiet_wp {ρ : Option Nat} {o : Oper} {a : Act} {w : World} {e : Env} {v : AV} {next : Act → World → Prop} {Q : Exit → Act → World → Prop} (hnd : ∀ c, o.op ≠ .defer c) (r : Runs P (execOp a.eval o) w (Quiet e w v)) (hk : ∀ u, VR e v u → next (a.put o.dst u) w) :
    o.wpIn (fen ρ) 0 P a w next Q := by
  refine ⟨fun f _ => trivial, ?_⟩
  obtain ⟨n, w', hrun, u, rfl, hu, rfl⟩ := r
  rw [Oper.semAt_eq _ _ _ hnd, hrun, Oper.uponIn_value]
  exact hk u hu
theorem quiet_noDefer {op : Op} (h : quietOp P op = true) : ∀ c, op ≠ .defer c := fun c hx => by subst hx; cases h
theorem loud_noDefer {op : Op} (h : loudOk op = true) : ∀ c, op ≠ .defer c := fun c hx => by subst hx; cases h
theorem Inv.quiet (D : DrawOk P I self pl all base s) (K : StageOk P I self pl all base s Stg) {S : Nat → Prop} {a : Act} {w : World} {e : Env} {h G : AH} (V : Inv P pl all base s Stg e0 h00 w0 S a w e h G) {j m : Nat} {o : Oper}
    (ho : all[j]? = some o) (hm : pl.ms[j]? = some m) (hnj : ¬ S j) (hanc : ∀ i, bit m i = true → S i) (hq : quietOp P o.op = true) (hmk : makesOp o.op = false) (hw : wantedA all (s j).fr o.guard = some true)
    {ρ : Option Nat} {next : Act → World → Prop} {Q : Exit → Act → World → Prop}
    (hk : ∀ a' w' e' h' G', Inv P pl all base s Stg e0 h00 w0 (fun i => S i ∨ i = j) a' w' e' h' G' → next a' w') : o.wpIn (fen ρ) 0 P a w next Q := by
  have hnomk : ∀ en, ¬ Mk P all s j en := fun en ⟨o', vs', f', b1, b2, _⟩ => by
    rw [ho] at b1; cases b1
    rw [hmk] at b2; cases b2
  by_cases hrd : readsOp o.op = true
  · obtain ⟨G', vs, v, hG, hvs, hv, hp⟩ := K.read S j m o G V.dc ho hm hq hmk hrd hnj hanc hw V.stg
    have ha := mapO_slots (e := e) (a := a) hvs fun t ht => by
      have := V.fr.at_ t
      rw [slot_end D ho hm hanc hrd ht] at this
      exact this
    have s' : Sat e G' w.heap := V.sat.sub (fun b en hb => V.under (by rw [← hG.1]; exact hb)) (by rw [V.hn, hG.2.1]; exact Nat.le_refl _) (by rw [V.hm, hG.2.2])
    exact quiet_wp (quiet_noDefer hq) (quiet_sound s' ha hq hmk hv) fun u hu => hk _ w e h G (V.value D K ho hm hnj hanc (.inl hq) hnomk hp hu)
  · have hrd' : readsOp o.op = false := by simpa using hrd
    obtain ⟨m', hm', hst⟩ := D.run.at_ D.mok.len ho
    rw [hm] at hm'; cases hm'
    obtain ⟨_, v, hp, hS⟩ := drawStep_eq hst
    cases hS with
    | off hw' => rw [hw] at hw'; cases hw'
    | made _ vs en f hvs hm' => rw [hmk] at hm'; cases hm'
    | loud _ vs hvs hq' => rw [hq] at hq'; cases hq'
    | quiet _ vs hvs _ _ hv =>
      have ha := mapO_slots (e := e) (a := a) hvs fun t ht => by
        have := V.fr.at_ t
        rw [slot_now D ho hm hnj hanc V.dc ht] at this
        exact this
      exact quiet_wp (quiet_noDefer hq) (quiet_sound V.sat ha hq hmk (quiet_any hq hmk hrd' hv)) fun u hu => hk _ w e h G (V.value D K ho hm hnj hanc (.inl hq) hnomk hp hu)
theorem Inv.made (D : DrawOk P I self pl all base s) (K : StageOk P I self pl all base s Stg) (hb0 : h00.next = base) {S : Nat → Prop} {a : Act} {w : World} {e : Env} {h G : AH} (V : Inv P pl all base s Stg e0 h00 w0 S a w e h G) {j m : Nat} {o : Oper}
    (ho : all[j]? = some o) (hm : pl.ms[j]? = some m) (hnj : ¬ S j) (hanc : ∀ i, bit m i = true → S i) (hmk : makesOp o.op = true) (hw : wantedA all (s j).fr o.guard = some true)
    {ρ : Option Nat} {next : Act → World → Prop} {Q : Exit → Act → World → Prop}
    (hk : ∀ a' w' e' h' G', Inv P pl all base s Stg e0 h00 w0 (fun i => S i ∨ i = j) a' w' e' h' G' → next a' w') : o.wpIn (fen ρ) 0 P a w next Q := by
  have hq := makes_quiet (P := P) hmk
  obtain ⟨m', hm', hst⟩ := D.run.at_ D.mok.len ho
  rw [hm] at hm'; cases hm'
  obtain ⟨_, v, hp, hS⟩ := drawStep_eq hst
  cases hS with
  | off hw' => rw [hw] at hw'; cases hw'
  | quiet _ vs hvs _ hm' => rw [hmk] at hm'; cases hm'
  | loud _ vs hvs hq' => rw [hq] at hq'; cases hq'
  | made _ vs en f hvs _ hme hV hh hhs hps =>
    have ha := mapO_slots (e := e) (a := a) hvs fun t ht => by
      have := V.fr.at_ t
      rw [slot_now D ho hm hnj hanc V.dc ht] at this
      exact this
    have hMk : Mk P all s j en := ⟨o, vs, f, ho, hmk, hw, hvs, hme⟩
    obtain ⟨hol, hfa, hwr, obj, u, x, hrun, hrel⟩ := mk_sound (w := w) ha hme
    have hnl : e.loc (base + j) = none := V.fresh j en hMk hnj
    have hle : e.le (e.at_ (base + j) ⟨w.heap.size, 0, x⟩) := Env.at_le hnl
    obtain ⟨hVR, hEn⟩ := hrel (e.at_ (base + j) ⟨w.heap.size, 0, x⟩) (base + j) h.fm hle (Env.at_self _ _ _)
    obtain ⟨s1, hno⟩ := V.sat.place (x := x) obj (V.nx j en hMk) hnl
    have s2 : Sat (e.at_ (base + j) ⟨w.heap.size, 0, x⟩) (h.set (base + j) en) (w.heap.push obj) :=
      s1.back (fun c => AH.get_set _ _ _ _) rfl rfl (Env.at_self _ _ _) (by simp) hEn hfa hol hno
    have hLj : ¬ LaidS P all pl.ms s S j := fun ⟨i, m', o', hSi, ho', hm', _, _, hb⟩ => hnj (V.dc i m' hSi hm' j hb)
    have hgb : h.get (base + j) = none := by
      rw [V.get2 (base + j) fun i en' h1 h2 h3 => by
        have : i = j := by omega
        subst this; exact absurd h3 hnj]
      exact V.ng j en hMk hLj
    have hL : ∀ k, LaidS P all pl.ms s (fun i => S i ∨ i = j) k ↔ LaidS P all pl.ms s S k := fun k => laidS_quiet ho (.inl hq)
    refine ⟨fun f _ => trivial, ?_⟩
    rw [Oper.semAt_eq _ _ _ (quiet_noDefer hq), hrun, Oper.uponIn_value]
    refine hk _ _ (e.at_ (base + j) ⟨w.heap.size, 0, x⟩) (h.set (base + j) en) G ⟨s2, ?_, (V.fr.mono hle).put D ho hp (hV ▸ hVR), dc_add V.dc hm hanc, ?_, V.hn, V.hm, fun i en' h1 h2 h3 => ?_, fun b hb => ?_,
      fun i en' h1 h2 => V.ng i en' h1 fun hx => h2 ((hL i).2 hx), fun i en' h1 h2 => ?_, V.nx⟩
    · refine ⟨V.st.le.trans hle, V.st.nxt, Nat.le_trans V.st.size (by simp), fun X hX hO => ?_, V.st.os, V.st.tape, V.st.output, fun b l hb => ?_, fun b hb hg => ?_⟩
      · obtain ⟨q1, q2⟩ := V.st.keep X hX hO
        have hXw : X < w.heap.size := Nat.lt_of_lt_of_le hX V.st.size
        refine ⟨?_, fun ⟨c, en2, l2, hc, hl2, hX2⟩ => ?_⟩
        · show (w.heap.push obj)[X]? = _
          rw [Array.getElem?_push, if_neg (by omega)]; exact q1
        · rw [AH.get_set] at hc
          by_cases hcb : c = base + j
          · subst hcb
            rw [Env.at_self] at hl2; cases hl2
            simp only at hX2; omega
          · rw [if_neg hcb] at hc
            rw [Env.at_ne _ hcb] at hl2
            exact q2 ⟨c, en2, l2, hc, hl2, hX2⟩
      · by_cases hcb : b = base + j
        · right; rw [hb0, hcb]; omega
        · rw [Env.at_ne _ hcb] at hb
          exact V.st.new b l hb
      · rw [AH.get_set, if_neg (by rw [hb0] at hb; omega)]
        exact V.st.gone b hb hg
    · refine K.ext S _ G (fun i hi => ⟨.inl, fun h => h.elim id fun hx => ?_⟩) V.stg
      obtain ⟨o', ho', hq'⟩ := Lp_iff.1 hi
      rw [hx, ho] at ho'; cases ho'
      rw [hq] at hq'; cases hq'
    · rw [AH.get_set]
      by_cases hij : i = j
      · subst hij
        rw [if_pos rfl, hMk.inj h1]
      · rw [if_neg (by omega)]
        exact V.get1 i en' h1 (h2.resolve_right hij) fun hx => h3 ((hL i).2 hx)
    · have hbj : b ≠ base + j := fun hx => hLj ((hL j).1 (hb j en hx hMk (.inr rfl)))
      rw [AH.get_set, if_neg hbj]
      exact V.get2 b fun i en' h1 h2 h3 => (hL i).1 (hb i en' h1 h2 (.inl h3))
    · rw [Env.at_ne _ (by intro hx; exact h2 (.inr (by omega)))]
      exact V.fresh i en' h1 fun hx => h2 (.inl hx)
end
end
end Go.Xe
end
