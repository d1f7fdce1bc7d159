/-
  For regions that draw: all orders, and the end; For regions that draw: loud operations that come in one order; For regions that draw: two stores at th. Conditions: none.
-/
import Derived.Test.YtfkeeieoapimlaaGreatDoorYsToYv
set_option linter.unusedVariables false
set_option linter.unusedSimpArgs false
set_option linter.unusedSectionVars false
section
namespace Go.Xe
noncomputable section
section
variable {P : Program} {I : zaR} {self : Option Nat → Code → Fr → AH → R} {pl : Plan} {all : List Oper} {base : Nat} {s : Nat → DS}
variable {Stg : (Nat → Prop) → AH → Prop} {e0 : Env} {h00 : AH} {w0 : World}
theorem Step.sub {e : Env} {h h2 : AH} {w : World} (st : Step e0 h00 w0 e h w) (hsub : ∀ b en, h2.get b = some en → h.get b = some en) (hn : h.next ≤ h2.next) : Step e0 h00 w0 e h2 w := by
 refine ⟨st.le, Nat.le_trans st.nxt hn, st.size, fun X hX hO => ?_, st.os, st.tape, st.output, st.new, fun b hb hg => ?_⟩
 ·obtain ⟨q1, q2⟩ := st.keep X hX hO
  exact ⟨q1, fun ⟨c, en, l, hc, hl, hx⟩ => q2 ⟨c, en, l, hsub c en hc, hl, hx⟩⟩
 ·cases hx : h2.get b with
  | none => rfl
  | some en =>
    have := hsub b en hx
    rw [st.gone b hb hg] at this; cases this
theorem Inv.oper (ok : POk P) (hcall : zbO P (zc7 P I self)) (hround : zcd P (roundA self)) (D : DrawOk P I self pl all base s) (K : StageOk P I self pl all base s Stg) (hb0 : h00.next = base) {ops : Array Oper} (hall : ops.toList = all) {S : Nat → Prop} {a : Act} {w : World} {e : Env} {h G : AH}
  (V : Inv P pl all base s Stg e0 h00 w0 S a w e h G) {j m : Nat} {o : Oper} (ho : all[j]? = some o) (hm : pl.ms[j]? = some m) (hnj : ¬ S j) (hanc : ∀ i, bit m i = true → S i)
  {ρ : Option Nat} (hρ : ∀ (i : Nat) (o : Oper), all[i]? = some o → zaw o.op = true → ρ = none) {next : Act → World → Prop} {Q : Exit → Act → World → Prop}
  (hk : ∀ a' w' e' h' G', Inv P pl all base s Stg e0 h00 w0 (fun i => S i ∨ i = j) a' w' e' h' G' → next a' w') : wpOpIn (fen ρ) 0 P ops Q j next a w := by
 have hj : ops[j]? = some o := by rw [← Array.getElem?_toList, hall]; exact ho
 unfold wpOpIn
 rw [hj]
 simp only []
 obtain ⟨m', hm', hst⟩ := D.run.at_ D.mok.len ho
 rw [hm] at hm'; cases hm'
 obtain ⟨_, v, hp, _, hS⟩ := zaA hst
 cases hS with
 | off hw hV hh hps hhs =>
   rw [if_neg (by rw [zdc D hall ho hm hanc V.fr hw]; simp)]
   refine ⟨fun f _ => trivial, hk _ _ e h G (V.value D K ho hm hnj hanc (.inr hw) (fun en ⟨o', vs', f', b1, b2, b3, _⟩ => ?_) (hV ▸ hp) (fun _ hw' => by rw [hw] at hw'; cases hw') (zcq e))⟩
   rw [ho] at b1; cases b1
   rw [hw] at b3; cases b3
 | made hw vs en f hvs hm' hmk =>
   rw [if_pos (zdc D hall ho hm hanc V.fr hw)]
   exact V.made D K hb0 ho hm hnj hanc hm' hw hk
 | quiet hw vs hvs hq hm' hv =>
   rw [if_pos (zdc D hall ho hm hanc V.fr hw)]
   exact V.quiet D K ho hm hnj hanc hq hm' (zb0 hv) hw hk
 | dfr hw vs hvs hd =>
   rw [if_pos (zdc D hall ho hm hanc V.fr hw)]
   have := hρ j o ho hd
   subst this
   exact V.dfr ok D K ho hm hnj hanc hd hw hk
 | loud hw vs hvs hq =>
   rw [if_pos (zdc D hall ho hm hanc V.fr hw)]
   exact V.loud ok hcall hround D K hb0 ho hm hnj hanc hq hw hk
theorem count_take {listed : Array Bool} {j : Nat} (hj : listed.getD j true = false) : (listed.setIfInBounds j true).toList.count false < listed.toList.count false := by
 have hlt : j < listed.size := by
  rcases Nat.lt_or_ge j listed.size with h | h
  ·exact h
  ·rw [Array.getD_eq_getD_getElem?, Array.getElem?_eq_none h] at hj; cases hj
 have hv : listed.toList[j]'(by simpa using hlt) = false := by
  rw [Array.getD_eq_getD_getElem?, Array.getElem?_eq_getElem hlt] at hj
  simpa using hj
 have hmem : 0 < listed.toList.count false := List.count_pos_iff.2 (hv ▸ List.getElem_mem _)
 rw [Array.toList_setIfInBounds, List.count_set (by simpa using hlt), hv]
 have h2 : (false == false) = true := rfl
 have h3 : (true == false) = false := rfl
 rw [if_pos h2, h3]
 simp only [Bool.false_eq_true, if_false]
 omega
theorem inv_any (ok : POk P) (hcall : zbO P (zc7 P I self)) (hround : zcd P (roundA self)) (D : DrawOk P I self pl all base s) (K : StageOk P I self pl all base s Stg) (hb0 : h00.next = base) {ops : Array Oper} (hall : ops.toList = all) {md : Region.Mode} (htopo : topo (modeN md) all = true)
  {ρ : Option Nat} (hρ : ∀ (i : Nat) (o : Oper), all[i]? = some o → zaw o.op = true → ρ = none) {Q : Exit → Act → World → Prop} (hfin : ∀ (S : Nat → Prop) a w e h G, Inv P pl all base s Stg e0 h00 w0 S a w e h G → (∀ i, i < all.length → S i) → Q .normal a w) :
  ∀ (fuel : Nat) (listed : Array Bool) (a : Act) (w : World) (e : Env) (h G : AH), listed.size = all.length → Inv P pl all base s Stg e0 h00 w0 (Tk all.length listed) a w e h G → listed.toList.count false ≤ fuel → wpAnyIn (fen ρ) 0 P md ops Q fuel listed a w := by
 have hsz : ops.size = all.length := by rw [← hall]; simp
 have hdone : ∀ (listed : Array Bool) (a : Act) (w : World) (e : Env) (h G : AH), listed.size = all.length → Inv P pl all base s Stg e0 h00 w0 (Tk all.length listed) a w e h G → Region.ready md ops listed = [] → Q .normal a w := fun listed a w e h G hs V hr =>
  hfin _ a w e h G V fun i hi => ⟨hi, topo_ready (by rw [hall]; exact htopo) (by rw [hs, hsz]) hr i (by rw [hsz]; exact hi)⟩
 intro fuel
 induction fuel with
 | zero =>
   intro listed a w e h G hs V hc
   have hr : Region.ready md ops listed = [] := by
    cases hr : Region.ready md ops listed with
    | nil => rfl
    | cons j js =>
      have hj : j ∈ Region.ready md ops listed := by rw [hr]; exact List.mem_cons_self
      have := count_take (mem_ready.1 hj).1
      omega
   exact ⟨hr, hdone listed a w e h G hs V hr⟩
 | succ fuel ih =>
   intro listed a w e h G hs V hc
   refine ⟨hdone listed a w e h G hs V, fun j hj => ?_⟩
   obtain ⟨hun, o, ho, _⟩ := mem_ready.1 hj
   have ho' : all[j]? = some o := by rw [← hall, Array.getElem?_toList]; exact ho
   have hjl : j < all.length := (List.getElem?_eq_some_iff.1 ho').1
   obtain ⟨m, hm⟩ := D.mask ho'
   obtain ⟨hnj, hanc⟩ := ready_anc D hall hs hj ho' hm V.dc
   refine V.oper ok hcall hround D K hb0 hall ho' hm hnj hanc hρ fun a' w' e' h' G' V' => ?_
   have hset : (fun i => Tk all.length listed i ∨ i = j) = Tk all.length (listed.setIfInBounds j true) := funext fun i => propext (Tk.set hs hjl i).symm
   rw [hset] at V'
   have := count_take hun
   exact ih _ a' w' e' h' G' (by simpa using hs) V' (by omega)
theorem Inv.fin (D : DrawOk P I self pl all base s) (K : StageOk P I self pl all base s Stg) {S : Nat → Prop} {a : Act} {w : World} {e : Env} {h G : AH} (V : Inv P pl all base s Stg e0 h00 w0 S a w e h G) (hS : ∀ i, i < all.length → S i) :
  Post e0 h00 w0 .normal (s all.length).fr (zc8 (s all.length).ps (s all.length).h) .normal a w := by
 obtain ⟨hF1, hF2, hF3⟩ := K.fin S G hS V.stg
 obtain ⟨hps, _⟩ := D.run.ps D.mok.len D.h0p D.mok.lt (Nat.le_refl all.length)
 obtain ⟨r1, r2⟩ := layAll_rest (s all.length).h (s all.length).ps
 have hLL : ∀ k, zdw P all pl.ms s S k → Laid P all pl.ms s all.length k := fun k ⟨i, m, o, _, ho, rest⟩ => ⟨i, m, o, (List.getElem?_eq_some_iff.1 ho).1, ho, rest⟩
 have hsub : ∀ b en, (zc8 (s all.length).ps (s all.length).h).get b = some en → h.get b = some en := fun b en hb => by
  rcases layAll_get (s all.length).h (s all.length).ps b with ⟨p, hp, q1, q2⟩ | ⟨_, q2⟩
  ·obtain ⟨p1, p2, p3, p4⟩ := hps p hp
   rw [q2] at hb; cases hb
   rw [← q1, p2]
   exact V.get1 p.j p.e p3 (hS _ p1) fun hl => p4 (hLL _ hl)
  ·rw [q2, ← hF1] at hb
   exact V.under hb
 have hn : h.next = (zc8 (s all.length).ps (s all.length).h).next := by rw [r1, ← hF2, V.hn]
 have n1 := D.run.same D.mok.len (Nat.le_refl all.length)
 have n2 : dsW all s S = (s all.length).fr.ds := by
  by_cases hx : ∃ (i : Nat) (o : Oper), all[i]? = some o ∧ zaw o.op = true
  ·obtain ⟨i, o, ho, hd⟩ := hx
   exact dsW_in (hS i (List.getElem?_eq_some_iff.1 ho).1) ho hd
  ·rw [dsW_out fun i o _ b c => hx ⟨i, o, b, c⟩]
   exact (D.run.dsKeep D.mok.len (Nat.zero_le _) (Nat.le_refl _) fun i o _ _ b c => absurd ⟨i, o, b, c⟩ hx).symm
 refine ⟨rfl, e, V.sat.sub hsub (Nat.le_of_eq hn) (by rw [r2, ← hF3, V.hm]), ⟨⟨by rw [V.fr.size, n1], fun t => ?_⟩, by rw [← n2]; exact V.fr.ds⟩, V.st.sub hsub (Nat.le_of_eq hn)⟩
 have h1 := V.fr.at_ t
 by_cases hx : ∃ (i : Nat) (o : Oper), all[i]? = some o ∧ o.dst = some t
 ·obtain ⟨i, o, ho, hd⟩ := hx
  rwa [vw_in (hS i (List.getElem?_eq_some_iff.1 ho).1) ho hd] at h1
 ·rw [vw_out fun i o _ h2 h3 => hx ⟨i, o, h2, h3⟩, ← D.run.undone D.mok.len D.hops (Nat.le_refl _) fun i o _ h2 h3 => hx ⟨i, o, h2, h3⟩] at h1
  exact h1
theorem defersN_get {l : List Oper} {i : Nat} {o : Oper} (ho : l[i]? = some o) (hd : zaw o.op = true) : 1 ≤ zbv l := by
 induction l generalizing i with
 | nil => simp at ho
 | cons x l ih =>
   have h1 : zbv (x :: l) = ite' (zaw x.op) (Nat.succ (zbv l)) (zbv l) := rfl
   cases i with
   | zero =>
     simp at ho; subst ho
     rw [h1, hd, ite'_true]; exact Nat.le_add_left _ _
   | succ i =>
     have := ih (by simpa using ho)
     rw [h1]
     cases zaw x.op
     ·rw [ite'_false]; exact this
     ·rw [ite'_true]; exact Nat.le_succ_of_le this
theorem defersN_one {l : List Oper} (h : zbv l ≤ 1) : ∀ (i j : Nat) (oi oj : Oper), l[i]? = some oi → l[j]? = some oj → zaw oi.op = true → zaw oj.op = true → i = j := by
 induction l with
 | nil => intro i j oi oj hi; simp at hi
 | cons x l ih =>
   intro i j oi oj hi hj hdi hdj
   have h1 : zbv (x :: l) = ite' (zaw x.op) (Nat.succ (zbv l)) (zbv l) := rfl
   rw [h1] at h
   cases hx : zaw x.op with
   | false =>
     rw [hx, ite'_false] at h
     cases i with
     | zero => simp at hi; subst hi; rw [hx] at hdi; cases hdi
     | succ i =>
       cases j with
       | zero => simp at hj; subst hj; rw [hx] at hdj; cases hdj
       | succ j => rw [ih h i j oi oj (by simpa using hi) (by simpa using hj) hdi hdj]
   | true =>
     rw [hx, ite'_true] at h
     have h0 : ∀ (k : Nat) (o : Oper), l[k]? = some o → zaw o.op = true → False := fun k o hk hd => by
      have := defersN_get hk hd
      omega
     cases i with
     | succ i => exact (h0 i oi (by simpa using hi) hdi).elim
     | zero =>
       cases j with
       | succ j => exact (h0 j oj (by simpa using hj) hdj).elim
       | zero => rfl
theorem drawMs_spec {pl : Plan} (h : drawMs P all = some pl) : zbv all ≤ 1 ∧ (∀ md : Region.Mode, topo (modeN md) all = true) ∧ MaskOk all pl.ms ∧ OpsOk P all pl.ms ∧ ((pl.tw = none ∧ zel pl.ms (zcP P all 0) = true) ∨ ∃ t, pl.tw = some t ∧ twinsOf P all pl.ms (zcP P all 0) = some t) := by
 unfold drawMs at h
 rw [zaf, zaf, zaf, zaf, zab] at h
 obtain ⟨tn, t0, t1, t2, ms, hms, h⟩ := h
 rw [zaf, zav] at h
 obtain ⟨hop, h⟩ := h
 refine ⟨Nat.le_of_ble_eq_true tn, fun md => by cases md <;> assumption, ?_⟩
 rcases h with ⟨hc, h⟩ | ⟨hc, h⟩
 ·cases h
  refine ⟨masks_ok hms, fun j m o ho hm => ?_, .inl ⟨rfl, hc⟩⟩
  have := zeK hop j m o ho hm
  rwa [Nat.zero_add] at this
 ·rw [zab] at h
  obtain ⟨t, ht, h⟩ := h
  cases h
  refine ⟨masks_ok hms, fun j m o ho hm => ?_, .inr ⟨t, rfl, ht⟩⟩
  have := zeK hop j m o ho hm
  rwa [Nat.zero_add] at this
def Staged (P : Program) (I : zaR) (self : Option Nat → Code → Fr → AH → R) : Prop :=
 ∀ (pl : Plan) (all : List Oper) (base : Nat) (s : Nat → DS), DrawOk P I self pl all base s → drawMs P all = some pl → ∃ Stg, StageOk P I self pl all base s Stg
theorem anyMk_of {l : List Oper} {j : Nat} {o : Oper} (ho : l[j]? = some o) (hm : zbD o.op = true) : anyMk l = true := by
 induction l generalizing j with
 | nil => simp at ho
 | cons x l ih =>
   have h1 : anyMk (x :: l) = ite' (zbD x.op) true (anyMk l) := rfl
   rw [h1, zcE, Bool.or_eq_true]
   cases j with
   | zero => simp at ho; subst ho; exact .inl hm
   | succ j => exact .inr (ih (by simpa using ho))
theorem draw_good (ok : POk P) (hI : KnownOk P I) (hg : Good P self) (hst : Staged P I self) : GoodDraw P (drawB P I self) := by
 have hcall := zeG (I := I) ok hg hI
 have hround := round_sound hg
 intro rd id ops fr h x fr' h' hr e a w ρ sat hf hrr
 have hρ : ∀ (i : Nat) (o : Oper), ops.toList[i]? = some o → zaw o.op = true → ρ = none := fun i o ho hd => by
  rcases hrr with ⟨_, hq⟩ | ⟨l, L, hq, _⟩
  ·exact hq
  ·subst hq
   have h3 : ite' (Nat.beq (zbv ops.toList) 0) (drawA P I self ops.toList fr h) (.no "defer in a round") = R.ok x fr' h' := hr
   have h4 := defersN_get ho hd
   have h5 : Nat.beq (zbv ops.toList) 0 = false := by
    cases hb : Nat.beq (zbv ops.toList) 0 with
    | false => rfl
    | true => have := Nat.eq_of_beq_eq_true hb; omega
   rw [h5, ite'_false] at h3
   cases h3
 have hr' : drawA P I self ops.toList fr h = .ok x fr' h' := by
  cases rd with
  | none => exact hr
  | some l =>
    have h3 : ite' (Nat.beq (zbv ops.toList) 0) (drawA P I self ops.toList fr h) (.no "defer in a round") = R.ok x fr' h' := hr
    cases hb : Nat.beq (zbv ops.toList) 0 with
    | true => rw [hb, ite'_true] at h3; exact h3
    | false => rw [hb, ite'_false] at h3; cases h3
 unfold drawA at hr'
 generalize hx : (bnd (drawMs P ops.toList) fun pl => frc h.next fun base => frc (Nat.add base (ite' (anyMk ops.toList) (len ops.toList) 0)) fun nx =>
   bnd (runDraw P I self pl ops.toList base ops.toList 0 pl.ms ⟨fr, ⟨nx, h.t, h.fb, h.fam⟩, [⟨nx, h.t, h.fb, h.fam⟩], []⟩) fun s =>
    grd (allStay P ops.toList pl.ms s.fr s.hs ops.toList 0 pl.ms) (some s)) = r at hr'
 cases r with
 | none => cases hr'
 | some sF =>
   have hr2 : R.ok .normal sF.fr (zc8 sF.ps sF.h) = .ok x fr' h' := hr'
   rw [zab] at hx
   obtain ⟨pl, hpl, hx⟩ := hx
   rw [zaG, zaG, zab] at hx
   obtain ⟨s', hrun, hx⟩ := hx
   rw [zaf] at hx
   obtain ⟨hstay, hx⟩ := hx
   cases hx
   obtain ⟨nx, hnx⟩ : ∃ nx, nx = Nat.add h.next (ite' (anyMk ops.toList) (len ops.toList) 0) := ⟨_, rfl⟩
   rw [← hnx] at hrun
   have hle : h.next ≤ nx := by rw [hnx]; exact Nat.le_add_right _ _
   obtain ⟨hone, htopo, hmok, hops, hkind⟩ := drawMs_spec hpl
   obtain ⟨s, hs0, hsF, hstep⟩ := zep ops.toList 0 pl.ms _ _ hrun
   have D : DrawOk P I self pl ops.toList h.next s := ⟨⟨fun k m o ho hm => by
    have := hstep k m o ho hm
    rwa [Nat.zero_add] at this⟩, hmok, hops, by rw [hs0], by rw [hs0], defersN_one hone, by rw [hsF]; exact hstay⟩
   obtain ⟨Stg, K⟩ := hst pl ops.toList h.next s D hpl
   obtain ⟨h1, hh1⟩ : ∃ h1 : AH, h1 = ⟨nx, h.t, h.fb, h.fam⟩ := ⟨_, rfl⟩
   have hg1 : ∀ b, h1.get b = h.get b := fun b => by rw [hh1]; rfl
   have hn1 : h1.next = nx := by rw [hh1]
   have s1 : Sat e h1 w.heap := sat.sub (fun b en hb => by rw [← hg1]; exact hb) (by rw [hn1]; exact hle) (by rw [hh1]; rfl)
   have hs0h : (s 0).h = h1 := by rw [hs0, hh1]
   have hs0f : (s 0).fr = fr := by rw [hs0]
   have hmk : ∀ i en, Mk P ops.toList s i en → h.next + i < nx := fun i en hk => by
    have hlt := hk.lt
    obtain ⟨o, vs, f, ho, hm, _⟩ := hk
    rw [hnx, anyMk_of ho hm, ite'_true, zaH]
    exact Nat.add_lt_add_left hlt _
   have hun : ∀ i, h.get (h.next + i) = none := fun i => by
    cases hgt : h.get (h.next + i) with
    | none => rfl
    | some en =>
      obtain ⟨L, _, hl, _⟩ := sat.ents _ _ hgt
      have := (sat.locs _ _ hl).1
      omega
   have hfr : ∀ i, e.loc (h.next + i) = none := fun i => by
    cases hl : e.loc (h.next + i) with
    | none => rfl
    | some l =>
      have := (sat.locs _ _ hl).1
      omega
   have hst1 : ∀ w1 : World, w1.heap = w.heap → w1.os = w.os → w1.tape = w.tape → w1.output = w.output → Step e h w e h1 w1 := fun w1 a1 a2 a3 a4 =>
    ⟨.refl e, by rw [hn1]; exact hle, by rw [a1]; exact Nat.le_refl _, fun X hX hO => ⟨by rw [a1], fun ⟨c, en, l, hc, hl, hx⟩ => hO ⟨c, en, l, by rw [← hg1]; exact hc, hl, hx⟩⟩, a2, a3, a4, fun _ _ h => .inl h, fun b _ hgb => by rw [hg1]; exact hgb⟩
   have key : ∀ (md : Region.Mode), wpAnyIn (fen ρ) 0 P md ops (Post e h w .normal (s ops.toList.length).fr (zc8 (s ops.toList.length).ps (s ops.toList.length).h)) ops.size (Array.replicate ops.size false) a { w with drawn := w.drawn + 1 } := fun md => by
    have hT : Tk ops.toList.length (Array.replicate ops.size false) = fun _ => False := funext fun i => propext ⟨fun ⟨h1, h2⟩ => by
     have : i < ops.size := by simpa using h1
     simp [Array.getD_eq_getD_getElem?, this] at h2, fun h => h.elim⟩
    refine inv_any (e0 := e) (h00 := h) (w0 := w) ok hcall hround D K rfl rfl (htopo md) hρ (fun S a' w' e' h' G' V hS => V.fin D K hS) ops.size _ a _ e h1 h1 (by simp) ?_ (by simp)
    rw [hT]
    refine ⟨s1, hst1 _ rfl rfl rfl rfl, ⟨?_, fun t => ?_, ?_⟩, fun j m hj => hj.elim, ?_, rfl, rfl, fun i en _ hS => hS.elim, fun b _ => rfl, fun i en _ _ => (hg1 _).trans (hun i), fun i en _ _ => hfr i, fun i en hk => by rw [hn1]; exact hmk i en hk⟩
    ·rw [hs0f]; exact hf.tmps.size
    ·rw [vw_out (fun i o hS => hS.elim), hs0f]; exact hf.tmps.at_ t
    ·rw [dsW_out fun i o hS => hS.elim, hs0f]; exact hf.ds
    ·have := K.init
     rwa [hs0h] at this
   cases hr2
   rw [← hsF]
   refine wpIn_region_draw fun t => ?_
   have q : ∀ md t, wpOpsIn (fen ρ) 0 P ops (Post e h w .normal (s ops.toList.length).fr (zc8 (s ops.toList.length).ps (s ops.toList.length).h)) (Region.linearise md ops t) a { w with drawn := w.drawn + 1 } := fun md t => wpAnyIn_sound ops.size t _ a _ (key md)
   unfold Region.schedule
   split
   ·exact q _ _
   ·split
    ·exact q _ _
    ·exact q _ _
end
end
end Go.Xe
end
section
namespace Go.Xe
noncomputable section
section
variable {P : Program} {I : zaR} {self : Option Nat → Code → Fr → AH → R} {pl : Plan} {all : List Oper} {base : Nat} {s : Nat → DS}
theorem DrawOk.keepH (D : DrawOk P I self pl all base s) {k k' : Nat} (hkk : k ≤ k') (hk : k' ≤ all.length) (hn : ∀ i, k ≤ i → i < k' → Lp P all i = false) : (s k').h = (s k).h := by
 induction k' with
 | zero => rw [show k = 0 by omega]
 | succ k' ih =>
   by_cases h : k = k' + 1
   ·rw [h]
   ·have ho := List.getElem?_eq_getElem (show k' < all.length by omega)
    obtain ⟨m, hm, hst⟩ := D.run.at_ D.mok.len ho
    obtain ⟨_, V, hp, hds, hS⟩ := zaA hst
    have ih' := ih (by omega) (by omega) fun i h1 h2 => hn i h1 (by omega)
    have hq : zan P all[k'].op = true := by
     have := hn k' (by omega) (by omega)
     unfold Lp at this
     rw [ho] at this
     simpa using this
    cases hS with
    | off hw hV hh hps hhs => rw [hh, ih']
    | made hw vs en f hvs hm' hmk hV hh hhs hps => rw [hh, ih']
    | quiet hw vs hvs hq' hm' hV hh hhs hps => rw [hh, ih']
    | dfr hw vs hvs hd d hdf hV hds hh hhs hps => rw [hh, ih']
    | loud hw vs hvs hq' hr' hhs hps => rw [hq] at hq'; cases hq'
theorem DrawOk.loudAt (D : DrawOk P I self pl all base s) {S : Nat → Prop} {j m : Nat} {o : Oper} (ho : all[j]? = some o) (hm : pl.ms[j]? = some m) (hq : zan P o.op = false) (hw : zau all (s j).fr o.guard = some true)
  (hpre : ∀ i, Lp P all i = true → S i → i < j) :
  ∃ hin hout vs V, mapO (fun x => ev x (s j).fr) (zbb o.op) = some vs ∧ (s j).fr.put o.dst V = some (s (j + 1)).fr ∧ opR P I self o vs hin = some (V, hout) ∧ hin.next = (s j).h.next ∧ hin.fm = (s j).h.fm ∧
    (∀ b en, hin.get b = some en → (∃ i, b = base + i ∧ Mk P all s i en ∧ bit m i = true ∧ ¬ zdw P all pl.ms s S i) ∨ (s j).h.get b = some en) ∧ hout = (s (j + 1)).h := by
 have hj : j < all.length := (List.getElem?_eq_some_iff.1 ho).1
 obtain ⟨m', hm', hst⟩ := D.run.at_ D.mok.len ho
 rw [hm] at hm'; cases hm'
 obtain ⟨_, V, hp, hds, hS⟩ := zaA hst
 cases hS with
 | off hw' => rw [hw] at hw'; cases hw'
 | made _ vs en f hvs hm' => rw [zbo hm'] at hq; cases hq
 | quiet _ vs hvs hq' => rw [hq] at hq'; cases hq'
 | dfr _ vs hvs hd => rw [zaT hd] at hq; cases hq
 | loud _ vs hvs _ hr hhs hps =>
   replace hp := hp.back (hds.resolve_right fun hd => by rw [zaT hd.1] at hq; cases hq)
   obtain ⟨q1, q2⟩ := laySome_rest m (s j).h (s j).ps
   refine ⟨_, _, vs, V, hvs, hp, hr, q1, q2, fun b en hb => ?_, rfl⟩
   rcases zeL m (s j).h (s j).ps b with ⟨p, hp', p1, p2, p3⟩ | ⟨_, p2⟩
   ·obtain ⟨r1, r2, r3, r4⟩ := (D.run.ps D.mok.len D.h0p D.mok.lt (Nat.le_of_lt hj)).1 p hp'
    rw [p3] at hb; cases hb
    refine .inl ⟨p.j, by rw [← p2, r2], r3, p1, fun ⟨i, mi, oi, hSi, hoi, hmi, hqi, rest⟩ => r4 ⟨i, mi, oi, hpre i (zeo.2 ⟨oi, hoi, hqi⟩) hSi, hoi, hmi, hqi, rest⟩⟩
   ·rw [p2] at hb
    exact .inr hb
theorem DrawOk.offAt (D : DrawOk P I self pl all base s) {j m : Nat} {o : Oper} (ho : all[j]? = some o) (hm : pl.ms[j]? = some m) (hw : zau all (s j).fr o.guard = some false) : (s (j + 1)).h = (s j).h := by
 obtain ⟨m', hm', hst⟩ := D.run.at_ D.mok.len ho
 rw [hm] at hm'; cases hm'
 obtain ⟨_, V, hp, hds, hS⟩ := zaA hst
 cases hS with
 | off hw' hV hh => exact hh
 | made hw' => rw [hw] at hw'; cases hw'
 | quiet hw' => rw [hw] at hw'; cases hw'
 | dfr hw' => rw [hw] at hw'; cases hw'
 | loud hw' => rw [hw] at hw'; cases hw'
theorem countP_lt {q : Nat → Bool} {k : Nat} : ∀ {n : Nat}, k ≤ n → (List.range n).countP (fun i => q i && decide (i < k)) = (List.range k).countP q := by
 intro n hk
 induction n with
 | zero => rw [show k = 0 by omega]; rfl
 | succ n ih =>
   rw [List.range_succ, List.countP_append, List.countP_singleton]
   by_cases h : k = n + 1
   ·subst h
    rw [List.range_succ, List.countP_append, List.countP_singleton]
    congr 1
    ·refine List.countP_congr fun i hi => ?_
     have := List.mem_range.1 hi
     simp
     omega
    ·simp
   ·rw [ih (by omega)]
    have : ¬ n < k := by omega
    simp [this]
theorem DrawOk.guardEnd (D : DrawOk P I self pl all base s) {j m : Nat} {o : Oper} (ho : all[j]? = some o) (hm : pl.ms[j]? = some m) : zau all (s all.length).fr o.guard = zau all (s j).fr o.guard := by
 have hj : j < all.length := (List.getElem?_eq_some_iff.1 ho).1
 cases hg : o.guard with
 | none => rfl
 | some g =>
   obtain ⟨hb, oi, d, hoi, hd⟩ := (D.hops j m o ho hm).guard g hg
   have hat : (s all.length).fr.at_ d = (s j).fr.at_ d := by
    rw [at_eq, at_eq]
    exact (D.run.done D.mok.len D.hops hoi hd (D.mok.lt j m hm _ hb) (Nat.le_of_lt hj)).symm
   have h1 : ∀ fr : Fr, zau all fr (some g) = bnd (nth all g.1) (fun oj => bnd oj.dst fun d => match fr.at_ d with
    | .bool b => some (ite' b g.2 (ite' g.2 false true))
    | .sval _ => none
    | _ => some false) := fun fr => rfl
   rw [h1, h1, za3, hoi, bnd_some, bnd_some, hd, bnd_some, bnd_some, hat]
theorem DrawOk.readAt (D : DrawOk P I self pl all base s) {S : Nat → Prop} {j m k : Nat} {o : Oper} (hdc : Dc all pl.ms S) (ho : all[j]? = some o) (hm : pl.ms[j]? = some m) (hq : zan P o.op = true) (hr : zbC o.op = true) (hnj : ¬ S j) (hanc : ∀ i, bit m i = true → S i)
  (hw : zau all (s j).fr o.guard = some true) (hk : k ≤ all.length) (hS : ∀ i, Lp P all i = true → (S i ↔ i < k)) :
  ∃ vs V, mapO (fun x => ev x (s all.length).fr) (zbb o.op) = some vs ∧ valO (opV P o.op vs (s k).h) = some V ∧ (s j).fr.put o.dst V = some (s (j + 1)).fr := by
 have hst := allStay_get D.stay j m o ho hm
 rw [Nat.zero_add] at hst
 unfold staysAt at hst
 rw [zaj, hq, hr, D.guardEnd ho hm, hw] at hst
 simp only [Bool.and_self] at hst
 rw [ite'_true] at hst
 rw [oE_some, ite'_true] at hst
 generalize hbt : between (s all.length).hs (loudIn P m all 0) (zeX P j all pl.ms) = bt at hst
 cases bt with
 | none => cases hst
 | some l =>
   rw [oE_some] at hst
   have hmem : (s k).h ∈ l := by
    have hx := D.run.hs_pre D.mok.len hk (Nat.le_refl _) (D.run.hs D.mok.len D.h0s hk).2
    refine between_get hbt ?_ ?_ hx
    ·rw [loudIn_eq (all := all) (by rw [List.drop_zero]), ← List.range_eq_range', ← countP_lt hk]
     refine List.countP_mono_left fun i _ hi => ?_
     rw [Bool.and_eq_true] at hi ⊢
     exact ⟨hi.1, decide_eq_true ((hS i hi.1).1 (hanc i hi.2))⟩
    ·rw [loudFree_eq (all := all) (ms := pl.ms) (by rw [List.drop_zero]) (by rw [List.drop_zero]) D.mok.len, ← List.range_eq_range', ← countP_lt hk]
     refine List.countP_mono_left fun i _ hi => ?_
     rw [Bool.and_eq_true, decide_eq_true_eq] at hi
     rw [Bool.and_eq_true]
     refine ⟨hi.1, ?_⟩
     have hSi := (hS i hi.1).2 hi.2
     cases hmi : pl.ms[i]? with
     | none => rfl
     | some mi =>
       cases hb : bit mi j with
       | false => simp [hb]
       | true => exact absurd (hdc i mi hSi hmi j hb) hnj
   unfold stays at hst
   have h1 := zfc.1 hst _ hmem
   cases hd : o.dst with
   | none => rw [hd] at h1; cases h1
   | some d =>
     rw [hd, oE_some] at h1
     unfold valIs at h1
     unfold opVs at h1
     cases hvs : mapO (fun x => ev x (s all.length).fr) (zbb o.op) with
     | none => rw [hvs] at h1; cases h1
     | some vs =>
       rw [hvs, oE_some] at h1
       cases hv : valO (opV P o.op vs (s k).h) with
       | none => rw [hv] at h1; cases h1
       | some u =>
         rw [hv, oE_some] at h1
         have hu := sameAV_eq h1
         obtain ⟨m', hm', hstp⟩ := D.run.at_ D.mok.len ho
         obtain ⟨_, V, hp, hds, _⟩ := zaA hstp
         replace hds := hds.resolve_right fun h => by rw [defer_reads h.1] at hr; cases hr
         have hV := D.run.put D.mok.len D.hops ho hp hd
         rw [hd] at hp
         refine ⟨vs, u, rfl, hv, ?_⟩
         rw [← hu, at_eq, hV]
         exact hp.back hds
def StgC (P : Program) (all : List Oper) (s : Nat → DS) (S : Nat → Prop) (G : AH) : Prop := ∃ k, k ≤ all.length ∧ (∀ i, Lp P all i = true → (S i ↔ i < k)) ∧ Heq G (s k).h
theorem StgC.next (D : DrawOk P I self pl all base s) {S : Nat → Prop} {j : Nat} {o : Oper} {G : AH} (hG : StgC P all s S G) (ho : all[j]? = some o) (hq : zan P o.op = false) (hnj : ¬ S j) (hbef : ∀ i, Lp P all i = true → i < j → S i) :
  Heq G (s j).h ∧ (∀ i, Lp P all i = true → S i → i < j) ∧ ∀ i, Lp P all i = true → ((S i ∨ i = j) ↔ i < j + 1) := by
 obtain ⟨k, hk, hS, hg⟩ := hG
 have hj : j < all.length := (List.getElem?_eq_some_iff.1 ho).1
 have hL : Lp P all j = true := zeo.2 ⟨o, ho, hq⟩
 have hkj : k ≤ j := Nat.le_of_not_lt fun h => hnj ((hS j hL).2 h)
 have hlt : ∀ i, Lp P all i = true → S i → i < j := fun i hi hSi => by
  have := (hS i hi).1 hSi
  omega
 refine ⟨?_, hlt, fun i hi => ⟨fun h => ?_, fun h => ?_⟩⟩
 ·rw [D.keepH hkj (Nat.le_of_lt hj) fun i h1 h2 => ?_]
  ·exact hg
  ·cases hx : Lp P all i with
   | false => rfl
   | true =>
     have := (hS i hx).1 (hbef i hx h2)
     omega
 ·rcases h with h | rfl
  ·have := hlt i hi h; omega
  ·omega
 ·by_cases hij : i = j
  ·exact .inr hij
  ·exact .inl (hbef i hi (by omega))
theorem zcV (D : DrawOk P I self pl all base s) {l : List Nat} (hl : l.Pairwise (· < ·)) (hc : zel pl.ms l = true) {S : Nat → Prop} {j m : Nat} (hm : pl.ms[j]? = some m) (hanc : ∀ i, bit m i = true → S i) (hj : j ∈ l) : ∀ i, i ∈ l → i < j → S i := fun i hi hij => by
 obtain ⟨m', hm', hb⟩ := pair_lt hl (chainL_spec hc) hi hj hij
 rw [hm] at hm'; cases hm'
 exact hanc i hb
theorem chain_stage (D : DrawOk P I self pl all base s) (hc : zel pl.ms (zcP P all 0) = true) : StageOk P I self pl all base s (StgC P all s) := by
 have hin : ∀ i, Lp P all i = true → i ∈ zcP P all 0 := fun i hi => zfd.2 ⟨Nat.zero_le _, by simpa using hi⟩
 have hbef : ∀ (S : Nat → Prop) (j m : Nat) (o : Oper), all[j]? = some o → pl.ms[j]? = some m → zan P o.op = false → (∀ i, bit m i = true → S i) → ∀ i, Lp P all i = true → i < j → S i := fun S j m o ho hm hq hanc i hi hij =>
  zcV D zce hc hm hanc (hin j (zeo.2 ⟨o, ho, hq⟩)) i (hin i hi) hij
 refine ⟨⟨0, Nat.zero_le _, fun i _ => ⟨fun h => h.elim, fun h => (by omega)⟩, .refl _⟩, ?_, ?_, ?_, ?_, ?_⟩
 ·rintro S S' G hSS ⟨k, hk, hS, hG⟩
  exact ⟨k, hk, fun i hi => (hSS i hi).symm.trans (hS i hi), hG⟩
 ·intro S j m o G hdc ho hm hq hnj hanc hw hG
  obtain ⟨h1, h2, h3⟩ := hG.next D ho hq hnj (hbef S j m o ho hm hq hanc)
  exact ⟨j + 1, (List.getElem?_eq_some_iff.1 ho).1, h3, by rw [D.offAt ho hm hw]; exact h1⟩
 ·intro S j m o G hdc ho hm hq hnj hanc hw hG
  obtain ⟨h1, h2, h3⟩ := hG.next D ho hq hnj (hbef S j m o ho hm hq hanc)
  obtain ⟨hin, hout, vs, V, a1, a2, a3, a4, a5, a6, a7⟩ := D.loudAt (S := S) ho hm hq hw h2
  refine ⟨hin, hout, vs, V, a1, a2, a3, a4.trans h1.2.1.symm, a5.trans h1.2.2.symm, fun b en hb => (a6 b en hb).imp id fun h => by rw [h1.1]; exact h, j + 1, (List.getElem?_eq_some_iff.1 ho).1, h3, by rw [a7]; exact .refl _⟩
 ·rintro S j m o G hdc ho hm hq hmk hr hnj hanc hw ⟨k, hk, hS, hG⟩
  obtain ⟨vs, V, b1, b2, b3⟩ := D.readAt hdc ho hm hq hr hnj hanc hw hk hS
  exact ⟨_, vs, V, hG.symm, b1, b2, b3⟩
 ·rintro S G hall ⟨k, hk, hS, hG⟩
  rw [D.keepH hk (Nat.le_refl _) fun i h1 h2 => ?_]
  ·exact hG
  ·cases hx : Lp P all i with
   | false => rfl
   | true =>
     have := (hS i hx).1 (hall i h2)
     omega
end
end
end Go.Xe
end
section
namespace Go.Xe
noncomputable section
section
variable {P : Program} {I : zaR} {self : Option Nat → Code → Fr → AH → R} {pl : Plan} {all : List Oper} {base : Nat} {s : Nat → DS}
structure TwinOk (P : Program) (all : List Oper) (ms : List Nat) (x : List Nat) (i1 i2 m1 m2 : Nat) (o1 o2 : Oper) : Prop where
 l : zcP P all 0 = x ++ [i1, i2]
 c1 : zel ms (x ++ [i1]) = true
 c2 : zel ms (x ++ [i2]) = true
 a1 : all[i1]? = some o1
 a2 : all[i2]? = some o2
 h1 : ms[i1]? = some m1
 h2 : ms[i2]? = some m2
 s1 : isStore o1.op = true
 s2 : isStore o2.op = true
 r2 : zdF P m2 all 0 = true
 g1 : o1.guard = none
 g2 : o2.guard = none
 strict : ∀ y ∈ zbb o1.op, tmpOk i1 m1 true all ms y = true
theorem opAt_spec {l : List Oper} {j : Nat} {p : Op → Bool} (h : opAt l j p = true) : ∃ o, l[j]? = some o ∧ p o.op = true := by
 unfold opAt at h
 rw [za3] at h
 cases ho : l[j]? with
 | none => rw [ho] at h; cases h
 | some o => rw [ho, oE_some] at h; exact ⟨o, rfl, h⟩
theorem twins_spec {t : Nat × Nat} {l : List Nat} {ms : List Nat} (hl : l = zcP P all 0) (h : twinsOf P all ms l = some t) : ∃ x m1 m2 o1 o2, TwinOk P all ms x t.1 t.2 m1 m2 o1 o2 := by
 unfold twinsOf at h
 rw [zab] at h
 obtain ⟨⟨x, i1, i2⟩, hx, h⟩ := h
 rw [zaf, zaf, zaf, zaf, zab] at h
 obtain ⟨c1, c2, p1, p2, m1, hm1, h⟩ := h
 rw [zab] at h
 obtain ⟨m2, hm2, h⟩ := h
 rw [zaf, zaf, zaf, zaf, zaf] at h
 obtain ⟨r1, r2, g1, g2, st, h⟩ := h
 cases h
 simp only [zcn] at c1 c2
 obtain ⟨o1, a1, q1⟩ := opAt_spec p1
 obtain ⟨o2, a2, q2⟩ := opAt_spec p2
 refine ⟨x, m1, m2, o1, o2, by rw [← hl]; exact last2_spec hx, c1, c2, a1, a2, by rw [← za3]; exact hm1, by rw [← za3]; exact hm2, q1, q2, r2, ?_, ?_, ?_⟩
 ·unfold noGuard at g1
  rw [za3, a1, oE_some] at g1
  cases hg : o1.guard with
  | none => rfl
  | some g => rw [hg] at g1; cases g1
 ·unfold noGuard at g2
  rw [za3, a2, oE_some] at g2
  cases hg : o2.guard with
  | none => rfl
  | some g => rw [hg] at g2; cases g2
 ·unfold strictAt at st
  rw [za3, a1, oE_some, zfc] at st
  exact st
theorem noPend_spec {m1 m2 : Nat} {ps : List Pend} (h : noPend m1 m2 ps = true) : ∀ p ∈ ps, bit m1 p.j = false ∧ bit m2 p.j = false := fun p hp => by
 have h1 : ite' (bit m1 p.j) false (ite' (bit m2 p.j) false true) = true := zfc.1 h p hp
 rw [zaB, zaB] at h1
 cases h2 : bit m1 p.j <;> cases h3 : bit m2 p.j <;> simp [h2, h3] at h1 ⊢
theorem zfR {m : Nat} {h : AH} : ∀ {ps : List Pend}, (∀ p ∈ ps, bit m p.j = false) → zbw m ps h = h
 | [], _ => rfl
 | q :: ps, hp => by
   have h1 : zbw m (q :: ps) h = ite' (bit m q.j) ((zbw m ps h).set q.b q.e) (zbw m ps h) := rfl
   rw [h1, hp q List.mem_cons_self, ite'_false, zfR fun p hp' => hp p (List.mem_cons_of_mem _ hp')]
theorem zf7 : ∀ {hs : List AH} {x : AH}, before1 hs = some x → 2 ≤ hs.length ∧ hs[hs.length - 2]? = some x
 | [], x, h => by cases h
 | [a], x, h => by cases h
 | [a, b], x, h => by
   have h' : some a = some x := h
   cases h'
   exact ⟨Nat.le_refl _, rfl⟩
 | a :: b :: c :: l, x, h => by
   have h' : before1 (b :: c :: l) = some x := h
   obtain ⟨h1, h2⟩ := zf7 h'
   refine ⟨by simp, ?_⟩
   simp only [List.length_cons] at h2 ⊢
   rw [show l.length + 1 + 1 + 1 - 2 = (l.length + 1 + 1 - 2) + 1 by omega, List.getElem?_cons_succ]
   exact h2
structure StoreAt (P : Program) (I : zaR) (slf : Option Nat → Code → Fr → AH → R) (o : Oper) (vs : List AV) (b : Nat) (en en' : Ent) (olds : List Nat) : Prop where
 oldsEq : oldsOf en = some olds
 at_ : ∀ g : AH, g.get b = some en → ∃ g', opR P I slf o vs g = some (zaK, g') ∧ g'.next = g.next ∧ g'.fm = g.fm ∧ ∀ c, g'.get c = if c = b then some en' else if c ∈ olds then none else g.get c
theorem store_at {o : Oper} (hst : isStore o.op = true) {vs : List AV} {h h' : AH} {V : AV} (hr : opR P I self o vs h = some (V, h')) :
  ∃ x y b off en en' olds, vs = [x, y] ∧ x = .ptr b off ∧ V = zaK ∧ h.get b = some en ∧ StoreAt P I self o vs b en en' olds := by
 obtain ⟨dst, op, ty, pos, af, gd⟩ := o
 cases op <;> try (cases hst; done)
 rename_i t a v
 have hR : ∀ g, opR P I self ⟨dst, .store t a v, ty, pos, af, gd⟩ vs g = O.rec (motive := fun _ => VH) (fun v h => some (v, h)) (fun h => some (zaK, h)) (fun f args h => zc7 P I self f args h)
   (fun l tm nt asg body h => roundA self l tm nt asg body h) (fun _ _ => none) none (ofH (arg2 vs fun a v => store P t a v g)) := fun g => rfl
 rw [hR] at hr
 cases hx : arg2 vs fun a v => store P t a v h with
 | none => rw [hx] at hr; cases hr
 | some hh =>
   rw [hx] at hr
   have hr' : some (zaK, hh) = some (V, h') := hr
   cases hr'
   rw [zbd] at hx
   obtain ⟨x, y, rfl, hx⟩ := hx
   unfold store at hx
   cases x <;> try (cases hx; done)
   rename_i b off
   have hx' : bnd (zaQ P t) (fun n => grd (Nat.beq (len y.cells) n) (za2 h b off y.cells)) = some h' := hx
   rw [zab] at hx'
   obtain ⟨n, hn, hx'⟩ := hx'
   rw [zaf] at hx'
   obtain ⟨hlen, hw⟩ := hx'
   unfold za2 at hw
   rw [zab] at hw
   obtain ⟨en, hen, hw⟩ := hw
   cases en <;> try (cases hw; done)
   rename_i l cty wr fz olds
   have hw' : grd wr (grd (Nat.ble fz off) (grd (allC y.cells) (bnd (zc4 l off y.cells) fun l' => some (AH.set (AH.kill olds h) b (.cells l' cty true fz []))))) = some h' := hw
   rw [zaf, zaf, zaf, zab] at hw'
   obtain ⟨k1, k2, k3, l', k4, hw'⟩ := hw'
   cases hw'
   refine ⟨_, _, b, off, _, .cells l' cty true fz [], olds, rfl, rfl, rfl, hen, rfl, fun g hg => ⟨AH.set (AH.kill olds g) b (.cells l' cty true fz []), ?_, (zbk olds g).1, (by show ((AH.kill olds g).fb, (AH.kill olds g).fam) = (g.fb, g.fam); rw [(zbk olds g).2.1, (zbk olds g).2.2]), fun c => ?_⟩⟩
   ·rw [hR]
    have : store P t (.ptr b off) y g = some (AH.set (AH.kill olds g) b (.cells l' cty true fz [])) := by
     show bnd (zaQ P t) (fun n => grd (Nat.beq (len y.cells) n) (za2 g b off y.cells)) = _
     rw [hn, bnd_some, zaf]
     refine ⟨hlen, ?_⟩
     unfold za2
     rw [hg, bnd_some]
     show grd wr (grd (Nat.ble fz off) (grd (allC y.cells) (bnd (zc4 l off y.cells) fun l' => some (AH.set (AH.kill olds g) b (.cells l' cty true fz []))))) = _
     rw [zaf, zaf, zaf, k4, bnd_some]
     exact ⟨k1, k2, k3, rfl⟩
    have h2 : arg2 [AV.ptr b off, y] (fun a v => store P t a v g) = some (AH.set (AH.kill olds g) b (.cells l' cty true fz [])) := this
    rw [h2]
    rfl
   ·rw [AH.get_set]
    by_cases hcb : c = b
    ·rw [if_pos hcb, if_pos hcb]
    ·rw [if_neg hcb, if_neg hcb, zb5]
theorem twin_swap {o1 o2 : Oper} {vs1 vs2 : List AV} {b1 b2 : Nat} {en1 en1' en2 en2' : Ent} {olds1 olds2 : List Nat} (t1 : StoreAt P I self o1 vs1 b1 en1 en1' olds1) (t2 : StoreAt P I self o2 vs2 b2 en2 en2' olds2)
  {H0 H1 H2 : AH} (h1 : opR P I self o1 vs1 H0 = some (zaK, H1)) (h2 : opR P I self o2 vs2 H1 = some (zaK, H2)) (g1 : H0.get b1 = some en1) (g2 : H1.get b2 = some en2) (hb : b1 ≠ b2) (n1 : b2 ∉ olds1) (n2 : b1 ∉ olds2) :
  ∃ Ga Gb, opR P I self o2 vs2 H0 = some (zaK, Ga) ∧ opR P I self o1 vs1 Ga = some (zaK, Gb) ∧ Heq Gb H2 ∧ Ga.next = H0.next ∧ Ga.fm = H0.fm := by
 obtain ⟨H1', q1, q2, q3, q4⟩ := t1.at_ H0 g1
 rw [h1] at q1; cases q1
 obtain ⟨H2', r1, r2, r3, r4⟩ := t2.at_ H1 g2
 rw [h2] at r1; cases r1
 have g2' : H0.get b2 = some en2 := by
  rw [q4, if_neg (fun h => hb h.symm), if_neg n1] at g2
  exact g2
 obtain ⟨Ga, a1, a2, a3, a4⟩ := t2.at_ H0 g2'
 have ga : Ga.get b1 = some en1 := by rw [a4, if_neg hb, if_neg n2]; exact g1
 obtain ⟨Gb, c1, c2, c3, c4⟩ := t1.at_ Ga ga
 refine ⟨Ga, Gb, a1, c1, ⟨fun c => ?_, by rw [c2, a2, r2, q2], by rw [c3, a3, r3, q3]⟩, a2, a3⟩
 rw [c4, a4, r4, q4]
 by_cases e1 : c = b1
 ·subst e1
  simp [hb, n2]
 ·by_cases e2 : c = b2
  ·subst e2
   simp [e1, n1]
  ·simp only [e1, e2, if_false]
   by_cases x1 : c ∈ olds1 <;> by_cases x2 : c ∈ olds2 <;> simp [x1, x2]
end
end
end Go.Xe
end
section
namespace Go.Xe
noncomputable section
section
variable {P : Program} {I : zaR} {self : Option Nat → Code → Fr → AH → R} {pl : Plan} {all : List Oper} {base : Nat} {s : Nat → DS}
theorem mapO_congr {α β : Type} {f g : α → Option β} : ∀ {l : List α}, (∀ x ∈ l, f x = g x) → mapO f l = mapO g l
 | [], _ => rfl
 | x :: l, h => by
   have h1 : ∀ k : α → Option β, mapO k (x :: l) = bnd (k x) fun y => bnd (mapO k l) fun ys => some (y :: ys) := fun k => rfl
   rw [h1, h1, h x List.mem_cons_self, mapO_congr fun y hy => h y (List.mem_cons_of_mem _ hy)]
theorem countP_gap {q : Nat → Bool} {k k' : Nat} (hk : k ≤ k') (hn : ∀ i, k ≤ i → i < k' → q i = false) : (List.range k').countP q = (List.range k).countP q := by
 induction k' with
 | zero => rw [show k = 0 by omega]
 | succ k' ih =>
   by_cases h : k = k' + 1
   ·rw [h]
   ·rw [List.range_succ, List.countP_append, List.countP_singleton, hn k' (by omega) (by omega), ih (by omega) fun i h1 h2 => hn i h1 (by omega)]
    simp
theorem TwinOk.loud {ms x : List Nat} {i1 i2 m1 m2 : Nat} {o1 o2 : Oper} (T : TwinOk P all ms x i1 i2 m1 m2 o1 o2) :
  Lp P all i1 = true ∧ Lp P all i2 = true ∧ i1 < i2 ∧ (∀ i, Lp P all i = true → i ∈ x ∨ i = i1 ∨ i = i2) ∧ (∀ i ∈ x, i < i1) := by
 have hs : (zcP P all 0).Pairwise (· < ·) := zce
 have hm : ∀ i, i ∈ zcP P all 0 ↔ Lp P all i = true := fun i => by
  rw [zfd]
  simp
 rw [T.l] at hs hm
 rw [List.pairwise_append] at hs
 obtain ⟨_, h1, h2⟩ := hs
 refine ⟨(hm i1).1 (by simp), (hm i2).1 (by simp), ?_, fun i hi => by simpa using (hm i).2 hi, fun i hi => h2 i hi i1 (by simp)⟩
 rw [List.pairwise_cons] at h1
 exact h1.1 i2 (by simp)
theorem twin_sorted {ms x : List Nat} {i1 i2 m1 m2 : Nat} {o1 o2 : Oper} (T : TwinOk P all ms x i1 i2 m1 m2 o1 o2) : (x ++ [i1]).Pairwise (· < ·) ∧ (x ++ [i2]).Pairwise (· < ·) := by
 have hs : (zcP P all 0).Pairwise (· < ·) := zce
 rw [T.l, List.pairwise_append] at hs
 obtain ⟨h0, h1, h2⟩ := hs
 rw [List.pairwise_append, List.pairwise_append]
 exact ⟨⟨h0, by simp, fun a ha b hb => h2 a ha b (by simp at hb ⊢; exact .inl hb)⟩, ⟨h0, by simp, fun a ha b hb => h2 a ha b (by simp at hb ⊢; exact .inr hb)⟩⟩
theorem twin_run (D : DrawOk P I self pl all base s) {x : List Nat} {i1 i2 m1 m2 : Nat} {o1 o2 : Oper} (T : TwinOk P all pl.ms x i1 i2 m1 m2 o1 o2) (htw : pl.tw = some (i1, i2)) :
  ∃ vs1 vs2 Ga Gb, mapO (fun x => ev x (s i1).fr) (zbb o1.op) = some vs1 ∧ mapO (fun x => ev x (s i2).fr) (zbb o2.op) = some vs2 ∧ (s i1).fr.put o1.dst zaK = some (s (i1 + 1)).fr ∧ (s i2).fr.put o2.dst zaK = some (s (i2 + 1)).fr ∧
    opR P I self o2 vs2 (s i1).h = some (zaK, Ga) ∧ opR P I self o1 vs1 Ga = some (zaK, Gb) ∧ Heq Gb (s (i2 + 1)).h ∧ Ga.next = (s i1).h.next ∧ Ga.fm = (s i1).h.fm := by
 obtain ⟨L1, L2, h12, hall, hx⟩ := T.loud
 have hq1 : zan P o1.op = false := by
  obtain ⟨o, ho, hq⟩ := zeo.1 L1
  rw [T.a1] at ho; cases ho; exact hq
 have hq2 : zan P o2.op = false := by
  obtain ⟨o, ho, hq⟩ := zeo.1 L2
  rw [T.a2] at ho; cases ho; exact hq
 have hn2 : i2 < all.length := (List.getElem?_eq_some_iff.1 T.a2).1
 have hw : ∀ (j : Nat) (o : Oper), o.guard = none → zau all (s j).fr o.guard = some true := fun j o hg => by rw [hg]; rfl
 have hgap : ∀ i, i1 + 1 ≤ i → i < i2 → Lp P all i = false := fun i h1 h2 => by
  cases hl : Lp P all i with
  | false => rfl
  | true => rcases hall i hl with h | h | h
            ·have := hx i h; omega
            ·omega
            ·omega
 obtain ⟨m', hm', st1⟩ := D.run.at_ D.mok.len T.a1
 rw [T.h1] at hm'; cases hm'
 obtain ⟨tw1, V1, hp1, hds1, S1⟩ := zaA st1
 obtain ⟨m', hm', st2⟩ := D.run.at_ D.mok.len T.a2
 rw [T.h2] at hm'; cases hm'
 obtain ⟨tw2, V2, hp2, hds2, S2⟩ := zaA st2
 replace hp1 := hp1.back (hds1.resolve_right fun hd => by rw [zaT hd.1] at hq1; cases hq1)
 replace hp2 := hp2.back (hds2.resolve_right fun hd => by rw [zaT hd.1] at hq2; cases hq2)
 have tw1 := tw1.resolve_left (by rw [hq1]; simp)
 have tw2 := tw2.resolve_left (by rw [hq2]; simp)
 unfold twinOk at tw1 tw2
 rw [htw, oE_some] at tw1 tw2
 dsimp only at tw1 tw2
 rw [zcE, (zah i1 i1).2 rfl, Bool.true_or, ite'_true, za3, za3, T.h1, T.h2, oE_some, oE_some, zaj, Bool.and_eq_true] at tw1
 rw [zcE, (zah i2 i2).2 rfl, Bool.or_true, ite'_true, za3, za3, T.h1, T.h2, oE_some, oE_some, zaj, Bool.and_eq_true, zcE, Bool.or_eq_true] at tw2
 have np1 : noPend m1 m2 (s i1).ps = true := tw1.1
 obtain ⟨np2, hb, hbe, hap⟩ : noPend m1 m2 (s i2).ps = true ∧ ∃ hb, before1 (s i2).hs = some hb ∧ apart all (s i2).fr hb i1 i2 = true := by
  obtain ⟨h1, h2⟩ := tw2
  refine ⟨h1, ?_⟩
  rcases h2 with h2 | h2
  ·have := (zah _ _).1 h2
   omega
  ·cases hbe : before1 (s i2).hs with
   | none => rw [hbe] at h2; cases h2
   | some hb => rw [hbe, oE_some] at h2; exact ⟨hb, rfl, h2⟩
 cases S1 with
 | off hw' => rw [hw i1 o1 T.g1] at hw'; cases hw'
 | made _ vs en f hvs hm' => rw [zbo hm'] at hq1; cases hq1
 | quiet _ vs hvs hq' => rw [hq1] at hq'; cases hq'
 | dfr _ vs hvs hd => rw [zaT hd] at hq1; cases hq1
 | loud _ vs1 hvs1 _ hr1 hhs1 hps1 =>
 cases S2 with
 | off hw' => rw [hw i2 o2 T.g2] at hw'; cases hw'
 | made _ vs en f hvs hm' => rw [zbo hm'] at hq2; cases hq2
 | quiet _ vs hvs hq' => rw [hq2] at hq'; cases hq'
 | dfr _ vs hvs hd => rw [zaT hd] at hq2; cases hq2
 | loud _ vs2 hvs2 _ hr2 hhs2 hps2 =>
   rw [zfR fun p hp => (noPend_spec np1 p hp).1] at hr1
   rw [zfR fun p hp => (noPend_spec np2 p hp).2] at hr2
   have hH : (s i2).h = (s (i1 + 1)).h := D.keepH (by omega) (by omega) hgap
   rw [hH] at hr2
   obtain ⟨x1, y1, b1, off1, en1, en1', olds1, e1, f1, rfl, g1, t1⟩ := store_at T.s1 hr1
   obtain ⟨x2, y2, b2, off2, en2, en2', olds2, e2, f2, rfl, g2, t2⟩ := store_at T.s2 hr2
   have hbv : hb = (s i1).h := by
    obtain ⟨q1, q2⟩ := zf7 hbe
    obtain ⟨c1, _⟩ := D.run.hs D.mok.len D.h0s (show i2 ≤ all.length by omega)
    obtain ⟨_, c4⟩ := D.run.hs D.mok.len D.h0s (show i1 ≤ all.length by omega)
    have c5 := D.run.hs_pre D.mok.len (show i1 ≤ i2 by omega) (by omega) c4
    have c6 : (List.range i2).countP (Lp P all) = (List.range i1).countP (Lp P all) + 1 := by
     rw [countP_gap (show i1 + 1 ≤ i2 by omega) hgap, List.range_succ, List.countP_append, List.countP_singleton, L1]
     rfl
    rw [c1, c6, show 1 + ((List.range i1).countP (Lp P all) + 1) - 2 = (List.range i1).countP (Lp P all) by omega, c5] at q2
    exact (Option.some.inj q2).symm
   rw [hbv] at hap
   have hvs1' : mapO (fun x => ev x (s i2).fr) (zbb o1.op) = some vs1 := by
    rw [← hvs1]
    refine mapO_congr fun y hy => ?_
    cases y with
    | tmp t =>
      have hst := T.strict _ hy
      have hst' : zdE i1 m1 t true all 0 pl.ms = true := hst
      have hat : atT (s i2).fr.t t = atT (s i1).fr.t t := by
       refine D.run.keep D.mok.len (by omega) (by omega) fun i o ho1 ho2 ho hd => ?_
       obtain ⟨mi, hmi⟩ := D.mask ho
       rcases zdp hst' i mi o ho hmi hd with ⟨_, h⟩ | h | ⟨h, _⟩
       ·cases h
       ·rw [Nat.zero_add] at h
        have := D.mok.lt i1 m1 T.h1 i h
        omega
       ·cases h
      show some ((s i2).fr.at_ t) = some ((s i1).fr.at_ t)
      rw [at_eq, at_eq, hat]
    | _ => rfl
   unfold apart at hap
   have hA1 : addrOf o1 (s i2).fr = some b1 := by
    unfold addrOf
    rw [hvs1', bnd_some, e1, f1]
    rfl
   have hA2 : addrOf o2 (s i2).fr = some b2 := by
    unfold addrOf
    rw [hvs2, bnd_some, e2, f2]
    rfl
   rw [za3, za3, T.a1, T.a2, bnd_some, bnd_some, hA1, hA2, bnd_some, bnd_some, g1, bnd_some, t1.oldsEq, bnd_some] at hap
   cases hg2 : (s i1).h.get b2 with
   | none => rw [hg2] at hap; cases hap
   | some en2'' =>
     rw [hg2, bnd_some] at hap
     cases ho2 : oldsOf en2'' with
     | none => rw [ho2] at hap; cases hap
     | some olds2' =>
       rw [ho2, bnd_some, zaB] at hap
       by_cases hbb : Nat.beq b1 b2 = true
       ·rw [if_pos hbb] at hap; cases hap
       ·rw [if_neg hbb] at hap
        have hne : b1 ≠ b2 := fun h => hbb ((zah _ _).2 h)
        obtain ⟨n1, n2⟩ : zei b1 olds2' = true ∧ zei b2 olds1 = true := by
         cases q1 : zei b1 olds2' with
         | false => rw [q1] at hap; cases hap
         | true =>
           cases q2 : zei b2 olds1 with
           | false => rw [q1, q2] at hap; cases hap
           | true => exact ⟨rfl, rfl⟩
        rw [zda] at n1 n2
        obtain ⟨H1', u1, _, _, u4⟩ := t1.at_ _ g1
        rw [hr1] at u1; cases u1
        have hsame := g2
        rw [u4, if_neg (fun h => hne h.symm), if_neg n2, hg2] at hsame
        cases hsame
        rw [t2.oldsEq] at ho2; cases ho2
        obtain ⟨Ga, Gb, a1, a2, a3, a4, a5⟩ := twin_swap t1 t2 hr1 hr2 g1 g2 hne n2 n1
        exact ⟨vs1, vs2, Ga, Gb, hvs1, hvs2, hp1, hp2, a1, a2, a3, a4, a5⟩
theorem twin_stage (D : DrawOk P I self pl all base s) {x : List Nat} {i1 i2 m1 m2 : Nat} {o1 o2 : Oper} (T : TwinOk P all pl.ms x i1 i2 m1 m2 o1 o2) (htw : pl.tw = some (i1, i2)) : ∃ Stg, StageOk P I self pl all base s Stg := by
 obtain ⟨vs1, vs2, Ga, Gb, r1, r2, p1, p2, k1, k2, k3, k4, k5⟩ := twin_run D T htw
 obtain ⟨L1, L2, h12, hall, hx⟩ := T.loud
 obtain ⟨so1, so2⟩ := twin_sorted T
 have hn2 : i2 < all.length := (List.getElem?_eq_some_iff.1 T.a2).1
 have hwt : ∀ (j : Nat) (o : Oper), all[j]? = some o → (j = i1 ∨ j = i2) → zau all (s j).fr o.guard ≠ some false := fun j o ho hj => by
  rcases hj with rfl | rfl
  ·rw [T.a1] at ho; cases ho
   rw [T.g1]; intro h; cases h
  ·rw [T.a2] at ho; cases ho
   rw [T.g2]; intro h; cases h
 have hbef : ∀ (S : Nat → Prop) (j m : Nat) (o : Oper), all[j]? = some o → pl.ms[j]? = some m → zan P o.op = false → (∀ i, bit m i = true → S i) → (j = i2 → S i1) → ∀ i, Lp P all i = true → i < j → S i := fun S j m o ho hm hq hanc h2 i hi hij => by
  have hLj : Lp P all j = true := zeo.2 ⟨o, ho, hq⟩
  by_cases hj2 : j = i2
  ·subst hj2
   rcases hall i hi with h | h | h
   ·exact zcV D so2 T.c2 hm hanc (by simp) i (by simp [h]) hij
   ·rw [h]; exact h2 rfl
   ·omega
  ·have hj' : j ∈ x ++ [i1] := by
    rcases hall j hLj with h | h | h
    ·simp [h]
    ·simp [h]
    ·exact absurd h hj2
   have hjl : j ≤ i1 := by
    rcases hall j hLj with h | h | h
    ·exact Nat.le_of_lt (hx j h)
    ·omega
    ·exact absurd h hj2
   refine zcV D so1 T.c1 hm hanc hj' i ?_ hij
   rcases hall i hi with h | h | h
   ·simp [h]
   ·simp [h]
   ·omega
 have hxb : ∀ (S : Nat → Prop), (∀ i, bit m2 i = true → S i) → ∀ i ∈ x, S i := fun S hanc i hi =>
  zcV D so2 T.c2 T.h2 hanc (by simp) i (by simp [hi]) (by have := hx i hi; omega)
 refine ⟨fun S G => StgC P all s S G ∨ (S i2 ∧ ¬ S i1 ∧ (∀ i, Lp P all i = true → i ≠ i1 → S i) ∧ Heq G Ga), .inl ⟨0, Nat.zero_le _, fun i _ => ⟨fun h => h.elim, fun h => (by omega)⟩, .refl _⟩, ?_, ?_, ?_, ?_, ?_⟩
 ·rintro S S' G hSS (⟨k, hk, hS, hG⟩ | ⟨q1, q2, q3, q4⟩)
  ·exact .inl ⟨k, hk, fun i hi => (hSS i hi).symm.trans (hS i hi), hG⟩
  ·exact .inr ⟨(hSS i2 L2).1 q1, fun h => q2 ((hSS i1 L1).2 h), fun i hi hne => (hSS i hi).1 (q3 i hi hne), q4⟩
 ·intro S j m o G hdc ho hm hq hnj hanc hw hG
  have hne : j ≠ i1 ∧ j ≠ i2 := ⟨fun h => hwt j o ho (.inl h) hw, fun h => hwt j o ho (.inr h) hw⟩
  rcases hG with hG | ⟨q1, q2, q3, q4⟩
  ·obtain ⟨h1, h2, h3⟩ := hG.next D ho hq hnj (hbef S j m o ho hm hq hanc fun h => absurd h hne.2)
   exact .inl ⟨j + 1, (List.getElem?_eq_some_iff.1 ho).1, h3, by rw [D.offAt ho hm hw]; exact h1⟩
  ·exact absurd (q3 j (zeo.2 ⟨o, ho, hq⟩) hne.1) hnj
 ·intro S j m o G hdc ho hm hq hnj hanc hw hG
  have hLj : Lp P all j = true := zeo.2 ⟨o, ho, hq⟩
  rcases hG with hG | ⟨q1, q2, q3, q4⟩
  ·by_cases hj2 : j = i2 ∧ ¬ S i1
   ·obtain ⟨rfl, hn1⟩ := hj2
    rw [T.a2] at ho; cases ho
    rw [T.h2] at hm; cases hm
    obtain ⟨k, hk, hS, hGk⟩ := hG
    have hki : k ≤ i1 := Nat.le_of_not_lt fun h => hn1 ((hS i1 L1).2 h)
    have hH : (s i1).h = (s k).h := D.keepH hki (by omega) fun i h1 h2 => by
     cases hl : Lp P all i with
     | false => rfl
     | true =>
       have hxi : i ∈ x := by
        rcases hall i hl with h | h | h
        ·exact h
        ·omega
        ·omega
       have := (hS i hl).1 (hxb S hanc i hxi)
       omega
    rw [← hH] at hGk
    refine ⟨(s i1).h, Ga, vs2, zaK, r2, p2, k1, hGk.2.1.symm, hGk.2.2.symm, fun b en hb => .inr (by rw [hGk.1]; exact hb), .inr ⟨.inr rfl, fun h => h.elim hn1 fun h => (by omega), fun i hi hne => ?_, .refl _⟩⟩
    rcases hall i hi with h | h | h
    ·exact .inl (hxb S hanc i h)
    ·exact absurd h hne
    ·exact .inr h
   ·have h2' : j = i2 → S i1 := fun h => Classical.byContradiction fun hn => hj2 ⟨h, hn⟩
    obtain ⟨h1, h2, h3⟩ := hG.next D ho hq hnj (hbef S j m o ho hm hq hanc h2')
    obtain ⟨hin, hout, vs, V, a1, a2, a3, a4, a5, a6, a7⟩ := D.loudAt (S := S) ho hm hq hw h2
    exact ⟨hin, hout, vs, V, a1, a2, a3, a4.trans h1.2.1.symm, a5.trans h1.2.2.symm, fun b en hb => (a6 b en hb).imp id fun h => by rw [h1.1]; exact h, .inl ⟨j + 1, (List.getElem?_eq_some_iff.1 ho).1, h3, by rw [a7]; exact .refl _⟩⟩
  ·have hj1 : j = i1 := Classical.byContradiction fun h => hnj (q3 j hLj h)
   subst hj1
   rw [T.a1] at ho; cases ho
   refine ⟨Ga, Gb, vs1, zaK, r1, p1, k2, q4.2.1.symm, q4.2.2.symm, fun b en hb => .inr (by rw [q4.1]; exact hb), .inl ⟨i2 + 1, hn2, fun i hi => ⟨fun _ => ?_, fun _ => ?_⟩, k3⟩⟩
   ·rcases hall i hi with h | h | h
    ·have := hx i h; omega
    ·omega
    ·omega
   ·by_cases hne : i = j
    ·exact .inr hne
    ·exact .inl (q3 i hi hne)
 ·intro S j m o G hdc ho hm hq hmk hr hnj hanc hw hG
  rcases hG with ⟨k, hk, hS, hG⟩ | ⟨q1, q2, q3, q4⟩
  ·obtain ⟨vs, V, b1, b2, b3⟩ := D.readAt hdc ho hm hq hr hnj hanc hw hk hS
   exact ⟨_, vs, V, hG.symm, b1, b2, b3⟩
  ·have hb := zfe T.r2 j o ho hq hr
   rw [Nat.zero_add] at hb
   exact absurd (hdc i2 m2 q1 T.h2 j hb) hnj
 ·intro S G hfull hG
  rcases hG with ⟨k, hk, hS, hG⟩ | ⟨q1, q2, q3, q4⟩
  ·rw [D.keepH hk (Nat.le_refl _) fun i h1 h2 => ?_]
   ·exact hG
   ·cases hl : Lp P all i with
    | false => rfl
    | true =>
      have := (hS i hl).1 (hfull i h2)
      omega
  ·exact absurd (hfull i1 (by omega)) q2
theorem staged (P : Program) (I : zaR) (self : Option Nat → Code → Fr → AH → R) : Staged P I self := fun pl all base s D hpl => by
 obtain ⟨_, _, _, _, hk⟩ := drawMs_spec hpl
 rcases hk with ⟨_, hc⟩ | ⟨t, ht, hc⟩
 ·exact ⟨_, chain_stage D hc⟩
 ·obtain ⟨x, m1, m2, o1, o2, T⟩ := twins_spec rfl hc
  exact twin_stage D T ht
theorem exec_good {P : Program} {I : zaR} (ok : POk P) (hI : KnownOk P I) (n : Nat) : Good P (exec P I n) :=
 (exec_both ok hI (fun self hg => draw_good ok hI hg (staged P I self)) n).1
end
end
end Go.Xe
end
section
namespace Go.Xe
noncomputable section
theorem zdU : ∀ (n : Nat) (f : Nat → Nat), (∀ k, k < n → f k < n) → (∀ k k', k < n → k' < n → f k = f k' → k = k') → ∀ j, j < n → ∃ k, k < n ∧ f k = j
 | 0, f, _, _, j, hj => by omega
 | n + 1, f, hf, hi, j, hj => by
   by_cases hn : f n = n
   ·by_cases hjn : j = n
    ·exact ⟨n, Nat.lt_succ_self n, by rw [hn, hjn]⟩
    ·obtain ⟨k, hk, e⟩ := zdU n f (fun k hk => by
      have h1 := hf k (by omega)
      have : f k ≠ n := fun h => by
       have := hi k n (by omega) (by omega) (by rw [h, hn])
       omega
      omega) (fun k k' h1 h2 => hi k k' (by omega) (by omega)) j (by omega)
     exact ⟨k, by omega, e⟩
   ·have hfn : f n < n := by have := hf n (by omega); omega
    obtain ⟨g, hg⟩ : ∃ g : Nat → Nat, g = fun k => if f k = n then f n else f k := ⟨_, rfl⟩
    have h1 : ∀ k, k < n → g k < n := fun k hk => by
     rw [hg]
     show (if f k = n then f n else f k) < n
     split
     ·exact hfn
     ·have := hf k (by omega); omega
    have h2 : ∀ k k', k < n → k' < n → g k = g k' → k = k' := fun k k' hk hk' h => by
     rw [hg] at h
     have h' : (if f k = n then f n else f k) = if f k' = n then f n else f k' := h
     split at h' <;> split at h'
     ·rename_i a b
      exact hi k k' (by omega) (by omega) (by rw [a, b])
     ·have := hi n k' (by omega) (by omega) h'
      omega
     ·have := hi k n (by omega) (by omega) h'
      omega
     ·exact hi k k' (by omega) (by omega) h'
    have back : ∀ j, j < n → ∃ k, k < n + 1 ∧ f k = j ∨ False := fun j hj => by
     obtain ⟨k, hk, e⟩ := zdU n g h1 h2 j hj
     rw [hg] at e
     have e' : (if f k = n then f n else f k) = j := e
     split at e'
     ·exact ⟨n, .inl ⟨Nat.lt_succ_self n, e'⟩⟩
     ·exact ⟨k, .inl ⟨by omega, e'⟩⟩
    by_cases hjn : j = n
    ·obtain ⟨k, hk, e⟩ := zdU n g h1 h2 (f n) hfn
     rw [hg] at e
     have e' : (if f k = n then f n else f k) = f n := e
     split at e'
     ·rename_i a
      exact ⟨k, by omega, by rw [a, hjn]⟩
     ·have := hi k n (by omega) (by omega) e'
      omega
    ·obtain ⟨k, h⟩ := back j (by omega)
     exact ⟨k, h.resolve_right id⟩
inductive F2 {α β : Type} (R : α → β → Prop) : List α → List β → Prop
 | nil : F2 R [] []
 | cons {x : α} {y : β} {l : List α} {l' : List β} (h : R x y) (ht : F2 R l l') : F2 R (x :: l) (y :: l')
theorem F2.of_get {α β : Type} {R : α → β → Prop} : ∀ {l : List α} {l' : List β}, l.length = l'.length → (∀ (i : Nat) v u, l[i]? = some v → l'[i]? = some u → R v u) → F2 R l l'
 | [], [], _, _ => .nil
 | [], _ :: _, h, _ => by simp at h
 | _ :: _, [], h, _ => by simp at h
 | v :: l, u :: l', h, k => .cons (k 0 v u rfl rfl) (F2.of_get (by simpa using h) fun i x y hx hy => k (i + 1) x y (by simpa using hx) (by simpa using hy))
theorem F2.app {α β : Type} {R : α → β → Prop} {l r : List α} {l' r' : List β} (h : F2 R l l') (k : F2 R r r') : F2 R (l ++ r) (l' ++ r') := by
 induction h with
 | nil => exact k
 | cons h _ ih => exact .cons h ih
theorem perm_rel {α β : Type} {R : α → β → Prop} {p q : List α} (h : p.Perm q) : ∀ {q' : List β}, F2 R q q' → ∃ p', p'.Perm q' ∧ F2 R p p' := by
 induction h with
 | nil => intro q' hq; exact ⟨q', .refl _, hq⟩
 | cons x _ ih =>
   intro q' hq
   cases hq with
   | cons hx ht =>
     obtain ⟨p', h1, h2⟩ := ih ht
     exact ⟨_ :: p', h1.cons _, .cons hx h2⟩
 | swap x y l =>
   intro q' hq
   cases hq with
   | cons hx ht =>
     cases ht with
     | cons hy ht => exact ⟨_ :: _ :: _, .swap _ _ _, .cons hy (.cons hx ht)⟩
 | trans _ _ ih1 ih2 =>
   intro q' hq
   obtain ⟨p1, a1, b1⟩ := ih2 hq
   obtain ⟨p2, a2, b2⟩ := ih1 b1
   exact ⟨p2, a2.trans a1, b2⟩
theorem MERs.turn {e e2 : Env} : ∀ {p p' : List ME} {l : List MapEntry}, F2 (fun m m' => ∀ x, MER e m x → MER e2 m' x) p p' → MERs e p l → MERs e2 p' l
 | _, _, _, .nil, h => by cases h; exact .nil
 | _, _, _, .cons hx ht, h => by
   cases h with
   | cons m x l l' h1 h2 => exact .cons _ _ _ _ (hx _ h1) (MERs.turn ht h2)
end
end Go.Xe
end
section
namespace Go.Xe
noncomputable section
theorem hd1_eq {α β : Type} {l : List α} {k : α → List α → Option β} {y : β} (h : hd1 l k = some y) : ∃ a t, l = a :: t ∧ k a t = some y := by
 cases l with
 | nil => cases h
 | cons a t => exact ⟨a, t, rfl, h⟩
theorem zgp {n : Nat} {a : AV} (h : intIs n a = true) : a = .int .i64 (.ofNat n) := by
 unfold intIs at h
 split at h
 ·rw [zah] at h; rw [h]
 ·cases h
theorem sstrIs_eq {pn pc i : Nat} {a : AV} (h : sstrIs pn pc i a = true) : a = .sstr pn pc i := by
 cases a <;> try (cases h; done)
 rename_i n c j
 have h' : ite' (Nat.beq n pn) (ite' (Nat.beq c pc) (Nat.beq j i) false) false = true := h
 rw [zaj, Bool.and_eq_true, zaj, Bool.and_eq_true, zah, zah, zah] at h'
 rw [h'.1, h'.2.1, h'.2.2]
theorem ptrIs_eq {b : Nat} {a : AV} (h : ptrIs b a = true) : a = .ptr b 0 := by
 cases a <;> try (cases h; done)
 rename_i c o
 have h' : ite' (Nat.beq b c) (Nat.beq o 0) false = true := h
 rw [zaj, Bool.and_eq_true, zah, zah] at h'
 rw [h'.1, h'.2]
theorem svalIs_eq {i : Nat} {a : AV} (h : svalIs i a = true) : a = .sval i := by
 cases a <;> try (cases h; done)
 rename_i j
 have h' : Nat.beq i j = true := h
 rw [zah] at h'
 rw [h']
theorem isInil_eq {a : AV} (h : isInil a = true) : a = .inil := by cases a <;> first | rfl | (cases h; done)
theorem memCells_eq {c i : Nat} {e : Ent} {r : List AV} {ty : Nat} (h : zeW c i e = some (r, ty)) : e = .cells (.int .i64 (.ofNat c) :: .sstr 2 14906 i :: r) ty true 0 [] := by
 unfold zeW at h
 split at h
 ·rw [zaf, zaf] at h
  obtain ⟨h1, h2, h3⟩ := h
  cases h3
  rw [zgp h1, sstrIs_eq h2]
 ·cases h
structure Chk (h : AH) (r0 : List AV) (ty0 i c : Nat) (nm nu fu da : ME) (b : Nat) : Prop where
 nm : nm.k = .sstr 2 14906 i ∧ nm.v = .ptr b 0
 nu : nu.k = .int .i64 (.ofNat c) ∧ nu.v = .ptr b 0
 fu : fu.k = .int .i64 (.ofNat c) ∧ fu.v = .sval i
 da : da.k = .int .i64 (.ofNat c) ∧ da.v = .inil
 ent : h.get b = some (.cells (.int .i64 (.ofNat c) :: .sstr 2 14906 i :: r0) ty0 true 0 [])
theorem chk1_eq {h : AH} {r0 : List AV} {ty0 i c : Nat} {nm nu fu da : ME} {b : Nat} (hc : chk1 h r0 ty0 i c nm nu fu da = some b) : Chk h r0 ty0 i c nm nu fu da b := by
 unfold chk1 at hc
 cases hv : nm.v <;> rw [hv] at hc <;> try (cases hc; done)
 rename_i b' o
 have hc' : grd (Nat.beq o 0) (grd (sstrIs 2 14906 i nm.k) (grd (intIs c nu.k) (grd (ptrIs b' nu.v) (grd (intIs c fu.k) (grd (svalIs i fu.v)
  (grd (intIs c da.k) (grd (isInil da.v) (bnd (h.get b') fun e => bnd (zeW c i e) fun rt => grd (Nat.beq rt.2 ty0) (grd (sameL rt.1 r0) (some b')))))))))) = some b := hc
 rw [zaf, zaf, zaf, zaf, zaf, zaf, zaf, zaf, zab] at hc'
 obtain ⟨k1, k2, k3, k4, k5, k6, k7, k8, e, he, hc'⟩ := hc'
 rw [zab] at hc'
 obtain ⟨⟨r, ty⟩, hm, hc'⟩ := hc'
 rw [zaf, zaf] at hc'
 obtain ⟨k9, k10, hc'⟩ := hc'
 cases hc'
 have ho := (zah _ _).1 k1
 have hty := (zah _ _).1 k9
 have hrr := zgn k10
 simp only at hty hrr
 subst ho hty hrr
 refine ⟨⟨sstrIs_eq k2, hv⟩, ⟨zgp k3, ptrIs_eq k4⟩, ⟨zgp k5, svalIs_eq k6⟩, ⟨zgp k7, isInil_eq k8⟩, ?_⟩
 rw [he, memCells_eq hm]
theorem chkL_eq {h : AH} {r0 : List AV} {ty0 : Nat} : ∀ {nm : List ME} {i c : Nat} {nu fu da : List ME} {bs : List Nat}, chkL h r0 ty0 nm i c nu fu da = some bs →
  bs.length = nm.length ∧ nu.length = nm.length ∧ fu.length = nm.length ∧ da.length = nm.length ∧
   ∀ k, k < nm.length → ∃ a b c' d x, nm[k]? = some a ∧ nu[k]? = some b ∧ fu[k]? = some c' ∧ da[k]? = some d ∧ bs[k]? = some x ∧ Chk h r0 ty0 (i + k) (c + k) a b c' d x
 | [], i, c, nu, fu, da, bs, hc => by
   have hc' : grd (zaY nu) (grd (zaY fu) (grd (zaY da) (some []))) = some bs := hc
   rw [zaf, zaf, zaf, zaD, zaD, zaD] at hc'
   obtain ⟨rfl, rfl, rfl, hc'⟩ := hc'
   cases hc'
   exact ⟨rfl, rfl, rfl, rfl, fun k hk => by simp at hk⟩
 | a :: nm, i, c, nu, fu, da, bs, hc => by
   obtain ⟨b, nus, rfl, hc1⟩ := hd1_eq (l := nu) (k := fun b nus => hd1 fu fun c' fus => hd1 da fun d das =>
    bnd (chk1 h r0 ty0 i c a b c' d) fun x => bnd (chkL h r0 ty0 nm (i + 1) (c + 1) nus fus das) fun xs => some (x :: xs)) hc
   obtain ⟨c', fus, rfl, hc2⟩ := hd1_eq hc1
   obtain ⟨d, das, rfl, hc3⟩ := hd1_eq hc2
   rw [zab] at hc3
   obtain ⟨x, hx, hc4⟩ := hc3
   rw [zab] at hc4
   obtain ⟨xs, hxs, hc5⟩ := hc4
   cases hc5
   obtain ⟨l1, l2, l3, l4, hk⟩ := chkL_eq hxs
   refine ⟨by simp [l1], by simp [l2], by simp [l3], by simp [l4], fun k hkl => ?_⟩
   cases k with
   | zero => exact ⟨a, b, c', d, x, rfl, rfl, rfl, rfl, rfl, chk1_eq hx⟩
   | succ k =>
     obtain ⟨a', b', c'', d', x', q1, q2, q3, q4, q5, q6⟩ := hk k (by simpa using hkl)
     refine ⟨a', b', c'', d', x', by simpa using q1, by simpa using q2, by simpa using q3, by simpa using q4, by simpa using q5, ?_⟩
     rwa [show i + (k + 1) = i + 1 + k by omega, show c + (k + 1) = c + 1 + k by omega]
structure New (g lo hi j b : Nat) (kv : ME) (x : Acc) (k : Nat) (key : AV) : Prop where
 keyEq : zev kv.k = some key
 nm : x.nm[k]? = some ⟨key, .ptr b 0, b + 1⟩
 nu : x.nu[k]? = some ⟨.num g j lo hi, .ptr b 0, b + 2⟩
 fu : x.fu[k]? = some ⟨.num g j lo hi, kv.v, b + 3⟩
 da : x.da[k]? = some ⟨.num g j lo hi, .inil, b + 4⟩
theorem newL_eq {g lo hi ty0 : Nat} {r0 : List AV} : ∀ {fam : List ME} {j b : Nat} {h : AH} {x : Acc}, newL g lo hi ty0 r0 fam j b h = some x →
  x.nm.length = fam.length ∧ x.nu.length = fam.length ∧ x.fu.length = fam.length ∧ x.da.length = fam.length ∧ x.h.next = h.next ∧ x.h.fm = h.fm ∧
  (∀ k, k < fam.length → ∃ kv key, fam[k]? = some kv ∧ New g lo hi (j + k) (b + 5 * k) kv x k key ∧ x.h.get (b + 5 * k) = some (.cells (.num g (j + k) lo hi :: key :: r0) ty0 true 0 [])) ∧
  ∀ c, (∀ k, k < fam.length → c ≠ b + 5 * k) → x.h.get c = h.get c
 | [], j, b, h, x, hn => by
   have hn' : some (⟨[], [], [], [], h⟩ : Acc) = some x := hn
   cases hn'
   exact ⟨rfl, rfl, rfl, rfl, rfl, rfl, fun k hk => by simp at hk, fun c _ => rfl⟩
 | kv :: fam, j, b, h, x, hn => by
   have hn' : bnd (zev kv.k) (fun key => bnd (newL g lo hi ty0 r0 fam (j + 1) (b + 5) (h.set b (.cells (.num g j lo hi :: key :: r0) ty0 true 0 []))) fun x =>
     some (⟨⟨key, .ptr b 0, b + 1⟩ :: x.nm, ⟨.num g j lo hi, .ptr b 0, b + 2⟩ :: x.nu, ⟨.num g j lo hi, kv.v, b + 3⟩ :: x.fu, ⟨.num g j lo hi, .inil, b + 4⟩ :: x.da, x.h⟩ : Acc)) = some x := by
    rw [← hn]
    show _ = bnd (zev kv.k) _
    simp only [zaG]
    rfl
   rw [zab] at hn'
   obtain ⟨key, hkey, hn'⟩ := hn'
   rw [zab] at hn'
   obtain ⟨y, hy, hn'⟩ := hn'
   cases hn'
   obtain ⟨l1, l2, l3, l4, l5, l6, hk, hg⟩ := newL_eq hy
   refine ⟨by simp [l1], by simp [l2], by simp [l3], by simp [l4], l5, l6, fun k hkl => ?_, fun c hc => ?_⟩
   ·cases k with
    | zero =>
      refine ⟨kv, key, rfl, ⟨hkey, rfl, rfl, rfl, rfl⟩, ?_⟩
      show y.h.get (b + 5 * 0) = _
      rw [hg _ fun k _ => by omega, AH.get_set, if_pos (by omega)]
      rfl
    | succ k =>
      obtain ⟨kv', key', q1, q2, q3⟩ := hk k (by simpa using hkl)
      rw [show j + 1 + k = j + (k + 1) by omega, show b + 5 + 5 * k = b + 5 * (k + 1) by omega] at q2 q3
      exact ⟨kv', key', by simpa using q1, ⟨q2.keyEq, by simpa using q2.nm, by simpa using q2.nu, by simpa using q2.fu, by simpa using q2.da⟩, q3⟩
   ·show y.h.get c = _
    rw [hg c fun k hkl => by
     have := hc (k + 1) (by simpa using hkl)
     omega, AH.get_set, if_neg (by have := hc 0 (by simp); omega)]
theorem zfg {n : Nat} {l a b : List ME} (h : famCut n l = some (a, b)) : l = a ++ b ∧ b.length = n := by
 unfold famCut at h
 rw [zaf, zab, zaV, zaH] at h
 obtain ⟨hn, a', ha, h⟩ := h
 rw [zab] at h
 obtain ⟨b', hb, h⟩ := h
 cases h
 have hsub : Nat.sub l.length n = l.length - n := rfl
 rw [hsub, tak_eq, if_pos (Nat.sub_le _ _)] at ha
 rw [hsub, drp_eq, if_pos (Nat.sub_le _ _)] at hb
 cases ha; cases hb
 refine ⟨(List.take_append_drop _ _).symm, ?_⟩
 rw [List.length_drop]
 show l.length - (l.length - n) = n
 omega
end
end Go.Xe
end
section
namespace Go.Xe
noncomputable section
theorem map_get {h : AH} {b : Nat} {p : List ME × Nat} (hm : h.map b = some p) : h.get b = some (.map p.1 p.2) := by
 unfold AH.map at hm
 rw [zab] at hm
 obtain ⟨en, he, hm⟩ := hm
 cases en <;> try (cases hm; done)
 have hm' : some (_, _) = some p := hm
 cases hm'
 exact he
structure Rx (h h2 : AH) (mn mu mf md kn ku kf kd c0 ty0 : Nat) (n1 n2 u1 u2 f1 f2 d1 d2 : List ME) (r0 : List AV) (bs : List Nat) (x : Acc) : Prop where
 en : h.get mn = some (.map (n1 ++ n2) kn)
 eu : h.get mu = some (.map (u1 ++ u2) ku)
 ef : h.get mf = some (.map (f1 ++ f2) kf)
 ed : h.get md = some (.map (d1 ++ d2) kd)
 len : n2.length = h.fam.length
 ne : mn ≠ mu ∧ mn ≠ mf ∧ mn ≠ md ∧ mu ≠ mf ∧ mu ≠ md ∧ mf ≠ md
 chk : chkL h r0 ty0 n2 h.fb c0 u2 f2 d2 = some bs
 new : newL h.next c0 (c0 + h.fam.length) ty0 r0 h.fam 0 (h.next + 1) (AH.kill bs ⟨h.next + 1 + 5 * h.fam.length, h.t, 0, []⟩) = some x
 out : h2 = ((((x.h.set mn (.map (n1 ++ x.nm) kn)).set mu (.map (u1 ++ x.nu) ku)).set mf (.map (f1 ++ x.fu) kf)).set md (.map (d1 ++ x.da) kd))
theorem reix_eq {args : List AV} {h h2 : AH} (hr : reix args h = some h2) : ∃ mn mu mf md kn ku kf kd c0 ty0 n1 n2 u1 u2 f1 f2 d1 d2 r0 bs x, Rx h h2 mn mu mf md kn ku kf kd c0 ty0 n1 n2 u1 u2 f1 f2 d1 d2 r0 bs x := by
 unfold reix at hr
 rw [zax] at hr
 obtain ⟨x, rfl, hr⟩ := hr
 rw [zdH] at hr
 obtain ⟨bx, ox, rfl, hr⟩ := hr
 rw [zaf, zab] at hr
 obtain ⟨_, tb, htb, hr⟩ := hr
 rw [zdH] at hr
 obtain ⟨bt, ot, rfl, hr⟩ := hr
 rw [zab] at hr
 obtain ⟨vmf, hmf, hr⟩ := hr
 rw [zdI] at hr
 obtain ⟨mf, rfl, hr⟩ := hr
 rw [zab] at hr
 obtain ⟨vmd, hmd, hr⟩ := hr
 rw [zdI] at hr
 obtain ⟨md, rfl, hr⟩ := hr
 rw [zab] at hr
 obtain ⟨vmn, hmn, hr⟩ := hr
 rw [zdI] at hr
 obtain ⟨mn, rfl, hr⟩ := hr
 rw [zab] at hr
 obtain ⟨vmu, hmu, hr⟩ := hr
 rw [zdI] at hr
 obtain ⟨mu, rfl, hr⟩ := hr
 rw [zab] at hr
 obtain ⟨pn, hpn, hr⟩ := hr
 rw [zab] at hr
 obtain ⟨pu, hpu, hr⟩ := hr
 rw [zab] at hr
 obtain ⟨pf, hpf, hr⟩ := hr
 rw [zab] at hr
 obtain ⟨pd, hpd, hr⟩ := hr
 rw [zab] at hr
 obtain ⟨⟨n1, n2⟩, hn, hr⟩ := hr
 rw [zab] at hr
 obtain ⟨⟨u1, u2⟩, hu, hr⟩ := hr
 rw [zab] at hr
 obtain ⟨⟨f1, f2⟩, hf, hr⟩ := hr
 rw [zab] at hr
 obtain ⟨⟨d1, d2⟩, hd, hr⟩ := hr
 rw [zaf, zaf, zaf, zda, zda, zda] at hr
 obtain ⟨g1, g2, g3, hr⟩ := hr
 obtain ⟨n0, _, _, hr1⟩ := hd1_eq hr
 obtain ⟨m0, _, _, hr2⟩ := hd1_eq hr1
 rw [zab] at hr2
 obtain ⟨c0, _, hr3⟩ := hr2
 rw [zab] at hr3
 obtain ⟨⟨r0, ty0⟩, _, hr4⟩ := hr3
 rw [zab] at hr4
 obtain ⟨bs, hbs, hr5⟩ := hr4
 rw [zaG, zaG, zab] at hr5
 obtain ⟨x, hx, hr6⟩ := hr5
 have hr7 := (Option.some.inj hr6).symm
 simp only [zcn] at hr7
 rw [zaH] at hn hu hf hd
 obtain ⟨a1, b1⟩ := zfg hn
 obtain ⟨a2, _⟩ := zfg hu
 obtain ⟨a3, _⟩ := zfg hf
 obtain ⟨a4, _⟩ := zfg hd
 simp only [List.mem_cons, List.not_mem_nil, or_false, not_or] at g1 g2 g3
 rw [zaH] at hx
 refine ⟨mn, mu, mf, md, pn.2, pu.2, pf.2, pd.2, c0, ty0, n1, n2, u1, u2, f1, f2, d1, d2, r0, bs, x, by rw [map_get hpn, a1], by rw [map_get hpu, a2], by rw [map_get hpf, a3], by rw [map_get hpd, a4], b1, ⟨g1.1, g1.2.1, g1.2.2, g2.1, g2.2, g3⟩, hbs, hx, hr7⟩
theorem fullKey_eq {k key : AV} (h : zev k = some key) : ∃ n c, k = .str n c ∧ key = .str (2 + n) (14906 % 256 ^ 2 + 256 ^ 2 * c) := by
 unfold zev at h
 rw [zex] at h
 obtain ⟨n, c, rfl, h⟩ := h
 rw [zd8] at h
 cases h
 exact ⟨n, c, rfl, rfl⟩
theorem turned {n : Nat} {B : List ME} (hB : B.length = n) {τ : Nat → Nat} (h1 : ∀ j, j < n → τ j < n) (h2 : ∀ i j, i < n → j < n → τ i = τ j → i = j) : ∃ Q : List ME, B.Perm Q ∧ Q.length = n ∧ ∀ j, j < n → Q[j]? = B[τ j]? := by
 have hp : (List.range n).Perm ((List.range n).map τ) := by
  rw [List.perm_ext_iff_of_nodup List.nodup_range]
  ·intro a
   simp only [List.mem_range, List.mem_map]
   constructor
   ·intro ha
    obtain ⟨k, hk, e⟩ := zdU n τ h1 (fun i j hi hj => h2 i j hi hj) a ha
    exact ⟨k, hk, e⟩
   ·rintro ⟨k, hk, rfl⟩
    exact h1 k hk
  ·show List.Pairwise _ _
   rw [List.pairwise_map]
   refine List.Pairwise.imp_of_mem (R := fun a b => a ≠ b) (fun {a b} ha hb hne he => hne (h2 a b (List.mem_range.1 ha) (List.mem_range.1 hb) he)) ?_
   exact List.nodup_range
 have hid : (List.range n).map (fun k => B.getD k ⟨.pnil, .pnil, 0⟩) = B := by
  refine List.ext_getElem? fun i => ?_
  rw [List.getElem?_map]
  by_cases hi : i < n
  ·rw [List.getElem?_range hi, Option.map_some, List.getD_eq_getElem?_getD, List.getElem?_eq_getElem (by omega)]
   rfl
  ·rw [List.getElem?_eq_none (by simp; omega), List.getElem?_eq_none (by omega)]
   rfl
 refine ⟨((List.range n).map τ).map fun k => B.getD k ⟨.pnil, .pnil, 0⟩, ?_, by simp, fun j hj => ?_⟩
 ·have := hp.map fun k => B.getD k ⟨.pnil, .pnil, 0⟩
  rwa [hid] at this
 ·rw [List.getElem?_map, List.getElem?_map, List.getElem?_range hj, Option.map_some, Option.map_some, List.getD_eq_getElem?_getD, List.getElem?_eq_getElem (by rw [hB]; exact h1 j hj)]
  rfl
theorem zgq {e e2 : Env} (he : e.le e2) {n : Nat} {A B B' : List ME} {ents : Array MapEntry} {ck : Nat} (hm : MapR e (A ++ B) ents ck) (hB : B.length = n) (hB' : B'.length = n) {τ : Nat → Nat} (h1 : ∀ j, j < n → τ j < n) (h2 : ∀ i j, i < n → j < n → τ i = τ j → i = j)
  (hrel : ∀ j, j < n → ∀ m m', B[τ j]? = some m → B'[j]? = some m' → ∀ x, MER e m x → MER e2 m' x) : MapR e2 (A ++ B') ents ck := by
 obtain ⟨p, hp, hms⟩ := hm.perm
 obtain ⟨Q, hQ, hQl, hQg⟩ := turned hB h1 h2
 have hF : F2 (fun m m' => ∀ x, MER e m x → MER e2 m' x) (A ++ Q) (A ++ B') := by
  refine F2.app (F2.of_get rfl fun i v u hv hu x hx => ?_) (F2.of_get (by rw [hQl, hB']) fun i v u hv hu => ?_)
  ·rw [hv] at hu; cases hu
   exact hx.mono he
  ·have hi : i < n := by rw [← hQl]; exact (List.getElem?_eq_some_iff.1 hv).1
   rw [hQg i hi] at hv
   exact hrel i hi v u hv hu
 obtain ⟨p', hp', hF'⟩ := perm_rel (hp.trans (hQ.append_left A)) hF
 exact ⟨⟨p', hp', MERs.turn hF' hms⟩, hm.born, hm.stamps, hm.keys⟩
theorem map_mem {e : Env} {es : List ME} {ents : Array MapEntry} {ck : Nat} (hm : MapR e es ents ck) {m : ME} (h : m ∈ es) : ∃ x, MER e m x := by
 obtain ⟨p, hp, hms⟩ := hm.perm
 have hmp := hp.mem_iff.2 h
 clear hp
 generalize ents.toList = l at hms
 induction hms with
 | nil => cases hmp
 | cons m' x l l' h1 ht ih =>
   rcases List.mem_cons.1 hmp with rfl | h
   ·exact ⟨x, h1⟩
   ·exact ih h
end
end Go.Xe
end
section
namespace Go.Xe
noncomputable section
structure Named (e e2 : Env) (g n c0 : Nat) (bk : Nat → Nat) (τ : Nat → Nat) (s1 s2 s3 s4 : Nat → Nat) : Prop where
 l1 : ∀ j, j < n → e2.loc (g + 1 + 5 * j) = e.loc (bk (τ j))
 l2 : ∀ b, (∀ j, j < n → b ≠ g + 1 + 5 * j) → e2.loc b = e.loc b
 t1 : ∀ j, j < n → e2.stp (g + 1 + 5 * j + 1) = e.stp (s1 (τ j))
 t2 : ∀ j, j < n → e2.stp (g + 1 + 5 * j + 2) = e.stp (s2 (τ j))
 t3 : ∀ j, j < n → e2.stp (g + 1 + 5 * j + 3) = e.stp (s3 (τ j))
 t4 : ∀ j, j < n → e2.stp (g + 1 + 5 * j + 4) = e.stp (s4 (τ j))
 t5 : ∀ b, b ≤ g → e2.stp b = e.stp b
 t6 : ∀ b v, e2.stp b = some v → b < g + 1 + 5 * n ∨ e.stp b = some v
 num1 : ∀ j, j < n → e2.num g j = some (c0 + τ j)
 num2 : ∀ j, ¬ j < n → e2.num g j = none
 num3 : ∀ g' j, g' ≠ g → e2.num g' j = e.num g' j
 key : e2.key = e.key
 val : e2.val = e.val
 out : e2.out = e.out
theorem named (e : Env) (g n c0 : Nat) (bk τ s1 s2 s3 s4 : Nat → Nat) : ∃ e2, Named e e2 g n c0 bk τ s1 s2 s3 s4 := by
 refine ⟨⟨fun b => if g + 1 ≤ b ∧ b < g + 1 + 5 * n ∧ (b - (g + 1)) % 5 = 0 then e.loc (bk (τ ((b - (g + 1)) / 5))) else e.loc b,
  fun g' j => if g' = g then (if j < n then some (c0 + τ j) else none) else e.num g' j,
  fun b => if g + 1 ≤ b ∧ b < g + 1 + 5 * n then
   (if (b - (g + 1)) % 5 = 1 then e.stp (s1 (τ ((b - (g + 1)) / 5))) else if (b - (g + 1)) % 5 = 2 then e.stp (s2 (τ ((b - (g + 1)) / 5))) else
    if (b - (g + 1)) % 5 = 3 then e.stp (s3 (τ ((b - (g + 1)) / 5))) else if (b - (g + 1)) % 5 = 4 then e.stp (s4 (τ ((b - (g + 1)) / 5))) else none) else e.stp b,
  e.key, e.val, e.out⟩, ?_, ?_, ?_, ?_, ?_, ?_, ?_, ?_, ?_, ?_, ?_, rfl, rfl, rfl⟩
 ·intro j hj
  show (if _ then _ else _) = _
  rw [if_pos (by omega), show (g + 1 + 5 * j - (g + 1)) / 5 = j by omega]
 ·intro b hb
  show (if _ then _ else _) = _
  rw [if_neg]
  rintro ⟨h1, h2, h3⟩
  exact hb ((b - (g + 1)) / 5) (by omega) (by omega)
 ·intro j hj
  show (if _ then _ else _) = _
  rw [if_pos (by omega), if_pos (by omega), show (g + 1 + 5 * j + 1 - (g + 1)) / 5 = j by omega]
 ·intro j hj
  show (if _ then _ else _) = _
  rw [if_pos (by omega), if_neg (by omega), if_pos (by omega), show (g + 1 + 5 * j + 2 - (g + 1)) / 5 = j by omega]
 ·intro j hj
  show (if _ then _ else _) = _
  rw [if_pos (by omega), if_neg (by omega), if_neg (by omega), if_pos (by omega), show (g + 1 + 5 * j + 3 - (g + 1)) / 5 = j by omega]
 ·intro j hj
  show (if _ then _ else _) = _
  rw [if_pos (by omega), if_neg (by omega), if_neg (by omega), if_neg (by omega), if_pos (by omega), show (g + 1 + 5 * j + 4 - (g + 1)) / 5 = j by omega]
 ·intro b hb
  show (if _ then _ else _) = _
  rw [if_neg (by omega)]
 ·intro b v h
  by_cases hb : g + 1 ≤ b ∧ b < g + 1 + 5 * n
  ·exact .inl hb.2
  ·right
   have h' : (if g + 1 ≤ b ∧ b < g + 1 + 5 * n then _ else e.stp b) = some v := h
   rwa [if_neg hb] at h'
 ·intro j hj
  show (if _ then _ else _) = _
  rw [if_pos rfl, if_pos hj]
 ·intro j hj
  show (if _ then _ else _) = _
  rw [if_pos rfl, if_neg hj]
 ·intro g' j hg
  show (if _ then _ else _) = _
  rw [if_neg hg]
theorem order {e : Env} {h : AH} (hF : FamOk e h.fb h.fam) {n : Nat} (hn : n = h.fam.length)
  (hk : ∀ k, k < n → (∃ s, e.key (h.fb + k) = some s)) : ∃ τ : Nat → Nat, (∀ j, j < n → τ j < n) ∧ (∀ i j, i < n → j < n → τ i = τ j → i = j) ∧
   ∀ j, j < n → ∃ kv m c u, h.fam[j]? = some kv ∧ kv.k = .str m c ∧ e.key (h.fb + τ j) = some (zae m c) ∧ e.val (h.fb + τ j) = some u ∧ VR e kv.v u := by
 have hin : ∀ k, k < n → zb9 h.fb h.fam (h.fb + k) = true := fun k hk => by
  unfold zb9
  rw [zaj, Bool.and_eq_true, zaV, zat, zaH]
  refine ⟨by omega, ?_⟩
  show h.fb + k < h.fb + h.fam.length
  omega
 have hσ : ∀ k, ∃ j, k < n → j < n ∧ ∃ kv m c u, h.fam[j]? = some kv ∧ kv.k = .str m c ∧ e.key (h.fb + k) = some (zae m c) ∧ e.val (h.fb + k) = some u ∧ VR e kv.v u := fun k => by
  by_cases hkn : k < n
  ·obtain ⟨s, hs⟩ := hk k hkn
   obtain ⟨kv, hmem, m, c, h1, h2, u, h3, h4⟩ := hF.key _ s (hin k hkn) hs
   obtain ⟨j, hj⟩ := List.mem_iff_getElem?.1 hmem
   exact ⟨j, fun _ => ⟨by rw [hn]; exact (List.getElem?_eq_some_iff.1 hj).1, kv, m, c, u, hj, h1, by rw [hs, h2], h3, h4⟩⟩
  ·exact ⟨0, fun h => absurd h hkn⟩
 obtain ⟨σ, hσ⟩ := Classical.skolem.1 hσ
 have hinj : ∀ k k', k < n → k' < n → σ k = σ k' → k = k' := fun k k' h1 h2 he => by
  obtain ⟨_, kv, m, c, u, a1, a2, a3, _⟩ := hσ k h1
  obtain ⟨_, kv', m', c', u', b1, b2, b3, _⟩ := hσ k' h2
  rw [← he, a1] at b1; cases b1
  rw [a2] at b2; cases b2
  have := hF.inj _ _ _ (hin k h1) (hin k' h2) a3 b3
  omega
 have hτ : ∀ j, ∃ k, j < n → k < n ∧ σ k = j := fun j => by
  by_cases hj : j < n
  ·obtain ⟨k, h1, h2⟩ := zdU n σ (fun k hk => (hσ k hk).1) (fun k k' h1 h2 => hinj k k' h1 h2) j hj
   exact ⟨k, fun _ => ⟨h1, h2⟩⟩
  ·exact ⟨0, fun h => absurd h hj⟩
 obtain ⟨τ, hτ⟩ := Classical.skolem.1 hτ
 refine ⟨τ, fun j hj => (hτ j hj).1, fun i j hi hj he => ?_, fun j hj => ?_⟩
 ·rw [← (hτ i hi).2, ← (hτ j hj).2, he]
 ·obtain ⟨h1, h2⟩ := hτ j hj
  obtain ⟨_, kv, m, c, u, a1, a2, a3, a4, a5⟩ := hσ (τ j) h1
  rw [h2] at a1
  exact ⟨kv, m, c, u, a1, a2, a3, a4, a5⟩
end
end Go.Xe
end
