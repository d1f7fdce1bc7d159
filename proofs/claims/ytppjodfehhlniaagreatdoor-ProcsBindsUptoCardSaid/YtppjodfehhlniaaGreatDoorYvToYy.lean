/-
  For regions that draw: a loud operation, whatever came before it; For regions that draw: all orders, and the end; For regions that draw: loud operatio. Conditions: none.
-/
import Derived.Test.YtppjodfehhlniaaGreatDoorYsToYu
set_option linter.unusedVariables false
set_option linter.unusedSimpArgs false
set_option linter.unusedSectionVars false
section
namespace Go.Xe
noncomputable section
section
variable {P : Program} {I : zba} {self : Option Nat → Code → Fr → AH → R} {pl : Plan} {all : List Oper} {base : Nat} {s : Nat → DS}
theorem zrg {op : Op} {vs : List AV} {en : Ent} {f : Nat → AV} (hm : mkE P op vs = some (en, f)) : zbq en = [] ∧ famE en = 0 ∧ wrE en = true := by
 cases op <;> try (cases hm; done)
 case alloc t =>
  have hm' : bnd (zfc P t) (fun z => some ((Ent.cells z.cells t true 0 [], fun b => AV.ptr b 0) : Ent × (Nat → AV))) = some (en, f) := hm
  rw [zaa] at hm'
  obtain ⟨z, hz, hm'⟩ := hm'
  cases hm'
  exact ⟨rfl, rfl, rfl⟩
 case box t x =>
  have hm' : arg1 vs (fun v => some ((Ent.cells v.cells t true 0 [], fun b => AV.ptr b 0) : Ent × (Nat → AV))) = some (en, f) := hm
  rw [zaz] at hm'
  obtain ⟨a, rfl, hm'⟩ := hm'
  cases hm'
  exact ⟨rfl, rfl, rfl⟩
 case buildSlice t n ps =>
  have hm' : bnd (zhi P t) (fun e => grd (Nat.ble (Nat.mul n e.2) 16777216) (bnd (zcP P e.1 e.2 n) fun z => bnd (zjc (zgr e.2) (zipI ps.toList vs) z) fun l =>
   some ((Ent.cells l e.1 true 0 [], fun b => AV.sl b 0 n e.2) : Ent × (Nat → AV)))) = some (en, f) := hm
  rw [zaa] at hm'
  obtain ⟨el, he, hm'⟩ := hm'
  rw [zac, zaa] at hm'
  obtain ⟨hsz, zs, hzs, hm'⟩ := hm'
  rw [zaa] at hm'
  obtain ⟨l, hl, hm'⟩ := hm'
  cases hm'
  exact ⟨rfl, rfl, rfl⟩
 case makeMap t r =>
  have hm' : grd (isNone r) (some ((Ent.map [] 0, fun b => AV.map b) : Ent × (Nat → AV))) = some (en, f) := hm
  rw [zac] at hm'
  cases hm'.2
  exact ⟨rfl, rfl, rfl⟩
theorem Mk.plain {j : Nat} {en : Ent} (h : Mk P all s j en) : zbq en = [] ∧ famE en = 0 ∧ wrE en = true := by
 obtain ⟨o, vs, f, _, _, _, _, h5⟩ := h
 exact zrg h5
theorem Mk.lt {j : Nat} {en : Ent} (h : Mk P all s j en) : j < all.length := by
 obtain ⟨o, vs, f, h1, _⟩ := h
 exact (List.getElem?_eq_some_iff.1 h1).1
theorem Sat.backs {e : Env} {h : AH} {H : Array Obj} (s0 : Sat e h H) (base : Nat) (Rm : Nat → Ent → Loc → Prop) (huni : ∀ i en en' L L', Rm i en L → Rm i en' L' → en = en' ∧ L = L')
  (hR : ∀ i en L, Rm i en L → e.loc (base + i) = some L ∧ (∃ o, H[L.blk]? = some o ∧ EntR e h.fm en L o) ∧ famE en = 0 ∧ zbq en = [] ∧ ¬ Own e h L.blk ∧ L.blk ≠ theG)
  (hdis : ∀ i i' en en' L L', Rm i en L → Rm i' en' L' → i ≠ i' → L.blk ≠ L'.blk) :
  ∀ k, ∃ h' : AH, Sat e h' H ∧ h'.next = h.next ∧ h'.fm = h.fm ∧ (∀ i en L, i < k → Rm i en L → h'.get (base + i) = some en) ∧ (∀ b, (∀ i en L, i < k → b = base + i → ¬ Rm i en L) → h'.get b = h.get b) ∧
    ∀ X, Own e h' X → Own e h X ∨ ∃ i en L, i < k ∧ Rm i en L ∧ X = L.blk := by
 intro k
 induction k with
 | zero => exact ⟨h, s0, rfl, rfl, fun i en L hi => by omega, fun b _ => rfl, fun X hX => .inl hX⟩
 | succ k ih =>
   obtain ⟨h1, s1, hn, hm, hg1, hg2, hown⟩ := ih
   by_cases hx : ∃ en L, Rm k en L
   ·obtain ⟨en, L, hk⟩ := hx
    obtain ⟨hl, ⟨o, ho, hr⟩, hf, hol, hno, hng⟩ := hR k en L hk
    have hno1 : ¬ Own e h1 L.blk := fun hO => by
     rcases hown _ hO with hO | ⟨i, en', L', hi, hri, hX⟩
     ·exact hno hO
     ·exact hdis k i en en' L L' hk hri (by omega) hX
    have s2 : Sat e (h1.set (base + k) en) H := s1.back (fun c => AH.get_set _ _ _ _) rfl rfl hl ho (hm ▸ hr) hf hol hno1 hng
    refine ⟨h1.set (base + k) en, s2, hn, hm, fun i en' L' hi hri => ?_, fun b hb => ?_, fun X ⟨c, en2, l2, hc, hl2, hX⟩ => ?_⟩
    ·rw [AH.get_set]
     by_cases hik : i = k
     ·subst hik
      rw [if_pos rfl, (huni i en en' L L' hk hri).1]
     ·rw [if_neg (by omega)]
      exact hg1 i en' L' (by omega) hri
    ·rw [AH.get_set, if_neg (fun hx => hb k en L (Nat.lt_succ_self _) hx hk)]
     exact hg2 b fun i en' L' hi => hb i en' L' (by omega)
    ·rw [AH.get_set] at hc
     by_cases hcb : c = base + k
     ·subst hcb
      rw [hl] at hl2; cases hl2
      exact .inr ⟨k, en, L, Nat.lt_succ_self _, hk, hX.symm⟩
     ·rw [if_neg hcb] at hc
      rcases hown X ⟨c, en2, l2, hc, hl2, hX⟩ with h | ⟨i, en', L', hi, hri, hX⟩
      ·exact .inl h
      ·exact .inr ⟨i, en', L', by omega, hri, hX⟩
   ·refine ⟨h1, s1, hn, hm, fun i en' L' hi hri => ?_, fun b hb => hg2 b fun i en' L' hi => hb i en' L' (by omega), fun X hX => ?_⟩
    ·by_cases hik : i = k
     ·subst hik; exact absurd ⟨en', L', hri⟩ hx
     ·exact hg1 i en' L' (by omega) hri
    ·rcases hown X hX with h | ⟨i, en', L', hi, hri, hX⟩
     ·exact .inl h
     ·exact .inr ⟨i, en', L', by omega, hri, hX⟩
variable {Stg : (Nat → Prop) → AH → Prop} {e0 : Env} {h00 : AH} {w0 : World}
theorem Inv.loud (ok : POk P) (hcall : zb4 P (zdt P I self)) (hround : zcs P (roundA self)) (D : DrawOk P I self pl all base s) (K : StageOk P I self pl all base s Stg) (hb0 : h00.next = base) {S : Nat → Prop} {a : Act} {w : World} {e : Env} {h G : AH}
  (V : Inv P pl all base s Stg e0 h00 w0 S a w e h G) {j m : Nat} {o : Oper} (ho : all[j]? = some o) (hm : pl.ms[j]? = some m) (hnj : ¬ S j) (hanc : ∀ i, bit m i = true → S i) (hq : zal P o.op = false) (hw : zat all (s j).fr o.guard = some true)
  {ρ : Option Nat} {next : Act → World → Prop} {Q : Exit → Act → World → Prop}
  (hk : ∀ a' w' e' h' G', Inv P pl all base s Stg e0 h00 w0 (fun i => S i ∨ i = j) a' w' e' h' G' → next a' w') : o.wpIn (fen ρ) 0 P a w next Q := by
 obtain ⟨hin, hout, vs, v, hvs, hp, hr, hin1, hin2, hin3, hstg⟩ := K.loud S j m o G V.dc ho hm hq hnj hanc hw V.stg
 have ha := zcL (e := e) (a := a) hvs fun t ht => by
  have := V.fr.at_ t
  rw [zhx D ho hm hnj hanc V.dc ht] at this
  exact this
 have hsub : ∀ b en, hin.get b = some en → h.get b = some en := fun b en hb => by
  rcases hin3 b en hb with ⟨i, rfl, hmk, hbi, hl⟩ | hG
  ·exact V.get1 i en hmk (hanc i hbi) hl
  ·exact V.under hG
 have hnx : hin.next = h.next := by rw [hin1, V.hn]
 have hfm : hin.fm = h.fm := by rw [hin2, V.hm]
 have sin : Sat e hin w.heap := V.sat.sub hsub (by rw [hnx]; exact Nat.le_refl _) hfm
 have hjm : ∀ en, ¬ Mk P all s j en := fun en ⟨o', vs', f', b1, b2, _⟩ => by
  rw [ho] at b1; cases b1
  rw [zbB b2] at hq; cases hq
 have hL : ∀ k, zec P all pl.ms s (fun i => S i ∨ i = j) k ↔ zec P all pl.ms s S k ∨ bit m k = true := fun k => by
  constructor
  ·rintro ⟨i, m', o', hS, ho', hm', hq', hw', hb⟩
   rcases hS with hS | rfl
   ·exact .inl ⟨i, m', o', hS, ho', hm', hq', hw', hb⟩
   ·rw [hm] at hm'; cases hm'
    exact .inr hb
  ·rintro (⟨i, m', o', hS, rest⟩ | hb)
   ·exact ⟨i, m', o', .inl hS, rest⟩
   ·exact ⟨j, m, o, .inr rfl, ho, hm, hq, hw, hb⟩
 have hld : zoK o.op = true := (D.hops j m o ho hm).kind.resolve_left (by rw [hq]; simp)
 refine zq8 ok hcall hround hr sin ha (zmn hld) fun e1 u w1 s1 hu st1 => ?_
 obtain ⟨Rm, hRm⟩ : ∃ Rm : Nat → Ent → Loc → Prop, Rm = fun i en L => Mk P all s i en ∧ S i ∧ ¬ zec P all pl.ms s (fun i => S i ∨ i = j) i ∧ e.loc (base + i) = some L := ⟨_, rfl⟩
 have hget : ∀ i en L, Rm i en L → h.get (base + i) = some en := fun i en L hx => by
  rw [hRm] at hx
  exact V.get1 i en hx.1 hx.2.1 fun hl => hx.2.2.1 ((hL i).2 (.inl hl))
 have hinn : ∀ i en, Mk P all s i en → ¬ zec P all pl.ms s (fun i => S i ∨ i = j) i → hin.get (base + i) = none := fun i en hmk hl => by
  cases hg : hin.get (base + i) with
  | none => rfl
  | some en' =>
    rcases hin3 _ en' hg with ⟨i', hii, hmk', hbi, _⟩ | hG
    ·have : i' = i := by omega
     subst this
     exact absurd ((hL i').2 (.inr hbi)) hl
    ·rw [V.ng i en hmk fun hx => hl ((hL i).2 (.inl hx))] at hG; cases hG
 have hown : ∀ i en L, Rm i en L → ¬ Own e hin L.blk := fun i en L hx ⟨c, en', l', hc, hl', hblk⟩ => by
  have hgi := hget i en L hx
  rw [hRm] at hx
  obtain ⟨hmk, hSi, hnl, hloc⟩ := hx
  obtain ⟨hol, _, hwr⟩ := hmk.plain
  by_cases hcb : c = base + i
  ·subst hcb
   rw [hinn i en hmk hnl] at hc; cases hc
  ·have hc' := hsub c en' hc
   rcases V.sat.sep c (base + i) en' en l' L hc' hgi hl' hloc hcb hblk with h1 | h1
   ·have := V.sat.olds c (base + i) en' en l' L hc' h1 hgi hl' hloc hblk
    rw [hwr] at this; cases this
   ·rw [hol] at h1; cases h1
 have hfacts : ∀ i en L, Rm i en L → e1.loc (base + i) = some L ∧ (∃ ob, w1.heap[L.blk]? = some ob ∧ EntR e1 hout.fm en L ob) ∧ famE en = 0 ∧ zbq en = [] ∧ ¬ Own e1 hout L.blk ∧ L.blk ≠ theG := fun i en L hx => by
  have hgi := hget i en L hx
  have hno := hown i en L hx
  rw [hRm] at hx
  obtain ⟨hmk, hSi, hnl, hloc⟩ := hx
  obtain ⟨hol, hfa, hwr⟩ := hmk.plain
  obtain ⟨L', ob, hL', hob, hent⟩ := V.sat.ents _ _ hgi
  rw [hloc] at hL'; cases hL'
  obtain ⟨q1, q2⟩ := st1.keep L.blk (V.sat.locs _ _ hloc).2 hno
  exact ⟨st1.le.loc _ _ hloc, ⟨ob, by rw [q1]; exact hob, hent.plain st1.le hfa⟩, hfa, hol, q2, fun hx => V.sat.glob.2 (hx ▸ ⟨base + i, en, L, hgi, hloc, rfl⟩)⟩
 have hdis : ∀ i i' en en' L L', Rm i en L → Rm i' en' L' → i ≠ i' → L.blk ≠ L'.blk := fun i i' en en' L L' hx hx' hne hblk => by
  have hgi := hget i en L hx
  have hgi' := hget i' en' L' hx'
  rw [hRm] at hx hx'
  obtain ⟨hol, _, _⟩ := hx.1.plain
  obtain ⟨hol', _, _⟩ := hx'.1.plain
  rcases V.sat.sep (base + i) (base + i') en en' L L' hgi hgi' hx.2.2.2 hx'.2.2.2 (by omega) hblk with h1 | h1
  ·rw [hol] at h1; cases h1
  ·rw [hol'] at h1; cases h1
 obtain ⟨h', s', hn', hm', hg1, hg2, hown'⟩ := s1.backs base Rm (fun i en en' L L' hx hx' => by
  rw [hRm] at hx hx'
  refine ⟨hx.1.inj hx'.1, ?_⟩
  have := hx.2.2.2
  rw [hx'.2.2.2] at this
  exact (Option.some.inj this).symm) hfacts hdis all.length
 have hb : base ≤ hin.next := by rw [hnx, ← hb0]; exact V.st.nxt
 refine hk _ w1 e1 h' hout ⟨s', ?_, (V.fr.mono st1.le).put D ho (PutF.of hp).1 (fun hd => by rw [zaZ hd] at hq; cases hq) hu, zrf V.dc hm hanc, hstg, hn', hm', fun i en h1 h2 h3 => ?_, fun b hbb => ?_, fun i en h1 h2 => ?_, fun i en h1 h2 => ?_, fun i en h1 => ?_⟩
 ·refine ⟨V.st.le.trans st1.le, ?_, Nat.le_trans V.st.size st1.size, fun X hX hO => ?_, st1.os.trans V.st.os, st1.tape.trans V.st.tape, st1.output.trans V.st.output, fun b l hbl => ?_, fun b hlt hg => ?_⟩
  ·rw [hn']
   have h1 := V.st.nxt
   have h2 := st1.nxt
   omega
  ·obtain ⟨q1, q2⟩ := V.st.keep X hX hO
   have hXw : X < w.heap.size := Nat.lt_of_lt_of_le hX V.st.size
   have q3 : ¬ Own e hin X := fun ⟨c, en', l', hc, hl', hX'⟩ => q2 ⟨c, en', l', hsub c en' hc, hl', hX'⟩
   obtain ⟨q4, q5⟩ := st1.keep X hXw q3
   refine ⟨q4.trans q1, fun hO' => ?_⟩
   rcases hown' X hO' with hO' | ⟨i, en, L, _, hx, hXL⟩
   ·exact q5 hO'
   ·have hgi := hget i en L hx
    rw [hRm] at hx
    exact q2 ⟨base + i, en, L, hgi, hx.2.2.2, hXL.symm⟩
  ·rcases st1.new b l hbl with hx | hx
   ·exact V.st.new b l hx
   ·exact .inr (by rw [hb0]; omega)
  ·have hbb : b < base := by rw [← hb0]; exact hlt
   rw [hg2 b fun i en L _ hx => by omega]
   refine st1.gone b (by omega) ?_
   cases hgi : hin.get b with
   | none => rfl
   | some en => have hx := hsub b en hgi; rw [V.st.gone b hlt hg] at hx; cases hx
 ·have hSi : S i := h2.resolve_right fun hx => hjm en (hx ▸ h1)
  have hgi := V.get1 i en h1 hSi fun hl => h3 ((hL i).2 (.inl hl))
  obtain ⟨L, _, hloc, _⟩ := V.sat.ents _ _ hgi
  exact hg1 i en L h1.lt (by rw [hRm]; exact ⟨h1, hSi, h3, hloc⟩)
 ·refine hg2 b fun i en L hi hx hRi => ?_
  rw [hRm] at hRi
  exact hRi.2.2.1 (hbb i en hx hRi.1 (.inl hRi.2.1))
 ·exact st1.gone _ (by rw [hnx]; exact V.nx i en h1) (hinn i en h1 h2)
 ·cases hl : e1.loc (base + i) with
  | none => rfl
  | some l =>
    rcases st1.new _ l hl with hx | hx
    ·rw [V.fresh i en h1 fun h => h2 (.inl h)] at hx; cases hx
    ·have := V.nx i en h1
     omega
 ·rw [hn']
  have h2 := st1.nxt
  have := V.nx i en h1
  omega
end
end
end Go.Xe
end
section
namespace Go.Xe
noncomputable section
section
variable {P : Program} {I : zba} {self : Option Nat → Code → Fr → AH → R} {pl : Plan} {all : List Oper} {base : Nat} {s : Nat → DS}
variable {Stg : (Nat → Prop) → AH → Prop} {e0 : Env} {h00 : AH} {w0 : World}
theorem Step.sub {e : Env} {h h2 : AH} {w : World} (st : Step e0 h00 w0 e h w) (hsub : ∀ b en, h2.get b = some en → h.get b = some en) (hn : h.next ≤ h2.next) : Step e0 h00 w0 e h2 w := by
 refine ⟨st.le, Nat.le_trans st.nxt hn, st.size, fun X hX hO => ?_, st.os, st.tape, st.output, st.new, fun b hb hg => ?_⟩
 ·obtain ⟨q1, q2⟩ := st.keep X hX hO
  exact ⟨q1, fun ⟨c, en, l, hc, hl, hx⟩ => q2 ⟨c, en, l, hsub c en hc, hl, hx⟩⟩
 ·cases hx : h2.get b with
  | none => rfl
  | some en =>
    have := hsub b en hx
    rw [st.gone b hb hg] at this; cases this
theorem Inv.oper (ok : POk P) (hcall : zb4 P (zdt P I self)) (hround : zcs P (roundA self)) (D : DrawOk P I self pl all base s) (K : StageOk P I self pl all base s Stg) (hb0 : h00.next = base) {ops : Array Oper} (hall : ops.toList = all) {S : Nat → Prop} {a : Act} {w : World} {e : Env} {h G : AH}
  (V : Inv P pl all base s Stg e0 h00 w0 S a w e h G) {j m : Nat} {o : Oper} (ho : all[j]? = some o) (hm : pl.ms[j]? = some m) (hnj : ¬ S j) (hanc : ∀ i, bit m i = true → S i)
  {ρ : Option Nat} (hρ : ∀ (i : Nat) (o : Oper), all[i]? = some o → zay o.op = true → ρ = none) {next : Act → World → Prop} {Q : Exit → Act → World → Prop}
  (hk : ∀ a' w' e' h' G', Inv P pl all base s Stg e0 h00 w0 (fun i => S i ∨ i = j) a' w' e' h' G' → next a' w') : wpOpIn (fen ρ) 0 P ops Q j next a w := by
 have hj : ops[j]? = some o := by rw [← Array.getElem?_toList, hall]; exact ho
 unfold wpOpIn
 rw [hj]
 simp only []
 obtain ⟨m', hm', hst⟩ := D.run.at_ D.mok.len ho
 rw [hm] at hm'; cases hm'
 obtain ⟨_, v, hp, _, hS⟩ := zaD hst
 cases hS with
 | off hw hV hh hps hhs =>
   rw [if_neg (by rw [zdy D hall ho hm hanc V.fr hw]; simp)]
   refine ⟨fun f _ => trivial, hk _ _ e h G (V.value D K ho hm hnj hanc (.inr hw) (fun en ⟨o', vs', f', b1, b2, b3, _⟩ => ?_) (hV ▸ hp) (fun _ hw' => by rw [hw] at hw'; cases hw') (zcG e))⟩
   rw [ho] at b1; cases b1
   rw [hw] at b3; cases b3
 | made hw vs en f hvs hm' hmk =>
   rw [if_pos (zdy D hall ho hm hanc V.fr hw)]
   exact V.made D K hb0 ho hm hnj hanc hm' hw hk
 | quiet hw vs hvs hq hm' hv =>
   rw [if_pos (zdy D hall ho hm hanc V.fr hw)]
   exact V.quiet D K ho hm hnj hanc hq hm' (zcf hv) hw hk
 | dfr hw vs hvs hd =>
   rw [if_pos (zdy D hall ho hm hanc V.fr hw)]
   have := hρ j o ho hd
   subst this
   exact V.dfr ok D K ho hm hnj hanc hd hw hk
 | loud hw vs hvs hq =>
   rw [if_pos (zdy D hall ho hm hanc V.fr hw)]
   exact V.loud ok hcall hround D K hb0 ho hm hnj hanc hq hw hk
theorem zjY {listed : Array Bool} {j : Nat} (hj : listed.getD j true = false) : (listed.setIfInBounds j true).toList.count false < listed.toList.count false := by
 have hlt : j < listed.size := by
  rcases Nat.lt_or_ge j listed.size with h | h
  ·exact h
  ·rw [Array.getD_eq_getD_getElem?, Array.getElem?_eq_none h] at hj; cases hj
 have hv : listed.toList[j]'(by simpa using hlt) = false := by
  rw [Array.getD_eq_getD_getElem?, Array.getElem?_eq_getElem hlt] at hj
  simpa using hj
 have hmem : 0 < listed.toList.count false := List.count_pos_iff.2 (hv ▸ List.getElem_mem _)
 rw [Array.toList_setIfInBounds, List.count_set (by simpa using hlt), hv]
 have h2 : (false == false) = true := rfl
 have h3 : (true == false) = false := rfl
 rw [if_pos h2, h3]
 simp only [Bool.false_eq_true, if_false]
 omega
theorem zuF (ok : POk P) (hcall : zb4 P (zdt P I self)) (hround : zcs P (roundA self)) (D : DrawOk P I self pl all base s) (K : StageOk P I self pl all base s Stg) (hb0 : h00.next = base) {ops : Array Oper} (hall : ops.toList = all) {md : Region.Mode} (htopo : topo (zpN md) all = true)
  {ρ : Option Nat} (hρ : ∀ (i : Nat) (o : Oper), all[i]? = some o → zay o.op = true → ρ = none) {Q : Exit → Act → World → Prop} (hfin : ∀ (S : Nat → Prop) a w e h G, Inv P pl all base s Stg e0 h00 w0 S a w e h G → (∀ i, i < all.length → S i) → Q .normal a w) :
  ∀ (fuel : Nat) (listed : Array Bool) (a : Act) (w : World) (e : Env) (h G : AH), listed.size = all.length → Inv P pl all base s Stg e0 h00 w0 (Tk all.length listed) a w e h G → listed.toList.count false ≤ fuel → wpAnyIn (fen ρ) 0 P md ops Q fuel listed a w := by
 have hsz : ops.size = all.length := by rw [← hall]; simp
 have hdone : ∀ (listed : Array Bool) (a : Act) (w : World) (e : Env) (h G : AH), listed.size = all.length → Inv P pl all base s Stg e0 h00 w0 (Tk all.length listed) a w e h G → Region.ready md ops listed = [] → Q .normal a w := fun listed a w e h G hs V hr =>
  hfin _ a w e h G V fun i hi => ⟨hi, zpO (by rw [hall]; exact htopo) (by rw [hs, hsz]) hr i (by rw [hsz]; exact hi)⟩
 intro fuel
 induction fuel with
 | zero =>
   intro listed a w e h G hs V hc
   have hr : Region.ready md ops listed = [] := by
    cases hr : Region.ready md ops listed with
    | nil => rfl
    | cons j js =>
      have hj : j ∈ Region.ready md ops listed := by rw [hr]; exact List.mem_cons_self
      have := zjY (mem_ready.1 hj).1
      omega
   exact ⟨hr, hdone listed a w e h G hs V hr⟩
 | succ fuel ih =>
   intro listed a w e h G hs V hc
   refine ⟨hdone listed a w e h G hs V, fun j hj => ?_⟩
   obtain ⟨hun, o, ho, _⟩ := mem_ready.1 hj
   have ho' : all[j]? = some o := by rw [← hall, Array.getElem?_toList]; exact ho
   have hjl : j < all.length := (List.getElem?_eq_some_iff.1 ho').1
   obtain ⟨m, hm⟩ := D.mask ho'
   obtain ⟨hnj, hanc⟩ := zre D hall hs hj ho' hm V.dc
   refine V.oper ok hcall hround D K hb0 hall ho' hm hnj hanc hρ fun a' w' e' h' G' V' => ?_
   have hset : (fun i => Tk all.length listed i ∨ i = j) = Tk all.length (listed.setIfInBounds j true) := funext fun i => propext (Tk.set hs hjl i).symm
   rw [hset] at V'
   have := zjY hun
   exact ih _ a' w' e' h' G' (by simpa using hs) V' (by omega)
theorem Inv.fin (D : DrawOk P I self pl all base s) (K : StageOk P I self pl all base s Stg) {S : Nat → Prop} {a : Act} {w : World} {e : Env} {h G : AH} (V : Inv P pl all base s Stg e0 h00 w0 S a w e h G) (hS : ∀ i, i < all.length → S i) :
  Post e0 h00 w0 .normal (s all.length).fr (zdu (s all.length).ps (s all.length).h) .normal a w := by
 obtain ⟨hF1, hF2, hF3⟩ := K.fin S G hS V.stg
 obtain ⟨hps, _⟩ := D.run.ps D.mok.len D.h0p D.mok.lt (Nat.le_refl all.length)
 obtain ⟨r1, r2⟩ := znR (s all.length).h (s all.length).ps
 have hLL : ∀ k, zec P all pl.ms s S k → Laid P all pl.ms s all.length k := fun k ⟨i, m, o, _, ho, rest⟩ => ⟨i, m, o, (List.getElem?_eq_some_iff.1 ho).1, ho, rest⟩
 have hsub : ∀ b en, (zdu (s all.length).ps (s all.length).h).get b = some en → h.get b = some en := fun b en hb => by
  rcases zjX (s all.length).h (s all.length).ps b with ⟨p, hp, q1, q2⟩ | ⟨_, q2⟩
  ·obtain ⟨p1, p2, p3, p4⟩ := hps p hp
   rw [q2] at hb; cases hb
   rw [← q1, p2]
   exact V.get1 p.j p.e p3 (hS _ p1) fun hl => p4 (hLL _ hl)
  ·rw [q2, ← hF1] at hb
   exact V.under hb
 have hn : h.next = (zdu (s all.length).ps (s all.length).h).next := by rw [r1, ← hF2, V.hn]
 have n1 := D.run.same D.mok.len (Nat.le_refl all.length)
 have n2 : dsW all s S = (s all.length).fr.ds := by
  by_cases hx : ∃ (i : Nat) (o : Oper), all[i]? = some o ∧ zay o.op = true
  ·obtain ⟨i, o, ho, hd⟩ := hx
   exact zmm (hS i (List.getElem?_eq_some_iff.1 ho).1) ho hd
  ·rw [ziG fun i o _ b c => hx ⟨i, o, b, c⟩]
   exact (D.run.dsKeep D.mok.len (Nat.zero_le _) (Nat.le_refl _) fun i o _ _ b c => absurd ⟨i, o, b, c⟩ hx).symm
 refine ⟨rfl, e, V.sat.sub hsub (Nat.le_of_eq hn) (by rw [r2, ← hF3, V.hm]), ⟨⟨by rw [V.fr.size, n1], fun t => ?_⟩, by rw [← n2]; exact V.fr.ds⟩, V.st.sub hsub (Nat.le_of_eq hn)⟩
 have h1 := V.fr.at_ t
 by_cases hx : ∃ (i : Nat) (o : Oper), all[i]? = some o ∧ o.dst = some t
 ·obtain ⟨i, o, ho, hd⟩ := hx
  rwa [znS (hS i (List.getElem?_eq_some_iff.1 ho).1) ho hd] at h1
 ·rw [ziF fun i o _ h2 h3 => hx ⟨i, o, h2, h3⟩, ← D.run.undone D.mok.len D.hops (Nat.le_refl _) fun i o _ h2 h3 => hx ⟨i, o, h2, h3⟩] at h1
  exact h1
theorem ziI {l : List Oper} {i : Nat} {o : Oper} (ho : l[i]? = some o) (hd : zay o.op = true) : 1 ≤ zbL l := by
 induction l generalizing i with
 | nil => simp at ho
 | cons x l ih =>
   have h1 : zbL (x :: l) = ite' (zay x.op) (Nat.succ (zbL l)) (zbL l) := rfl
   cases i with
   | zero =>
     simp at ho; subst ho
     rw [h1, hd, ite'_true]; exact Nat.le_add_left _ _
   | succ i =>
     have := ih (by simpa using ho)
     rw [h1]
     cases zay x.op
     ·rw [ite'_false]; exact this
     ·rw [ite'_true]; exact Nat.le_succ_of_le this
theorem znU {l : List Oper} (h : zbL l ≤ 1) : ∀ (i j : Nat) (oi oj : Oper), l[i]? = some oi → l[j]? = some oj → zay oi.op = true → zay oj.op = true → i = j := by
 induction l with
 | nil => intro i j oi oj hi; simp at hi
 | cons x l ih =>
   intro i j oi oj hi hj hdi hdj
   have h1 : zbL (x :: l) = ite' (zay x.op) (Nat.succ (zbL l)) (zbL l) := rfl
   rw [h1] at h
   cases hx : zay x.op with
   | false =>
     rw [hx, ite'_false] at h
     cases i with
     | zero => simp at hi; subst hi; rw [hx] at hdi; cases hdi
     | succ i =>
       cases j with
       | zero => simp at hj; subst hj; rw [hx] at hdj; cases hdj
       | succ j => rw [ih h i j oi oj (by simpa using hi) (by simpa using hj) hdi hdj]
   | true =>
     rw [hx, ite'_true] at h
     have h0 : ∀ (k : Nat) (o : Oper), l[k]? = some o → zay o.op = true → False := fun k o hk hd => by
      have := ziI hk hd
      omega
     cases i with
     | succ i => exact (h0 i oi (by simpa using hi) hdi).elim
     | zero =>
       cases j with
       | succ j => exact (h0 j oj (by simpa using hj) hdj).elim
       | zero => rfl
theorem ziJ {pl : Plan} (h : zlB P all = some pl) : zbL all ≤ 1 ∧ (∀ md : Region.Mode, topo (zpN md) all = true) ∧ MaskOk all pl.ms ∧ zsX P all pl.ms ∧ ((pl.tw = none ∧ ze4 pl.ms (zc9 P all 0) = true) ∨ ∃ t, pl.tw = some t ∧ zkB P all pl.ms (zc9 P all 0) = some t) := by
 unfold zlB at h
 rw [zac, zac, zac, zac, zaa] at h
 obtain ⟨tn, t0, t1, t2, ms, hms, h⟩ := h
 rw [zac, zav] at h
 obtain ⟨hop, h⟩ := h
 refine ⟨Nat.le_of_ble_eq_true tn, fun md => by cases md <;> assumption, ?_⟩
 rcases h with ⟨hc, h⟩ | ⟨hc, h⟩
 ·cases h
  refine ⟨zo5 hms, fun j m o ho hm => ?_, .inl ⟨rfl, hc⟩⟩
  have := zfv hop j m o ho hm
  rwa [Nat.zero_add] at this
 ·rw [zaa] at h
  obtain ⟨t, ht, h⟩ := h
  cases h
  refine ⟨zo5 hms, fun j m o ho hm => ?_, .inr ⟨t, rfl, ht⟩⟩
  have := zfv hop j m o ho hm
  rwa [Nat.zero_add] at this
def zt5 (P : Program) (I : zba) (self : Option Nat → Code → Fr → AH → R) : Prop :=
 ∀ (pl : Plan) (all : List Oper) (base : Nat) (s : Nat → DS), DrawOk P I self pl all base s → zlB P all = some pl → ∃ Stg, StageOk P I self pl all base s Stg
theorem zsZ {l : List Oper} {j : Nat} {o : Oper} (ho : l[j]? = some o) (hm : zbU o.op = true) : zpv l = true := by
 induction l generalizing j with
 | nil => simp at ho
 | cons x l ih =>
   have h1 : zpv (x :: l) = ite' (zbU x.op) true (zpv l) := rfl
   rw [h1, zcR, Bool.or_eq_true]
   cases j with
   | zero => simp at ho; subst ho; exact .inl hm
   | succ j => exact .inr (ih (by simpa using ho))
theorem zrh (ok : POk P) (hI : KnownOk P I) (hg : Good P self) (hst : zt5 P I self) : zk0 P (zsC P I self) := by
 have hcall := zfr (I := I) ok hg hI
 have hround := zix hg
 intro rd id ops fr h x fr' h' hr e a w ρ sat hf hrr
 have hρ : ∀ (i : Nat) (o : Oper), ops.toList[i]? = some o → zay o.op = true → ρ = none := fun i o ho hd => by
  rcases hrr with ⟨_, hq⟩ | ⟨l, L, hq, _⟩
  ·exact hq
  ·subst hq
   have h3 : ite' (Nat.beq (zbL ops.toList) 0) (zpw P I self ops.toList fr h) (.no "defer in a round") = R.ok x fr' h' := hr
   have h4 := ziI ho hd
   have h5 : Nat.beq (zbL ops.toList) 0 = false := by
    cases hb : Nat.beq (zbL ops.toList) 0 with
    | false => rfl
    | true => have := Nat.eq_of_beq_eq_true hb; omega
   rw [h5, ite'_false] at h3
   cases h3
 have hr' : zpw P I self ops.toList fr h = .ok x fr' h' := by
  cases rd with
  | none => exact hr
  | some l =>
    have h3 : ite' (Nat.beq (zbL ops.toList) 0) (zpw P I self ops.toList fr h) (.no "defer in a round") = R.ok x fr' h' := hr
    cases hb : Nat.beq (zbL ops.toList) 0 with
    | true => rw [hb, ite'_true] at h3; exact h3
    | false => rw [hb, ite'_false] at h3; cases h3
 unfold zpw at hr'
 generalize hx : (bnd (zlB P ops.toList) fun pl => frc h.next fun base => frc (Nat.add base (ite' (zpv ops.toList) (len ops.toList) 0)) fun nx =>
   bnd (zkF P I self pl ops.toList base ops.toList 0 pl.ms ⟨fr, ⟨nx, h.t, h.fb, h.fam⟩, [⟨nx, h.t, h.fb, h.fam⟩], []⟩) fun s =>
    grd (zhU P ops.toList pl.ms s.fr s.hs ops.toList 0 pl.ms) (some s)) = r at hr'
 cases r with
 | none => cases hr'
 | some sF =>
   have hr2 : R.ok .normal sF.fr (zdu sF.ps sF.h) = .ok x fr' h' := hr'
   rw [zaa] at hx
   obtain ⟨pl, hpl, hx⟩ := hx
   rw [zaL, zaL, zaa] at hx
   obtain ⟨s', hrun, hx⟩ := hx
   rw [zac] at hx
   obtain ⟨hstay, hx⟩ := hx
   cases hx
   obtain ⟨nx, hnx⟩ : ∃ nx, nx = Nat.add h.next (ite' (zpv ops.toList) (len ops.toList) 0) := ⟨_, rfl⟩
   rw [← hnx] at hrun
   have hle : h.next ≤ nx := by rw [hnx]; exact Nat.le_add_right _ _
   obtain ⟨hone, htopo, hmok, hops, hkind⟩ := ziJ hpl
   obtain ⟨s, hs0, hsF, hstep⟩ := ze8 ops.toList 0 pl.ms _ _ hrun
   have D : DrawOk P I self pl ops.toList h.next s := ⟨⟨fun k m o ho hm => by
    have := hstep k m o ho hm
    rwa [Nat.zero_add] at this⟩, hmok, hops, by rw [hs0], by rw [hs0], znU hone, by rw [hsF]; exact hstay⟩
   obtain ⟨Stg, K⟩ := hst pl ops.toList h.next s D hpl
   obtain ⟨h1, hh1⟩ : ∃ h1 : AH, h1 = ⟨nx, h.t, h.fb, h.fam⟩ := ⟨_, rfl⟩
   have hg1 : ∀ b, h1.get b = h.get b := fun b => by rw [hh1]; rfl
   have hn1 : h1.next = nx := by rw [hh1]
   have s1 : Sat e h1 w.heap := sat.sub (fun b en hb => by rw [← hg1]; exact hb) (by rw [hn1]; exact hle) (by rw [hh1]; rfl)
   have hs0h : (s 0).h = h1 := by rw [hs0, hh1]
   have hs0f : (s 0).fr = fr := by rw [hs0]
   have hmk : ∀ i en, Mk P ops.toList s i en → h.next + i < nx := fun i en hk => by
    have hlt := hk.lt
    obtain ⟨o, vs, f, ho, hm, _⟩ := hk
    rw [hnx, zsZ ho hm, ite'_true, zaU]
    exact Nat.add_lt_add_left hlt _
   have hun : ∀ i, h.get (h.next + i) = none := fun i => by
    cases hgt : h.get (h.next + i) with
    | none => rfl
    | some en =>
      obtain ⟨L, _, hl, _⟩ := sat.ents _ _ hgt
      have := (sat.locs _ _ hl).1
      omega
   have hfr : ∀ i, e.loc (h.next + i) = none := fun i => by
    cases hl : e.loc (h.next + i) with
    | none => rfl
    | some l =>
      have := (sat.locs _ _ hl).1
      omega
   have hst1 : ∀ w1 : World, w1.heap = w.heap → w1.os = w.os → w1.tape = w.tape → w1.output = w.output → Step e h w e h1 w1 := fun w1 a1 a2 a3 a4 =>
    ⟨.refl e, by rw [hn1]; exact hle, by rw [a1]; exact Nat.le_refl _, fun X hX hO => ⟨by rw [a1], fun ⟨c, en, l, hc, hl, hx⟩ => hO ⟨c, en, l, by rw [← hg1]; exact hc, hl, hx⟩⟩, a2, a3, a4, fun _ _ h => .inl h, fun b _ hgb => by rw [hg1]; exact hgb⟩
   have key : ∀ (md : Region.Mode), wpAnyIn (fen ρ) 0 P md ops (Post e h w .normal (s ops.toList.length).fr (zdu (s ops.toList.length).ps (s ops.toList.length).h)) ops.size (Array.replicate ops.size false) a { w with drawn := w.drawn + 1 } := fun md => by
    have hT : Tk ops.toList.length (Array.replicate ops.size false) = fun _ => False := funext fun i => propext ⟨fun ⟨h1, h2⟩ => by
     have : i < ops.size := by simpa using h1
     simp [Array.getD_eq_getD_getElem?, this] at h2, fun h => h.elim⟩
    refine zuF (e0 := e) (h00 := h) (w0 := w) ok hcall hround D K rfl rfl (htopo md) hρ (fun S a' w' e' h' G' V hS => V.fin D K hS) ops.size _ a _ e h1 h1 (by simp) ?_ (by simp)
    rw [hT]
    refine ⟨s1, hst1 _ rfl rfl rfl rfl, ⟨?_, fun t => ?_, ?_⟩, fun j m hj => hj.elim, ?_, rfl, rfl, fun i en _ hS => hS.elim, fun b _ => rfl, fun i en _ _ => (hg1 _).trans (hun i), fun i en _ _ => hfr i, fun i en hk => by rw [hn1]; exact hmk i en hk⟩
    ·rw [hs0f]; exact hf.tmps.size
    ·rw [ziF (fun i o hS => hS.elim), hs0f]; exact hf.tmps.at_ t
    ·rw [ziG fun i o hS => hS.elim, hs0f]; exact hf.ds
    ·have := K.init
     rwa [hs0h] at this
   cases hr2
   rw [← hsF]
   refine wpIn_region_draw fun t => ?_
   have q : ∀ md t, wpOpsIn (fen ρ) 0 P ops (Post e h w .normal (s ops.toList.length).fr (zdu (s ops.toList.length).ps (s ops.toList.length).h)) (Region.linearise md ops t) a { w with drawn := w.drawn + 1 } := fun md t => wpAnyIn_sound ops.size t _ a _ (key md)
   unfold Region.schedule
   split
   ·exact q _ _
   ·split
    ·exact q _ _
    ·exact q _ _
end
end
end Go.Xe
end
section
namespace Go.Xe
noncomputable section
section
variable {P : Program} {I : zba} {self : Option Nat → Code → Fr → AH → R} {pl : Plan} {all : List Oper} {base : Nat} {s : Nat → DS}
theorem DrawOk.keepH (D : DrawOk P I self pl all base s) {k k' : Nat} (hkk : k ≤ k') (hk : k' ≤ all.length) (hn : ∀ i, k ≤ i → i < k' → Lp P all i = false) : (s k').h = (s k).h := by
 induction k' with
 | zero => rw [show k = 0 by omega]
 | succ k' ih =>
   by_cases h : k = k' + 1
   ·rw [h]
   ·have ho := List.getElem?_eq_getElem (show k' < all.length by omega)
    obtain ⟨m, hm, hst⟩ := D.run.at_ D.mok.len ho
    obtain ⟨_, V, hp, hds, hS⟩ := zaD hst
    have ih' := ih (by omega) (by omega) fun i h1 h2 => hn i h1 (by omega)
    have hq : zal P all[k'].op = true := by
     have := hn k' (by omega) (by omega)
     unfold Lp at this
     rw [ho] at this
     simpa using this
    cases hS with
    | off hw hV hh hps hhs => rw [hh, ih']
    | made hw vs en f hvs hm' hmk hV hh hhs hps => rw [hh, ih']
    | quiet hw vs hvs hq' hm' hV hh hhs hps => rw [hh, ih']
    | dfr hw vs hvs hd d hdf hV hds hh hhs hps => rw [hh, ih']
    | loud hw vs hvs hq' hr' hhs hps => rw [hq] at hq'; cases hq'
theorem DrawOk.loudAt (D : DrawOk P I self pl all base s) {S : Nat → Prop} {j m : Nat} {o : Oper} (ho : all[j]? = some o) (hm : pl.ms[j]? = some m) (hq : zal P o.op = false) (hw : zat all (s j).fr o.guard = some true)
  (hpre : ∀ i, Lp P all i = true → S i → i < j) :
  ∃ hin hout vs V, mapO (fun x => ev x (s j).fr) (zbp o.op) = some vs ∧ (s j).fr.put o.dst V = some (s (j + 1)).fr ∧ opR P I self o vs hin = some (V, hout) ∧ hin.next = (s j).h.next ∧ hin.fm = (s j).h.fm ∧
    (∀ b en, hin.get b = some en → (∃ i, b = base + i ∧ Mk P all s i en ∧ bit m i = true ∧ ¬ zec P all pl.ms s S i) ∨ (s j).h.get b = some en) ∧ hout = (s (j + 1)).h := by
 have hj : j < all.length := (List.getElem?_eq_some_iff.1 ho).1
 obtain ⟨m', hm', hst⟩ := D.run.at_ D.mok.len ho
 rw [hm] at hm'; cases hm'
 obtain ⟨_, V, hp, hds, hS⟩ := zaD hst
 cases hS with
 | off hw' => rw [hw] at hw'; cases hw'
 | made _ vs en f hvs hm' => rw [zbB hm'] at hq; cases hq
 | quiet _ vs hvs hq' => rw [hq] at hq'; cases hq'
 | dfr _ vs hvs hd => rw [zaZ hd] at hq; cases hq
 | loud _ vs hvs _ hr hhs hps =>
   replace hp := hp.back (hds.resolve_right fun hd => by rw [zaZ hd.1] at hq; cases hq)
   obtain ⟨q1, q2⟩ := zml m (s j).h (s j).ps
   refine ⟨_, _, vs, V, hvs, hp, hr, q1, q2, fun b en hb => ?_, rfl⟩
   rcases zfw m (s j).h (s j).ps b with ⟨p, hp', p1, p2, p3⟩ | ⟨_, p2⟩
   ·obtain ⟨r1, r2, r3, r4⟩ := (D.run.ps D.mok.len D.h0p D.mok.lt (Nat.le_of_lt hj)).1 p hp'
    rw [p3] at hb; cases hb
    refine .inl ⟨p.j, by rw [← p2, r2], r3, p1, fun ⟨i, mi, oi, hSi, hoi, hmi, hqi, rest⟩ => r4 ⟨i, mi, oi, hpre i (ze7.2 ⟨oi, hoi, hqi⟩) hSi, hoi, hmi, hqi, rest⟩⟩
   ·rw [p2] at hb
    exact .inr hb
theorem DrawOk.offAt (D : DrawOk P I self pl all base s) {j m : Nat} {o : Oper} (ho : all[j]? = some o) (hm : pl.ms[j]? = some m) (hw : zat all (s j).fr o.guard = some false) : (s (j + 1)).h = (s j).h := by
 obtain ⟨m', hm', hst⟩ := D.run.at_ D.mok.len ho
 rw [hm] at hm'; cases hm'
 obtain ⟨_, V, hp, hds, hS⟩ := zaD hst
 cases hS with
 | off hw' hV hh => exact hh
 | made hw' => rw [hw] at hw'; cases hw'
 | quiet hw' => rw [hw] at hw'; cases hw'
 | dfr hw' => rw [hw] at hw'; cases hw'
 | loud hw' => rw [hw] at hw'; cases hw'
theorem zmo {q : Nat → Bool} {k : Nat} : ∀ {n : Nat}, k ≤ n → (List.range n).countP (fun i => q i && decide (i < k)) = (List.range k).countP q := by
 intro n hk
 induction n with
 | zero => rw [show k = 0 by omega]; rfl
 | succ n ih =>
   rw [List.range_succ, List.countP_append, List.countP_singleton]
   by_cases h : k = n + 1
   ·subst h
    rw [List.range_succ, List.countP_append, List.countP_singleton]
    congr 1
    ·refine List.countP_congr fun i hi => ?_
     have := List.mem_range.1 hi
     simp
     omega
    ·simp
   ·rw [ih (by omega)]
    have : ¬ n < k := by omega
    simp [this]
theorem DrawOk.guardEnd (D : DrawOk P I self pl all base s) {j m : Nat} {o : Oper} (ho : all[j]? = some o) (hm : pl.ms[j]? = some m) : zat all (s all.length).fr o.guard = zat all (s j).fr o.guard := by
 have hj : j < all.length := (List.getElem?_eq_some_iff.1 ho).1
 cases hg : o.guard with
 | none => rfl
 | some g =>
   obtain ⟨hb, oi, d, hoi, hd⟩ := (D.hops j m o ho hm).guard g hg
   have hat : (s all.length).fr.at_ d = (s j).fr.at_ d := by
    rw [zhZ, zhZ]
    exact (D.run.done D.mok.len D.hops hoi hd (D.mok.lt j m hm _ hb) (Nat.le_of_lt hj)).symm
   have h1 : ∀ fr : Fr, zat all fr (some g) = bnd (nth all g.1) (fun oj => bnd oj.dst fun d => match fr.at_ d with
    | .bool b => some (ite' b g.2 (ite' g.2 false true))
    | .sval _ => none
    | _ => some false) := fun fr => rfl
   rw [h1, h1, zbf, hoi, bnd_some, bnd_some, hd, bnd_some, bnd_some, hat]
theorem DrawOk.readAt (D : DrawOk P I self pl all base s) {S : Nat → Prop} {j m k : Nat} {o : Oper} (hdc : Dc all pl.ms S) (ho : all[j]? = some o) (hm : pl.ms[j]? = some m) (hq : zal P o.op = true) (hr : zbT o.op = true) (hnj : ¬ S j) (hanc : ∀ i, bit m i = true → S i)
  (hw : zat all (s j).fr o.guard = some true) (hk : k ≤ all.length) (hS : ∀ i, Lp P all i = true → (S i ↔ i < k)) :
  ∃ vs V, mapO (fun x => ev x (s all.length).fr) (zbp o.op) = some vs ∧ valO (opV P o.op vs (s k).h) = some V ∧ (s j).fr.put o.dst V = some (s (j + 1)).fr := by
 have hst := ziD D.stay j m o ho hm
 rw [Nat.zero_add] at hst
 unfold zkE at hst
 rw [zai, hq, hr, D.guardEnd ho hm, hw] at hst
 simp only [Bool.and_self] at hst
 rw [ite'_true] at hst
 rw [oE_some, ite'_true] at hst
 generalize hbt : zkD (s all.length).hs (zlA P m all 0) (zfI P j all pl.ms) = bt at hst
 cases bt with
 | none => cases hst
 | some l =>
   rw [oE_some] at hst
   have hmem : (s k).h ∈ l := by
    have hx := D.run.hs_pre D.mok.len hk (Nat.le_refl _) (D.run.hs D.mok.len D.h0s hk).2
    refine znP hbt ?_ ?_ hx
    ·rw [zmj (all := all) (by rw [List.drop_zero]), ← List.range_eq_range', ← zmo hk]
     refine List.countP_mono_left fun i _ hi => ?_
     rw [Bool.and_eq_true] at hi ⊢
     exact ⟨hi.1, decide_eq_true ((hS i hi.1).1 (hanc i hi.2))⟩
    ·rw [ziC (all := all) (ms := pl.ms) (by rw [List.drop_zero]) (by rw [List.drop_zero]) D.mok.len, ← List.range_eq_range', ← zmo hk]
     refine List.countP_mono_left fun i _ hi => ?_
     rw [Bool.and_eq_true, decide_eq_true_eq] at hi
     rw [Bool.and_eq_true]
     refine ⟨hi.1, ?_⟩
     have hSi := (hS i hi.1).2 hi.2
     cases hmi : pl.ms[i]? with
     | none => rfl
     | some mi =>
       cases hb : bit mi j with
       | false => simp [hb]
       | true => exact absurd (hdc i mi hSi hmi j hb) hnj
   unfold zvn at hst
   have h1 := zfX.1 hst _ hmem
   cases hd : o.dst with
   | none => rw [hd] at h1; cases h1
   | some d =>
     rw [hd, oE_some] at h1
     unfold zvm at h1
     unfold opVs at h1
     cases hvs : mapO (fun x => ev x (s all.length).fr) (zbp o.op) with
     | none => rw [hvs] at h1; cases h1
     | some vs =>
       rw [hvs, oE_some] at h1
       cases hv : valO (opV P o.op vs (s k).h) with
       | none => rw [hv] at h1; cases h1
       | some u =>
         rw [hv, oE_some] at h1
         have hu := zrc h1
         obtain ⟨m', hm', hstp⟩ := D.run.at_ D.mok.len ho
         obtain ⟨_, V, hp, hds, _⟩ := zaD hstp
         replace hds := hds.resolve_right fun h => by rw [znQ h.1] at hr; cases hr
         have hV := D.run.put D.mok.len D.hops ho hp hd
         rw [hd] at hp
         refine ⟨vs, u, rfl, hv, ?_⟩
         rw [← hu, zhZ, hV]
         exact hp.back hds
def StgC (P : Program) (all : List Oper) (s : Nat → DS) (S : Nat → Prop) (G : AH) : Prop := ∃ k, k ≤ all.length ∧ (∀ i, Lp P all i = true → (S i ↔ i < k)) ∧ Heq G (s k).h
theorem StgC.next (D : DrawOk P I self pl all base s) {S : Nat → Prop} {j : Nat} {o : Oper} {G : AH} (hG : StgC P all s S G) (ho : all[j]? = some o) (hq : zal P o.op = false) (hnj : ¬ S j) (hbef : ∀ i, Lp P all i = true → i < j → S i) :
  Heq G (s j).h ∧ (∀ i, Lp P all i = true → S i → i < j) ∧ ∀ i, Lp P all i = true → ((S i ∨ i = j) ↔ i < j + 1) := by
 obtain ⟨k, hk, hS, hg⟩ := hG
 have hj : j < all.length := (List.getElem?_eq_some_iff.1 ho).1
 have hL : Lp P all j = true := ze7.2 ⟨o, ho, hq⟩
 have hkj : k ≤ j := Nat.le_of_not_lt fun h => hnj ((hS j hL).2 h)
 have hlt : ∀ i, Lp P all i = true → S i → i < j := fun i hi hSi => by
  have := (hS i hi).1 hSi
  omega
 refine ⟨?_, hlt, fun i hi => ⟨fun h => ?_, fun h => ?_⟩⟩
 ·rw [D.keepH hkj (Nat.le_of_lt hj) fun i h1 h2 => ?_]
  ·exact hg
  ·cases hx : Lp P all i with
   | false => rfl
   | true =>
     have := (hS i hx).1 (hbef i hx h2)
     omega
 ·rcases h with h | rfl
  ·have := hlt i hi h; omega
  ·omega
 ·by_cases hij : i = j
  ·exact .inr hij
  ·exact .inl (hbef i hi (by omega))
theorem zdg (D : DrawOk P I self pl all base s) {l : List Nat} (hl : l.Pairwise (· < ·)) (hc : ze4 pl.ms l = true) {S : Nat → Prop} {j m : Nat} (hm : pl.ms[j]? = some m) (hanc : ∀ i, bit m i = true → S i) (hj : j ∈ l) : ∀ i, i ∈ l → i < j → S i := fun i hi hij => by
 obtain ⟨m', hm', hb⟩ := zrb hl (ziB hc) hi hj hij
 rw [hm] at hm'; cases hm'
 exact hanc i hb
theorem znV (D : DrawOk P I self pl all base s) (hc : ze4 pl.ms (zc9 P all 0) = true) : StageOk P I self pl all base s (StgC P all s) := by
 have hin : ∀ i, Lp P all i = true → i ∈ zc9 P all 0 := fun i hi => zfY.2 ⟨Nat.zero_le _, by simpa using hi⟩
 have hbef : ∀ (S : Nat → Prop) (j m : Nat) (o : Oper), all[j]? = some o → pl.ms[j]? = some m → zal P o.op = false → (∀ i, bit m i = true → S i) → ∀ i, Lp P all i = true → i < j → S i := fun S j m o ho hm hq hanc i hi hij =>
  zdg D zct hc hm hanc (hin j (ze7.2 ⟨o, ho, hq⟩)) i (hin i hi) hij
 refine ⟨⟨0, Nat.zero_le _, fun i _ => ⟨fun h => h.elim, fun h => (by omega)⟩, .refl _⟩, ?_, ?_, ?_, ?_, ?_⟩
 ·rintro S S' G hSS ⟨k, hk, hS, hG⟩
  exact ⟨k, hk, fun i hi => (hSS i hi).symm.trans (hS i hi), hG⟩
 ·intro S j m o G hdc ho hm hq hnj hanc hw hG
  obtain ⟨h1, h2, h3⟩ := hG.next D ho hq hnj (hbef S j m o ho hm hq hanc)
  exact ⟨j + 1, (List.getElem?_eq_some_iff.1 ho).1, h3, by rw [D.offAt ho hm hw]; exact h1⟩
 ·intro S j m o G hdc ho hm hq hnj hanc hw hG
  obtain ⟨h1, h2, h3⟩ := hG.next D ho hq hnj (hbef S j m o ho hm hq hanc)
  obtain ⟨hin, hout, vs, V, a1, a2, a3, a4, a5, a6, a7⟩ := D.loudAt (S := S) ho hm hq hw h2
  refine ⟨hin, hout, vs, V, a1, a2, a3, a4.trans h1.2.1.symm, a5.trans h1.2.2.symm, fun b en hb => (a6 b en hb).imp id fun h => by rw [h1.1]; exact h, j + 1, (List.getElem?_eq_some_iff.1 ho).1, h3, by rw [a7]; exact .refl _⟩
 ·rintro S j m o G hdc ho hm hq hmk hr hnj hanc hw ⟨k, hk, hS, hG⟩
  obtain ⟨vs, V, b1, b2, b3⟩ := D.readAt hdc ho hm hq hr hnj hanc hw hk hS
  exact ⟨_, vs, V, hG.symm, b1, b2, b3⟩
 ·rintro S G hall ⟨k, hk, hS, hG⟩
  rw [D.keepH hk (Nat.le_refl _) fun i h1 h2 => ?_]
  ·exact hG
  ·cases hx : Lp P all i with
   | false => rfl
   | true =>
     have := (hS i hx).1 (hall i h2)
     omega
end
end
end Go.Xe
end
section
namespace Go.Xe
noncomputable section
section
variable {P : Program} {I : zba} {self : Option Nat → Code → Fr → AH → R} {pl : Plan} {all : List Oper} {base : Nat} {s : Nat → DS}
structure TwinOk (P : Program) (all : List Oper) (ms : List Nat) (x : List Nat) (i1 i2 m1 m2 : Nat) (o1 o2 : Oper) : Prop where
 l : zc9 P all 0 = x ++ [i1, i2]
 c1 : ze4 ms (x ++ [i1]) = true
 c2 : ze4 ms (x ++ [i2]) = true
 a1 : all[i1]? = some o1
 a2 : all[i2]? = some o2
 h1 : ms[i1]? = some m1
 h2 : ms[i2]? = some m2
 s1 : zhS o1.op = true
 s2 : zhS o2.op = true
 r2 : zei P m2 all 0 = true
 g1 : o1.guard = none
 g2 : o2.guard = none
 strict : ∀ y ∈ zbp o1.op, zuq i1 m1 true all ms y = true
theorem zmp {l : List Oper} {j : Nat} {p : Op → Bool} (h : opAt l j p = true) : ∃ o, l[j]? = some o ∧ p o.op = true := by
 unfold opAt at h
 rw [zbf] at h
 cases ho : l[j]? with
 | none => rw [ho] at h; cases h
 | some o => rw [ho, oE_some] at h; exact ⟨o, rfl, h⟩
theorem zpP {t : Nat × Nat} {l : List Nat} {ms : List Nat} (hl : l = zc9 P all 0) (h : zkB P all ms l = some t) : ∃ x m1 m2 o1 o2, TwinOk P all ms x t.1 t.2 m1 m2 o1 o2 := by
 unfold zkB at h
 rw [zaa] at h
 obtain ⟨⟨x, i1, i2⟩, hx, h⟩ := h
 rw [zac, zac, zac, zac, zaa] at h
 obtain ⟨c1, c2, p1, p2, m1, hm1, h⟩ := h
 rw [zaa] at h
 obtain ⟨m2, hm2, h⟩ := h
 rw [zac, zac, zac, zac, zac] at h
 obtain ⟨r1, r2, g1, g2, st, h⟩ := h
 cases h
 simp only [zcE] at c1 c2
 obtain ⟨o1, a1, q1⟩ := zmp p1
 obtain ⟨o2, a2, q2⟩ := zmp p2
 refine ⟨x, m1, m2, o1, o2, by rw [← hl]; exact zjV hx, c1, c2, a1, a2, by rw [← zbf]; exact hm1, by rw [← zbf]; exact hm2, q1, q2, r2, ?_, ?_, ?_⟩
 ·unfold zkA at g1
  rw [zbf, a1, oE_some] at g1
  cases hg : o1.guard with
  | none => rfl
  | some g => rw [hg] at g1; cases g1
 ·unfold zkA at g2
  rw [zbf, a2, oE_some] at g2
  cases hg : o2.guard with
  | none => rfl
  | some g => rw [hg] at g2; cases g2
 ·unfold zoM at st
  rw [zbf, a1, oE_some, zfX] at st
  exact st
theorem ziK {m1 m2 : Nat} {ps : List Pend} (h : zoO m1 m2 ps = true) : ∀ p ∈ ps, bit m1 p.j = false ∧ bit m2 p.j = false := fun p hp => by
 have h1 : ite' (bit m1 p.j) false (ite' (bit m2 p.j) false true) = true := zfX.1 h p hp
 rw [zaK, zaK] at h1
 cases h2 : bit m1 p.j <;> cases h3 : bit m2 p.j <;> simp [h2, h3] at h1 ⊢
theorem zgK {m : Nat} {h : AH} : ∀ {ps : List Pend}, (∀ p ∈ ps, bit m p.j = false) → zbM m ps h = h
 | [], _ => rfl
 | q :: ps, hp => by
   have h1 : zbM m (q :: ps) h = ite' (bit m q.j) ((zbM m ps h).set q.b q.e) (zbM m ps h) := rfl
   rw [h1, hp q List.mem_cons_self, ite'_false, zgK fun p hp' => hp p (List.mem_cons_of_mem _ hp')]
theorem zha : ∀ {hs : List AH} {x : AH}, zhV hs = some x → 2 ≤ hs.length ∧ hs[hs.length - 2]? = some x
 | [], x, h => by cases h
 | [a], x, h => by cases h
 | [a, b], x, h => by
   have h' : some a = some x := h
   cases h'
   exact ⟨Nat.le_refl _, rfl⟩
 | a :: b :: c :: l, x, h => by
   have h' : zhV (b :: c :: l) = some x := h
   obtain ⟨h1, h2⟩ := zha h'
   refine ⟨by simp, ?_⟩
   simp only [List.length_cons] at h2 ⊢
   rw [show l.length + 1 + 1 + 1 - 2 = (l.length + 1 + 1 - 2) + 1 by omega, List.getElem?_cons_succ]
   exact h2
structure StoreAt (P : Program) (I : zba) (slf : Option Nat → Code → Fr → AH → R) (o : Oper) (vs : List AV) (b : Nat) (en en' : Ent) (olds : List Nat) : Prop where
 oldsEq : zoN en = some olds
 at_ : ∀ g : AH, g.get b = some en → ∃ g', opR P I slf o vs g = some (zaP, g') ∧ g'.next = g.next ∧ g'.fm = g.fm ∧ ∀ c, g'.get c = if c = b then some en' else if c ∈ olds then none else g.get c
theorem zo8 {o : Oper} (hst : zhS o.op = true) {vs : List AV} {h h' : AH} {V : AV} (hr : opR P I self o vs h = some (V, h')) :
  ∃ x y b off en en' olds, vs = [x, y] ∧ x = .ptr b off ∧ V = zaP ∧ h.get b = some en ∧ StoreAt P I self o vs b en en' olds := by
 obtain ⟨dst, op, ty, pos, af, gd⟩ := o
 cases op <;> try (cases hst; done)
 rename_i t a v
 have hR : ∀ g, opR P I self ⟨dst, .store t a v, ty, pos, af, gd⟩ vs g = O.rec (motive := fun _ => VH) (fun v h => some (v, h)) (fun h => some (zaP, h)) (fun f args h => zdt P I self f args h)
   (fun l tm nt asg body h => roundA self l tm nt asg body h) (fun _ _ => none) none (ofH (arg2 vs fun a v => store P t a v g)) := fun g => rfl
 rw [hR] at hr
 cases hx : arg2 vs fun a v => store P t a v h with
 | none => rw [hx] at hr; cases hr
 | some hh =>
   rw [hx] at hr
   have hr' : some (zaP, hh) = some (V, h') := hr
   cases hr'
   rw [zbt] at hx
   obtain ⟨x, y, rfl, hx⟩ := hx
   unfold store at hx
   cases x <;> try (cases hx; done)
   rename_i b off
   have hx' : bnd (zaX P t) (fun n => grd (Nat.beq (len y.cells) n) (zbe h b off y.cells)) = some h' := hx
   rw [zaa] at hx'
   obtain ⟨n, hn, hx'⟩ := hx'
   rw [zac] at hx'
   obtain ⟨hlen, hw⟩ := hx'
   unfold zbe at hw
   rw [zaa] at hw
   obtain ⟨en, hen, hw⟩ := hw
   cases en <;> try (cases hw; done)
   rename_i l cty wr fz olds
   have hw' : grd wr (grd (Nat.ble fz off) (grd (allC y.cells) (bnd (zdr l off y.cells) fun l' => some (AH.set (AH.kill olds h) b (.cells l' cty true fz []))))) = some h' := hw
   rw [zac, zac, zac, zaa] at hw'
   obtain ⟨k1, k2, k3, l', k4, hw'⟩ := hw'
   cases hw'
   refine ⟨_, _, b, off, _, .cells l' cty true fz [], olds, rfl, rfl, rfl, hen, rfl, fun g hg => ⟨AH.set (AH.kill olds g) b (.cells l' cty true fz []), ?_, (zby olds g).1, (by show ((AH.kill olds g).fb, (AH.kill olds g).fam) = (g.fb, g.fam); rw [(zby olds g).2.1, (zby olds g).2.2]), fun c => ?_⟩⟩
   ·rw [hR]
    have : store P t (.ptr b off) y g = some (AH.set (AH.kill olds g) b (.cells l' cty true fz [])) := by
     show bnd (zaX P t) (fun n => grd (Nat.beq (len y.cells) n) (zbe g b off y.cells)) = _
     rw [hn, bnd_some, zac]
     refine ⟨hlen, ?_⟩
     unfold zbe
     rw [hg, bnd_some]
     show grd wr (grd (Nat.ble fz off) (grd (allC y.cells) (bnd (zdr l off y.cells) fun l' => some (AH.set (AH.kill olds g) b (.cells l' cty true fz []))))) = _
     rw [zac, zac, zac, k4, bnd_some]
     exact ⟨k1, k2, k3, rfl⟩
    have h2 : arg2 [AV.ptr b off, y] (fun a v => store P t a v g) = some (AH.set (AH.kill olds g) b (.cells l' cty true fz [])) := this
    rw [h2]
    rfl
   ·rw [AH.get_set]
    by_cases hcb : c = b
    ·rw [if_pos hcb, if_pos hcb]
    ·rw [if_neg hcb, if_neg hcb, zcl]
theorem zri {o1 o2 : Oper} {vs1 vs2 : List AV} {b1 b2 : Nat} {en1 en1' en2 en2' : Ent} {olds1 olds2 : List Nat} (t1 : StoreAt P I self o1 vs1 b1 en1 en1' olds1) (t2 : StoreAt P I self o2 vs2 b2 en2 en2' olds2)
  {H0 H1 H2 : AH} (h1 : opR P I self o1 vs1 H0 = some (zaP, H1)) (h2 : opR P I self o2 vs2 H1 = some (zaP, H2)) (g1 : H0.get b1 = some en1) (g2 : H1.get b2 = some en2) (hb : b1 ≠ b2) (n1 : b2 ∉ olds1) (n2 : b1 ∉ olds2) :
  ∃ Ga Gb, opR P I self o2 vs2 H0 = some (zaP, Ga) ∧ opR P I self o1 vs1 Ga = some (zaP, Gb) ∧ Heq Gb H2 ∧ Ga.next = H0.next ∧ Ga.fm = H0.fm := by
 obtain ⟨H1', q1, q2, q3, q4⟩ := t1.at_ H0 g1
 rw [h1] at q1; cases q1
 obtain ⟨H2', r1, r2, r3, r4⟩ := t2.at_ H1 g2
 rw [h2] at r1; cases r1
 have g2' : H0.get b2 = some en2 := by
  rw [q4, if_neg (fun h => hb h.symm), if_neg n1] at g2
  exact g2
 obtain ⟨Ga, a1, a2, a3, a4⟩ := t2.at_ H0 g2'
 have ga : Ga.get b1 = some en1 := by rw [a4, if_neg hb, if_neg n2]; exact g1
 obtain ⟨Gb, c1, c2, c3, c4⟩ := t1.at_ Ga ga
 refine ⟨Ga, Gb, a1, c1, ⟨fun c => ?_, by rw [c2, a2, r2, q2], by rw [c3, a3, r3, q3]⟩, a2, a3⟩
 rw [c4, a4, r4, q4]
 by_cases e1 : c = b1
 ·subst e1
  simp [hb, n2]
 ·by_cases e2 : c = b2
  ·subst e2
   simp [e1, n1]
  ·simp only [e1, e2, if_false]
   by_cases x1 : c ∈ olds1 <;> by_cases x2 : c ∈ olds2 <;> simp [x1, x2]
end
end
end Go.Xe
end
