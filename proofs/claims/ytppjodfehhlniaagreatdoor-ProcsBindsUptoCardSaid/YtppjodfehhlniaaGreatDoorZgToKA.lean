/-
  The frame rule: what is shown of a part of the heap holds beside the rest; A call whose arguments and memory are written out; Hooks behind more than o. Conditions: none.
-/
import Derived.Test.YtppjodfehhlniaaGreatDoorYzToZf
set_option linter.unusedVariables false
set_option linter.unusedSimpArgs false
set_option linter.unusedSectionVars false
section
namespace Go.Xe
noncomputable section
theorem EntR.far {e e1 : Env} {fm fm1 : Nat × List ME} {en : Ent} {l : Loc} {o : Obj} (h : EntR e fm en l o) (he : e.le e1) (h0 : fm1.1 = 0) : EntR e1 fm1 en l o := by
 cases h with
 | cells _ _ _ _ _ _ _ _ _ _ h => exact .cells _ _ _ _ _ _ _ _ _ _ (h.mono he)
 | map _ _ _ _ h => exact .map _ _ _ _ (h.mono he)
 | siter _ _ _ _ h0 => exact .siter _ _ _ _ h0
 | miter _ _ _ fam _ _ _ _ _ _ _ h h1 =>
   refine .miter _ _ _ _ _ _ _ _ _ _ _ ⟨let ⟨l, a, b⟩ := h.map; ⟨l, he.loc _ _ a, b⟩, h.size, h.le, h.nodup, h.st, fun hf => ?_, fun h2 h3 => absurd (h3.trans h0) h2⟩ h1
   obtain ⟨a, b, c, d⟩ := h.plain hf
   refine ⟨a, b, fun x hx => ?_, fun k v hv => ?_⟩
   ·obtain ⟨v, hv, hl⟩ := c x hx; exact ⟨v, he.stp _ _ hv, hl⟩
   ·obtain ⟨x, hx, hs⟩ := d k v hv; exact ⟨x, hx, he.stp _ _ hs⟩
 | loop _ _ _ _ _ _ ht hd hb => exact .loop _ _ _ _ _ _ (ht.mono he) (he.loc _ _ hd) hb
 | dfr0 => exact .dfr0 _
 | dfr _ _ _ h => exact .dfr _ _ _ (h.mono he)
structure Framed (h h0 h1 hR : AH) (D O : Nat → Prop) : Prop where
 n0 : h0.next = h.next
 g0 : ∀ c, D c → h0.get c = h.get c
 g0' : ∀ c, ¬ D c → h0.get c = none
 wr : ∀ c en, D c → h.get c = some en → wrE en = true
 old : ∀ c en d, D c → h.get c = some en → d ∈ zbq en → O d
 nR : hR.next = h1.next
 fR : hR.fm = h1.fm
 f1 : h1.fb = 0
 gR : ∀ c en, hR.get c = some en → (h.get c = some en ∧ ¬ D c ∧ ¬ O c) ∨ h1.get c = some en
theorem zpU {e e1 : Env} {h h0 h1 hR : AH} {D O : Nat → Prop} {w w1 : World} (F : Framed h h0 h1 hR D O) (s : Sat e h w.heap) (s1 : Sat e1 h1 w1.heap) (st : Step e h0 w e1 h1 w1) : Sat e1 hR w1.heap ∧ Step e h w e1 hR w1 := by
 have hsub : ∀ c en, h0.get c = some en → h.get c = some en ∧ D c := fun c en hc => by
  by_cases hd : D c
  ·rw [F.g0 c hd] at hc; exact ⟨hc, hd⟩
  ·rw [F.g0' c hd] at hc; cases hc
 have hloc : ∀ c en l, h.get c = some en → e1.loc c = some l → e.loc c = some l := fun c en l hc hl => by
  obtain ⟨l', _, hl', _⟩ := s.ents c en hc
  have := st.le.loc _ _ hl'
  rw [hl] at this; cases this
  exact hl'
 have hno : ∀ c en l, h.get c = some en → ¬ D c → ¬ O c → e.loc c = some l → ¬ Own e h0 l.blk := fun c en l hc hd ho hl ⟨b, en', l', hb, hl', hblk⟩ => by
  obtain ⟨hb', hdb⟩ := hsub b en' hb
  have hne : b ≠ c := fun hx => hd (hx ▸ hdb)
  rcases s.sep b c en' en l' l hb' hc hl' hl hne hblk with h3 | h3
  ·exact ho (F.old b en' c hdb hb' h3)
  ·have := s.olds c b en en' l l' hc h3 hb' hl hl' hblk.symm
   rw [F.wr b en' hdb hb'] at this; cases this
 have hmeet : ∀ c en l d en' l', h.get c = some en → ¬ D c → ¬ O c → e1.loc c = some l → h1.get d = some en' → e1.loc d = some l' → l.blk ≠ l'.blk := fun c en l d en' l' hc hd ho hl hd1 hl' hblk => by
  have hle := hloc c en l hc hl
  have := (st.keep l.blk (s.locs c l hle).2 (hno c en l hc hd ho hle)).2
  exact this ⟨d, en', l', hd1, hl', hblk.symm⟩
 have hn1 : h.next ≤ h1.next := by rw [← F.n0]; exact st.nxt
 refine ⟨⟨fun c en hc => ?_, fun b l hb => by rw [F.nR]; exact s1.locs b l hb, fun g j v hv => by rw [F.nR]; exact s1.nums g j v hv, s1.numI, fun i v hv => by rw [F.nR]; exact s1.stps i v hv,
  fun i v hv => by rw [F.nR]; exact s1.keys i v hv, fun i v hv => by rw [F.nR]; exact s1.vals i v hv, fun b c en en' l l' hb hc hl hl' hne hblk => ?_, fun b c en en' l l' hb hcb hc hl hl' hblk => ?_, fun b c en hb hcb => ?_, ?_,
  fun b c en en' l l' hb hcb hc hl hl' hblk => ?_, fun b en hb => ?_, ?_, s1.glob.1, fun ⟨b, en, l, hb, hl, hx⟩ => (F.gR b en hb).elim (fun ⟨hb1, _, _⟩ => s.glob.2 ⟨b, en, l, hb1, hloc _ _ _ hb1 hl, hx⟩) fun hb1 => s1.glob.2 ⟨b, en, l, hb1, hl, hx⟩⟩,
  ⟨st.le, by rw [F.nR]; exact hn1, st.size, fun X hX hO => ?_, st.os, st.tape, st.output, fun b l hb => ?_, fun b hb hg => ?_⟩⟩
 ·rcases F.gR c en hc with ⟨h1', hd, ho⟩ | h1'
  ·obtain ⟨l, o, hl, hob, hr⟩ := s.ents c en h1'
   refine ⟨l, o, st.le.loc _ _ hl, ?_, hr.far st.le ?_⟩
   ·rw [(st.keep l.blk (s.locs c l hl).2 (hno c en l h1' hd ho hl)).1]; exact hob
   ·rw [F.fR]; exact F.f1
  ·rw [F.fR]; exact s1.ents c en h1'
 ·rcases F.gR b en hb with ⟨hb1, hbd, hbo⟩ | hb1
  ·rcases F.gR c en' hc with ⟨hc1, hcd, hco⟩ | hc1
   ·exact s.sep b c en en' l l' hb1 hc1 (hloc _ _ _ hb1 hl) (hloc _ _ _ hc1 hl') hne hblk
   ·exact absurd hblk (hmeet b en l c en' l' hb1 hbd hbo hl hc1 hl')
  ·rcases F.gR c en' hc with ⟨hc1, hcd, hco⟩ | hc1
   ·exact absurd hblk.symm (hmeet c en' l' b en l hc1 hcd hco hl' hb1 hl)
   ·exact s1.sep b c en en' l l' hb1 hc1 hl hl' hne hblk
 ·rcases F.gR b en hb with ⟨hb1, hbd, hbo⟩ | hb1
  ·rcases F.gR c en' hc with ⟨hc1, hcd, hco⟩ | hc1
   ·exact s.olds b c en en' l l' hb1 hcb hc1 (hloc _ _ _ hb1 hl) (hloc _ _ _ hc1 hl') hblk
   ·exact absurd hblk (hmeet b en l c en' l' hb1 hbd hbo hl hc1 hl')
  ·rcases F.gR c en' hc with ⟨hc1, hcd, hco⟩ | hc1
   ·exact absurd hblk.symm (hmeet c en' l' b en l hc1 hcd hco hl' hb1 hl)
   ·exact s1.olds b c en en' l l' hb1 hcb hc1 hl hl' hblk
 ·rw [F.nR]
  rcases F.gR b en hb with ⟨hb1, _, _⟩ | hb1
  ·exact Nat.lt_of_lt_of_le (s.oldsLt b c en hb1 hcb) hn1
  ·exact s1.oldsLt b c en hb1 hcb
 ·have h1' : hR.fb = h1.fb := congrArg Prod.fst F.fR
  have h2' : hR.fam = h1.fam := congrArg Prod.snd F.fR
  rw [h1', h2']; exact s1.fam
 ·rcases F.gR b en hb with ⟨hb1, hbd, hbo⟩ | hb1
  ·rcases F.gR c en' hc with ⟨hc1, hcd, hco⟩ | hc1
   ·exact s.ends b c en en' l l' hb1 hcb hc1 (hloc _ _ _ hb1 hl) (hloc _ _ _ hc1 hl') hblk
   ·exact absurd hblk (hmeet b en l c en' l' hb1 hbd hbo hl hc1 hl')
  ·rcases F.gR c en' hc with ⟨hc1, hcd, hco⟩ | hc1
   ·exact absurd hblk.symm (hmeet c en' l' b en l hc1 hcd hco hl' hb1 hl)
   ·exact s1.ends b c en en' l l' hb1 hcb hc1 hl hl' hblk
 ·rcases F.gR b en hb with ⟨hb1, _, _⟩ | hb1
  ·exact s.its b en hb1
  ·exact s1.its b en hb1
 ·have h1' : hR.fb = h1.fb := congrArg Prod.fst F.fR
  have h2' : hR.fam = h1.fam := congrArg Prod.snd F.fR
  rw [h1', h2', F.nR]; exact s1.room
 ·have hO0 : ¬ Own e h0 X := fun ⟨b, en, l, hb, hl, hx⟩ => hO ⟨b, en, l, (hsub b en hb).1, hl, hx⟩
  obtain ⟨q1, q2⟩ := st.keep X hX hO0
  refine ⟨q1, fun ⟨b, en, l, hb, hl, hx⟩ => ?_⟩
  rcases F.gR b en hb with ⟨hb1, _, _⟩ | hb1
  ·exact hO ⟨b, en, l, hb1, hloc _ _ _ hb1 hl, hx⟩
  ·exact q2 ⟨b, en, l, hb1, hl, hx⟩
 ·rcases st.new b l hb with hx | hx
  ·exact .inl hx
  ·rw [F.n0] at hx; exact .inr hx
 ·cases hx : hR.get b with
  | none => rfl
  | some en =>
    rcases F.gR b en hx with ⟨hb1, _, _⟩ | hb1
    ·rw [hg] at hb1; cases hb1
    ·have : h0.get b = none := by
      cases hx0 : h0.get b with
      | none => rfl
      | some en' => have := (hsub b en' hx0).1; rw [hg] at this; cases this
     rw [st.gone b (by rw [F.n0]; exact hb) this] at hb1; cases hb1
end
end Go.Xe
end
section
namespace Go.Xe
noncomputable section
theorem zcH {α : Type} {p : α → α → Bool} (hp : ∀ x y, p x y = true → x = y) : ∀ {xs ys : List α}, zeg p xs ys = true → xs = ys
 | [], ys, h => ((zaG ys).1 h).symm
 | x :: xs, [], h => by cases h
 | x :: xs, y :: ys, h => by
   have h' : ite' (p x y) (zeg p xs ys) false = true := h
   rw [zai, Bool.and_eq_true] at h'
   rw [hp x y h'.1, zcH hp h'.2]
theorem zro {ih : AV → AV → Bool} (hi : ∀ x y, ih x y = true → x = y) {a b : AV} (h : ztX ih a b = true) : a = b := by
 cases a <;> try (exact zf0 h)
 case func f x y =>
  cases f <;> try (exact zf0 h)
  cases b <;> try (cases h; done)
  rename_i f g x' y'
  cases g <;> try (cases h; done)
  rename_i g
  have h' : ite' (Nat.beq f g) (ite' (zeg ih x x') (zeg ih y y') false) false = true := h
  rw [zai, Bool.and_eq_true, zai, Bool.and_eq_true, zae] at h'
  rw [h'.1, zcH hi h'.2.1, zcH hi h'.2.2]
 case ifc t v =>
  cases b <;> try (cases h; done)
  rename_i t' v'
  have h' : ite' (Nat.beq t t') (ih v v') false = true := h
  rw [zai, Bool.and_eq_true, zae] at h'
  rw [h'.1, hi _ _ h'.2]
 case agg x =>
  cases b <;> try (cases h; done)
  rw [zcH hi (h : zeg ih x _ = true)]
 case tup x =>
  cases b <;> try (cases h; done)
  rw [zcH hi (h : zeg ih x _ = true)]
theorem zdX : ∀ {n : Nat} (a b : AV), zky n a b = true → a = b
 | 0, a, b, h => zf0 h
 | n + 1, a, b, h => zro (ih := fun a b => zky n a b) (fun x y => zdX x y) h
theorem zrp (a b : ME) (h : zoI a b = true) : a = b := by
 unfold zoI at h
 rw [zai, Bool.and_eq_true, zai, Bool.and_eq_true, zae] at h
 obtain ⟨h1, h2, h3⟩ := h
 cases a; cases b
 have e1 := zdX _ _ h1
 have e2 := zdX _ _ h2
 simp only at e1 e2 h3
 rw [e1, e2, h3]
theorem zs4 {a b : Ent} (h : zvk a b = true) : a = b ∧ wrE b = true := by
 cases a <;> try (cases h; done)
 case cells l ty wr fz olds =>
  cases b <;> try (cases h; done)
  rename_i l' ty' wr' fz' olds'
  have h' : ite' wr (ite' wr' (ite' (Nat.beq ty ty') (ite' (Nat.beq fz fz') (ite' (zeg Nat.beq olds olds') (zeg (zky 4) l l') false) false) false) false) false = true := h
  rw [zai, Bool.and_eq_true, zai, Bool.and_eq_true, zai, Bool.and_eq_true, zai, Bool.and_eq_true, zai, Bool.and_eq_true, zae, zae] at h'
  obtain ⟨h1, h2, h3, h4, h5, h6⟩ := h'
  rw [h1, h2, h3, h4, zcH (fun x y h => (zae x y).1 h) h5, zcH (fun x y h => zdX x y h) h6]
  exact ⟨rfl, rfl⟩
 case map es ck =>
  cases b <;> try (cases h; done)
  rename_i es' ck'
  have h' : ite' (Nat.beq ck ck') (zeg zoI es es') false = true := h
  rw [zai, Bool.and_eq_true, zae] at h'
  rw [h'.1, zcH zrp h'.2]
  exact ⟨rfl, rfl⟩
theorem zc1 {l : List IE} {h : AH} (hh : zlw l h = true) {p : IE} (hp : p ∈ l) : h.get p.i = some p.e ∧ wrE p.e = true := by
 have h1 := zfX.1 hh p hp
 cases hg : h.get p.i with
 | none => rw [hg] at h1; cases h1
 | some e =>
   rw [hg, oE_some] at h1
   obtain ⟨h2, h3⟩ := zs4 h1
   rw [h2]; exact ⟨rfl, h3⟩
theorem zmu {n : Nat} {h : AH} (hp : zoJ n h = true) : h.next = n ∧ h.fb = 0 ∧ h.fam = [] := by
 unfold zoJ at hp
 rw [zai, Bool.and_eq_true, zai, Bool.and_eq_true, zae, zae, zaG] at hp
 exact ⟨hp.1.symm, hp.2.1, hp.2.2⟩
theorem zcM (h : AH) : ∀ (l : List IE) (b : Nat), (∃ p ∈ l, p.i = b ∧ (zbP l h).get b = some p.e) ∨ ((∀ p ∈ l, p.i ≠ b) ∧ (zbP l h).get b = h.get b)
 | [], b => .inr ⟨fun p hp => (by cases hp), rfl⟩
 | q :: l, b => by
   have h1 : zbP (q :: l) h = (zbP l h).set q.i q.e := rfl
   rw [h1, AH.get_set]
   by_cases hqb : q.i = b
   ·exact .inl ⟨q, List.mem_cons_self, hqb, if_pos hqb.symm⟩
   ·rw [if_neg (fun hx => hqb hx.symm)]
    rcases zcM h l b with ⟨p, hp, q2, q3⟩ | ⟨q1, q2⟩
    ·exact .inl ⟨p, List.mem_cons_of_mem _ hp, q2, q3⟩
    ·refine .inr ⟨fun p hp => ?_, q2⟩
     rcases List.mem_cons.1 hp with rfl | hp
     ·exact hqb
     ·exact q1 p hp
theorem zfx (l : List IE) (h : AH) : (zbP l h).next = h.next ∧ (zbP l h).fb = h.fb ∧ (zbP l h).fam = h.fam := by
 induction l with
 | nil => exact ⟨rfl, rfl, rfl⟩
 | cons q l ih => exact ih
theorem zpV (e : Ent) : zhR e = zbq e := by cases e <;> rfl
theorem ziL (h : AH) : ∀ (l : List IE) (b : Nat) (en : Ent), (zcc l h).get b = some en → h.get b = some en ∧ ∀ p ∈ l, p.i ≠ b ∧ b ∉ zbq p.e
 | [], b, en, hb => ⟨hb, fun p hp => (by cases hp)⟩
 | q :: l, b, en, hb => by
   have h1 : zcc (q :: l) h = AH.kill (zhR q.e) ((zcc l h).drop q.i) := rfl
   rw [h1, zcl, zpV] at hb
   by_cases ho : b ∈ zbq q.e
   ·rw [if_pos ho] at hb; cases hb
   ·rw [if_neg ho, AH.get_drop] at hb
    by_cases hq : b = q.i
    ·rw [if_pos hq] at hb; cases hb
    ·rw [if_neg hq] at hb
     obtain ⟨h2, h3⟩ := ziL h l b en hb
     refine ⟨h2, fun p hp => ?_⟩
     rcases List.mem_cons.1 hp with rfl | hp
     ·exact ⟨fun hx => hq hx.symm, ho⟩
     ·exact h3 p hp
theorem zrq (n b : Nat) : (⟨n, .nil, 0, []⟩ : AH).get b = none := rfl
theorem zpW {P : Program} {f : Nat} {c : Card} (hc : ∀ e (w : World) (us : Array Value), Sat e (zbw c.n c.l) w.heap → VRs e c.args us.toList → ∃ o, zd8 c o = true ∧ znI P o e (zbw c.n c.l) w f us)
  {args : List AV} {h : AH} {e : Env} {w : World} {us : Array Value} (s : Sat e h w.heap) (ha : VRs e args us.toList) : znI P (zps c args h) e h w f us := by
 intro v h' hv
 unfold zps at hv
 rw [zac, zac, zac] at hv
 obtain ⟨g1, g2, g3, hv⟩ := hv
 cases hv
 have hargs := zcH (fun x y h => zdX x y h) g1
 subst hargs
 obtain ⟨p1, p2, p3⟩ := zmu g2
 obtain ⟨r1, r2, r3⟩ := zfx c.l ⟨c.n, .nil, 0, []⟩
 have hget0 : ∀ b en, (zbw c.n c.l).get b = some en → h.get b = some en ∧ (∃ p ∈ c.l, p.i = b) := fun b en hb => by
  rcases zcM ⟨c.n, .nil, 0, []⟩ c.l b with ⟨p, hp, q1, q2⟩ | ⟨_, q2⟩
  ·have hb' : (zbP c.l ⟨c.n, .nil, 0, []⟩).get b = some en := hb
   rw [q2] at hb'; cases hb'
   exact ⟨q1 ▸ (zc1 g3 hp).1, p, hp, q1⟩
  ·have hb' : (zbP c.l ⟨c.n, .nil, 0, []⟩).get b = some en := hb
   rw [q2, zrq] at hb'; cases hb'
 have s0 : Sat e (zbw c.n c.l) w.heap := s.sub (fun b en hb => (hget0 b en hb).1) (by rw [p1]; exact Nat.le_of_eq r1.symm) (by show ((zbP c.l _).fb, (zbP c.l _).fam) = (h.fb, h.fam); rw [r2, r3, p2, p3])
 obtain ⟨o, hok, hgood⟩ := hc e w us s0 ha
 cases o with
 | none => cases hok
 | some r =>
   obtain ⟨v0, h1⟩ := r
   unfold zd8 at hok
   rw [oE_some, zai, Bool.and_eq_true, zai, Bool.and_eq_true] at hok
   obtain ⟨k1, k2, k3⟩ := hok
   have hv0 := zdX _ _ k1
   simp only at hv0 k2 k3
   obtain ⟨t1, t2, t3⟩ := zmu k2
   refine CallsIn.mono (hgood v0 h1 rfl) fun en w1 hen => ?_
   cases en with
   | panicked c => exact hen.elim
   | outgrown => exact hen.elim
   | returned u =>
     obtain ⟨e1, s1, hv1, st1⟩ := hen
     obtain ⟨x1, x2, x3⟩ := zfx c.l' ⟨c.n', .nil, 0, []⟩
     have hget1 : ∀ b en, (zbw c.n' c.l').get b = some en → h1.get b = some en := fun b en hb => by
      have hb' : (zbP c.l' ⟨c.n', .nil, 0, []⟩).get b = some en := hb
      rcases zcM ⟨c.n', .nil, 0, []⟩ c.l' b with ⟨p, hp, q1, q2⟩ | ⟨_, q2⟩
      ·rw [q2] at hb'; cases hb'
       exact q1 ▸ (zc1 k3 hp).1
      ·rw [q2, zrq] at hb'; cases hb'
     have hn1 : h1.next ≤ (zbw c.n' c.l').next := by rw [t1]; exact Nat.le_of_eq x1.symm
     have s1' : Sat e1 (zbw c.n' c.l') w1.heap := s1.sub hget1 hn1 (by show ((zbP c.l' _).fb, (zbP c.l' _).fam) = (h1.fb, h1.fam); rw [x2, x3, t2, t3])
     have st1' : Step e (zbw c.n c.l) w e1 (zbw c.n' c.l') w1 := st1.sub hget1 hn1
     obtain ⟨y1, y2, y3⟩ := zfx c.l' (zcc c.l ⟨c.n', h.t, 0, []⟩)
     have hkr : ∀ l : List IE, (zcc l ⟨c.n', h.t, 0, []⟩).next = c.n' ∧ (zcc l ⟨c.n', h.t, 0, []⟩).fb = 0 ∧ (zcc l ⟨c.n', h.t, 0, []⟩).fam = [] := fun l => by
      induction l with
      | nil => exact ⟨rfl, rfl, rfl⟩
      | cons q l ih =>
        have hq : zcc (q :: l) ⟨c.n', h.t, 0, []⟩ = AH.kill (zhR q.e) ((zcc l ⟨c.n', h.t, 0, []⟩).drop q.i) := rfl
        obtain ⟨z1, z2, z3⟩ := zby (zhR q.e) ((zcc l ⟨c.n', h.t, 0, []⟩).drop q.i)
        rw [hq, z1, z2, z3]; exact ih
     have hfr := zpU (h := h) (h0 := zbw c.n c.l) (h1 := zbw c.n' c.l') (hR := zbP c.l' (zcc c.l ⟨c.n', h.t, 0, []⟩)) (D := fun b => ∃ p ∈ c.l, p.i = b) (O := fun b => ∃ p ∈ c.l, b ∈ zbq p.e)
      ⟨by rw [p1]; exact r1, fun b ⟨p, hp, hpb⟩ => ?_, fun b hb => ?_, fun b en ⟨p, hp, hpb⟩ hbe => ?_, fun b en d ⟨p, hp, hpb⟩ hbe hd => ?_, ?_, ?_, x2, fun b en hb => ?_⟩ s s1' st1'
     ·obtain ⟨sR, stR⟩ := hfr
      exact ⟨e1, sR, hv0 ▸ hv1, stR⟩
     ·rcases zcM ⟨c.n, .nil, 0, []⟩ c.l b with ⟨p', hp', q1, q2⟩ | ⟨q1, _⟩
      ·have : (zbw c.n c.l).get b = some p'.e := q2
       rw [this, ← q1, (zc1 g3 hp').1]
      ·exact absurd hpb (q1 p hp)
     ·cases hx : (zbw c.n c.l).get b with
      | none => rfl
      | some en => exact absurd (hget0 b en hx).2 hb
     ·have h2 := zc1 g3 hp
      rw [hpb, hbe] at h2
      cases h2.1
      exact h2.2
     ·have h2 := zc1 g3 hp
      rw [hpb, hbe] at h2
      cases h2.1
      exact ⟨p, hp, hd⟩
     ·rw [y1, (hkr c.l).1]
      exact x1.symm
     ·show ((zbP c.l' _).fb, (zbP c.l' _).fam) = ((zbP c.l' _).fb, (zbP c.l' _).fam)
      rw [y2, y3, (hkr c.l).2.1, (hkr c.l).2.2, x2, x3]
     ·rcases zcM (zcc c.l ⟨c.n', h.t, 0, []⟩) c.l' b with ⟨p, hp, q1, q2⟩ | ⟨q1, q2⟩
      ·right
       rw [q2] at hb; cases hb
       rcases zcM ⟨c.n', .nil, 0, []⟩ c.l' b with ⟨p', hp', q1', q2'⟩ | ⟨q1', _⟩
       ·have h3 := (zc1 k3 hp).1
        have h4 := (zc1 k3 hp').1
        rw [q1] at h3
        rw [q1', h3] at h4
        have : (zbw c.n' c.l').get b = some p'.e := q2'
        rw [this, ← h4]
       ·exact absurd q1 (q1' p hp)
      ·left
       rw [q2] at hb
       obtain ⟨h2, h3⟩ := ziL _ _ _ _ hb
       exact ⟨h2, fun ⟨p, hp, hpb⟩ => (h3 p hp).1 hpb, fun ⟨p, hp, hpb⟩ => (h3 p hp).2 hpb⟩
theorem zs5 {P : Program} {I : zba} (ok : POk P) (hI : KnownOk P I) {f : Nat} {c : Card} (hc : zd8 c (run P I f c.args (zbw c.n c.l)) = true)
  {args : List AV} {h : AH} {e : Env} {w : World} {us : Array Value} (s : Sat e h w.heap) (ha : VRs e args us.toList) : znI P (zps c args h) e h w f us :=
 zpW (fun e w us s ha => ⟨_, hc, fun v h' hv => zms ok hI hv s ha⟩) s ha
def zrr (cs : List Card) (args : List AV) (h : AH) : VH := lE none (fun c _ r => oE r (fun x => some x) (zps c args h)) cs
def zbC (I : zba) (f : Nat) (cs : List Card) : zba := fun g => if g = f then some (.pre (zrr cs)) else I g
theorem zhb {P : Program} {I : zba} (ok : POk P) (hI : KnownOk P I) {f : Nat} {cs : List Card} (hc : ∀ c ∈ cs, ∃ J, KnownOk P J ∧ zd8 c (run P J f c.args (zbw c.n c.l)) = true) : KnownOk P (zbC I f cs) := by
 have key : ∀ args h e (w : World) (us : Array Value), Sat e h w.heap → VRs e args us.toList → znI P (zrr cs args h) e h w f us := fun args h e w us s ha => by
  induction cs with
  | nil => intro v h' hv; cases hv
  | cons c cs ih =>
    intro v h' hv
    have hv' : oE (zrr cs args h) (fun x => some x) (zps c args h) = some (v, h') := hv
    cases hk : zps c args h with
    | none =>
      rw [hk, oE_none] at hv'
      exact ih (fun c hc' => hc c (List.mem_cons_of_mem _ hc')) v h' hv'
    | some r =>
      rw [hk, oE_some] at hv'
      rw [hv'] at hk
      obtain ⟨J, hJ, h2⟩ := hc c List.mem_cons_self
      exact zs5 ok hJ h2 s ha v h' hk
 refine ⟨fun g k hk => ?_, fun g k hk args h e w us s ha => ?_, fun g k hk => ?_⟩
 ·unfold zbC at hk
  by_cases hg : g = f
  ·rw [if_pos hg] at hk; cases hk
  ·rw [if_neg hg] at hk
   exact hI.whole g k hk
 ·unfold zbC at hk
  by_cases hg : g = f
  ·rw [if_pos hg] at hk
   cases hk
   rw [hg]
   exact key args h e w us s ha
  ·rw [if_neg hg] at hk
   exact hI.pre g k hk args h e w us s ha
 ·unfold zbC at hk
  by_cases hg : g = f
  ·rw [if_pos hg] at hk; cases hk
  ·rw [if_neg hg] at hk
   exact hI.post g k hk
end
end Go.Xe
end
section
namespace Go.Xe
noncomputable section
def zgY (I : zba) (f : Nat) : zba := fun g => if g = f then some (.post fun _ args h => zuJ args h) else I g
theorem zkg {P : Program} {I : zba} (hI : KnownOk P I) (f : Nat) : KnownOk P (zgY I f) := by
 refine ⟨fun g k hk => ?_, fun g k hk => ?_, fun g k hk args h h1 h2 v hkk e w us e1 w1 u s0 ha s1 hv st => ?_⟩
 ·unfold zgY at hk
  split at hk
  ·cases hk
  ·exact hI.whole g k hk
 ·unfold zgY at hk
  split at hk
  ·cases hk
  ·exact hI.pre g k hk
 ·unfold zgY at hk
  split at hk
  ·cases hk
   obtain ⟨e2, s2, st2⟩ := znZ hkk s1
   exact ⟨e2, s2, hv.mono st2.le, st.trans st2⟩
  ·exact hI.post g k hk args h h1 h2 v hkk e w us e1 w1 u s0 ha s1 hv st
end
end Go.Xe
end
