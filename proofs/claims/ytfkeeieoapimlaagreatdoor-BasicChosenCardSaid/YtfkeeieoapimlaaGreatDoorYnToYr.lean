/-
  Code; For regions that draw: entries that come and go, what is quiet, what makes; For regions that draw: what makes a block; one loud operation; For r. Conditions: none.
-/
import Derived.Test.YtfkeeieoapimlaaGreatDoorYiToYm
import Derived.LoopNIn
set_option linter.unusedVariables false
set_option linter.unusedSimpArgs false
set_option linter.unusedSectionVars false
section
namespace Go.Xe
noncomputable section
section
variable {P : Program} {e : Env} {w : World} {self : Option Nat → Code → Fr → AH → R} {I : zaR}
def GoodDraw (P : Program) (k : Option Nat → List Oper → Fr → AH → R) : Prop :=
 ∀ rd id (ops : Array Oper) fr h x fr' h', k rd ops.toList fr h = .ok x fr' h' → ∀ e a w ρ, Sat e h w.heap → FR e fr a → RR e rd ρ → (Code.region id ops true).wpIn (fen ρ) 0 P (Post e h w x fr' h') a w
theorem post_trans {e1 : Env} {h h1 h' : AH} {w1 : World} {x : XE} {fr' : Fr} (st : Step e h w e1 h1 w1) {ex : Exit} {a : Act} {w2 : World} (hp : Post e1 h1 w1 x fr' h' ex a w2) : Post e h w x fr' h' ex a w2 :=
 let ⟨q, e2, s2, hf2, st2⟩ := hp; ⟨q, e2, s2, hf2, st.trans st2⟩
theorem zeI {F : Fence} {n : Nat} {Q : Exit → Act → World → Prop} {a : Act} {c : Code} (h : c.wpIn F n P (fun e a w => (∀ l, e ≠ .goto l) ∧ Q e a w) a w) : (Code.scope c).wpIn F n P Q a w := by
 intro b k cs hro hb hr
 have s0 : step P (lone (b.atR a (.code (.scope c) :: k)) cs w) = .next (lone (b.atR a (.code c :: .inScope c :: k)) cs w) := step_lone_go (by simp [stepG, stepG.exec, Frame.atR])
 have h0 : (lone (b.atR a (.code (.scope c) :: k)) cs w).fenced P F := fenced_calm hb hr rfl
 obtain ⟨e, a₁, w₁, ⟨hng, hq⟩, harr⟩ := h b (.inScope c :: k) cs hro hb hr
 cases e with
 | normal =>
   have s1 : step P (lone (b.atR a₁ (.inScope c :: k)) cs w₁) = .next (lone (b.atR a₁ k) cs w₁) := step_lone_go (by simp [stepG, stepG.exec, Frame.atR])
   exact ⟨.normal, a₁, w₁, hq, .head h0 s0 (StepsIn.trans harr (.one (fenced_calm hb hr rfl) s1))⟩
 | exit id =>
   have hx : exitTo id (.inScope c :: k) = exitTo id k := by simp [exitTo]
   exact ⟨.exit id, a₁, w₁, hq, fun k' hk => .head h0 s0 (harr.1 k' (by rw [hx]; exact hk)),
    fun hr' hk => let ⟨k₁, h1, h2⟩ := harr.2 hr' (by rw [hx]; exact hk); ⟨k₁, h1, .head h0 s0 h2⟩⟩
 | goto l => exact absurd rfl (hng l)
 | ret => exact ⟨_, a₁, w₁, hq, .of_steps (.one h0 s0) harr⟩
 | panic ch => exact ⟨_, a₁, w₁, hq, .of_steps (.one h0 s0) harr⟩
 | outgrown => exact ⟨_, a₁, w₁, hq, .of_steps (.one h0 s0) harr⟩
theorem zfa {F : Fence} {n : Nat} {c : Code} {Q Q' : Exit → Act → World → Prop} (hq : ∀ e a w, Q e a w → Q' e a w) : ∀ (m : Nat) (a : Act) (w : World), Code.roundsIn F n P c Q m a w → Code.roundsIn F n P c Q' m a w
 | 0, _, _, h => h
 | m + 1, a, w, h => by
   rw [roundsIn_succ] at h ⊢
   refine wpIn_mono h fun e a' w' hx => ?_
   cases e with
   | normal => exact zfa hq m a' w' hx
   | _ => exact hq _ _ _ hx
def zfb (P : Program) (self : Option Nat → Code → Fr → AH → R) (n : Nat) : Prop :=
 ∀ rd b fr h x fr' h', self rd (.loop b) fr h = .ok x fr' h' → ∀ e a w ρ, Sat e h w.heap → FR e fr a → RR e rd ρ → Code.roundsIn (fen ρ) 0 P b (Post e h w x fr' h') n a w
theorem seqA_ok {rd : Option Nat} {b : Code} {r : R} {x : XE} {fr' : Fr} {h' : AH} (hr : seqA self rd b r = .ok x fr' h') :
  (∃ fr1 h1, r = .ok .normal fr1 h1 ∧ self rd b fr1 h1 = .ok x fr' h') ∨ (r = .ok x fr' h' ∧ x ≠ .normal) := by
 cases r with
 | no y => cases hr
 | ok x1 fr1 h1 =>
   cases x1 with
   | normal => exact .inl ⟨fr1, h1, rfl, hr⟩
   | exit id => cases hr; exact .inr ⟨rfl, by simp⟩
   | goto l => cases hr; exact .inr ⟨rfl, by simp⟩
   | ret => cases hr; exact .inr ⟨rfl, by simp⟩
theorem then_post {x : XE} (hx : x ≠ .normal) {e1 : Env} {h h' : AH} {fr' : Fr} {next : Act → World → Prop} {Q : Exit → Act → World → Prop} {ex : Exit} {a : Act} {w1 w2 : World} (hp : Post e1 h w1 x fr' h' ex a w2)
  (hQ : Post e1 h w1 x fr' h' ex a w2 → Q ex a w2) : Exit.then next Q ex a w2 := by
 have hex := hp.1
 cases x with
 | normal => exact absurd rfl hx
 | exit id => subst hex; exact hQ hp
 | goto l => subst hex; exact hQ hp
 | ret => subst hex; exact hQ hp
theorem loop_step {n : Nat} {self' : Option Nat → Code → Fr → AH → R} (hg : Good P self) (hl : zfb P self n) (hs : ∀ rd b fr h, self' rd (.loop b) fr h = seqA self rd (.loop b) (self rd b fr h)) : zfb P self' (n + 1) := by
 intro rd b fr h x fr' h' hr e a w ρ s hf hrr
 rw [hs] at hr
 rw [roundsIn_succ]
 rcases seqA_ok hr with ⟨fr1, h1, hb, hr2⟩ | ⟨hb, hx⟩
 ·refine wpIn_mono (hg rd b fr h .normal fr1 h1 hb e a w ρ s hf hrr) fun ex a1 w1 ⟨hex, e1, s1, hf1, st1⟩ => ?_
  subst hex
  exact zfa (fun ex a2 w2 hp => post_trans st1 hp) n a1 w1 (hl rd b fr1 h1 x fr' h' hr2 e1 a1 w1 ρ s1 hf1 (hrr.mono st1.le))
 ·exact wpIn_mono (hg rd b fr h x fr' h' hb e a w ρ s hf hrr) fun ex a1 w1 hp => then_post hx hp id
theorem step_sound (ok : POk P) (hI : KnownOk P I) (hg : Good P self) (hd : GoodDraw P (drawB P I self)) {n : Nat} (hl : zfb P (stepA P I self) n) : Good P (stepA P I self) := by
 have hcall := zeG (I := I) ok hg hI
 have hround := round_sound hg
 intro rd c fr h x fr' h' hr e a w ρ s hf hrr
 cases c with
 | skip =>
   have hr' : R.ok .normal fr h = .ok x fr' h' := hr
   cases hr'
   exact wpIn_skip ⟨rfl, e, s, hf, .refl e _ w⟩
 | label l =>
   have hr' : R.ok .normal fr h = .ok x fr' h' := hr
   cases hr'
   exact wpIn_label ⟨rfl, e, s, hf, .refl e _ w⟩
 | region id ops d =>
   cases d with
   | false => exact region_sound ok hcall hround hr s hf hrr
   | true => exact hd rd id ops fr h x fr' h' hr e a w ρ s hf hrr
 | seq c1 c2 =>
   have hr' : seqA self rd c2 (self rd c1 fr h) = .ok x fr' h' := hr
   refine wpIn_seq ?_
   rcases seqA_ok hr' with ⟨fr1, h1, hb, hr2⟩ | ⟨hb, hx⟩
   ·refine wpIn_mono (hg rd c1 fr h .normal fr1 h1 hb e a w ρ s hf hrr) fun ex a1 w1 ⟨hex, e1, s1, hf1, st1⟩ => ?_
    subst hex
    exact wpIn_mono (hg rd c2 fr1 h1 x fr' h' hr2 e1 a1 w1 ρ s1 hf1 (hrr.mono st1.le)) fun ex a2 w2 hp => post_trans st1 hp
   ·exact wpIn_mono (hg rd c1 fr h x fr' h' hb e a w ρ s hf hrr) fun ex a1 w1 hp => then_post hx hp id
 | cond c c1 c2 =>
   have hr' : condA self rd c1 c2 fr h (ev c fr) = .ok x fr' h' := hr
   cases hev : ev c fr with
   | none => rw [hev] at hr'; cases hr'
   | some v =>
     rw [hev] at hr'
     have hv := ev_sound hf hev
     have hr2 : (match v with | .bool q => self rd (ite' q c1 c2) fr h | _ => R.no "cond") = .ok x fr' h' := hr'
     cases v <;> try (cases hr2; done)
     rename_i q
     have hr3 : self rd (ite' q c1 c2) fr h = .ok x fr' h' := hr2
     refine wpIn_cond (t := q) (vr_bool hv) ?_
     rw [zaB] at hr3
     exact hg rd _ fr h x fr' h' hr3 e a w ρ s hf hrr
 | block id b =>
   have hr' : blockA id (self rd b fr h) = .ok x fr' h' := hr
   refine wpIn_block ?_
   cases hb : self rd b fr h with
   | no y => rw [hb] at hr'; cases hr'
   | ok x1 fr1 h1 =>
     rw [hb] at hr'
     refine wpIn_mono (hg rd b fr h x1 fr1 h1 hb e a w ρ s hf hrr) fun ex a1 w1 ⟨hex, e1, s1, hf1, st1⟩ => ?_
     subst hex
     cases x1 with
     | normal => cases hr'; exact ⟨rfl, e1, s1, hf1, st1⟩
     | goto l => cases hr'; exact ⟨rfl, e1, s1, hf1, st1⟩
     | ret => cases hr'; exact ⟨rfl, e1, s1, hf1, st1⟩
     | exit i =>
       have hr2 : ite' (Nat.beq i id) (R.ok .normal fr1 h1) (.ok (.exit i) fr1 h1) = .ok x fr' h' := hr'
       rw [zaB] at hr2
       show Exit.inBlock id (Post e h w x fr' h') (.exit i) a1 w1
       by_cases hid : i = id
       ·rw [if_pos ((zah _ _).2 hid)] at hr2
        cases hr2
        simp only [Exit.inBlock, hid, if_true]
        exact ⟨rfl, e1, s1, hf1, st1⟩
       ·rw [if_neg (fun hx => hid ((zah _ _).1 hx))] at hr2
        cases hr2
        simp only [Exit.inBlock, hid, if_false]
        exact ⟨rfl, e1, s1, hf1, st1⟩
 | loop b => exact wpIn_loop_rounds n (hl rd b fr h x fr' h' hr e a w ρ s hf hrr)
 | rangeFunc g ps asg body => exact rangeFunc_sound ok hg hcall hr s hf hrr
 | exit id =>
   have hr' : R.ok (.exit id) fr h = .ok x fr' h' := hr
   cases hr'
   exact wpIn_exit ⟨rfl, e, s, hf, .refl e _ w⟩
 | goto l =>
   have hr' : R.ok (.goto l) fr h = .ok x fr' h' := hr
   cases hr'
   exact wpIn_goto ⟨rfl, e, s, hf, .refl e _ w⟩
 | ret =>
   have hr' : R.ok .ret fr h = .ok x fr' h' := hr
   cases hr'
   exact wpIn_ret ⟨rfl, e, s, hf, .refl e _ w⟩
 | scope b =>
   have hr' : scopeA (self rd b fr h) = .ok x fr' h' := hr
   cases hb : self rd b fr h with
   | no y => rw [hb] at hr'; cases hr'
   | ok x1 fr1 h1 =>
     rw [hb] at hr'
     have hw := hg rd b fr h x1 fr1 h1 hb e a w ρ s hf hrr
     refine zeI (wpIn_mono hw fun ex a1 w1 ⟨hex, e1, s1, hf1, st1⟩ => ?_)
     subst hex
     cases x1 with
     | goto l => cases hr'
     | normal => cases hr'; exact ⟨fun _ h => (by cases h), rfl, e1, s1, hf1, st1⟩
     | ret => cases hr'; exact ⟨fun _ h => (by cases h), rfl, e1, s1, hf1, st1⟩
     | exit i => cases hr'; exact ⟨fun _ h => (by cases h), rfl, e1, s1, hf1, st1⟩
 | refuse y => cases hr
theorem exec_both (ok : POk P) (hI : KnownOk P I) (hdraw : ∀ self, Good P self → GoodDraw P (drawB P I self)) : ∀ n, Good P (exec P I n) ∧ zfb P (exec P I n) n
 | 0 => ⟨fun rd c fr h x fr' h' hr => (by cases hr), fun rd b fr h x fr' h' hr => (by cases hr)⟩
 | n + 1 => by
   obtain ⟨hg, hl⟩ := exec_both ok hI hdraw n
   have hl' : zfb P (exec P I (n + 1)) (n + 1) := loop_step hg hl fun rd b fr h => rfl
   exact ⟨step_sound ok hI hg (hdraw _ hg) hl', hl'⟩
end
end
end Go.Xe
end
section
namespace Go.Xe
noncomputable section
section
variable {P : Program} {e : Env} {w : World}
theorem EntR.plain {e e' : Env} (he : e.le e') {fm fm' : Nat × List ME} {en : Ent} {l : Loc} {o : Obj} (h : EntR e fm en l o) (hf : famE en = 0) : EntR e' fm' en l o := (h.draw he (.inl hf)).other (.inl hf)
theorem Sat.sub {h h2 : AH} {H : Array Obj} (s : Sat e h H) (hsub : ∀ b en, h2.get b = some en → h.get b = some en) (hn : h.next ≤ h2.next) (hm : h2.fm = h.fm) : Sat e h2 H := by
 have hfb : h2.fb = h.fb := congrArg Prod.fst hm
 have hfa : h2.fam = h.fam := congrArg Prod.snd hm
 refine ⟨fun b en hb => ?_, fun b l hb => ⟨Nat.lt_of_lt_of_le (s.locs b l hb).1 hn, (s.locs b l hb).2⟩, fun g j v hv => Nat.lt_of_lt_of_le (s.nums g j v hv) hn, s.numI, fun i v hv => Nat.lt_of_lt_of_le (s.stps i v hv) hn,
  fun i v hv => Nat.lt_of_lt_of_le (s.keys i v hv) hn, fun i v hv => Nat.lt_of_lt_of_le (s.vals i v hv) hn, fun b c en en' l l' hb hc => s.sep b c en en' l l' (hsub _ _ hb) (hsub _ _ hc),
  fun b c en en' l l' hb hc hc' => s.olds b c en en' l l' (hsub _ _ hb) hc (hsub _ _ hc'), fun b c en hb hc => Nat.lt_of_lt_of_le (s.oldsLt b c en (hsub _ _ hb) hc) hn, by rw [hfb, hfa]; exact s.fam,
  fun b c en en' l l' hb hc hc' => s.ends b c en en' l l' (hsub _ _ hb) hc (hsub _ _ hc'), fun b en hb => s.its b en (hsub _ _ hb), by rw [hfb, hfa]; exact Nat.le_trans s.room hn, s.glob.less fun X ⟨b, en, l, hb, hl, hX⟩ => ⟨b, en, l, hsub _ _ hb, hl, hX⟩⟩
 rw [hm]
 exact s.ents b en (hsub b en hb)
theorem Sat.back {h h2 : AH} {H : Array Obj} (s : Sat e h H) {b : Nat} {en : Ent} {L : Loc} {o : Obj} (hg : ∀ c, h2.get c = if c = b then some en else h.get c) (hn : h2.next = h.next) (hm : h2.fm = h.fm)
  (hl : e.loc b = some L) (hH : H[L.blk]? = some o) (hr : EntR e h.fm en L o) (hf : famE en = 0) (ho : za5 en = []) (hown : ¬ Own e h L.blk) (hng : ¬ Kp e L.blk) : Sat e h2 H := by
 have hfb : h2.fb = h.fb := congrArg Prod.fst hm
 have hfa : h2.fam = h.fam := congrArg Prod.snd hm
 have get' : ∀ c en', h2.get c = some en' → (c = b ∧ en' = en) ∨ (c ≠ b ∧ h.get c = some en') := fun c en' hc => by
  rw [hg] at hc
  by_cases hcb : c = b
  ·rw [if_pos hcb] at hc; cases hc; exact .inl ⟨hcb, rfl⟩
  ·rw [if_neg hcb] at hc; exact .inr ⟨hcb, hc⟩
 have hne : ∀ c en' l', h.get c = some en' → e.loc c = some l' → l'.blk ≠ L.blk := fun c en' l' hc hl' hx => hown ⟨c, en', l', hc, hl', hx⟩
 refine ⟨fun c en' hc => ?_, fun c l hc => by rw [hn]; exact s.locs c l hc, fun g j v hv => by rw [hn]; exact s.nums g j v hv, s.numI, fun i v hv => by rw [hn]; exact s.stps i v hv,
  fun i v hv => by rw [hn]; exact s.keys i v hv, fun i v hv => by rw [hn]; exact s.vals i v hv, fun c d en1 en2 l1 l2 hc hd hl1 hl2 hcd hblk => ?_, fun c d en1 en2 l1 l2 hc hm' hd hl1 hl2 hblk => ?_, fun c d en1 hc hm' => ?_, by rw [hfb, hfa]; exact s.fam,
  fun c d en1 en2 l1 l2 hc hm' hd hl1 hl2 hblk => ?_, fun c en1 hc => ?_, by rw [hfb, hfa, hn]; exact s.room,
  s.glob.int, s.glob.out, fun X hk ⟨c, en', l', hc, hl', hX⟩ => by
   rcases get' c en' hc with ⟨rfl, _⟩ | ⟨_, hc⟩
   ·rw [hl] at hl'; cases hl'; exact hng (hX ▸ hk)
   ·exact s.glob.own X hk ⟨c, en', l', hc, hl', hX⟩⟩
 ·rw [hm]
  rcases get' c en' hc with ⟨rfl, rfl⟩ | ⟨_, hc⟩
  ·exact ⟨L, o, hl, hH, hr⟩
  ·exact s.ents c en' hc
 ·rcases get' c en1 hc with ⟨rfl, _⟩ | ⟨_, hc⟩
  ·rw [hl] at hl1; cases hl1
   rcases get' d en2 hd with ⟨rfl, _⟩ | ⟨_, hd⟩
   ·exact absurd rfl hcd
   ·exact absurd hblk.symm (hne d en2 l2 hd hl2)
  ·rcases get' d en2 hd with ⟨rfl, _⟩ | ⟨_, hd⟩
   ·rw [hl] at hl2; cases hl2
    exact absurd hblk (hne c en1 l1 hc hl1)
   ·exact s.sep c d en1 en2 l1 l2 hc hd hl1 hl2 hcd hblk
 ·rcases get' c en1 hc with ⟨rfl, h1⟩ | ⟨_, hc⟩
  ·rw [h1, ho] at hm'; cases hm'
  ·rcases get' d en2 hd with ⟨rfl, _⟩ | ⟨_, hd⟩
   ·rw [hl] at hl2; cases hl2
    exact absurd hblk (hne c en1 l1 hc hl1)
   ·exact s.olds c d en1 en2 l1 l2 hc hm' hd hl1 hl2 hblk
 ·rw [hn]
  rcases get' c en1 hc with ⟨rfl, h1⟩ | ⟨_, hc⟩
  ·rw [h1, ho] at hm'; cases hm'
  ·exact s.oldsLt c d en1 hc hm'
 ·rcases get' c en1 hc with ⟨rfl, h1⟩ | ⟨_, hc⟩
  ·rw [h1, ho] at hm'; cases hm'
  ·rcases get' d en2 hd with ⟨rfl, _⟩ | ⟨_, hd⟩
   ·rw [hl] at hl2; cases hl2
    exact absurd hblk (hne c en1 l1 hc hl1)
   ·exact s.ends c d en1 en2 l1 l2 hc hm' hd hl1 hl2 hblk
 ·rcases get' c en1 hc with ⟨rfl, h1⟩ | ⟨_, hc⟩
  ·rw [h1]; exact .inl hf
  ·exact s.its c en1 hc
theorem Sat.place {h : AH} {w : World} (s : Sat e h w.heap) {b x : Nat} (o : Obj) (hb : b < h.next) (hl : e.loc b = none) :
  Sat (e.at_ b ⟨w.heap.size, 0, x⟩) h (w.heap.push o) ∧ ¬ Own (e.at_ b ⟨w.heap.size, 0, x⟩) h w.heap.size := by
 have hle : e.le (e.at_ b ⟨w.heap.size, 0, x⟩) := Env.at_le hl
 have loc' : ∀ c l, (e.at_ b ⟨w.heap.size, 0, x⟩).loc c = some l → (c = b ∧ l = ⟨w.heap.size, 0, x⟩) ∨ (c ≠ b ∧ e.loc c = some l) := fun c l hc => by
  by_cases hcb : c = b
  ·subst hcb; rw [Env.at_self] at hc; cases hc; exact .inl ⟨rfl, rfl⟩
  ·rw [Env.at_ne _ hcb] at hc; exact .inr ⟨hcb, hc⟩
 have hgb : h.get b = none := by
  cases hg : h.get b with
  | none => rfl
  | some en =>
    obtain ⟨l, _, hl', _⟩ := s.ents b en hg
    rw [hl] at hl'; cases hl'
 have old : ∀ c en l, h.get c = some en → (e.at_ b ⟨w.heap.size, 0, x⟩).loc c = some l → e.loc c = some l := fun c en l hc hl' => by
  rcases loc' c l hl' with ⟨rfl, _⟩ | ⟨_, h⟩
  ·rw [hgb] at hc; cases hc
  ·exact h
 refine ⟨⟨fun c en hc => ?_, fun c l hc => ?_, s.nums, s.numI, s.stps, s.keys, s.vals, fun c d en1 en2 l1 l2 hc hd hl1 hl2 => s.sep c d en1 en2 l1 l2 hc hd (old _ _ _ hc hl1) (old _ _ _ hd hl2),
  fun c d en1 en2 l1 l2 hc hm hd hl1 hl2 => s.olds c d en1 en2 l1 l2 hc hm hd (old _ _ _ hc hl1) (old _ _ _ hd hl2), s.oldsLt, s.fam.mono hle rfl,
  fun c d en1 en2 l1 l2 hc hm hd hl1 hl2 => s.ends c d en1 en2 l1 l2 hc hm hd (old _ _ _ hc hl1) (old _ _ _ hd hl2), s.its, s.room,
  s.glob.of fun X hX hO => ⟨by rw [Array.getElem?_push, if_neg (by omega)], fun ⟨c, en, l, hc, hl', hX'⟩ => hO ⟨c, en, l, hc, old _ _ _ hc hl', hX'⟩⟩⟩, fun ⟨c, en, l, hc, hl', hX⟩ => ?_⟩
 ·obtain ⟨l, o', hl', ho, hr⟩ := s.ents c en hc
  refine ⟨l, o', hle.loc _ _ hl', ?_, hr.mono hle rfl rfl⟩
  rw [Array.getElem?_push, if_neg (by have := (s.locs _ _ hl').2; omega)]; exact ho
 ·rcases loc' c l hc with ⟨rfl, rfl⟩ | ⟨_, h⟩
  ·exact ⟨hb, by simp⟩
  ·have := s.locs c l h
   exact ⟨this.1, by simp; omega⟩
 ·have := (s.locs c l (old _ _ _ hc hl')).2
  omega
theorem valO_eq {o : O} {v : AV} (h : valO o = some v) : ∃ h', o = .val v h' := by
 cases o <;> try (simp [valO] at h; done)
 simp [valO] at h
 subst h
 exact ⟨_, rfl⟩
theorem za7 {h h' : AH} {o : Option AV} {v : AV} (hr : ofV h o = .val v h') : o = some v := by
 cases o with
 | none => cases hr
 | some u => cases hr; rfl
theorem ofVH_val {h' : AH} {o : VH} {v : AV} (hr : ofVH o = .val v h') : o = some (v, h') := by
 cases o with
 | none => cases hr
 | some u => cases hr; rfl
def Quiet (e : Env) (w : World) (v : AV) (n : Next) (w' : World) : Prop := ∃ u, n = .value u ∧ VR e v u ∧ w' = w
theorem zbx {s : Sem Value} {v : AV} (r : Runs P s w fun u w' => VR e v u ∧ w' = w) : Runs P (do pure (.value (← s)) : Sem Next) w (Quiet e w v) := by
 refine Runs.bind' (r.mono fun u w' ho => ?_)
 obtain ⟨h1, rfl⟩ := ho
 exact Runs.pure' ⟨u, rfl, h1, rfl⟩
theorem zeJ {c : Call} {vs : List AV} {h h' : AH} {v : AV} (hv : opV P (.defer c) vs h = .val v h') : False := by
 obtain ⟨callee, args, ats⟩ := c
 cases callee with
 | builtin b => cases hv
 | invoke x name => cases hv
 | value f =>
   cases vs with
   | nil => cases hv
   | cons a as => cases a <;> cases hv
theorem zb0 {op : Op} {vs : List AV} {h : AH} {v : AV} (hv : valO (opV P op vs h) = some v) : zaw op = false := by
 cases hd : zaw op with
 | false => rfl
 | true =>
   cases op <;> try (cases hd; done)
   obtain ⟨h', hv⟩ := valO_eq hv
   exact (zeJ hv).elim
theorem noDefer_of {op : Op} (h : zaw op = false) : ∀ c, op ≠ .defer c := fun c hx => by subst hx; cases h
theorem dfr_any {op : Op} {vs : List AV} {h1 h2 : AH} {d : ADef} (hd : zaw op = true) (h : dfrO (opV P op vs h1) = some d) : opV P op vs h2 = .dfr d h2 := by
 cases op <;> try (cases hd; done)
 rename_i c
 obtain ⟨callee, args, ats⟩ := c
 cases callee with
 | builtin b => cases h
 | invoke x name => cases h
 | value f =>
   cases vs with
   | nil => cases h
   | cons a as =>
     cases a <;> try (cases h; done)
     rename_i fn first capt
     have h' : some (ADef.fn fn capt (app first as)) = some d := h
     cases h'
     rfl
theorem quiet_sound {h : AH} (s : Sat e h w.heap) {ρ : Operand → Value} {o : Oper} {vs : List AV} {v : AV} (ha : VRs e vs ((zbb o.op).map ρ)) (hq : zan P o.op = true) (hm : zbD o.op = false) (hv : valO (opV P o.op vs h) = some v) :
  Runs P (execOp ρ o) w (Quiet e w v) := by
 replace hv := valO_eq hv
 obtain ⟨h', hv⟩ := hv
 obtain ⟨dst, op, ty, pos, after, guard⟩ := o
 simp only at ha hv hq hm
 cases op <;> try (cases hv; done)
 case move x =>
  have hv' := za7 hv
  rw [zax] at hv'
  obtain ⟨a, rfl, hv'⟩ := hv'
  cases hv'
  exact Runs.pure' ⟨_, rfl, vrs1 ha, rfl⟩
 case assign x =>
  have hv' := za7 hv
  rw [zax] at hv'
  obtain ⟨a, rfl, hv'⟩ := hv'
  cases hv'
  exact Runs.pure' ⟨_, rfl, vrs1 ha, rfl⟩
 case pick c x y =>
  have hv' := za7 hv
  rw [arg3_eq] at hv'
  obtain ⟨a, b, c', rfl, hv'⟩ := hv'
  obtain ⟨h1, h2, h3⟩ := vrs3 ha
  exact (pick_sound h1 h2 h3 hv').mono fun n w' h => h
 case alloc => cases hm
 case box => cases hm
 case buildSlice => cases hm
 case build t ps =>
  have hv' := za7 hv
  have hp : PR e (zipI ps.toList vs) (ps.map fun (i, x) => (i, ρ x)).toList := by
   rw [Array.toList_map]
   refine pr_zip (f := ρ) ?_
   have : (zbb (.build t ps)).map ρ = ps.toList.map fun p => ρ p.2 := by
    show (ps.toList.map (·.2)).map ρ = _
    rw [List.map_map]; rfl
   rw [← this]; exact ha
  exact zbx (build_sound hp hv')
 case load t x =>
  have hv' := za7 hv
  rw [zax] at hv'
  obtain ⟨a, rfl, hv'⟩ := hv'
  exact zbx (zfH s (vrs1 ha) hv')
 case store => cases hq
 case nilCheck x =>
  have hv' := za7 hv
  rw [zax] at hv'
  obtain ⟨a, rfl, hv'⟩ := hv'
  exact (zem (P := P) (w := w) (vrs1 ha) hv').mono fun n w' ⟨hu, hr, hw⟩ => ⟨_, hu, hr, hw⟩
 case binOp bo t x y cm =>
  have hv' := za7 hv
  rw [zbd] at hv'
  obtain ⟨a, b, rfl, hv'⟩ := hv'
  obtain ⟨h1, h2⟩ := vrs2 ha
  exact zbx (binA_sound s h1 h2 hv')
 case unOp uo t x =>
  have hv' := za7 hv
  rw [zax] at hv'
  obtain ⟨a, rfl, hv'⟩ := hv'
  exact zbx (unA_sound (vrs1 ha) hv')
 case convert sr ds x =>
  have hv' := ofVH_val hv
  rw [zax] at hv'
  obtain ⟨a, rfl, hv'⟩ := hv'
  have hq' : oE false (fun td => Option.isSome (intD td)) (P.underlying ds) = true := hq
  unfold convA at hv'
  rw [zab] at hv'
  obtain ⟨sd, hs, hv'⟩ := hv'
  rw [zab] at hv'
  obtain ⟨dd, hd, hv'⟩ := hv'
  rw [hd, oE_some] at hq'
  cases dd <;> try (simp [intD] at hq'; done)
  rename_i k
  have hv2 : intV a (fun n => some (zbT k (zfw k n), h)) = some (v, h') := hv'
  rw [zfG] at hv2
  obtain ⟨k', n, rfl, hv2⟩ := hv2
  cases hv2
  have hx := vr_int (vrs1 ha)
  rw [zaZ, zdk]
  refine zbx ⟨.int k (k.wrap n), w, ?_, .int _ _, rfl⟩
  rw [hx]
  unfold convert
  rw [zai hs, zai hd]
  cases sd <;> rfl
 case makeInterface t x =>
  have hv' := za7 hv
  rw [zax] at hv'
  obtain ⟨a, rfl, hv'⟩ := hv'
  exact zbx (zdQ (vrs1 ha) hv')
 case makeFunc fn first capt =>
  have hv' := za7 hv
  rw [zaf, zab] at hv'
  obtain ⟨hy, a, hta, hv'⟩ := hv'
  rw [zab] at hv'
  obtain ⟨b, htb, hv'⟩ := hv'
  cases hv'
  have hop : (zbb (.makeFunc fn first capt)).map ρ = (first.map ρ).toList ++ (capt.map ρ).toList := by
   show (app first.toList capt.toList).map ρ = _
   rw [zcn]; simp
  rw [hop] at ha
  have hlen : (first.map ρ).toList.length = len first.toList := by rw [zaH]; simp
  have h1 := ha.take (len first.toList)
  have h2 := ha.drop (len first.toList)
  rw [List.take_left' hlen] at h1
  rw [List.drop_left' hlen] at h2
  have hta' : a = vs.take (len first.toList) := by
   rw [tak_eq] at hta
   by_cases hle : len first.toList ≤ vs.length
   ·rw [if_pos hle] at hta; exact (Option.some.inj hta).symm
   ·rw [if_neg hle] at hta; cases hta
  have htb' : b = vs.drop (len first.toList) := by
   rw [drp_eq] at htb
   by_cases hle : len first.toList ≤ vs.length
   ·rw [if_pos hle] at htb; exact (Option.some.inj htb).symm
   ·rw [if_neg hle] at htb; cases htb
  rw [← hta'] at h1
  rw [← htb'] at h2
  exact zbx ⟨_, w, rfl, .func _ _ _ _ _ _ (.same _ hy) h1 h2, rfl⟩
 case makeMap t r =>
  have : isNone r = true := hq
  have : isNone r = false := hm
  simp_all
 case makeSlice => cases hq
 case slice t x lo hi mx =>
  cases mx with
  | some m => cases hv
  | none =>
    have hv2 : ofV h (sliceOp P t (zgA lo) (zgA hi) vs h) = .val v h' := hv
    have hv' := za7 hv2
    have hop : zbb (.slice t x lo hi none) = x :: (lo.toList ++ hi.toList) := by
     show x :: app lo.toList hi.toList = _
     rw [zcn]
    rw [hop] at ha
    exact zbx (slice_sound s ha hv')
 case fieldAddr t x f =>
  have hv' := za7 hv
  rw [zax] at hv'
  obtain ⟨a, rfl, hv'⟩ := hv'
  exact zbx (zdJ (vrs1 ha) hv')
 case field t x f =>
  have hv' := za7 hv
  rw [zax] at hv'
  obtain ⟨a, rfl, hv'⟩ := hv'
  exact zbx (field_sound (vrs1 ha) hv')
 case indexAddr t x y =>
  have hv' := za7 hv
  rw [zbd] at hv'
  obtain ⟨a, b, rfl, hv'⟩ := hv'
  obtain ⟨h1, h2⟩ := vrs2 ha
  exact zbx (zdK h1 h2 hv')
 case index t x y =>
  have hv' := za7 hv
  rw [zbd] at hv'
  obtain ⟨a, b, rfl, hv'⟩ := hv'
  obtain ⟨h1, h2⟩ := vrs2 ha
  exact zbx (index_sound h1 h2 hv')
 case lookup t m k okk =>
  have hv' := za7 hv
  rw [zbd] at hv'
  obtain ⟨a, b, rfl, hv'⟩ := hv'
  obtain ⟨h1, h2⟩ := vrs2 ha
  exact zbx (zcb s h1 h2 hv')
 case mapUpdate => cases hq
 case insert => cases hq
 case mapEntry => cases hq
 case entryStore => cases hq
 case range => cases hq
 case next => cases hq
 case entry => cases hq
 case typeAssert x xt t okk =>
  have hv' := za7 hv
  rw [zax] at hv'
  obtain ⟨a, rfl, hv'⟩ := hv'
  rw [zab] at hv'
  obtain ⟨d, hd, hv'⟩ := hv'
  exact zbx (zdv hd (vrs1 ha) hv')
 case extract x i =>
  have hv' := za7 hv
  rw [zax] at hv'
  obtain ⟨a, rfl, hv'⟩ := hv'
  exact zbx (ze3 (vrs1 ha) hv')
 case call c =>
  obtain ⟨callee, args, ats⟩ := c
  cases callee with
  | value f => cases hq
  | invoke x name => cases hq
  | builtin b =>
    have hb : b = .len := by cases b <;> first | rfl | (cases hq)
    subst hb
    have hv' := ofVH_val hv
    have hv2 : arg1 vs (fun x => bnd (nth ats.toList 0) fun t => bnd (P.underlying t) fun d => bnd (lenD x h d) fun n => some (zde n, h)) = some (v, h') := hv'
    rw [zax] at hv2
    obtain ⟨a, rfl, hv2⟩ := hv2
    rw [zab] at hv2
    obtain ⟨t, ht, hv2⟩ := hv2
    rw [zab] at hv2
    obtain ⟨d, hd, hv2⟩ := hv2
    rw [zab] at hv2
    obtain ⟨n, hl, hv2⟩ := hv2
    cases hv2
    have ha' : VRs e [a] (args.map ρ).toList := by rw [Array.toList_map]; exact ha
    show Runs P (builtin .len ats ty (args.map fun | .const _ => true | _ => false) (args.map ρ)) w _
    generalize args.map ρ = us at ha'
    obtain ⟨us⟩ := us
    cases ha' with
    | cons _ ua _ l' h1 ha =>
      cases ha
      rw [zd9]
      exact zbx ⟨_, w, len_run s (zeD ht) hd h1 hl, .int _ _, rfl⟩
 case defer => exact (zeJ hv).elim
theorem quiet_any {h h2 : AH} {op : Op} {vs : List AV} {v : AV} (hq : zan P op = true) (hm : zbD op = false) (hr : zbC op = false) (hv : valO (opV P op vs h) = some v) : valO (opV P op vs h2) = some v := by
 replace hv := valO_eq hv
 obtain ⟨h', hv⟩ := hv
 have fin : ∀ {o : Option AV}, ofV h o = .val v h' → valO (ofV h2 o) = some v := fun {o} ho => by
  rw [za7 ho]; rfl
 cases op <;> first
  | (cases hv; done)
  | (cases hq; done)
  | (cases hm; done)
  | (cases hr; done)
  | exact fin hv
  | exact (zeJ hv).elim
  | skip
 case convert sr ds x =>
  have hv' := ofVH_val hv
  rw [zax] at hv'
  obtain ⟨a, rfl, hv'⟩ := hv'
  have hq' : oE false (fun td => Option.isSome (intD td)) (P.underlying ds) = true := hq
  unfold convA at hv'
  rw [zab] at hv'
  obtain ⟨sd, hs, hv'⟩ := hv'
  rw [zab] at hv'
  obtain ⟨dd, hd, hv'⟩ := hv'
  have hq2 := hq'
  rw [hd, oE_some] at hq2
  cases dd <;> try (simp [intD] at hq2; done)
  rename_i k
  have hv2 : intV a (fun n => some (zbT k (zfw k n), h)) = some (v, h') := hv'
  rw [zfG] at hv2
  obtain ⟨k', n, rfl, hv2⟩ := hv2
  cases hv2
  show valO (ofVH (convA P sr ds (.int k' n) h2)) = _
  have : convA P sr ds (.int k' n) h2 = some (zbT k (zfw k n), h2) := by
   unfold convA
   rw [hs, hd]; rfl
  rw [this]; rfl
 case makeMap t r =>
  have h1 : isNone r = true := hq
  have h2 : isNone r = false := hm
  rw [h1] at h2; cases h2
end
end
end Go.Xe
end
section
namespace Go.Xe
noncomputable section
section
variable {P : Program} {e : Env} {w : World}
theorem row_ent {l : List AV} {us : Array Value} (hv : VRs e l us.toList) (T B : Nat) (fm : Nat × List ME) {e1 : Env} (hle : e.le e1) : EntR e1 fm (.cells l T true 0 []) ⟨B, 0, l.length⟩ (.cells us T (0, 0)) := by
 have hlen := hv.length
 refine .cells _ _ _ _ _ _ _ _ _ _ ⟨by simp only; rw [hlen]; simp, Nat.le_refl _, fun i v hi => ?_, fun i _ _ h => by omega, fun _ => ⟨rfl, rfl, rfl, fun _ => rfl⟩⟩
 obtain ⟨u, hu, hr⟩ := hv.get hi
 exact ⟨u, by rw [Nat.zero_add, ← Array.getElem?_toList]; exact hu, hr.mono hle⟩
theorem mk_sound {ρ : Operand → Value} {o : Oper} {vs : List AV} {en : Ent} {f : Nat → AV} (ha : VRs e vs ((zbb o.op).map ρ)) (hm : mkE P o.op vs = some (en, f)) :
  za5 en = [] ∧ famE en = 0 ∧ wrE en = true ∧ ∃ obj u x, (execOp ρ o).run P w = .ok (.value u) { w with heap := w.heap.push obj } ∧
   ∀ e1 b fm, e.le e1 → e1.loc b = some ⟨w.heap.size, 0, x⟩ → VR e1 (f b) u ∧ EntR e1 fm en ⟨w.heap.size, 0, x⟩ obj := by
 obtain ⟨dst, op, ty, pos, after, guard⟩ := o
 simp only at ha hm
 cases op <;> try (cases hm; done)
 case alloc t =>
  have hm' : bnd (zdy P t) (fun z => some ((Ent.cells z.cells t true 0 [], fun b => AV.ptr b 0) : Ent × (Nat → AV))) = some (en, f) := hm
  rw [zab] at hm'
  obtain ⟨z, hz, hm'⟩ := hm'
  cases hm'
  obtain ⟨uz, hr, hzr⟩ := zdm (P := P) (w := w) (e := e) hz
  refine ⟨rfl, rfl, rfl, .cells uz.cells t (0, 0), .pointer (some ⟨w.heap.size, 0, none⟩), z.cells.length, ?_, fun e1 b fm hle hl => ⟨?_, row_ent (zcH hzr) t _ fm hle⟩⟩
  ·have hal : (Instr.alloc t true (.tuple #[])).run P w = .ok (.pointer (some ⟨w.heap.size, 0, none⟩)) { w with heap := w.heap.push (.cells uz.cells t (0, 0)) } := by
    show Sem.run P (zeroValue t >>= _) w = _
    rw [zac, hr]; rfl
   show Sem.run P (do pure (.value (← Instr.alloc t true (.tuple #[]))) : Sem Next) w = _
   rw [zac, hal]; rfl
  ·exact .ptr b 0 _ hl
 case box t x =>
  have hm' : arg1 vs (fun v => some ((Ent.cells v.cells t true 0 [], fun b => AV.ptr b 0) : Ent × (Nat → AV))) = some (en, f) := hm
  rw [zax] at hm'
  obtain ⟨a, rfl, hm'⟩ := hm'
  cases hm'
  exact ⟨rfl, rfl, rfl, .cells (ρ x).cells t (0, 0), .pointer (some ⟨w.heap.size, 0, none⟩), a.cells.length, rfl, fun e1 b fm hle hl => ⟨.ptr b 0 _ hl, row_ent (zcH (vrs1 ha)) t _ fm hle⟩⟩
 case buildSlice t n ps =>
  have hm' : bnd (zga P t) (fun e => grd (Nat.ble (Nat.mul n e.2) 16777216) (bnd (zcC P e.1 e.2 n) fun z => bnd (fillA (zfy e.2) (zipI ps.toList vs) z) fun l =>
   some ((Ent.cells l e.1 true 0 [], fun b => AV.sl b 0 n e.2) : Ent × (Nat → AV)))) = some (en, f) := hm
  rw [zab] at hm'
  obtain ⟨⟨el, z⟩, he, hm'⟩ := hm'
  rw [zaf, zaV, zab] at hm'
  obtain ⟨hsz, zs, hzs, hm'⟩ := hm'
  rw [zab] at hm'
  obtain ⟨l, hl, hm'⟩ := hm'
  cases hm'
  simp only at hsz hzs hl
  have hp : PR e (zipI ps.toList vs) (ps.map fun (i, x) => (i, ρ x)).toList := by
   rw [Array.toList_map]
   refine pr_zip (f := ρ) ?_
   have : (zbb (.buildSlice t n ps)).map ρ = ps.toList.map fun p => ρ p.2 := by
    show (ps.toList.map (·.2)).map ρ = _
    rw [List.map_map]; rfl
   rw [← this]; exact ha
  obtain ⟨hd, hsize, hz0⟩ := zed he
  obtain ⟨uz, hr, hus, hlz, hvz⟩ := zbr (P := P) (w := w) (e := e) hzs
  obtain ⟨cells, hf, hvc, hlc⟩ := zec (pm := fun i => some (i * z, z)) (fun i q h => h) hp hvz hl
  have hlen : l.length = n * z := by rw [hlc, hlz]
  refine ⟨rfl, rfl, rfl, .cells cells el (0, 0), .slice (some ⟨w.heap.size, 0, none⟩) n n, l.length, ?_, fun e1 b fm hle hl => ⟨?_, row_ent hvc el _ fm hle⟩⟩
  ·show Sem.run P (do pure (.value (← Instr.buildSlice t n (ps.map fun (i, x) => (i, ρ x)))) : Sem Next) w = _
   rw [zac]
   have hb : (Instr.buildSlice t n (ps.map fun (i, x) => (i, ρ x))).run P w = .ok (.slice (some ⟨w.heap.size, 0, none⟩) n n) { w with heap := w.heap.push (.cells cells el (0, 0)) } := by
    unfold Instr.buildSlice
    rw [zai hd]
    show Sem.run P (sizeOf el >>= _) w = _
    rw [zac, zbh hsize]
    have hsz' : n * z ≤ 2 ^ 24 := hsz
    simp only []
    rw [if_neg (by omega)]
    by_cases hn : n * z = 0
    ·simp only [hn, if_true]
     have hc0 : cells.size = 0 := by
      have := hvc.length; simp at this; omega
     have hr0 : ∀ f : Nat → Value, (Array.range 0).map f = #[] := fun f => Array.eq_empty_of_size_eq_zero (by simp)
     rw [hn, hr0] at hf
     simp only [hr0]
     rw [zac]
     show Sem.run P (match Instr.fill (fun i => some (i * z, z)) #[] (ps.map fun (i, x) => (i, ρ x)).toList with | some cells => _ | _ => _) w = _
     rw [hf]; rfl
    ·simp only [hn, if_false]
     show Sem.run P (zeroValue el >>= _) w = _
     rw [zac, hr]
     show Sem.run P (match Instr.fill (fun i => some (i * z, z)) ((Array.range (n * z)).map (uz.cells[· % uz.cells.size]!)) (ps.map fun (i, x) => (i, ρ x)).toList with | some cells => _ | _ => _) w = _
     rw [hf]; rfl
   rw [hb]; rfl
  ·exact .sl b 0 n z n _ hl hz0 (by simp only; omega) (Nat.le_refl n)
 case makeMap t r =>
  have hm' : grd (isNone r) (some ((Ent.map [] 0, fun b => AV.map b) : Ent × (Nat → AV))) = some (en, f) := hm
  rw [zaf] at hm'
  obtain ⟨hr, hm'⟩ := hm'
  cases hm'
  have : r = none := by cases r <;> first | rfl | (cases hr)
  subst this
  refine ⟨rfl, rfl, rfl, .map #[] 0, .map (some w.heap.size), 0, rfl, fun e1 b fm _ hl => ⟨.map b _ hl, .map _ _ _ _ ⟨⟨[], .refl _, .nil⟩, fun x hx => by simp at hx, by simp, by simp⟩⟩⟩
variable {I : zaR} {self : Option Nat → Code → Fr → AH → R}
theorem opR_sound (ok : POk P) (hcall : zbO P (zc7 P I self)) (hround : zcd P (roundA self)) {ρ : Option Nat} {o : Oper} {h h1 : AH} {vs : List AV} {v : AV}
  (hr : opR P I self o vs h = some (v, h1)) {a : Act} {next : Act → World → Prop} {Q : Exit → Act → World → Prop} (s : Sat e h w.heap) (ha : VRs e vs ((zbb o.op).map a.eval)) (hnd : ∀ c, o.op ≠ .defer c)
  (hk : ∀ e1 u w1, Sat e1 h1 w1.heap → VR e1 v u → Step e h w e1 h1 w1 → next (a.put o.dst u) w1) :
  o.wpIn (fen ρ) 0 P a w next Q := by
 refine ⟨fun f _ => trivial, ?_⟩
 unfold opR at hr
 have hse : o.semAt (fen ρ).round a.eval = execOp a.eval o := Oper.semAt_eq _ _ _ hnd
 rw [hse]
 cases ho : opV P o.op vs h with
 | no => rw [ho] at hr; cases hr
 | val v' h1' =>
   rw [ho] at hr
   cases hr
   obtain ⟨n, w1, hrun, hout⟩ := zbc ok s ha ho (by simp)
   obtain ⟨e1, u, rfl, s1, hv, st⟩ := hout
   rw [hrun, Oper.uponIn_value]
   exact hk e1 u w1 s1 hv st
 | skip h1' =>
   rw [ho] at hr
   cases hr
   obtain ⟨n, w1, hrun, hout⟩ := zbc ok s ha ho (by simp)
   obtain ⟨e1, rfl, s1, st⟩ := hout
   rw [hrun, Oper.uponIn_skip]
   exact hk e1 undef w1 s1 (zcq e1) st
 | enter f args h1' =>
   rw [ho] at hr
   have hc : zc7 P I self f args h1' = some (v, h1) := hr
   obtain ⟨n, w1, hrun, hout⟩ := zbc ok s ha ho (by simp)
   obtain ⟨rfl, rfl, us, rfl, hus⟩ := hout
   rw [hrun, Oper.uponIn_enter]
   refine ⟨zdb ρ, zeE.2 (CallsIn.mono (hcall f args _ e w1 us s hus v h1 hc) fun en w' hen => ?_)⟩
   cases en with
   | returned u =>
     obtain ⟨e2, s2, hv, st⟩ := hen
     exact hk e2 u w' s2 hv st
   | panicked c => exact hen.elim
   | outgrown => exact hen.elim
 | round l tm nt asg body h1' =>
   rw [ho] at hr
   have hc : roundA self l tm nt asg body h1' = some (v, h1) := hr
   obtain ⟨n, w1, hrun, hout⟩ := zbc ok s ha ho (by simp)
   obtain ⟨rfl, rfl, L, fn, tmps, rfl, hL, htr⟩ := hout
   rw [hrun, Oper.uponIn_round]
   refine ⟨zdb ρ, ?_⟩
   have hx : RoundIn Fence.wide 0 P L.blk fn tmps asg body w1 _ := hround l tm nt asg body _ v h1 hc e w1 L tmps fn s hL htr
   refine RoundIn.mono (F := fen ρ) hx fun en w' hen => ?_
   cases en with
   | returned u =>
     obtain ⟨e2, s2, hv, st⟩ := hen
     exact hk e2 u w' s2 hv st
   | panicked c => exact hen.elim
   | outgrown => exact hen.elim
 | dfr d h1' => rw [ho] at hr; cases hr
end
end
end Go.Xe
end
section
namespace Go.Xe
noncomputable section
theorem zdo (m i : Nat) : bit m i = m.testBit i := by
 rw [Nat.testBit_eq_decide_div_mod_eq]
 show Nat.beq (m / 2 ^ i % 2) 1 = _
 cases h : Nat.beq (m / 2 ^ i % 2) 1 with
 | true => rw [zah] at h; rw [h]; rfl
 | false =>
   have : ¬ (m / 2 ^ i % 2 = 1) := fun hx => by rw [(zah _ _).2 hx] at h; cases h
   exact (decide_eq_false this).symm
theorem bit_or (a b i : Nat) : bit (Nat.lor a b) i = (bit a i || bit b i) := by
 rw [zdo, zdo, zdo]
 exact Nat.testBit_or a b i
theorem bit_pow (k i : Nat) : bit (Nat.pow 2 k) i = true ↔ i = k := by
 rw [zdo]
 show (2 ^ k).testBit i = true ↔ _
 rw [Nat.testBit_two_pow]
 simp only [decide_eq_true_eq]
 exact ⟨Eq.symm, Eq.symm⟩
theorem bit_zero (i : Nat) : bit 0 i = false := by rw [zdo]; exact Nat.zero_testBit i
theorem edgeMask_bit {j : Nat} {ms : List Nat} {es : List Edge} {s : Nat} (h : zdh j ms es = some s) :
  (∀ i, bit s i = true → ∃ e ∈ es, zfY e = true ∧ (e.on = i ∨ ∃ m, ms[e.on]? = some m ∧ bit m i = true)) ∧ ∀ e ∈ es, zfY e = true → e.on < j := by
 induction es generalizing s with
 | nil =>
   have h' : some 0 = some s := h
   cases h'
   exact ⟨fun i hi => (by rw [bit_zero] at hi; cases hi), fun e he => (by cases he)⟩
 | cons e es ih =>
   have h' : ite' (zfY e) (grd (Nat.blt e.on j) (bnd (nth ms e.on) fun m => bnd (zdh j ms es) fun s => some (Nat.lor (Nat.lor m (Nat.pow 2 e.on)) s))) (zdh j ms es) = some s := h
   rw [zav] at h'
   rcases h' with ⟨ha, h'⟩ | ⟨ha, h'⟩
   ·rw [zaf, zat, zab] at h'
    obtain ⟨hlt, m, hm, h'⟩ := h'
    rw [zab] at h'
    obtain ⟨s', hs', h'⟩ := h'
    cases h'
    rw [za3] at hm
    obtain ⟨h1, h2⟩ := ih hs'
    refine ⟨fun i hi => ?_, fun e' he' ha' => ?_⟩
    ·rw [bit_or, bit_or, Bool.or_eq_true, Bool.or_eq_true] at hi
     rcases hi with (hi | hi) | hi
     ·exact ⟨e, List.mem_cons_self, ha, .inr ⟨m, hm, hi⟩⟩
     ·exact ⟨e, List.mem_cons_self, ha, .inl ((bit_pow _ _).1 hi).symm⟩
     ·obtain ⟨e', he', q⟩ := h1 i hi
      exact ⟨e', List.mem_cons_of_mem _ he', q⟩
    ·rcases List.mem_cons.1 he' with rfl | he'
     ·exact hlt
     ·exact h2 e' he' ha'
   ·obtain ⟨h1, h2⟩ := ih h'
    refine ⟨fun i hi => ?_, fun e' he' ha' => ?_⟩
    ·obtain ⟨e', he', q⟩ := h1 i hi
     exact ⟨e', List.mem_cons_of_mem _ he', q⟩
    ·rcases List.mem_cons.1 he' with rfl | he'
     ·rw [ha] at ha'; cases ha'
     ·exact h2 e' he' ha'
theorem masks_spec : ∀ (ops : List Oper) (j : Nat) (acc ms : List Nat), masks ops j acc = some ms → acc.length = j →
  ∃ new, ms = acc ++ new ∧ new.length = ops.length ∧ ∀ k o, ops[k]? = some o → ∃ m, ms[j + k]? = some m ∧ zdh (j + k) (ms.take (j + k)) o.after.toList = some m
 | [], j, acc, ms, h, _ => by
   have h' : some acc = some ms := h
   cases h'
   exact ⟨[], by simp, rfl, fun k o ho => by simp at ho⟩
 | o :: ops, j, acc, ms, h, hl => by
   have h' : bnd (zdh j acc o.after.toList) (fun m => masks ops (j + 1) (app acc [m])) = some ms := h
   rw [zab] at h'
   obtain ⟨m, hm, h'⟩ := h'
   rw [zcn] at h'
   obtain ⟨new, hms, hnl, hk⟩ := masks_spec ops (j + 1) (acc ++ [m]) ms h' (by simp [hl])
   refine ⟨m :: new, by rw [hms]; simp, by simp [hnl], fun k o' ho' => ?_⟩
   cases k with
   | zero =>
     simp at ho'
     subst ho'
     refine ⟨m, ?_, ?_⟩
     ·rw [hms, List.append_assoc, Nat.add_zero, List.getElem?_append_right (by omega), hl, Nat.sub_self]; rfl
     ·rw [hms, List.append_assoc, Nat.add_zero, List.take_left' hl]; exact hm
   | succ k =>
     have := hk k o' (by simpa using ho')
     rw [show j + (k + 1) = j + 1 + k by omega]
     exact this
structure MaskOk (ops : List Oper) (ms : List Nat) : Prop where
 len : ms.length = ops.length
 up : ∀ (j m : Nat) (o : Oper), ops[j]? = some o → ms[j]? = some m → ∀ i, bit m i = true → ∃ e ∈ o.after.toList, zfY e = true ∧ (e.on = i ∨ ∃ m', ms[e.on]? = some m' ∧ bit m' i = true)
 lt : ∀ (j m : Nat), ms[j]? = some m → ∀ i, bit m i = true → i < j
theorem masks_ok {ops : List Oper} {ms : List Nat} (h : masks ops 0 [] = some ms) : MaskOk ops ms := by
 obtain ⟨new, hms, hl, hk⟩ := masks_spec ops 0 [] ms h rfl
 have hms' : ms = new := by simpa using hms
 have hlen : ms.length = ops.length := by rw [hms', hl]
 have hedge : ∀ j o, ops[j]? = some o → ∃ m, ms[j]? = some m ∧ zdh j (ms.take j) o.after.toList = some m := fun j o ho => by
  have := hk j o ho
  simpa using this
 have hup : ∀ j m o, ops[j]? = some o → ms[j]? = some m → (∀ i, bit m i = true → ∃ e ∈ o.after.toList, zfY e = true ∧ e.on < j ∧ (e.on = i ∨ ∃ m', ms[e.on]? = some m' ∧ bit m' i = true)) := fun j m o ho hm i hi => by
  obtain ⟨m2, hm2, hem⟩ := hedge j o ho
  rw [hm] at hm2; cases hm2
  obtain ⟨h1, h2⟩ := edgeMask_bit hem
  obtain ⟨e, he, ha, q⟩ := h1 i hi
  refine ⟨e, he, ha, h2 e he ha, q.imp id fun ⟨m', hm', hb⟩ => ⟨m', ?_, hb⟩⟩
  rw [List.getElem?_take_of_lt (h2 e he ha)] at hm'
  exact hm'
 refine ⟨hlen, fun j m o ho hm i hi => ?_, ?_⟩
 ·obtain ⟨e, he, ha, _, q⟩ := hup j m o ho hm i hi
  exact ⟨e, he, ha, q⟩
 ·intro j
  induction j using Nat.strongRecOn with
  | _ j ih =>
    intro m hm i hi
    have hj : j < ops.length := by rw [← hlen]; exact (List.getElem?_eq_some_iff.1 hm).1
    obtain ⟨e, he, ha, hlt, q⟩ := hup j m ops[j] (List.getElem?_eq_getElem hj) hm i hi
    rcases q with rfl | ⟨m', hm', hb⟩
    ·exact hlt
    ·exact Nat.lt_trans (ih e.on hlt m' hm' i hb) hlt
theorem depOf_bit {md : Nat} {es : List Edge} {i : Nat} : bit (depOf md es) i = true ↔ ∃ e ∈ es, bindsA md e = true ∧ e.on = i := by
 induction es with
 | nil =>
   have : depOf md [] = 0 := rfl
   rw [this, bit_zero]; simp
 | cons e es ih =>
   have : depOf md (e :: es) = ite' (bindsA md e) (Nat.lor (Nat.pow 2 e.on) (depOf md es)) (depOf md es) := rfl
   rw [this, zaB]
   by_cases hb : bindsA md e = true
   ·rw [if_pos hb, bit_or, Bool.or_eq_true, bit_pow, ih]
    constructor
    ·rintro (rfl | ⟨e', he', q⟩)
     ·exact ⟨e, List.mem_cons_self, hb, rfl⟩
     ·exact ⟨e', List.mem_cons_of_mem _ he', q⟩
    ·rintro ⟨e', he', q, rfl⟩
     rcases List.mem_cons.1 he' with rfl | he'
     ·exact .inl rfl
     ·exact .inr ⟨e', he', q, rfl⟩
   ·rw [if_neg hb, ih]
    constructor
    ·rintro ⟨e', he', q⟩; exact ⟨e', List.mem_cons_of_mem _ he', q⟩
    ·rintro ⟨e', he', q, hi⟩
     rcases List.mem_cons.1 he' with rfl | he'
     ·exact absurd q hb
     ·exact ⟨e', he', q, hi⟩
theorem depsOf_get {md : Nat} : ∀ {ops : List Oper} {j d : Nat}, (zfZ md ops)[j]? = some d → ∃ o, ops[j]? = some o ∧ d = depOf md o.after.toList
 | [], j, d, h => by simp [zfZ] at h
 | o :: ops, j, d, h => by
   have h1 : zfZ md (o :: ops) = depOf md o.after.toList :: zfZ md ops := by
    show frc (depOf md o.after.toList) (fun d => d :: zfZ md ops) = _
    rw [zaG]
   rw [h1] at h
   cases j with
   | zero => simp at h; exact ⟨o, rfl, h.symm⟩
   | succ j => simp at h; simpa using depsOf_get h
theorem passT_sub {S : Nat → Prop} : ∀ (ds : List Nat) (j acc : Nat), (∀ k d, ds[k]? = some d → (∀ i, bit d i = true → S i) → S (j + k)) → (∀ i, bit acc i = true → S i) → ∀ i, bit (passT ds j acc) i = true → S i
 | [], _, acc, _, ha, i, hi => ha i hi
 | d :: ds, j, acc, hN, ha, i, hi => by
   have h1 : passT (d :: ds) j acc = passT ds (j + 1) (ite' (Nat.beq (Nat.land d acc) d) (Nat.lor (Nat.pow 2 j) acc) acc) := zaG _ _
   rw [h1] at hi
   refine passT_sub ds (j + 1) _ (fun k d' hd' hS => by
    have := hN (k + 1) d' (by simpa using hd') hS
    rwa [show j + (k + 1) = j + 1 + k by omega] at this) (fun i' hi' => ?_) i hi
   rw [zaB] at hi'
   by_cases hb : Nat.beq (Nat.land d acc) d = true
   ·rw [if_pos hb, bit_or, Bool.or_eq_true, bit_pow] at hi'
    rcases hi' with rfl | hi'
    ·rw [zah] at hb
     refine hN 0 d rfl fun i'' hi'' => ha i'' ?_
     rw [zdo] at hi'' ⊢
     have hb' : d &&& acc = d := hb
     rw [← hb', Nat.testBit_and, Bool.and_eq_true] at hi''
     exact hi''.2
    ·exact ha i' hi'
   ·rw [if_neg hb] at hi'
    exact ha i' hi'
theorem passesT_sub {S : Nat → Prop} {ds : List Nat} (hN : ∀ k d, ds[k]? = some d → (∀ i, bit d i = true → S i) → S k) : ∀ (n acc : Nat), (∀ i, bit acc i = true → S i) → ∀ i, bit (passesT ds n acc) i = true → S i
 | 0, acc, ha, i, hi => ha i hi
 | n + 1, acc, ha, i, hi => by
   have h1 : passesT ds (n + 1) acc = passesT ds n (passT ds 0 acc) := zaG _ _
   rw [h1] at hi
   exact passesT_sub hN n _ (fun i' hi' => passT_sub ds 0 acc (fun k d hd hS => by rw [Nat.zero_add]; exact hN k d hd hS) ha i' hi') i hi
theorem fullT_bit {acc n : Nat} (h : fullT acc n = true) : ∀ i, i < n → bit acc i = true := by
 intro i hi
 have h' : Nat.beq (acc % 2 ^ n + 1) (2 ^ n) = true := h
 rw [zah] at h'
 have h1 : acc % 2 ^ n = 2 ^ n - 1 := by omega
 have h2 : (acc % 2 ^ n).testBit i = true := by
  rw [h1, Nat.testBit_two_pow_sub_one]
  simp [hi]
 rw [Nat.testBit_mod_two_pow] at h2
 rw [zdo]
 simpa [hi] using h2
def modeN : Region.Mode → Nat
 | .any => 0
 | .text => 1
 | .gc => 2
theorem binds_eq (md : Region.Mode) (e : Edge) : Region.binds md e = bindsA (modeN md) e := by
 unfold Region.binds bindsA
 cases e.ground <;> cases md <;> rfl
theorem always_binds {md : Region.Mode} {e : Edge} (h : zfY e = true) : Region.binds md e = true := by
 unfold zfY at h
 unfold Region.binds
 cases hg : e.ground <;> first | rfl | (rw [hg] at h; cases h)
theorem topo_ready {md : Region.Mode} {ops : Array Oper} (h : topo (modeN md) ops.toList = true) {listed : Array Bool} (hs : listed.size = ops.size) (hr : Region.ready md ops listed = []) : ∀ i, i < ops.size → listed.getD i true = true := by
 have hN : ∀ k d, (zfZ (modeN md) ops.toList)[k]? = some d → (∀ i, bit d i = true → listed.getD i false = true) → listed.getD k false = true := fun k d hd hS => by
  obtain ⟨o, ho, rfl⟩ := depsOf_get hd
  rw [Array.getElem?_toList] at ho
  apply Classical.byContradiction
  intro hc
  have hk : k < ops.size := (Array.getElem?_eq_some_iff.1 ho).1
  have hmem : k ∈ Region.ready md ops listed := by
   rw [mem_ready]
   refine ⟨?_, o, ho, fun e he hb => hS e.on (depOf_bit.2 ⟨e, Array.mem_toList_iff.2 he, by rw [← binds_eq]; exact hb, rfl⟩)⟩
   have hlt : k < listed.size := by rw [hs]; exact hk
   simp only [Array.getD_eq_getD_getElem?, Array.getElem?_eq_getElem hlt, Option.getD_some] at hc ⊢
   simpa using hc
  rw [hr] at hmem; cases hmem
 intro i hi
 have hf : fullT (passesT (zfZ (modeN md) ops.toList) 4 0) (len ops.toList) = true := h
 rw [zaH] at hf
 have hb := fullT_bit hf i (by simpa using hi)
 have := passesT_sub (S := fun i => listed.getD i false = true) hN 4 0 (fun i hi => (by rw [bit_zero] at hi; cases hi)) i hb
 have hlt : i < listed.size := by rw [hs]; exact hi
 simp only [Array.getD_eq_getD_getElem?, Array.getElem?_eq_getElem hlt, Option.getD_some] at this ⊢
 exact this
end
end Go.Xe
end
section
namespace Go.Xe
noncomputable section
section
variable {P : Program}
theorem zfc {α : Type} {p : α → Bool} {l : List α} : allB p l = true ↔ ∀ x ∈ l, p x = true := by
 induction l with
 | nil => simp [allB]
 | cons x l ih =>
   show ite' (p x) (allB p l) false = true ↔ _
   rw [zaj, Bool.and_eq_true, ih]; simp
theorem dstIs_iff {o : Oper} {t : Nat} : dstIs o t = true ↔ o.dst = some t := by
 unfold dstIs
 cases o.dst with
 | none => simp
 | some d =>
   rw [oE_some, zah]
   exact ⟨fun h => by rw [h], fun h => Option.some.inj h⟩
theorem zdp {j m t : Nat} {strict : Bool} : ∀ {l : List Oper} {i0 : Nat} {ms : List Nat}, zdE j m t strict l i0 ms = true →
  ∀ (k mi : Nat) (o : Oper), l[k]? = some o → ms[k]? = some mi → o.dst = some t → (i0 + k = j ∧ strict = false) ∨ bit m (i0 + k) = true ∨ (strict = false ∧ bit mi j = true)
 | [], i0, ms, h, k, mi, o, ho, _, _ => by simp at ho
 | o' :: l, i0, ms, h, k, mi, o, ho, hm, hd => by
   cases ms with
   | nil => cases h
   | cons mi' ms =>
     have h' : ite' (ite' (dstIs o' t) (ite' (Nat.beq i0 j) (ite' strict false true) (ite' (bit m i0) true (ite' strict false (bit mi' j)))) true) (zdE j m t strict l (i0 + 1) ms) false = true := h
     rw [zaj, Bool.and_eq_true] at h'
     cases k with
     | zero =>
       simp at ho hm
       subst ho hm
       have h1 := h'.1
       rw [dstIs_iff.2 hd, ite'_true] at h1
       rw [Nat.add_zero]
       cases hb : Nat.beq i0 j with
       | true =>
         rw [hb, ite'_true] at h1
         left
         refine ⟨(zah _ _).1 hb, ?_⟩
         cases strict <;> simp at h1 ⊢
       | false =>
         rw [hb, ite'_false] at h1
         right
         cases hc : bit m i0 with
         | true => exact .inl rfl
         | false =>
           rw [hc, ite'_false] at h1
           right
           cases strict
           ·exact ⟨rfl, h1⟩
           ·cases h1
     | succ k =>
       have := zdp (l := l) h'.2 k mi o (by simpa using ho) (by simpa using hm) hd
       rwa [show i0 + 1 + k = i0 + (k + 1) by omega] at this
theorem aloneD_get {j t : Nat} : ∀ {l : List Oper} {i0 : Nat}, aloneD j t l i0 = true → ∀ (k : Nat) (o : Oper), l[k]? = some o → o.dst = some t → i0 + k = j
 | [], i0, h, k, o, ho, _ => by simp at ho
 | o' :: l, i0, h, k, o, ho, hd => by
   have h' : ite' (ite' (dstIs o' t) (Nat.beq i0 j) true) (aloneD j t l (i0 + 1)) false = true := h
   rw [zaj, Bool.and_eq_true] at h'
   cases k with
   | zero =>
     simp at ho
     subst ho
     have h1 := h'.1
     rw [dstIs_iff.2 hd, ite'_true, zah] at h1
     exact h1
   | succ k =>
     have := aloneD_get (l := l) h'.2 k o (by simpa using ho) hd
     omega
structure OpOk (P : Program) (all : List Oper) (ms : List Nat) (j m : Nat) (o : Oper) : Prop where
 kind : zan P o.op = true ∨ loudOk o.op = true
 tmps : ∀ t, Operand.tmp t ∈ zbb o.op → ∀ (i mi : Nat) (oi : Oper), all[i]? = some oi → ms[i]? = some mi → oi.dst = some t → (i = j ∧ zbC o.op = false) ∨ bit m i = true ∨ (zbC o.op = false ∧ bit mi j = true)
 alone : ∀ d, o.dst = some d → ∀ (i : Nat) (oi : Oper), all[i]? = some oi → oi.dst = some d → i = j
 guard : ∀ g, o.guard = some g → bit m g.1 = true ∧ ∃ oi d, all[g.1]? = some oi ∧ oi.dst = some d
theorem operOk_spec {all : List Oper} {ms : List Nat} {j m : Nat} {o : Oper} (h : operOk P all ms j m o = true) : OpOk P all ms j m o := by
 unfold operOk at h
 rw [zaj, Bool.and_eq_true, zaj, Bool.and_eq_true, zaj, Bool.and_eq_true, zcE, Bool.or_eq_true, zfc] at h
 obtain ⟨h1, h2, h3, h4⟩ := h
 refine ⟨h1, fun t ht i mi oi ho hm hd => ?_, fun d hd i oi ho hdi => ?_, fun g hg => ?_⟩
 ·have h5 : zdE j m t (zbC o.op) all 0 ms = true := h2 _ ht
  have := zdp h5 i mi oi ho hm hd
  simpa using this
 ·rw [hd, oE_some] at h3
  have := aloneD_get h3 i oi ho hdi
  omega
 ·rw [hg] at h4
  unfold guardOk at h4
  rw [oE_some, zaj, Bool.and_eq_true] at h4
  refine ⟨h4.1, ?_⟩
  have h5 := h4.2
  rw [za3] at h5
  cases hq : all[g.1]? with
  | none => rw [hq] at h5; cases h5
  | some oi =>
    rw [hq, oE_some] at h5
    unfold zgA at h5
    cases hd : oi.dst with
    | none => rw [hd] at h5; cases h5
    | some d => exact ⟨oi, d, rfl, hd⟩
theorem zeK {all : List Oper} {ms : List Nat} : ∀ {l : List Oper} {j : Nat} {mr : List Nat}, opersOk P all ms l j mr = true → ∀ (k m : Nat) (o : Oper), l[k]? = some o → mr[k]? = some m → OpOk P all ms (j + k) m o
 | [], j, mr, h, k, m, o, ho, _ => by simp at ho
 | o' :: l, j, mr, h, k, m, o, ho, hm => by
   cases mr with
   | nil => cases h
   | cons m' mr =>
     have h' : ite' (operOk P all ms j m' o') (opersOk P all ms l (j + 1) mr) false = true := h
     rw [zaj, Bool.and_eq_true] at h'
     cases k with
     | zero =>
       simp at ho hm
       subst ho hm
       exact operOk_spec h'.1
     | succ k =>
       have := zeK (l := l) h'.2 k m o (by simpa using ho) (by simpa using hm)
       rwa [show j + 1 + k = j + (k + 1) by omega] at this
def Lp (P : Program) (ops : List Oper) (i : Nat) : Bool := match ops[i]? with
 | some o => !zan P o.op
 | none => false
theorem zeo {ops : List Oper} {i : Nat} : Lp P ops i = true ↔ ∃ o, ops[i]? = some o ∧ zan P o.op = false := by
 unfold Lp
 cases ops[i]? with
 | none => simp
 | some o => simp
theorem zfd : ∀ {l : List Oper} {j i : Nat}, i ∈ zcP P l j ↔ j ≤ i ∧ Lp P l (i - j) = true
 | [], j, i => by simp [zcP, Lp]
 | o :: l, j, i => by
   have h1 : zcP P (o :: l) j = ite' (zan P o.op) (zcP P l (j + 1)) (j :: zcP P l (j + 1)) := rfl
   rw [h1, zaB]
   have hsucc : i ∈ zcP P l (j + 1) ↔ j + 1 ≤ i ∧ Lp P l (i - (j + 1)) = true := zfd
   have hL : j + 1 ≤ i → (Lp P (o :: l) (i - j) = Lp P l (i - (j + 1))) := fun h => by
    have : i - j = (i - (j + 1)) + 1 := by omega
    unfold Lp
    rw [this, List.getElem?_cons_succ]
   by_cases hq : zan P o.op = true
   ·rw [if_pos hq, hsucc]
    constructor
    ·rintro ⟨h, h2⟩; exact ⟨by omega, by rw [hL h]; exact h2⟩
    ·rintro ⟨h, h2⟩
     by_cases hij : i = j
     ·subst hij
      rw [Nat.sub_self] at h2
      unfold Lp at h2
      simp [hq] at h2
     ·exact ⟨by omega, by rw [← hL (by omega)]; exact h2⟩
   ·rw [if_neg hq, List.mem_cons, hsucc]
    constructor
    ·rintro (rfl | ⟨h, h2⟩)
     ·refine ⟨Nat.le_refl _, ?_⟩
      rw [Nat.sub_self]
      unfold Lp
      simpa using hq
     ·exact ⟨by omega, by rw [hL h]; exact h2⟩
    ·rintro ⟨h, h2⟩
     by_cases hij : i = j
     ·exact .inl hij
     ·exact .inr ⟨by omega, by rw [← hL (by omega)]; exact h2⟩
theorem zce : ∀ {l : List Oper} {j : Nat}, (zcP P l j).Pairwise (· < ·)
 | [], j => by simp [zcP]
 | o :: l, j => by
   have h1 : zcP P (o :: l) j = ite' (zan P o.op) (zcP P l (j + 1)) (j :: zcP P l (j + 1)) := rfl
   rw [h1, zaB]
   split
   ·exact zce
   ·rw [List.pairwise_cons]
    refine ⟨fun i hi => ?_, zce⟩
    have := (zfd.1 hi).1
    omega
theorem chainL_spec {ms : List Nat} : ∀ {l : List Nat}, zel ms l = true → l.Pairwise fun i j => ∃ m, ms[j]? = some m ∧ bit m i = true
 | [], _ => .nil
 | i :: t, h => by
   have h' : ite' (lE true (fun j _ q => ite' (oE false (fun m => bit m i) (nth ms j)) q false) t) (zel ms t) false = true := h
   rw [zaj, Bool.and_eq_true] at h'
   refine .cons ?_ (chainL_spec h'.2)
   have h1 := h'.1
   clear h h'
   induction t with
   | nil => intro j hj; cases hj
   | cons j t ih =>
     rw [lE_cons, zaj, Bool.and_eq_true] at h1
     intro k hk
     rcases List.mem_cons.1 hk with rfl | hk
     ·have h2 := h1.1
      rw [za3] at h2
      cases hq : ms[k]? with
      | none => rw [hq] at h2; cases h2
      | some m => rw [hq] at h2; exact ⟨m, rfl, h2⟩
     ·exact ih h1.2 k hk
theorem pair_lt {R : Nat → Nat → Prop} : ∀ {l : List Nat}, l.Pairwise (· < ·) → l.Pairwise R → ∀ {i j : Nat}, i ∈ l → j ∈ l → i < j → R i j
 | [], _, _, i, j, hi, _, _ => by cases hi
 | a :: l, hs, hr, i, j, hi, hj, hij => by
   rw [List.pairwise_cons] at hs hr
   rcases List.mem_cons.1 hi with hia | hi
   ·rcases List.mem_cons.1 hj with hja | hj
    ·omega
    ·rw [hia]; exact hr.1 j hj
   ·rcases List.mem_cons.1 hj with hja | hj
    ·have := hs.1 i hi; omega
    ·exact pair_lt hs.2 hr.2 hi hj hij
theorem last2_spec : ∀ {l x : List Nat} {i j : Nat}, last2 l = some (x, i, j) → l = x ++ [i, j]
 | [], x, i, j, h => by cases h
 | [a], x, i, j, h => by cases h
 | a :: b :: l, x, i, j, h => by
   cases hl : last2 (b :: l) with
   | none =>
     have h' : oE (lE none (fun c u _ => grd (zaY u) (some (([], a, c) : List Nat × Nat × Nat))) (b :: l)) (fun x => some (a :: x.1, x.2.1, x.2.2)) (last2 (b :: l)) = some (x, i, j) := h
     rw [hl, oE_none, lE_cons, zaf, zaD] at h'
     obtain ⟨rfl, h'⟩ := h'
     cases h'
     rfl
   | some y =>
     obtain ⟨y, i', j'⟩ := y
     have h' : oE (lE none (fun c u _ => grd (zaY u) (some (([], a, c) : List Nat × Nat × Nat))) (b :: l)) (fun x => some (a :: x.1, x.2.1, x.2.2)) (last2 (b :: l)) = some (x, i, j) := h
     rw [hl, oE_some] at h'
     cases h'
     rw [last2_spec hl]
     rfl
theorem zfe {m : Nat} : ∀ {l : List Oper} {i0 : Nat}, zdF P m l i0 = true → ∀ (k : Nat) (o : Oper), l[k]? = some o → zan P o.op = true → zbC o.op = true → bit m (i0 + k) = true
 | [], i0, h, k, o, ho, _, _ => by simp at ho
 | o' :: l, i0, h, k, o, ho, hq, hr => by
   have h' : ite' (ite' (zan P o'.op) (ite' (zbC o'.op) (bit m i0) true) true) (zdF P m l (i0 + 1)) false = true := h
   rw [zaj, Bool.and_eq_true] at h'
   cases k with
   | zero =>
     simp at ho
     subst ho
     have h1 := h'.1
     rw [hq, ite'_true, hr, ite'_true] at h1
     exact h1
   | succ k =>
     have := zfe (l := l) h'.2 k o (by simpa using ho) hq hr
     rwa [show i0 + 1 + k = i0 + (k + 1) by omega] at this
theorem loudIn_eq {m : Nat} : ∀ {all l : List Oper} {i0 : Nat}, all.drop i0 = l → loudIn P m l i0 = (List.range' i0 l.length).countP fun i => Lp P all i && bit m i
 | all, [], i0, _ => rfl
 | all, o :: l, i0, hd => by
   have ho : all[i0]? = some o := by
    have := congrArg List.head? hd
    rw [List.head?_drop] at this; exact this
   have hd' : all.drop (i0 + 1) = l := by rw [← List.drop_drop, hd]; rfl
   have h1 : loudIn P m (o :: l) i0 = ite' (zan P o.op) 0 (ite' (bit m i0) 1 0) + loudIn P m l (i0 + 1) := rfl
   rw [h1, List.length_cons, List.range'_succ, List.countP_cons, loudIn_eq hd', zaB, zaB]
   have hL : Lp P all i0 = !zan P o.op := by unfold Lp; rw [ho]
   rw [hL]
   cases zan P o.op <;> cases bit m i0 <;> simp <;> omega
theorem loudFree_eq {j : Nat} : ∀ {all l : List Oper} {ms mr : List Nat} {i0 : Nat}, all.drop i0 = l → ms.drop i0 = mr → mr.length = l.length →
  zeX P j l mr = (List.range' i0 l.length).countP fun i => Lp P all i && !((ms[i]?).map (bit · j)).getD false
 | all, [], ms, mr, i0, _, _, _ => rfl
 | all, o :: l, ms, [], i0, _, _, hl => by simp at hl
 | all, o :: l, ms, m :: mr, i0, hd, hdm, hl => by
   have ho : all[i0]? = some o := by
    have := congrArg List.head? hd
    rw [List.head?_drop] at this; exact this
   have hm : ms[i0]? = some m := by
    have := congrArg List.head? hdm
    rw [List.head?_drop] at this; exact this
   have hd' : all.drop (i0 + 1) = l := by rw [← List.drop_drop, hd]; rfl
   have hdm' : ms.drop (i0 + 1) = mr := by rw [← List.drop_drop, hdm]; rfl
   have h1 : zeX P j (o :: l) (m :: mr) = ite' (zan P o.op) 0 (ite' (bit m j) 0 1) + zeX P j l mr := rfl
   rw [h1, List.length_cons, List.range'_succ, List.countP_cons, loudFree_eq hd' hdm' (by simpa using hl), zaB, zaB]
   have hL : Lp P all i0 = !zan P o.op := by unfold Lp; rw [ho]
   rw [hL, hm]
   cases zan P o.op <;> cases hb : bit m j <;> simp [hb] <;> omega
theorem between_get {α : Type} {l r : List α} {lo hi k : Nat} (h : between l lo hi = some r) (h1 : lo ≤ k) (h2 : k ≤ hi) {x : α} (hx : l[k]? = some x) : x ∈ r := by
 unfold between at h
 rw [zab] at h
 obtain ⟨d, hd, h⟩ := h
 rw [drp_eq] at hd
 by_cases hlo : lo ≤ l.length
 ·rw [if_pos hlo] at hd
  cases hd
  rw [tak_eq] at h
  by_cases ht : Nat.sub (Nat.succ hi) lo ≤ (l.drop lo).length
  ·rw [if_pos ht] at h
   cases h
   have hk : k - lo < Nat.sub (Nat.succ hi) lo := by show k - lo < hi + 1 - lo; omega
   refine List.mem_of_getElem? (i := k - lo) ?_
   rw [List.getElem?_take_of_lt hk, List.getElem?_drop, show lo + (k - lo) = k by omega]
   exact hx
  ·rw [if_neg ht] at h; cases h
 ·rw [if_neg hlo] at hd; cases hd
theorem allStay_get {all : List Oper} {ms : List Nat} {fr : Fr} {hs : List AH} : ∀ {l : List Oper} {j : Nat} {mr : List Nat}, allStay P all ms fr hs l j mr = true → ∀ (k m : Nat) (o : Oper), l[k]? = some o → mr[k]? = some m → staysAt P all ms fr hs (j + k) m o = true
 | [], j, mr, h, k, m, o, ho, _ => by simp at ho
 | o' :: l, j, mr, h, k, m, o, ho, hm => by
   cases mr with
   | nil => cases h
   | cons m' mr =>
     have h' : ite' (staysAt P all ms fr hs j m' o') (allStay P all ms fr hs l (j + 1) mr) false = true := h
     rw [zaj, Bool.and_eq_true] at h'
     cases k with
     | zero =>
       simp at ho hm
       subst ho hm
       exact h'.1
     | succ k =>
       have := allStay_get (l := l) h'.2 k m o (by simpa using ho) (by simpa using hm)
       rwa [show j + 1 + k = j + (k + 1) by omega] at this
theorem zff {a b : AV} (h : sameS a b = true) : a = b := by
 cases a
 case func f x y =>
  cases f <;> try (cases h; done)
  cases x <;> try (cases h; done)
  cases y <;> try (cases h; done)
  cases b <;> try (cases h; done)
  rename_i f g x' y'
  cases g <;> try (cases h; done)
  cases x' <;> try (cases h; done)
  cases y' <;> try (cases h; done)
  rename_i g
  have h' : Nat.beq f g = true := h
  rw [zah] at h'
  rw [h']
 case bool x =>
  cases b <;> try (cases h; done)
  rename_i y
  cases x <;> cases y <;> first | rfl | (cases h; done)
 case int k x =>
  cases b <;> try (cases h; done)
  rename_i k' y
  have h' : ite' (zck k k') (zdA x y) false = true := h
  rw [zaj, Bool.and_eq_true, zbY, zcs, beq_iff_eq] at h'
  rw [h'.1, h'.2]
 case num g j lo hi =>
  cases b <;> try (cases h; done)
  rename_i g' j' lo' hi'
  have h' : ite' (Nat.beq g g') (ite' (Nat.beq j j') (ite' (Nat.beq lo lo') (Nat.beq hi hi') false) false) false = true := h
  rw [zaj, Bool.and_eq_true, zaj, Bool.and_eq_true, zaj, Bool.and_eq_true, zah, zah, zah, zah] at h'
  rw [h'.1, h'.2.1, h'.2.2.1, h'.2.2.2]
 case str n c =>
  cases b <;> try (cases h; done)
  rename_i n' c'
  have h' : ite' (Nat.beq n n') (Nat.beq c c') false = true := h
  rw [zaj, Bool.and_eq_true, zah, zah] at h'
  rw [h'.1, h'.2]
 case sstr n c i =>
  cases b <;> try (cases h; done)
  rename_i n' c' i'
  have h' : ite' (Nat.beq n n') (ite' (Nat.beq c c') (Nat.beq i i') false) false = true := h
  rw [zaj, Bool.and_eq_true, zaj, Bool.and_eq_true, zah, zah, zah] at h'
  rw [h'.1, h'.2.1, h'.2.2]
 case ptr n c =>
  cases b <;> try (cases h; done)
  rename_i n' c'
  have h' : ite' (Nat.beq n n') (Nat.beq c c') false = true := h
  rw [zaj, Bool.and_eq_true, zah, zah] at h'
  rw [h'.1, h'.2]
 case sl n c l z =>
  cases b <;> try (cases h; done)
  rename_i n' c' l' z'
  have h' : ite' (Nat.beq n n') (ite' (Nat.beq c c') (ite' (Nat.beq l l') (Nat.beq z z') false) false) false = true := h
  rw [zaj, Bool.and_eq_true, zaj, Bool.and_eq_true, zaj, Bool.and_eq_true, zah, zah, zah, zah] at h'
  rw [h'.1, h'.2.1, h'.2.2.1, h'.2.2.2]
 all_goals cases b <;> first | rfl | (cases h; done) | skip
 all_goals
  rename_i x y
  have h' : Nat.beq x y = true := h
  rw [zah] at h'
  rw [h']
theorem zgn {xs ys : List AV} (h : sameL xs ys = true) : xs = ys := by
 induction xs generalizing ys with
 | nil => exact ((zaD ys).1 h).symm
 | cons x xs ih =>
   cases ys with
   | nil => cases h
   | cons y ys =>
     have h' : ite' (sameS x y) (sameL xs ys) false = true := h
     rw [zaj, Bool.and_eq_true] at h'
     rw [zff h'.1, ih h'.2]
theorem sameAV_eq {a b : AV} (h : sameAV a b = true) : a = b := by
 cases a <;> try (exact zff h)
 case agg x =>
  cases b <;> try (cases h; done)
  rw [zgn h]
 case tup x =>
  cases b <;> try (cases h; done)
  rw [zgn h]
end
end
end Go.Xe
end
