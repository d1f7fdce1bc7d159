/-
  Maps: entries held, and what goes; delete and len; What is appended or copied; copy; pick, nilCheck, unsafe.SliceData; append; append; append: the wal. Conditions: none.
-/
import Derived.Test.YtfkeeieoapimlaaGreatDoorXnToXs
import Derived.Lib.UnsafeStr
import Derived.Lib.Bytealg
set_option linter.unusedVariables false
set_option linter.unusedSimpArgs false
set_option linter.unusedSectionVars false
section
namespace Go.Xe
noncomputable section
section
variable {P : Program} {e : Env} {w : World}
theorem set_same {α : Type} {a : Array α} {i : Nat} {x : α} (h : a[i]? = some x) : a.setIfInBounds i x = a := by
 apply Array.ext
 ·simp
 ·intro j h1 h2
  rw [Array.getElem_setIfInBounds]
  split
  ·next hij => subst hij; rw [Array.getElem?_eq_getElem h2] at h; exact (Option.some.inj h).symm
  ·rfl
theorem mapEntry_sound {h : AH} (s : Sat e h w.heap) {t : TypeId} {m k v : AV} {um uk : Value} {h' : AH} (hm : VR e m um) (hk : VR e k uk) (hu : zgx P t m k h = some (v, h')) :
  Runs P (Instr.mapEntry t um uk) w fun u' w' => Out e h w v h' u' w' := by
 unfold zgx at hu
 rw [zdI] at hu
 obtain ⟨b, rfl, hu⟩ := hu
 rw [zab] at hu
 obtain ⟨el, hel, hu⟩ := hu
 rw [zab] at hu
 obtain ⟨es, hes, hu⟩ := hu
 rw [zab] at hu
 obtain ⟨r, hr, hu⟩ := hu
 obtain ⟨key, kd, hd, hkd, hsd, hko⟩ := mapK_eq hel
 obtain ⟨hf, _⟩ := fit_of hsd hko hk
 obtain ⟨L, hL, rfl⟩ := zeZ hm
 obtain ⟨hg, ents, hH, hR⟩ := s.mapAt hes hL
 unfold Instr.mapEntry
 refine Runs.run_eq (zai hd) ?_
 simp only []
 refine Runs.bind' ⟨_, w, zbs hH, ?_⟩
 simp only []
 refine Runs.bind' ⟨(), w, zca hkd hf, ?_⟩
 rcases findKey_eq hr with ⟨m', pre, post, rfl, hes1, hq⟩ | ⟨rfl, hn⟩
 ·have hu' : some (AV.tup [m'.v, .stp m'.s], h) = some (v, h') := hu
  cases hu'
  obtain ⟨a, b', A, x, B, hp, hLs, h1, h2, h3, hkx, hfn⟩ := ze4 s hsd hko hk hR hes1 hq
  refine Runs.bind' ⟨_, w, zbn hkd hfn, ?_⟩
  simp only []
  have hold : ((ents[A.length]?).map (·.key)).getD uk = uk := by rw [get_at hLs]; exact hkx
  have hborn : ((ents[A.length]?).map fun x => (x.born : Int)).getD 0 = (x.born : Int) := by rw [get_at hLs]; rfl
  rw [hold, hborn]
  refine Runs.bind' ⟨_, w, zf2 hf, ?_⟩
  have hsame : (ents.modify A.length fun e => { e with key := uk }) = ents := by
   apply Array.ext'
   rw [modify_at hLs, hLs, ← hkx]
  simp only []
  rw [hsame]
  refine Runs.bind' ⟨_, _, zbZ hH _, ?_⟩
  have hw : ({ w with heap := w.heap.setIfInBounds L.blk (.map ents es.2) } : World) = w := by rw [set_same hH]
  simp only []
  rw [hw]
  exact Runs.pure' (.same s (.tup _ _ (.cons _ _ _ _ h2.v (.cons _ _ _ _ (.stp _ _ h2.s) .nil))))
 ·have hu' : bnd (zdy P el) (fun z => h.skip fun s h => bnd (zgw h k z s es.1) fun es1 => some (AV.tup [z, .stp s], h.set b (.map es1 (ckOf es es1)))) = some (v, h') := hu
  rw [zab] at hu'
  obtain ⟨z, hz, hu'⟩ := hu'
  rw [AH.skip_eq, zab] at hu'
  obtain ⟨es', hp, hu'⟩ := hu'
  cases hu'
  obtain ⟨uz, hrz, hzr⟩ := zdm (P := P) (w := w) (e := e) hz
  obtain ⟨hfn, _⟩ := look_none s hsd hko hk hR hn
  refine Runs.bind' ⟨_, w, zbn hkd hfn, ?_⟩
  simp only []
  refine Runs.bind' ⟨_, w, hrz, ?_⟩
  rcases put_step s hsd hko hk hzr hL hg hR hp with ⟨A, x, B, hLs, hkx, hfn', hput⟩ | ⟨_, hs', hst⟩
  ·rw [hfn] at hfn'; cases hfn'
  ·refine Runs.bind' ⟨_, _, zbZ hH _, ?_⟩
   refine Runs.pure' ⟨_, hs', ?_, hst⟩
   exact .tup _ _ (.cons _ _ _ _ (hzr.mono hst.le) (.cons _ _ _ _ (.stp _ _ (if_pos rfl)) .nil))
theorem putStamp_eq {v : AV} {st : Nat} {es es' : List ME} (hp : putStamp v st es = some es') : ∃ pre m post, es = pre ++ m :: post ∧ m.s = st ∧ es' = pre ++ ⟨m.k, v, m.s⟩ :: post := by
 induction es generalizing es' with
 | nil => cases hp
 | cons m es ih =>
   have hp' : ite' (Nat.beq st m.s) (some (⟨m.k, v, m.s⟩ :: es)) (bnd (putStamp v st es) fun t => some (m :: t)) = some es' := hp
   rw [zav] at hp'
   rcases hp' with ⟨hq, hp'⟩ | ⟨_, hp'⟩
   ·cases hp'
    rw [zah] at hq
    exact ⟨[], m, es, rfl, hq.symm, rfl⟩
   ·rw [zab] at hp'
    obtain ⟨t, ht, hp'⟩ := hp'
    cases hp'
    obtain ⟨pre, m', post, rfl, h1, rfl⟩ := ih ht
    exact ⟨m :: pre, m', post, rfl, h1, rfl⟩
theorem findIdx_at {A B : List MapEntry} {x : MapEntry} {ents : Array MapEntry} (h : ents.toList = A ++ x :: B) (p : MapEntry → Bool) (hA : ∀ y ∈ A, p y = false) (hx : p x = true) : ents.findIdx? p = some A.length := by
 have hc : ents.findIdx? p = ents.toList.findIdx? p := by
  obtain ⟨l⟩ := ents
  simp
 rw [hc, h]
 clear h hc
 induction A with
 | nil => rw [List.nil_append, List.findIdx?_cons, hx]; rfl
 | cons a A ih =>
   rw [List.cons_append, List.findIdx?_cons, hA a List.mem_cons_self, ih (fun y hy => hA y (List.mem_cons_of_mem _ hy))]
   simp
theorem zgh {h : AH} (s : Sat e h w.heap) {t : TypeId} {m k v : AV} {um uk uv : Value} {h' : AH} (hm : VR e m um) (hk : VR e k uk) (hv : VR e v uv) (hu : zes m k v h = some h') :
  Runs P (Instr.entryStore t um uk uv) w fun _ w' => OutH e h w h' w' := by
 unfold zes at hu
 rw [zdI] at hu
 obtain ⟨b, rfl, hu⟩ := hu
 rw [stpV_eq] at hu
 obtain ⟨st, rfl, hu⟩ := hu
 rw [zab] at hu
 obtain ⟨es, hes, hu⟩ := hu
 rw [zab] at hu
 obtain ⟨es', hp, hu⟩ := hu
 cases hu
 obtain ⟨L, hL, rfl⟩ := zeZ hm
 obtain ⟨hg, ents, hH, hR⟩ := s.mapAt hes hL
 cases hk with
 | stp _ n hn =>
   obtain ⟨pre, m', post, hes1, hms, rfl⟩ := putStamp_eq hp
   obtain ⟨p, hperm, hr⟩ := hR.perm
   have hmp : m' ∈ p := hperm.mem_iff.2 (hes1 ▸ List.mem_append_right _ List.mem_cons_self)
   obtain ⟨a, b', rfl⟩ := List.append_of_mem hmp
   obtain ⟨A, x, B, hLs, h1, h2, h3⟩ := hr.split rfl
   have hxb : x.born = n := by
    have := h2.s
    rw [hms, hn] at this
    exact (Option.some.inj this).symm
   have hA : ∀ y ∈ A, y.born ≠ n := fun y hy => by
    have := hR.stamps
    rw [hLs, List.pairwise_append] at this
    have := this.2.2 y hy x List.mem_cons_self
    rw [hxb] at this; exact this
   have hidx : ents.findIdx? (fun e => (e.born : Int) == (n : Int)) = some A.length :=
    findIdx_at hLs _ (fun y hy => by rw [beq_eq_false_iff_ne]; intro hh; exact hA y hy (by exact_mod_cast hh)) (by rw [hxb]; simp)
   have hR' : MapR e (pre ++ ⟨m'.k, v, m'.s⟩ :: post) (ents.modify A.length fun e => { e with val := uv }) es.2 :=
    hR.change hes1 hperm hLs (modify_at hLs _) h1 ⟨h2.k, hv, h2.s⟩ h3 rfl rfl
   refine ⟨(), _, ?_, e, s.setObj hg hL (s.alone hg hL rfl) (.map _ _ _ _ hR') (fun c hc => by cases hc) (fun h => by cases h), Step.setObj (w := w) s _ hg hL⟩
   unfold Instr.entryStore
   show Sem.run P (getObj L.blk >>= _) w = _
   rw [zac, zbs hH]
   show Sem.run P (match ents.findIdx? (fun e => (e.born : Int) == (n : Int)) with | some i => _ | none => _) w = _
   rw [hidx]
   exact zbZ hH _
end
end
end Go.Xe
end
section
namespace Go.Xe
noncomputable section
section
variable {P : Program} {e : Env} {w : World}
theorem delKey_eq {h : AH} {k : AV} {es es' : List ME} (hp : delKey h k es = some es') :
  (∃ pre m post, es = pre ++ m :: post ∧ zas h k m.k = some true ∧ es' = pre ++ post) ∨ ((∀ m ∈ es, zas h k m.k = some false) ∧ es' = es) := by
 induction es generalizing es' with
 | nil => cases hp; exact .inr ⟨fun m hm => (by cases hm), rfl⟩
 | cons m es ih =>
   have hp' : bnd (zas h k m.k) (fun q => ite' q (some es) (bnd (delKey h k es) fun t => some (m :: t))) = some es' := hp
   rw [zab] at hp'
   obtain ⟨q, hq, hp'⟩ := hp'
   cases q with
   | true => cases hp'; exact .inl ⟨[], m, es, rfl, hq, rfl⟩
   | false =>
     have hp2 : bnd (delKey h k es) (fun t => some (m :: t)) = some es' := hp'
     rw [zab] at hp2
     obtain ⟨t, ht, hp2⟩ := hp2
     cases hp2
     rcases ih ht with ⟨pre, m', post, rfl, he, rfl⟩ | ⟨ha, rfl⟩
     ·exact .inl ⟨m :: pre, m', post, rfl, he, rfl⟩
     ·refine .inr ⟨fun x hx => ?_, rfl⟩
      rcases List.mem_cons.1 hx with rfl | hx
      ·exact hq
      ·exact ha x hx
theorem zf4 {R : MapEntry → MapEntry → Prop} {A B : List MapEntry} {x : MapEntry} (h : (A ++ x :: B).Pairwise R) : (A ++ B).Pairwise R := by
 rw [List.pairwise_append, List.pairwise_cons] at h
 rw [List.pairwise_append]
 exact ⟨h.1, h.2.1.2, fun y hy z hz => h.2.2 y hy z (List.mem_cons_of_mem _ hz)⟩
theorem MapR.out {es pre post a b : List ME} {m : ME} {A B : List MapEntry} {x : MapEntry} {ents ents' : Array MapEntry} {clock : Nat} (h : MapR e es ents clock)
  (he : es = pre ++ m :: post) (hp : (a ++ m :: b).Perm es) (hL : ents.toList = A ++ x :: B) (hL' : ents'.toList = A ++ B) (h1 : MERs e a A) (h3 : MERs e b B) : MapR e (pre ++ post) ents' clock := by
 refine ⟨⟨a ++ b, ?_, ?_⟩, ?_, ?_, ?_⟩
 ·have h4 : (m :: (a ++ b)).Perm (m :: (pre ++ post)) := (List.perm_middle.symm.trans (he ▸ hp)).trans List.perm_middle
  exact (List.perm_cons m).1 h4
 ·rw [hL']; exact h1.append h3
 ·intro y hy
  rw [hL'] at hy
  apply h.born
  rw [hL]
  rcases List.mem_append.1 hy with hy | hy
  ·exact List.mem_append_left _ hy
  ·exact List.mem_append_right _ (List.mem_cons_of_mem _ hy)
 ·have hs := h.stamps
  rw [hL] at hs
  rw [hL']; exact zf4 hs
 ·have hs := h.keys
  rw [hL] at hs
  rw [hL']; exact zf4 hs
theorem erase_at {A B : List MapEntry} {x : MapEntry} {ents : Array MapEntry} (h : ents.toList = A ++ x :: B) : (ents.eraseIdxIfInBounds A.length).toList = A ++ B := by
 have hlt : A.length < ents.size := by
  have := congrArg List.length h
  simp at this; omega
 unfold Array.eraseIdxIfInBounds
 rw [dif_pos hlt, Array.toList_eraseIdx, h]
 clear h hlt
 induction A with
 | nil => rfl
 | cons a A ih => rw [List.cons_append, List.length_cons, List.eraseIdx_cons_succ, ih]; rfl
theorem mapDel_sound {h : AH} (s : Sat e h w.heap) {t ty : TypeId} {ts : Array TypeId} {m k : AV} {um uk : Value} {h' : AH} (ht : ts[0]? = some t) (hm : VR e m um) (hk : VR e k uk) (hu : mapDel P t m k h = some h') :
  Runs P (Builtin.delete_ ts ty #[um, uk]) w fun u' w' => Out e h w (.tup []) h' u' w' := by
 unfold mapDel at hu
 rw [zab] at hu
 obtain ⟨el, hel, hu⟩ := hu
 obtain ⟨key, kd, hd, hkd, hsd, hko⟩ := mapK_eq hel
 obtain ⟨hf, _⟩ := fit_of hsd hko hk
 have hbeg : ∀ {Q : Value → World → Prop}, Runs P (do
   match um with
   | .map none => Instr.checkKey true 10000 key uk
   | .map (some r) =>
     let .map es clock ← getObj r | stuck "delete: map expected"
     Instr.checkKey es.isEmpty 10000 key uk
     match ← Instr.findKey key uk es.toList with
     | some (i, _) => setObj r (.map (es.eraseIdxIfInBounds i) clock)
     | none => setObj r (.map es clock)
   | _ => stuck "delete: map expected"
   pure (.tuple #[])) w Q → Runs P (Builtin.delete_ ts ty #[um, uk]) w Q := fun {Q} hr => by
  refine Runs.run_eq ?_ hr
  unfold Builtin.delete_
  rw [ht]
  show Sem.run P (underlying t >>= _) w = _
  rw [zai hd]
  rfl
 cases m <;> try (simp at hu; done)
 case map b =>
  have hu' : bnd (h.map b) (fun p => bnd (delKey h k p.1) fun es => some (h.set b (.map es p.2))) = some h' := hu
  rw [zab] at hu'
  obtain ⟨es, hes, hu'⟩ := hu'
  rw [zab] at hu'
  obtain ⟨es', hp, hu'⟩ := hu'
  cases hu'
  obtain ⟨L, hL, rfl⟩ := zeZ hm
  obtain ⟨hg, ents, hH, hR⟩ := s.mapAt hes hL
  refine hbeg ?_
  simp only []
  refine Runs.bind' ⟨_, w, zbs hH, ?_⟩
  simp only []
  refine Runs.bind' ⟨(), w, zca hkd hf, ?_⟩
  rcases delKey_eq hp with ⟨pre, m', post, hes1, hq, rfl⟩ | ⟨hn, rfl⟩
  ·obtain ⟨a, b', A, x, B, hperm, hLs, h1, h2, h3, hkx, hfn⟩ := ze4 s hsd hko hk hR hes1 hq
   refine Runs.bind' ⟨_, w, zbn hkd hfn, ?_⟩
   simp only []
   refine Runs.bind' ⟨_, _, zbZ hH _, ?_⟩
   have hR' := hR.out hes1 hperm hLs (erase_at hLs) h1 h3
   exact Runs.pure' ⟨e, s.setObj hg hL (s.alone hg hL rfl) (.map _ _ _ _ hR') (fun c hc => by cases hc) (fun h => by cases h), .tup _ _ .nil, Step.setObj (w := w) s _ hg hL⟩
  ·obtain ⟨hfn, _⟩ := look_none s hsd hko hk hR hn
   refine Runs.bind' ⟨_, w, zbn hkd hfn, ?_⟩
   simp only []
   refine Runs.bind' ⟨_, _, zbZ hH _, ?_⟩
   exact Runs.pure' ⟨e, s.setObj hg hL (s.alone hg hL rfl) (.map _ _ _ _ hR) (fun c hc => by cases hc) (fun h => by cases h), .tup _ _ .nil, Step.setObj (w := w) s _ hg hL⟩
 case mnil =>
  cases hm
  have hu' : some h = some h' := hu
  cases hu'
  refine hbeg ?_
  simp only []
  refine Runs.bind' ⟨(), w, zca hkd hf, ?_⟩
  exact Runs.pure' (.same s (.tup _ _ .nil))
theorem MERs.length {p : List ME} {L : List MapEntry} (h : MERs e p L) : p.length = L.length := by
 induction h with
 | nil => rfl
 | cons _ _ _ _ _ _ ih => exact congrArg Nat.succ ih
theorem len_run {h : AH} (s : Sat e h w.heap) {t ty : TypeId} {ts : Array TypeId} {d : TypeDesc} {x : AV} {ux : Value} {n : Nat} (ht : ts[0]? = some t) (hd : P.underlying t = some d) (hx : VR e x ux) (hv : lenD x h d = some n) :
  (Builtin.len_ ts ty #[ux]).run P w = .ok (goInt n) w := by
 unfold Builtin.len_
 rw [ht]
 show Sem.run P (underlying t >>= _) w = _
 rw [zai hd]
 cases d <;> try (simp [lenD] at hv; done)
 case string =>
  have hv' : strV x (fun n _ => some n) = some n := hv
  rw [zex] at hv'
  obtain ⟨m, c, rfl, hv'⟩ := hv'
  cases hv'
  cases zbm hx
  show Result.ok (goInt (zae n c).size) w = _
  rw [zaI]
 case array m el =>
  have hv' : some m = some n := hv
  cases hv'
  rfl
 case slice el =>
  cases x <;> try (simp [lenD] at hv; done)
  case sl b o l z =>
   have hv' : some l = some n := hv
   cases hv'
   cases hx
   rfl
  case sle =>
   have hv' : some 0 = some n := hv
   cases hv'
   cases hx
   rfl
  case snil =>
   have hv' : some 0 = some n := hv
   cases hv'
   cases hx
   rfl
 case map key el =>
  have hv' : bnd (zdB x h) (fun es => some (len es)) = some n := hv
  rw [zab] at hv'
  obtain ⟨es, hes, hv'⟩ := hv'
  cases hv'
  rw [zaH]
  cases x <;> try (simp [zdB] at hes; done)
  case map b =>
   obtain ⟨L, hL, rfl⟩ := zeZ hx
   have hes' : bnd (h.map b) (fun p => some p.1) = some es := hes
   rw [zab] at hes'
   obtain ⟨q, hq, hes'⟩ := hes'
   cases hes'
   obtain ⟨hg, ents, hH, hR⟩ := s.mapAt hq hL
   obtain ⟨p, hp, hr⟩ := hR.perm
   have hlen : ents.size = q.1.length := by
    have := hr.length
    rw [hp.length_eq] at this
    simpa using this.symm
   show Sem.run P (getObj L.blk >>= _) w = _
   rw [zac, zbs hH]
   show Result.ok (goInt ents.size) w = _
   rw [hlen]
  case mnil =>
   cases hx
   cases hes
   rfl
theorem len_sound {h : AH} (s : Sat e h w.heap) {t ty : TypeId} {ts : Array TypeId} {d : TypeDesc} {x : AV} {ux : Value} {n : Nat} (ht : ts[0]? = some t) (hd : P.underlying t = some d) (hx : VR e x ux) (hv : lenD x h d = some n) :
  Runs P (Builtin.len_ ts ty #[ux]) w fun u' w' => Out e h w (zde n) h u' w' := by
 have hn : zde n = .int .i64 (n : Int) := by unfold zde; rw [zaG]; rfl
 rw [hn]
 exact ⟨_, w, len_run s ht hd hx hv, .same s (.int _ _)⟩
theorem minmax_eq {mx : Bool} {y : AV} {l : List AV} {x v : AV} (h : zek mx (y :: l) x = some v) : ∃ k a k' b, x = .int k a ∧ y = .int k' b ∧ zek mx l (.int k (if (if mx then a < b else b < a) then b else a)) = some v := by
 cases x <;> try (simp [zek] at h; done)
 rename_i k a
 have h' : intV y (fun b => zek mx l (zbT k (ite' (ite' mx (ltInt a b) (ltInt b a)) b a))) = some v := h
 rw [zfG] at h'
 obtain ⟨k', b, rfl, h'⟩ := h'
 rw [zaZ] at h'
 refine ⟨k, a, k', b, rfl, rfl, ?_⟩
 rw [zaB, zaB, zc9, zc9] at h'
 cases mx <;> simpa using h'
theorem min_sound {l : List AV} {x v : AV} {u : Value} {us : List Value} (hx : VR e x u) (hl : VRs e l us) (h : zek false l x = some v) : ∃ u', (us.foldlM Builtin.min2 u).run P w = .ok u' w ∧ VR e v u' := by
 induction l generalizing x u us with
 | nil => cases hl; cases h; exact ⟨u, rfl, hx⟩
 | cons y l ih =>
   cases hl with
   | cons _ uy _ us hy hl =>
     obtain ⟨k, a, k', b, rfl, rfl, h'⟩ := minmax_eq h
     cases vr_int hx
     cases vr_int hy
     have : (if (if false = true then a < b else b < a) then b else a) = (if b < a then b else a) := by simp
     rw [this] at h'
     obtain ⟨u', hr, hv⟩ := ih (.int _ _) hl h'
     exact ⟨u', hr, hv⟩
theorem max_sound {l : List AV} {x v : AV} {u : Value} {us : List Value} (hx : VR e x u) (hl : VRs e l us) (h : zek true l x = some v) : ∃ u', (us.foldlM Builtin.max2 u).run P w = .ok u' w ∧ VR e v u' := by
 induction l generalizing x u us with
 | nil => cases hl; cases h; exact ⟨u, rfl, hx⟩
 | cons y l ih =>
   cases hl with
   | cons _ uy _ us hy hl =>
     obtain ⟨k, a, k', b, rfl, rfl, h'⟩ := minmax_eq h
     cases vr_int hx
     cases vr_int hy
     have : (if (if true = true then a < b else b < a) then b else a) = (if b > a then b else a) := by simp
     rw [this] at h'
     obtain ⟨u', hr, hv⟩ := ih (.int _ _) hl h'
     exact ⟨u', hr, hv⟩
end
end
end Go.Xe
end
section
namespace Go.Xe
noncomputable section
section
variable {P : Program} {e : Env} {w : World}
theorem src_sound {h : AH} (s : Sat e h w.heap) {z n : Nat} {x : AV} {cs : List AV} {u : Value} (hx : VR e x u) (hs : zd3 z x h = some (n, cs)) :
  (Builtin.lenOf u).run P w = .ok n w ∧ cs.length = n * z ∧ ∀ m, m ≤ n → ∃ us : Array Value, (Builtin.firstCells z m u).run P w = .ok us w ∧ VRs e (cs.take (m * z)) us.toList := by
 cases x <;> try (simp [zd3] at hs; done)
 case str k c =>
  have hs' : grd (Nat.beq z 1) (some (k, zbK k c)) = some (n, cs) := hs
  rw [zaf, zah] at hs'
  obtain ⟨rfl, hs'⟩ := hs'
  cases hs'
  cases zbm hx
  refine ⟨?_, by rw [zdN]; omega, fun m hm => ⟨((zae n c).extract 0 m).data.map fun b => Value.int .u8 b.toNat, rfl, ?_⟩⟩
  ·show Result.ok (zae n c).size w = _
   rw [zaI]
  ·rw [Nat.mul_one]
   have h1 := (zf1 e n c).take m
   rw [← List.map_take, listOf_take n c m hm] at h1
   rw [zdM n c 0 m (Nat.zero_le _) hm]
   have : (zae (m - 0) (c / 256 ^ 0 % 256 ^ (m - 0))).data = (zay m c).toArray := by
    show (zay (m - 0) (c / 256 ^ 0 % 256 ^ (m - 0))).toArray = _
    rw [Nat.sub_zero, Nat.pow_zero, Nat.div_one, zea]
   rw [this]
   simpa using h1
 case sl b o l z' =>
  have hs' : grd (Nat.beq z z') (bnd (zba h b o (Nat.mul l z)) fun cs => some (l, cs)) = some (n, cs) := hs
  rw [zaf, zah, zab] at hs'
  obtain ⟨rfl, cs', hr, hs'⟩ := hs'
  cases hs'
  obtain ⟨L, c, hL, h0, hext, hlc, rfl⟩ := vr_sl hx
  have hr' := hr
  unfold zba at hr'
  rw [zab] at hr'
  obtain ⟨row, hrow, hcut⟩ := hr'
  rw [cut_eq] at hcut
  by_cases hlen : o + Nat.mul n z ≤ row.length
  ·rw [if_pos hlen] at hcut
   cases hcut
   have hlen' : o + n * z ≤ row.length := hlen
   refine ⟨rfl, ?_, fun m hm => ?_⟩
   ·simp only [List.length_take, List.length_drop]
    show min (n * z) (row.length - o) = n * z
    omega
   ·have hmz : m * z ≤ n * z := Nat.mul_le_mul_right z hm
    have hread : zba h b o (m * z) = some ((row.drop o).take (m * z)) := by
     unfold zba
     rw [hrow]
     show cut row o (m * z) = _
     rw [cut_eq, if_pos (by omega)]
    obtain ⟨us, hus, hvr⟩ := zbl (P := P) s hL hread
    refine ⟨us, hus, ?_⟩
    rw [List.take_take]
    have : min (m * z) (Nat.mul n z) = m * z := Nat.min_eq_left hmz
    rw [this]; exact hvr
  ·rw [if_neg hlen] at hcut; cases hcut
 case sle =>
  have hs' : some (0, ([] : List AV)) = some (n, cs) := hs
  cases hs'
  cases hx with
  | sle a c =>
    refine ⟨rfl, by simp, fun m hm => ?_⟩
    obtain rfl : m = 0 := by omega
    refine ⟨#[], ?_, by simp; exact .nil⟩
    show (loadCells a (0 * z)).run P w = _
    rw [Nat.zero_mul]; rfl
 case snil =>
  have hs' : some (0, ([] : List AV)) = some (n, cs) := hs
  cases hs'
  cases hx
  exact ⟨rfl, by simp, fun m hm => ⟨#[], rfl, by simp; exact .nil⟩⟩
theorem copy_sound {h : AH} (s : Sat e h w.heap) {t ty : TypeId} {ts : Array TypeId} {d x v : AV} {ud ux : Value} {h' : AH} (ht : ts[0]? = some t) (hd : VR e d ud) (hx : VR e x ux) (hu : copyA P t d x h = some (v, h')) :
  Runs P (Builtin.copy_ ts ty #[ud, ux]) w fun u' w' => Out e h w v h' u' w' := by
 unfold copyA at hu
 rw [zab] at hu
 obtain ⟨⟨el, z⟩, hel, hu⟩ := hu
 rw [zab] at hu
 obtain ⟨⟨n, cs⟩, hs, hu⟩ := hu
 obtain ⟨htd, hsz, hz0⟩ := zed hel
 obtain ⟨hlen, hcl, hfirst⟩ := src_sound (P := P) s hx hs
 simp only at hu
 have hbeg : ∀ {Q : Value → World → Prop} {base : Option Addr} {dl dc : Nat}, ud = .slice base dl dc → Runs P (do
   let cells ← Builtin.firstCells z (Nat.min n dl) ux
   if let some a := base then storeCells a cells.toList
   pure (goInt (Nat.min n dl : Nat))) w Q → Runs P (Builtin.copy_ ts ty #[ud, ux]) w Q := fun {Q base dl dc} hud hr => by
  refine Runs.run_eq ?_ hr
  subst hud
  unfold Builtin.copy_
  rw [ht]
  show Sem.run P (underlying t >>= _) w = _
  rw [zai htd]
  show Sem.run P (Builtin.lenOf ux >>= _) w = _
  rw [zac, hlen]
  show Sem.run P (sizeOf el >>= _) w = _
  rw [zac, zbh hsz]
  rfl
 cases d <;> try (simp at hu; done)
 case sl b o l z' =>
  have hu' : grd (Nat.beq z' z) (bnd (tak cs (Nat.mul (Nat.min n l) z')) fun cs => bnd (za2 h b o cs) fun h => some (zde (Nat.min n l), h)) = some (v, h') := hu
  rw [zaf, zah, zab] at hu'
  obtain ⟨rfl, cs', htk, hu'⟩ := hu'
  rw [zab] at hu'
  obtain ⟨h2, hw, hu'⟩ := hu'
  cases hu'
  obtain ⟨L, c, hL, _, _, _, rfl⟩ := vr_sl hd
  refine hbeg rfl ?_
  obtain ⟨us, hus, hvr⟩ := hfirst (Nat.min n l) (Nat.min_le_left _ _)
  have htk' : cs' = cs.take (Nat.min n l * z') := by
   rw [tak_eq] at htk
   split at htk
   ·exact (Option.some.inj htk).symm
   ·cases htk
  rw [← htk'] at hvr
  refine Runs.bind' ⟨us, w, hus, ?_⟩
  obtain ⟨w', hst, hs', hstep⟩ := zcf (P := P) s hL hvr hw
  simp only []
  refine Runs.bind' ⟨(), w', hst, ?_⟩
  rw [zd9]
  exact Runs.pure' ⟨e, hs', .int _ _, hstep⟩
 case sle =>
  have hu' : some (zde 0, h) = some (v, h') := hu
  cases hu'
  cases hd with
  | sle a c =>
    refine hbeg rfl ?_
    obtain ⟨us, hus, hvr⟩ := hfirst (Nat.min n 0) (Nat.min_le_left _ _)
    refine Runs.bind' ⟨us, w, hus, ?_⟩
    have hm : Nat.min n 0 = 0 := Nat.min_zero n
    rw [hm, Nat.zero_mul] at hvr
    have : us.toList = [] := by
     have h0 := hvr.length
     simp at h0
     exact List.eq_nil_of_length_eq_zero (by rw [Array.length_toList]; exact h0.symm)
    simp only [this]
    rw [hm]
    refine Runs.bind' ⟨(), w, rfl, ?_⟩
    rw [zd9]
    exact Runs.pure' (.same s (.int _ _))
 case snil =>
  have hu' : some (zde 0, h) = some (v, h') := hu
  cases hu'
  cases hd
  refine hbeg rfl ?_
  obtain ⟨us, hus, hvr⟩ := hfirst (Nat.min n 0) (Nat.min_le_left _ _)
  refine Runs.bind' ⟨us, w, hus, ?_⟩
  have hm : Nat.min n 0 = 0 := Nat.min_zero n
  rw [hm]
  simp only []
  rw [zd9]
  exact Runs.pure' (.same s (.int _ _))
end
end
end Go.Xe
end
section
namespace Go.Xe
noncomputable section
section
variable {P : Program} {e : Env} {w : World}
theorem pick_sound {c a b v : AV} {uc ua ub : Value} (hc : VR e c uc) (ha : VR e a ua) (hb : VR e b ub) (hv : pickA c a b = some v) :
  Runs P (do pure (Next.value (if ← asBool uc then ua else ub)) : Sem Next) w fun n w' => ∃ u, n = .value u ∧ VR e v u ∧ w' = w := by
 cases c <;> try (simp [pickA] at hv; done)
 case bool q =>
  cases vr_bool hc
  have hv' : some (ite' q a b) = some v := hv
  cases hv'
  rw [zaB]
  refine ⟨.value (if q then ua else ub), w, rfl, _, rfl, ?_, rfl⟩
  cases q with
  | true => exact ha
  | false => exact hb
def nilCheckS (u : Value) : Sem Next := match u with
 | .pointer none | .nilIface | .nilFunc => runtimePanic .nilDeref
 | .func (.method name) first captured =>
   match (first[0]? : Option Value) with
   | some .nilIface => runtimePanic .nilDeref
   | some (.iface t w) => do
     if (← nilAhead ((← program).types.size + Made.depth) t w name) != some false then
      unsupported (.noEntry "op/nilCheck.the method's receiver behind this interface value is a nil pointer, or cannot be seen to be none, and the arguments act or may panic (ledger 612)")
     pure (.value (.func (.method name) first captured))
   | _ => pure (.value (.func (.method name) first captured))
 | x => pure (.value x)
theorem zem {a v : AV} {u : Value} (ha : VR e a u) (hv : zeU a = some v) :
  Runs P (nilCheckS u) w fun n w' => n = .value u ∧ VR e v u ∧ w' = w := by
 cases ha <;> try (simp [zeU] at hv; done)
 case func f f' x y x' y' hf hx hy =>
  have hm : (∀ name, f ≠ .method name) ∧ v = .func f x y := by
   cases f <;> first | (exact ⟨(fun _ h => by cases h), (Option.some.inj hv).symm⟩) | (simp [zeU] at hv)
  obtain ⟨hm, rfl⟩ := hm
  have hm' : ∀ name, f' ≠ .method name := fun name h => by
   cases hf with
   | same => exact hm name h
   | yield => cases h
  refine ⟨.value (.func f' x' y'), w, ?_, rfl, .func _ _ _ _ _ _ hf hx hy, rfl⟩
  cases f' <;> first | rfl | (exact absurd rfl (hm' _))
 all_goals
  cases hv
  refine ⟨_, w, rfl, rfl, ?_, rfl⟩
  first
   | exact .bool _
   | exact .int _ _
   | exact .str _ _
   | exact .gptr _
   | exact .snil
   | exact .mnil
   | exact .sle _ _
   | (constructor <;> assumption)
theorem sliceData_sound {h : AH} (s : Sat e h w.heap) {ts : Array TypeId} {ty : TypeId} {x v : AV} {u : Value} {h' : AH} (hx : VR e x u) (hv : zd4 x h = some (v, h')) :
  Runs P (Builtin.unsafeSliceData_ ts ty #[u]) w fun u' w' => Out e h w v h' u' w' := by
 cases x <;> try (simp [zd4] at hv; done)
 case snil =>
  cases hv; cases hx
  exact ⟨_, w, rfl, .same s .pnil⟩
 case sl b o n z =>
  have hv' : bnd (h.cells b) (fun l => grd (Nat.blt o (len l)) (some (AV.ptr b o, h))) = some (v, h') := hv
  rw [zab] at hv'
  obtain ⟨l, hl, hv'⟩ := hv'
  rw [zaf, zat, zaH] at hv'
  obtain ⟨hol, hv'⟩ := hv'
  cases hv'
  obtain ⟨L, c, hL, h0, hext, hlc, rfl⟩ := vr_sl hx
  obtain ⟨tyr, wr, fz, olds, hb⟩ := zd7 hl
  obtain ⟨arr, T, lo, hi, hH, hR⟩ := s.row hb hL
  have hc : c ≠ 0 := fun h => by
   subst h
   have := hR.len
   omega
  refine ⟨.pointer (some ⟨L.blk, L.off + o, none⟩), w, ?_, .same s (.ptr b o L hL)⟩
  unfold Builtin.unsafeSliceData_
  show Sem.run P (if c ≠ 0 then pure (Value.pointer (some ⟨L.blk, L.off + o, none⟩)) else _) w = _
  rw [if_pos hc]; rfl
end
end
end Go.Xe
end
section
namespace Go.Xe
noncomputable section
theorem Sat.unwr {e : Env} {h : AH} {H : Array Obj} (s : Sat e h H) {b : Nat} {l : List AV} {ty fz : Nat} {wr : Bool} {olds : List Nat} (hb : h.get b = some (.cells l ty wr fz olds)) :
  Sat e (h.set b (.cells l ty false fz olds)) H := by
 have g : ∀ c en, (h.set b (.cells l ty false fz olds)).get c = some en → ∃ en0, h.get c = some en0 ∧ za5 en0 = za5 en ∧ lenE en0 = lenE en ∧ (wrE en0 = false → wrE en = false) ∧
   (∀ l o, EntR e h.fm en0 l o → EntR e h.fm en l o) ∧ famE en0 = famE en := fun c en hc => by
  rw [AH.get_set] at hc
  by_cases hcb : c = b
  ·subst hcb
   rw [if_pos rfl] at hc; cases hc
   refine ⟨_, hb, rfl, rfl, fun _ => rfl, fun l o hr => ?_, rfl⟩
   cases hr with
   | cells _ _ _ _ _ _ arr T lo hi hr => exact .cells _ _ _ _ _ _ arr T lo hi hr
  ·rw [if_neg hcb] at hc
   exact ⟨en, hc, rfl, rfl, id, fun _ _ h => h, rfl⟩
 refine ⟨fun c en hc => ?_, s.locs, s.nums, s.numI, s.stps, s.keys, s.vals, fun c d en en' l1 l2 hc hd => ?_, fun c d en en' l1 l2 hc hd hd' => ?_, fun c d en hc hd => ?_, s.fam,
  fun c d en en' l1 l2 hc hd hd' => ?_, fun c en hc => ?_, s.room, s.glob.less fun X ⟨c, en, l2, hc, hl2, hX⟩ => (by obtain ⟨en0, h0, _⟩ := g c en hc; exact ⟨c, en0, l2, h0, hl2, hX⟩)⟩
 ·obtain ⟨en0, h0, _, _, _, hr, _⟩ := g c en hc
  obtain ⟨l1, o, hl, ho, hr1⟩ := s.ents c en0 h0
  exact ⟨l1, o, hl, ho, hr _ _ hr1⟩
 ·obtain ⟨en0, h0, q1, _⟩ := g c en hc
  obtain ⟨en1, h1, q2, _⟩ := g d en' hd
  rw [← q1, ← q2]
  exact s.sep c d en0 en1 l1 l2 h0 h1
 ·obtain ⟨en0, h0, q1, _⟩ := g c en hc
  obtain ⟨en1, h1, _, _, q2, _⟩ := g d en' hd'
  rw [← q1] at hd
  exact fun a1 a2 a3 => q2 (s.olds c d en0 en1 l1 l2 h0 hd h1 a1 a2 a3)
 ·obtain ⟨en0, h0, q1, _⟩ := g c en hc
  rw [← q1] at hd
  exact s.oldsLt c d en0 h0 hd
 ·obtain ⟨en0, h0, q1, q2, _⟩ := g c en hc
  obtain ⟨en1, h1, _, q3, _⟩ := g d en' hd'
  rw [← q1] at hd
  rw [← q2, ← q3]
  exact s.ends c d en0 en1 l1 l2 h0 hd h1
 ·obtain ⟨en0, h0, _, _, _, _, q⟩ := g c en hc
  rw [← q]; exact s.its c en0 h0
theorem Sat.addOver {e : Env} {h h0 : AH} {w w' : World} (s : Sat e h w.heap) (st : Step e h0 w e h w) (g0 : GOk e h0 w.heap) {en : Ent} {L : Loc} {o : Obj}
  (hB : w'.heap[L.blk]? = some o) (hsz : w.heap.size ≤ w'.heap.size) (hkeep : ∀ X, X < w.heap.size → X ≠ L.blk → w'.heap[X]? = w.heap[X]?)
  (hr : EntR (e.at_ h.next L) h.fm en L o)
  (hold : ∀ c en' l', h.get c = some en' → e.loc c = some l' → l'.blk = L.blk → c ∈ za5 en ∧ l'.off + lenE en' ≤ L.off + lenE en ∧ EntR e h.fm en' l' o)
  (hwr : ∀ c en' l', c ∈ za5 en → h.get c = some en' → e.loc c = some l' → l'.blk = L.blk → wrE en' = false) (hlt : ∀ c, c ∈ za5 en → c < h.next)
  (hown : L.blk < w.heap.size → Own e h0 L.blk) (hos : w'.os = w.os) (htp : w'.tape = w.tape) (hou : w'.output = w.output) (hf : famE en = 0 := by rfl) :
  Sat (e.at_ h.next L) (h.add en) w'.heap ∧ Step e h0 w (e.at_ h.next L) (h.add en) w' := by
 have hle : e.le (e.at_ h.next L) := Env.at_le s.fresh
 have hne : ∀ b l, e.loc b = some l → b ≠ h.next := fun b l hb he => Nat.lt_irrefl _ (he ▸ (s.locs b l hb).1)
 have hBlt : L.blk < w'.heap.size := by
  rcases Nat.lt_or_ge L.blk w'.heap.size with h | h
  ·exact h
  ·rw [Array.getElem?_eq_none h] at hB; cases hB
 have loc' : ∀ b l, (e.at_ h.next L).loc b = some l → (b = h.next ∧ l = L) ∨ (b ≠ h.next ∧ e.loc b = some l) := fun b l hb => by
  by_cases hbn : b = h.next
  ·subst hbn; rw [Env.at_self] at hb; cases hb; exact .inl ⟨rfl, rfl⟩
  ·rw [Env.at_ne _ hbn] at hb; exact .inr ⟨hbn, hb⟩
 have get' : ∀ b en', (h.add en).get b = some en' → (b = h.next ∧ en' = en) ∨ (b ≠ h.next ∧ h.get b = some en') := fun b en' hb => by
  rw [AH.get_add] at hb
  by_cases hbn : b = h.next
  ·rw [if_pos hbn] at hb; cases hb; exact .inl ⟨hbn, rfl⟩
  ·rw [if_neg hbn] at hb; exact .inr ⟨hbn, hb⟩
 constructor
 ·constructor
  ·intro b en' hb
   rcases get' b en' hb with ⟨rfl, rfl⟩ | ⟨hbn, hb⟩
   ·exact ⟨L, o, Env.at_self _ _ _, hB, hr⟩
   ·obtain ⟨l, o', hl, ho', hr'⟩ := s.ents b en' hb
    refine ⟨l, if l.blk = L.blk then o else o', (Env.at_ne _ hbn).trans hl, ?_, ?_⟩
    ·by_cases hx : l.blk = L.blk
     ·rw [if_pos hx, hx]; exact hB
     ·rw [if_neg hx, hkeep _ (s.locs b l hl).2 hx]; exact ho'
    ·by_cases hx : l.blk = L.blk
     ·rw [if_pos hx]; exact (hold b en' l hb hl hx).2.2.mono hle rfl rfl
     ·rw [if_neg hx]; exact hr'.mono hle rfl rfl
  ·intro b l hb
   rcases loc' b l hb with ⟨rfl, rfl⟩ | ⟨_, hb⟩
   ·exact ⟨Nat.lt_succ_self _, hBlt⟩
   ·have := s.locs b l hb
    exact ⟨Nat.lt_succ_of_lt this.1, Nat.lt_of_lt_of_le this.2 hsz⟩
  ·exact fun g j v hv => Nat.lt_succ_of_lt (s.nums g j v hv)
  ·exact s.numI
  ·exact fun i v hv => Nat.lt_succ_of_lt (s.stps i v hv)
  ·exact fun i v hv => Nat.lt_succ_of_lt (s.keys i v hv)
  ·exact fun i v hv => Nat.lt_succ_of_lt (s.vals i v hv)
  ·intro b c en1 en2 l l' hb hc hl hl' hbc hblk
   rcases get' b en1 hb with ⟨rfl, h1⟩ | ⟨hbn, hb1⟩
   ·rcases get' c en2 hc with ⟨rfl, _⟩ | ⟨hcn, hc1⟩
    ·exact absurd rfl hbc
    ·rw [Env.at_self] at hl; cases hl
     rw [Env.at_ne _ hcn] at hl'
     exact .inl (h1 ▸ (hold c en2 l' hc1 hl' hblk.symm).1)
   ·rw [Env.at_ne _ hbn] at hl
    rcases get' c en2 hc with ⟨rfl, h2⟩ | ⟨hcn, hc1⟩
    ·rw [Env.at_self] at hl'; cases hl'
     exact .inr (h2 ▸ (hold b en1 l hb1 hl hblk).1)
    ·rw [Env.at_ne _ hcn] at hl'
     exact s.sep b c en1 en2 l l' hb1 hc1 hl hl' hbc hblk
  ·intro b c en1 en2 l l' hb hc hc2 hl hl' hblk
   have hcn : c ≠ h.next := fun hx => by
    subst hx
    rcases get' b en1 hb with ⟨rfl, h1⟩ | ⟨_, hb1⟩
    ·exact Nat.lt_irrefl _ (hlt _ (h1 ▸ hc))
    ·exact Nat.lt_irrefl _ (s.oldsLt b _ en1 hb1 hc)
   rcases get' c en2 hc2 with ⟨hx, _⟩ | ⟨_, hc3⟩
   ·exact absurd hx hcn
   ·rcases get' b en1 hb with ⟨rfl, h1⟩ | ⟨_, hb1⟩
    ·rw [Env.at_self] at hl; cases hl
     rw [Env.at_ne _ hcn] at hl'
     exact hwr c en2 l' (h1 ▸ hc) hc3 hl' hblk.symm
    ·rw [Env.at_ne _ hcn] at hl'
     by_cases hbn : b = h.next
     ·subst hbn
      exact absurd (s.get_lt hb1) (Nat.lt_irrefl _)
     ·rw [Env.at_ne _ hbn] at hl
      exact s.olds b c en1 en2 l l' hb1 hc hc3 hl hl' hblk
  ·intro b c en1 hb hc
   rcases get' b en1 hb with ⟨rfl, h1⟩ | ⟨_, hb1⟩
   ·exact Nat.lt_succ_of_lt (hlt c (h1 ▸ hc))
   ·exact Nat.lt_succ_of_lt (s.oldsLt b c en1 hb1 hc)
  ·exact s.fam.mono hle rfl
  ·intro b c en1 en2 l l' hb hc hc2 hl hl' hblk
   have hcn : c ≠ h.next := fun hx => by
    subst hx
    rcases get' b en1 hb with ⟨rfl, h1⟩ | ⟨_, hb1⟩
    ·exact Nat.lt_irrefl _ (hlt _ (h1 ▸ hc))
    ·exact Nat.lt_irrefl _ (s.oldsLt b _ en1 hb1 hc)
   rcases get' c en2 hc2 with ⟨hx, _⟩ | ⟨_, hc3⟩
   ·exact absurd hx hcn
   ·rw [Env.at_ne _ hcn] at hl'
    rcases get' b en1 hb with ⟨rfl, h1⟩ | ⟨hbn, hb1⟩
    ·rw [Env.at_self] at hl; cases hl
     exact h1 ▸ (hold c en2 l' hc3 hl' hblk.symm).2.1
    ·rw [Env.at_ne _ hbn] at hl
     exact s.ends b c en1 en2 l l' hb1 hc hc3 hl hl' hblk
  ·intro b en1 hb
   rcases get' b en1 hb with ⟨_, h1⟩ | ⟨_, hb1⟩
   ·rw [h1]; exact .inl hf
   ·exact s.its b en1 hb1
  ·exact Nat.le_succ_of_le s.room
  ·refine g0.of fun X hX hO => ⟨?_, fun ⟨b, en', l, hb, hl, hX'⟩ => ?_⟩
   ·exact hkeep X hX fun hx => hO (hx ▸ hown (hx ▸ hX))
   ·rcases loc' b l hl with ⟨rfl, rfl⟩ | ⟨hbn, hl⟩
    ·exact hO (hX' ▸ hown (hX' ▸ hX))
    ·rcases get' b en' hb with ⟨hx, _⟩ | ⟨_, hb⟩
     ·exact hbn hx
     ·exact (st.keep X hX hO).2 ⟨b, en', l, hb, hl, hX'⟩
 ·refine ⟨hle, Nat.le_succ_of_le st.nxt, hsz, fun X hX hO => ⟨?_, fun ⟨b, en', l, hb, hl, hX'⟩ => ?_⟩, hos, htp, hou, fun b l hb => (loc' b l hb).elim (fun h => .inr (h.1 ▸ st.nxt)) fun h => .inl h.2, fun b hb hg => (AH.get_add h en b).trans ((if_neg (Nat.ne_of_lt (Nat.lt_of_lt_of_le hb st.nxt))).trans (st.gone b hb hg))⟩
  ·exact hkeep X hX fun hx => hO (hx ▸ hown (hx ▸ hX))
  ·rcases loc' b l hl with ⟨rfl, rfl⟩ | ⟨hbn, hl⟩
   ·exact hO (hX' ▸ hown (hX' ▸ hX))
   ·rcases get' b en' hb with ⟨hx, _⟩ | ⟨_, hb⟩
    ·exact hbn hx
    ·exact (st.keep X hX hO).2 ⟨b, en', l, hb, hl, hX'⟩
theorem Step.unwr {e : Env} {h : AH} {w : World} {b : Nat} {en en' : Ent} (hb : h.get b = some en) : Step e h w e (h.set b en') w := by
 refine ⟨.refl e, Nat.le_refl _, Nat.le_refl _, fun X hX hO => ⟨rfl, fun ⟨c, en2, l2, hc, hl2, hX2⟩ => ?_⟩, rfl, rfl, rfl, fun _ _ h => .inl h, fun c _ hg => (AH.get_set h b en' c).trans ((if_neg fun hx => by rw [hx, hb] at hg; cases hg).trans hg)⟩
 rw [AH.get_set] at hc
 by_cases hcb : c = b
 ·subst hcb; exact hO ⟨c, en, l2, hb, hl2, hX2⟩
 ·rw [if_neg hcb] at hc; exact hO ⟨c, en2, l2, hc, hl2, hX2⟩
end
end Go.Xe
end
section
namespace Go.Xe
noncomputable section
section
variable {P : Program} {e : Env} {w : World}
def zb8 (el z n : Nat) (zr : Bool) (ux : Value) : Sem (Array Value) :=
 if !zr then Builtin.firstCells z n ux
 else if n * z = 0 then pure #[]
 else do pure (Builtin.zeroCells (← zeroValue el).cells n)
def zcM (el z n sLen sCap : Nat) (zr : Bool) (base : Option Addr) (us ux : Value) : Sem Value := do
 let need := sLen + n
 if need ≤ sCap then
  let new ← zb8 el z n zr ux
  if let some a := base then storeCells (a.add (sLen * z)) new.toList
  pure (.slice base need sCap)
 else
  if (need : Int) > IntKind.i64.max ∧ (zr ∨ (← typeInfo el).bytes = 0) then runtimePanic (.error "growslice: len out of range")
  if Builtin.nextslicecap need sCap * (← typeInfo el).bytes > 2 ^ 48 then (if zr then runtimePanic (.error "growslice: len out of range") else do
   if !(← Builtin.mayShare z sLen n base ux) then mark .noRoom
   unsupported (.resourceLimit "append: a slice or a string whose bytes no memory bears"))
  let newCap ← choose (.appendCap need sCap el)
  askRoom (newCap * (← typeInfo el).bytes)
  let old ← Builtin.firstCells z sLen us
  let new ← zb8 el z n zr ux
  let rest := Builtin.zeroCells (← zeroValue el).cells (newCap - need)
  pure (.slice (some (← newRow el (old ++ new ++ rest))) need newCap)
def Counted (P : Program) (el n : Nat) (zr : Bool) (ux : Value) (w : World) : Prop :=
 (zr = false ∧ (Builtin.lenOf ux).run P w = .ok n w) ∨ (zr = true ∧ ∃ kd i, ux = .int kd (n : Int) ∧ n ≤ 100000 ∧ P.info? el = some i ∧ i.bytes * n ≤ 140737488355328)
theorem append_run {ts : Array TypeId} {t ty el z n : Nat} {zr : Bool} {base : Option Addr} {sLen sCap : Nat} {ux : Value} (ht : ts[0]? = some t) (htd : P.underlying t = some (.slice el)) (hsz : zaQ P el = some z)
  (hz : zerosA P (nth ts.toList 1) = some zr) (hn : Counted P el n zr ux w) :
  (Builtin.append_ ts ty #[.slice base sLen sCap, ux]).run P w = (zcM el z n sLen sCap zr base (.slice base sLen sCap) ux).run P w := by
 unfold Builtin.append_
 rw [ht]
 show Sem.run P (underlying t >>= _) w = _
 rw [zai htd]
 show Sem.run P (sizeOf el >>= _) w = _
 rw [zac, zbh hsz]
 simp only []
 rw [za3, Array.getElem?_toList] at hz
 have hlen : zr = false → ∀ (k : Bool → Nat → Sem Value), Sem.run P (do let n ← Builtin.lenOf ux; k false n) w = Sem.run P (k zr n) w := fun hf k => by
  subst hf
  rcases hn with ⟨_, hn⟩ | ⟨hx, _⟩
  ·show Sem.run P (Builtin.lenOf ux >>= _) w = _
   rw [zac, hn]
  ·cases hx
 cases h1 : ts[1]? with
 | none =>
   rw [h1] at hz
   have hz' : some false = some zr := hz
   cases hz'
   exact hlen rfl fun zr n => zcM el z n sLen sCap zr base (.slice base sLen sCap) ux
 | some t' =>
   rw [h1] at hz
   have hz' : bnd (P.underlying t') (fun d => some (Option.isSome (intD d))) = some zr := hz
   rw [zab] at hz'
   obtain ⟨d, hd, hz'⟩ := hz'
   cases hz'
   show Sem.run P (underlying t' >>= _) w = _
   rw [zai hd]
   by_cases hi : ∃ k, d = .int k
   ·obtain ⟨k, rfl⟩ := hi
    rcases hn with ⟨hx, _⟩ | ⟨_, kd, i, rfl, hm, hi, hby⟩
    ·cases hx
    ·have hwn : IntKind.i64.wrap (n : Int) = n := wrap_i64 hm
     have hb1 : ¬ ((n : Int) * (i.bytes : Int) > 2 ^ 48) := by
      have h1 : ((i.bytes * n : Nat) : Int) ≤ ((140737488355328 : Nat) : Int) := Int.ofNat_le.2 hby
      rw [Nat.mul_comm, Int.natCast_mul] at h1
      omega
     have hp : Sem.run P (pure (match TypeDesc.int k with | .int _ => true | _ => false) : Sem Bool) w = .ok true w := rfl
     rw [zac, hp]
     show Sem.run P (asInt (.int kd n) >>= _) w = _
     rw [zac]
     have h0 : (asInt (.int kd n)).run P w = .ok (n : Int) w := rfl
     rw [h0]
     show Sem.run P (if IntKind.i64.wrap (n : Int) < 0 then _ else _) w = _
     rw [hwn, if_neg (show ¬ ((n : Int) < 0) by omega)]
     show Sem.run P (typeInfo el >>= _) w = _
     rw [zac, zb6 hi]
     show Sem.run P (if (n : Int) * (i.bytes : Int) > 2 ^ 48 then _ else _) w = _
     rw [if_neg hb1]
     rfl
   ·have hf : Option.isSome (intD d) = false := by cases d <;> first | rfl | exact absurd ⟨_, rfl⟩ hi
    have := hlen hf fun zr n => zcM el z n sLen sCap zr base (.slice base sLen sCap) ux
    rw [← this]
    cases d <;> first | rfl | exact absurd ⟨_, rfl⟩ hi
theorem smallRow_eq {el c : Nat} (h : zdg P el c = some ()) : ∃ i, P.info? el = some i ∧ i.bytes * c ≤ 140737488355328 := by
 unfold zdg at h
 rw [zab] at h
 obtain ⟨i, hi, h⟩ := h
 rw [zaf, zaV] at h
 exact ⟨i, hi, h.1⟩
theorem append_src {h : AH} (s : Sat e h w.heap) {el z n : Nat} {zr : Bool} {x : AV} {cs : List AV} {ux : Value} (hx : VR e x ux)
  (hs : ite' zr (zeroCellsA P el z x) (zd3 z x h) = some (n, cs)) :
  Counted P el n zr ux w ∧ cs.length = n * z ∧
  ∀ w' : World, w'.heap = w.heap → ∃ us : Array Value, (zb8 el z n zr ux).run P w' = .ok us w' ∧ VRs e cs us.toList := by
 cases zr with
 | false =>
   have hs' : zd3 z x h = some (n, cs) := hs
   obtain ⟨h1, h2, h3⟩ := src_sound (P := P) s hx hs'
   refine ⟨.inl ⟨rfl, h1⟩, h2, fun w' hw => ?_⟩
   obtain ⟨us, hu, hv⟩ := (src_sound (P := P) (w := w') (hw ▸ s) hx hs').2.2 n (Nat.le_refl n)
   refine ⟨us, hu, ?_⟩
   rwa [List.take_of_length_le (by omega)] at hv
 | true =>
   have hs' : natV x (fun n => grd (Nat.ble n 100000) (bnd (zdg P el n) fun _ => bnd (zcC P el z n) fun r => some (n, r))) = some (n, cs) := hs
   rw [zew] at hs'
   obtain ⟨kd, m, rfl, hs'⟩ := hs'
   rw [zaf, zaV, zab] at hs'
   obtain ⟨hm, _, hsm, hs'⟩ := hs'
   rw [zab] at hs'
   obtain ⟨r, hr, hs'⟩ := hs'
   cases hs'
   cases vr_int hx
   obtain ⟨i, hi, hby⟩ := smallRow_eq hsm
   obtain ⟨uz, hrun, hus, hlz, hvz⟩ := zbr (P := P) (w := w) (e := e) hr
   refine ⟨.inr ⟨rfl, kd, i, rfl, hm, hi, hby⟩, hlz, fun w' hw => ?_⟩
   ·unfold zb8
    rw [if_neg (by decide)]
    by_cases h0 : n * z = 0
    ·rw [if_pos h0]
     have : cs = [] := List.eq_nil_of_length_eq_zero (by rw [hlz, h0])
     subst this
     exact ⟨#[], rfl, .nil⟩
    ·rw [if_neg h0]
     obtain ⟨uz, hrun, hus, hlz, hvz⟩ := zbr (P := P) (w := w') (e := e) hr
     refine ⟨_, by rw [zac, hrun]; rfl, ?_⟩
     have : Builtin.zeroCells uz.cells n = (Array.range (n * z)).map (uz.cells[· % uz.cells.size]!) := by
      unfold Builtin.zeroCells
      rw [hus]
     rw [this]; exact hvz
theorem growBy_le (m : Nat) : ∀ (r c : Nat), c ≤ m + (m + 768) / 4 → Builtin.growBy m r c ≤ m + (m + 768) / 4
 | 0, c, h => h
 | r + 1, c, h => by
   unfold Builtin.growBy
   by_cases hc : c ≥ m
   ·rw [if_pos hc]; exact h
   ·rw [if_neg hc]
    exact growBy_le m r _ (by omega)
theorem nextslicecap_le {m c : Nat} (h : c < m) : Builtin.nextslicecap m c ≤ 2 * m + 200 := by
 unfold Builtin.nextslicecap
 by_cases h1 : m > 2 * c
 ·rw [if_pos h1]; omega
 ·rw [if_neg h1]
  by_cases h2 : c < 256
  ·rw [if_pos h2]; omega
  ·rw [if_neg h2]
   have := growBy_le m 4 c (by omega)
   omega
theorem roomFor_eq {el z m : Nat} (h : zeu P el z m = some ()) : ∃ i zs, m ≤ 1000000000 ∧ zcC P el z 0 = some zs ∧ P.info? el = some i ∧ i.bytes * (4 * m + 1000) ≤ 140737488355328 := by
 unfold zeu at h
 rw [zaf, zaV, zab] at h
 obtain ⟨hm, zs, hz, h⟩ := h
 obtain ⟨i, hi, hb⟩ := smallRow_eq h
 exact ⟨i, zs, hm, hz, hi, hb⟩
theorem grow_run {el z n sLen sCap : Nat} {zr : Bool} {base : Option Addr} {us ux : Value} {mine cs : List AV} {olds : Array Value} (hgt : sCap < sLen + n) (hroom : zeu P el z (sLen + n) = some ())
  (hold : ∀ w' : World, w'.heap = w.heap → (Builtin.firstCells z sLen us).run P w' = .ok olds w') (hmine : VRs e mine olds.toList) (hml : mine.length = sLen * z)
  (happ : ∀ w' : World, w'.heap = w.heap → ∃ us : Array Value, (zb8 el z n zr ux).run P w' = .ok us w' ∧ VRs e cs us.toList) (hcl : cs.length = n * z) :
  ∃ (c d : Nat) (arr : Array Value), sLen + n ≤ c ∧ (zcM el z n sLen sCap zr base us ux).run P w = .ok (.slice (some ⟨w.heap.size, 0, none⟩) (sLen + n) c) { w with drawn := d, heap := w.heap.push (.cells arr el (0, 0)) } ∧
    arr.size = c * z ∧ ∀ (i : Nat) v, (mine ++ cs)[i]? = some v → ∃ u, arr[i]? = some u ∧ VR e v u := by
 obtain ⟨i, zs, hm, hzs, hi, hby⟩ := roomFor_eq hroom
 let w1 : World := { w with drawn := w.drawn + 1 }
 obtain ⟨uz, hrun, hus, _, _⟩ := zbr (P := P) (w := w1) (e := e) hzs
 obtain ⟨news, hnews, hvr⟩ := happ w1 rfl
 let c := (Question.appendCap (sLen + n) sCap el).cut (w.tape w.drawn (.appendCap (sLen + n) sCap el))
 have hc : sLen + n ≤ c := Nat.le_add_right _ _
 have hos : olds.size = sLen * z := by rw [← hml, hmine.length]; simp
 have hns : news.size = n * z := by rw [← hcl, hvr.length]; simp
 have hrest : (Builtin.zeroCells uz.cells (c - (sLen + n))).size = (c - (sLen + n)) * z := by
  unfold Builtin.zeroCells
  rw [hus]; simp
 refine ⟨c, w.drawn + 1, olds ++ news ++ Builtin.zeroCells uz.cells (c - (sLen + n)), hc, ?_, ?_, ?_⟩
 ·unfold zcM
  simp only []
  rw [if_neg (by omega)]
  show Sem.run P (typeInfo el >>= _) w = _
  rw [zac, zb6 hi]
  simp only []
  have h63 : ¬ (((sLen + n : Nat) : Int) > IntKind.i64.max ∧ ((zr = true) ∨ i.bytes = 0)) := by
   intro ⟨h, _⟩
   have : IntKind.i64.max = 9223372036854775807 := by decide
   rw [this] at h
   omega
  rw [if_neg h63]
  show Sem.run P (typeInfo el >>= _) w = _
  rw [zac, zb6 hi]
  simp only []
  have hcap : ¬ (Builtin.nextslicecap (sLen + n) sCap * i.bytes > 2 ^ 48) := by
   have h1 := nextslicecap_le hgt
   have h2 : Builtin.nextslicecap (sLen + n) sCap * i.bytes ≤ (4 * (sLen + n) + 1000) * i.bytes := Nat.mul_le_mul_right _ (by omega)
   rw [Nat.mul_comm (4 * (sLen + n) + 1000)] at h2
   omega
  rw [if_neg hcap]
  show Sem.run P (choose (.appendCap (sLen + n) sCap el) >>= _) w = _
  have hch : (choose (.appendCap (sLen + n) sCap el)).run P w = .ok c w1 := rfl
  rw [zac, hch]
  show Sem.run P (typeInfo el >>= _) w1 = _
  rw [zac, zb6 hi]
  simp only []
  have hask : (askRoom (c * i.bytes)).run P w1 = .ok () w1 := by
   unfold askRoom
   split <;> rfl
  rw [zac, hask]
  show Sem.run P (Builtin.firstCells z sLen us >>= _) w1 = _
  rw [zac, hold w1 rfl]
  show Sem.run P (zb8 el z n zr ux >>= _) w1 = _
  rw [zac, hnews]
  show Sem.run P (zeroValue el >>= _) w1 = _
  rw [zac, hrun]
  rfl
 ·rw [Array.size_append, Array.size_append, hos, hns, hrest, ← Nat.add_mul, ← Nat.add_mul]
  congr 1
  omega
 ·intro j v hv
  obtain ⟨u, hu, hr⟩ := (hmine.app hvr).get hv
  refine ⟨u, ?_, hr⟩
  have hj : j < (olds.toList ++ news.toList).length := (List.getElem?_eq_some_iff.1 hu).1
  rw [← Array.getElem?_toList, Array.toList_append, Array.toList_append, List.getElem?_append_left hj]
  exact hu
end
end
end Go.Xe
end
section
namespace Go.Xe
noncomputable section
section
variable {P : Program} {e : Env} {w : World}
theorem zee (l : List AV) (ty fz : Nat) (wr : Bool) (olds : List Nat) : lenE (.cells l ty wr fz olds) = l.length := rfl
theorem fresh_row {h h0 : AH} (s : Sat e h w.heap) (st : Step e h0 w e h w) (g0 : GOk e h0 w.heap) {l : List AV} {ty fz : Nat} {olds : List Nat} {arr : Array Value} {T ext d : Nat} (hlen : l.length ≤ ext) (hroom : ext ≤ arr.size) (hty : ty ≠ 0 → T = ty)
  (hv : ∀ (i : Nat) v, l[i]? = some v → ∃ u, arr[i]? = some u ∧ VR e v u) (hlt : ∀ c, c ∈ olds → c < h.next) :
  let w' : World := { w with drawn := d, heap := w.heap.push (.cells arr T (0, 0)) }
  Sat (e.at_ h.next ⟨w.heap.size, 0, ext⟩) (h.add (.cells l ty true fz olds)) w'.heap ∧ Step e h0 w (e.at_ h.next ⟨w.heap.size, 0, ext⟩) (h.add (.cells l ty true fz olds)) w' := by
 intro w'
 have hle : e.le (e.at_ h.next ⟨w.heap.size, 0, ext⟩) := Env.at_le s.fresh
 refine s.addOver st g0 (L := ⟨w.heap.size, 0, ext⟩) (o := .cells arr T (0, 0)) (by show (w.heap.push _)[w.heap.size]? = _; simp) (by show w.heap.size ≤ (w.heap.push _).size; simp) (fun X hX hne => ?_) ?_ (fun c en' l' hc hl' hblk => ?_) (fun c en' l' _ _ hl' hblk => absurd (s.locs c l' hl').2 (by simp only at hblk; omega)) hlt
  (fun hlt' => absurd hlt' (Nat.lt_irrefl _)) rfl rfl rfl
 ·show (w.heap.push _)[X]? = _
  rw [Array.getElem?_push, if_neg (by omega)]
 ·refine .cells _ _ _ _ _ _ _ _ _ _ ⟨by simp only; omega, hlen, fun i v hi => ?_, fun i _ _ h => by omega, fun h0 => ⟨hty h0, rfl, rfl, fun _ => rfl⟩⟩
  obtain ⟨u, hu, hr⟩ := hv i v hi
  exact ⟨u, by rw [Nat.zero_add]; exact hu, hr.mono hle⟩
 ·have := (s.locs c l' hl').2
  simp only at hblk
  omega
theorem Sat.only {h : AH} {H : Array Obj} (s : Sat e h H) {b c : Nat} {en en' : Ent} {l l' : Loc} (hb : h.get b = some en) (hl : e.loc b = some l) (hw : wrE en = true) (hc : h.get c = some en') (hl' : e.loc c = some l')
  (hblk : l'.blk = l.blk) (hne : c ≠ b) : c ∈ za5 en := by
 rcases s.sep b c en en' l l' hb hc hl hl' (fun h => hne h.symm) hblk.symm with h1 | h1
 ·exact h1
 ·have := s.olds c b en' en l' l hc h1 hb hl' hl hblk
  rw [hw] at this; cases this
theorem ent_under {fb : Nat × List ME} {en : Ent} {l : Loc} {arr : Array Value} {T lo hi p : Nat} {us : List Value} (hr : EntR e fb en l (.cells arr T (lo, hi))) (hend : l.off + lenE en ≤ p) (hb : p + us.length ≤ arr.size) :
  EntR e fb en l (.cells (zgc arr p us) T (lo, hi)) := by
 cases hr with
 | cells cs ty wr fz olds _ _ _ _ _ h =>
   refine .cells _ _ _ _ _ _ _ _ _ _ ⟨by rw [zfE]; exact h.room, h.len, fun i v hi => ?_, h.free, h.ty⟩
   obtain ⟨u, hu, hvr⟩ := h.vals i v hi
   refine ⟨u, ?_, hvr⟩
   rw [overC_get _ _ _ _ hb, if_neg]
   ·exact hu
   ·have : i < cs.length := (List.getElem?_eq_some_iff.1 hi).1
    rw [zee] at hend
    omega
theorem over_row {h h1 : AH} (s : Sat e h w.heap) (s1 : Sat e h1 w.heap) (st : Step e h w e h1 w) (hn : h1.next = h.next) {b : Nat} {L : Loc} {old mine : List AV} {cs : List AV} {ty fz o f el : Nat} {olds olds' : List Nat}
  (hb : h.get b = some (.cells old ty true fz olds)) (hl : e.loc b = some L) {arr : Array Value} {T lo hi : Nat} (hH : w.heap[L.blk]? = some (.cells arr T (lo, hi))) (hR : CellsR e old ty fz L arr T lo hi)
  {us : List Value} (hvr : VRs e cs us) (hfo : f = o + mine.length) (hfz : fz ≤ f) (hmine : ∀ (i : Nat) v, mine[i]? = some v → ∃ u, arr[L.off + o + i]? = some u ∧ VR e v u) (hext : f + cs.length ≤ L.ext)
  (hgot : ∀ c en' l', h1.get c = some en' → e.loc c = some l' → l'.blk = L.blk → c ∈ olds' ∧ l'.off + lenE en' ≤ L.off + f)
  (hwr : ∀ c en' l', c ∈ olds' → h1.get c = some en' → e.loc c = some l' → l'.blk = L.blk → wrE en' = false) (hlt : ∀ c, c ∈ olds' → c < h.next)
  (hty : zcR o ty el ≠ 0 → o = 0 ∧ ty = zcR o ty el) :
  let w' : World := { w with heap := w.heap.setIfInBounds L.blk (.cells (zgc arr (L.off + f) us) T (lo, hi)) }
  Sat (e.at_ h1.next ⟨L.blk, L.off + o, L.ext - o⟩) (h1.add (.cells (mine ++ cs) (zcR o ty el) true (fz - o) olds')) w'.heap ∧
   Step e h w (e.at_ h1.next ⟨L.blk, L.off + o, L.ext - o⟩) (h1.add (.cells (mine ++ cs) (zcR o ty el) true (fz - o) olds')) w' := by
 intro w'
 have hle : e.le (e.at_ h1.next ⟨L.blk, L.off + o, L.ext - o⟩) := Env.at_le s1.fresh
 have hBlt := (s.locs b L hl).2
 have hlen := hR.len
 have hroom := hR.room
 have hus := hvr.length
 refine s1.addOver st s.glob (L := ⟨L.blk, L.off + o, L.ext - o⟩) (o := .cells (zgc arr (L.off + f) us) T (lo, hi)) (by show (w.heap.setIfInBounds _ _)[L.blk]? = _; simp [hBlt]) (by show w.heap.size ≤ (w.heap.setIfInBounds _ _).size; simp)
  (fun X hX hne => ?_) ?_ (fun c en' l' hc hl' hblk => ?_) hwr (fun c hc => hn ▸ hlt c hc) (fun _ => ⟨b, _, L, hb, hl, rfl⟩) rfl rfl rfl
 ·show (w.heap.setIfInBounds _ _)[X]? = _
  rw [Array.getElem?_setIfInBounds_ne (fun hx => hne hx.symm)]
 ·refine .cells _ _ _ _ _ _ _ _ _ _ ⟨by rw [zfE]; simp only; omega, by simp only [List.length_append]; omega, fun i v hi => ?_, fun i h1 h2 => ?_, fun h0 => ?_⟩
  ·simp only
   rw [overC_get _ _ _ _ (by omega)]
   by_cases hin : i < mine.length
   ·rw [List.getElem?_append_left hin] at hi
    rw [if_neg (by omega)]
    obtain ⟨u, hu, hr⟩ := hmine i v hi
    exact ⟨u, hu, hr.mono hle⟩
   ·rw [List.getElem?_append_right (by omega)] at hi
    obtain ⟨u, hu, hr⟩ := hvr.get hi
    have hilt : i - mine.length < cs.length := (List.getElem?_eq_some_iff.1 hi).1
    rw [if_pos (by omega)]
    exact ⟨u, by rw [show L.off + o + i - (L.off + f) = i - mine.length by omega]; exact hu, hr.mono hle⟩
  ·simp only at h2 ⊢
   have := hR.free (o + i) (by omega) (by omega)
   rwa [show L.off + (o + i) = L.off + o + i by omega] at this
  ·obtain ⟨ho, hty'⟩ := hty h0
   have hty0 : ty ≠ 0 := fun h => h0 (hty' ▸ h)
   obtain ⟨q1, q2, q4, q3⟩ := hR.ty hty0
   subst ho
   exact ⟨by rw [q1]; exact hty', by simp only; omega, q4, fun hz => q3 (by omega)⟩
 ·simp only at hblk
  obtain ⟨h2, h3⟩ := hgot c en' l' hc hl' hblk
  refine ⟨h2, ?_, ?_⟩
  ·rw [zee, List.length_append]; simp only; omega
  ·obtain ⟨l2, o2, hl2, ho2, hr2⟩ := s1.ents c en' hc
   rw [hl'] at hl2; cases hl2
   rw [hblk, hH] at ho2; cases ho2
   exact ent_under hr2 h3 (by omega)
theorem addAt_add (B p m : Nat) : (⟨B, p, none⟩ : Addr).add m = ⟨B, p + m, none⟩ := Addr.add_eq B p m
theorem growAt_ty {o ty el : Nat} (h : zcR o ty el ≠ 0) : o = 0 ∧ ty = zcR o ty el ∧ zcR o ty el = el := by
 unfold zcR growTy at h ⊢
 rw [zaB, zaB] at h
 rw [zaB, zaB]
 by_cases h1 : Nat.beq o 0 = true
 ·rw [if_pos h1] at h ⊢
  by_cases h2 : Nat.beq ty el = true
  ·rw [if_pos h2] at h ⊢
   exact ⟨(zah _ _).1 h1, (zah _ _).1 h2, rfl⟩
  ·rw [if_neg h2] at h; exact absurd rfl h
 ·rw [if_neg h1] at h; exact absurd rfl h
theorem appendE_sound {h : AH} (s : Sat e h w.heap) {el z b o l n : Nat} {zr : Bool} {cs : List AV} {v : AV} {ux : Value} {en : Ent} {L : Loc} {c : Nat} {h' : AH} (hb : h.get b = some en) (hL : e.loc b = some L) (hz0 : 0 < z)
  (hext : o + c * z = L.ext) (hlc : l ≤ c) (happ : ∀ w' : World, w'.heap = w.heap → ∃ us : Array Value, (zb8 el z n zr ux).run P w' = .ok us w' ∧ VRs e cs us.toList) (hcl : cs.length = n * z)
  (hv : appendE P el z b o l (Nat.add o (Nat.mul l z)) n cs h en = some (v, h')) :
  Runs P (zcM el z n l c zr (some ⟨L.blk, L.off + o, none⟩) (.slice (some ⟨L.blk, L.off + o, none⟩) l c) ux) w fun u' w' => Out e h w v h' u' w' := by
 cases en <;> try (simp [appendE] at hv; done)
 rename_i old ty wr fz olds
 obtain ⟨arr, T, lo, hi, hH, hR⟩ := s.row hb hL
 have hlen := hR.len
 have hroom := hR.room
 obtain ⟨f, hf⟩ : ∃ f, f = o + l * z := ⟨_, rfl⟩
 have hv' : ite' (Nat.ble (Nat.add (o + l * z) (Nat.mul n z)) (len old))
   (bnd (za2 h b (o + l * z) cs) fun h => some (frc (Nat.add l n) fun m => AV.sl b o m z, h))
   (grd wr (grd (Nat.ble fz (o + l * z)) (grd (allC cs) (bnd (zeu P el z (Nat.add l n)) fun _ => bnd (cut old o (Nat.mul l z)) fun mine =>
    ite' (Nat.beq (o + l * z) (len old))
     (AH.new (h.set b (.cells old ty false fz olds)) (.cells (app mine cs) (zcR o ty el) true (Nat.sub fz o) (b :: olds)) fun b' h => some (frc (Nat.add l n) fun m => AV.sl b' 0 m z, h))
     (AH.new (AH.kill (b :: olds) h) (.cells (app mine cs) (zcR o ty el) true (Nat.sub fz o) []) fun b' h => some (frc (Nat.add l n) fun m => AV.sl b' 0 m z, h)))))) = some (v, h') := hv
 rw [← hf] at hv'
 have hcz : (l + n) * z = l * z + n * z := Nat.add_mul l n z
 rw [zav] at hv'
 rcases hv' with ⟨hin, hv'⟩ | ⟨_, hv'⟩
 ·
  rw [zaV, zaH] at hin
  have hin' : f + n * z ≤ old.length := hin
  rw [zab] at hv'
  obtain ⟨h2, hw, hv'⟩ := hv'
  rw [zaG] at hv'
  cases hv'
  obtain ⟨us, hus, hvr⟩ := happ w rfl
  obtain ⟨w', hst, hs', hstep⟩ := zcf (P := P) s hL hvr hw
  have hneed : l + n ≤ c := by
   have : (l + n) * z ≤ c * z := by rw [hcz]; omega
   exact Nat.le_of_mul_le_mul_right this hz0
  refine ⟨.slice (some ⟨L.blk, L.off + o, none⟩) (l + n) c, w', ?_, e, hs', .sl b o (l + n) z c L hL hz0 hext hneed, hstep⟩
  unfold zcM
  simp only []
  rw [if_pos hneed]
  show Sem.run P (zb8 el z n zr ux >>= _) w = _
  rw [zac, hus]
  simp only [addAt_add]
  rw [zac, show L.off + o + l * z = L.off + f by omega, hst]
  rfl
 rw [zaf, zaf, zaV, zaf, zab] at hv'
 obtain ⟨rfl, hfz, hac, _, hrm, hv'⟩ := hv'
 rw [zab] at hv'
 obtain ⟨mine, hcut, hv'⟩ := hv'
 rw [cut_eq] at hcut
 have hcut' : o + l * z ≤ old.length ∧ (old.drop o).take (l * z) = mine := by
  by_cases hx : o + Nat.mul l z ≤ old.length
  ·rw [if_pos hx] at hcut; exact ⟨hx, Option.some.inj hcut⟩
  ·rw [if_neg hx] at hcut; cases hcut
 obtain ⟨hol, rfl⟩ := hcut'
 have hml : ((old.drop o).take (l * z)).length = l * z := by simp; omega
 have hread : zba h b o (l * z) = some ((old.drop o).take (l * z)) := by
  unfold zba AH.cells
  rw [hb]
  show cut old o (l * z) = _
  rw [cut_eq, if_pos hol]
 obtain ⟨ous, hous, hmvr⟩ := zbl (P := P) s hL hread
 have hmget : ∀ (i : Nat) v, ((old.drop o).take (l * z))[i]? = some v → ∃ u, arr[L.off + o + i]? = some u ∧ VR e v u := fun i v hi => by
  have hil : i < l * z := by
   have := (List.getElem?_eq_some_iff.1 hi).1
   rwa [hml] at this
  rw [List.getElem?_take_of_lt hil, List.getElem?_drop] at hi
  obtain ⟨u, hu, hr⟩ := hR.vals (o + i) v hi
  exact ⟨u, by rw [show L.off + o + i = L.off + (o + i) by omega]; exact hu, hr⟩
 have hnold : b ∉ olds := fun hm => by
  have := s.olds b b _ _ L L hb hm hb hL hL rfl
  simp [wrE] at this
 have key : ∀ (h1 : AH) (olds' : List Nat), Sat e h1 w.heap → h1.next = h.next → Step e h w e h1 w →
   (∀ c en' l', h1.get c = some en' → e.loc c = some l' → l'.blk = L.blk → c ∈ olds' ∧ l'.off + lenE en' ≤ L.off + f) →
   (∀ c en' l', c ∈ olds' → h1.get c = some en' → e.loc c = some l' → l'.blk = L.blk → wrE en' = false) → (∀ c, c ∈ olds' → c < h.next) →
   Runs P (zcM el z n l c zr (some ⟨L.blk, L.off + o, none⟩) (.slice (some ⟨L.blk, L.off + o, none⟩) l c) ux) w fun u' w' =>
    Out e h w (.sl h1.next 0 (l + n) z) (h1.add (.cells ((old.drop o).take (l * z) ++ cs) (zcR o ty el) true (fz - o) olds')) u' w' := by
  intro h1 olds' s1 hn st1 hgot hwr hlt
  by_cases hneed : l + n ≤ c
  ·obtain ⟨us, hus, hvr⟩ := happ w rfl
   have hnz : (l + n) * z ≤ c * z := Nat.mul_le_mul_right z hneed
   obtain ⟨s2, st2⟩ := over_row s s1 st1 hn (el := el) (olds' := olds') (o := o) (mine := (old.drop o).take (l * z)) (f := f) hb hL hH hR hvr (by rw [hml]; exact hf) hfz hmget (by rw [hcl]; omega) hgot hwr hlt (fun h => ⟨(growAt_ty h).1, (growAt_ty h).2.1⟩)
   have hul := hvr.length
   have hrun := zcY (P := P) us.toList 0 (w := w) (B := L.blk) (p := L.off + f) hH (by rw [← hul, hcl]; omega)
    (fun k hk1 hk2 => by
     have := hR.free (k - L.off) (by omega) (by rw [← hul, hcl] at hk2; omega)
     rwa [show L.off + (k - L.off) = k by omega] at this)
   refine ⟨.slice (some ⟨L.blk, L.off + o, none⟩) (l + n) c, _, ?_, _, s2, ?_, st2⟩
   ·unfold zcM
    simp only []
    rw [if_pos hneed]
    show Sem.run P (zb8 el z n zr ux >>= _) w = _
    rw [zac, hus]
    simp only [addAt_add]
    rw [zac, show L.off + o + l * z = L.off + f by omega, hrun ?_]
    ·rfl
    ·exact allC_us hvr hac
   ·exact .sl _ 0 (l + n) z c _ (Env.at_self _ _ _) hz0 (by simp only; omega) hneed
  ·obtain ⟨c', d, arr', hc', hrun, hsz, hg⟩ := grow_run (P := P) (w := w) (zr := zr) (base := some ⟨L.blk, L.off + o, none⟩) (us := .slice (some ⟨L.blk, L.off + o, none⟩) l c) (ux := ux) (sCap := c) (by omega) hrm
    (fun w' hw => by
     obtain ⟨us', hus', _⟩ := zbl (P := P) (w := w') (hw ▸ s) hL hread
     have h1 := zbp (P := P) (w := w') (hw ▸ hH) (l * z) 0 #[] (p := L.off + o) (by omega)
     have h2 := zbp (P := P) (w := w) hH (l * z) 0 #[] (p := L.off + o) (by omega)
     have h3 : (loadCells ⟨L.blk, L.off + o, none⟩ (l * z)).run P w = .ok ous w := hous
     rw [show loadCells ⟨L.blk, L.off + o, none⟩ (l * z) = loadCellsFrom ⟨L.blk, L.off + o, none⟩ 0 (l * z) #[] from rfl, h2] at h3
     have h4 : ous = #[] ++ arr.extract (L.off + o + 0) (L.off + o + 0 + l * z) := by cases h3; rfl
     show (loadCells ⟨L.blk, L.off + o, none⟩ (l * z)).run P w' = _
     rw [show loadCells ⟨L.blk, L.off + o, none⟩ (l * z) = loadCellsFrom ⟨L.blk, L.off + o, none⟩ 0 (l * z) #[] from rfl, h1, h4]) hmvr hml happ hcl
   obtain ⟨s2, st2⟩ := fresh_row s1 st1 s.glob (ty := zcR o ty el) (fz := fz - o) (olds := olds') (T := el) (ext := c' * z) (d := d) (l := (old.drop o).take (l * z) ++ cs)
    (by rw [List.length_append, hml, hcl, ← hcz]; exact Nat.mul_le_mul_right z hc') (by rw [hsz]; exact Nat.le_refl _) (fun h => ((growAt_ty h).2.2).symm) hg (fun c hc => hn ▸ hlt c hc)
   exact ⟨_, _, hrun, _, s2, .sl _ 0 (l + n) z c' _ (Env.at_self _ _ _) hz0 (by simp only; omega) hc', st2⟩
 rw [zav] at hv'
 rcases hv' with ⟨hend, hv'⟩ | ⟨_, hv'⟩
 ·rw [zah, zaH] at hend
  rw [AH.new_eq, zaG, zcn] at hv'
  cases hv'
  refine key (h.set b (.cells old ty false fz olds)) (b :: olds) (s.unwr hb) rfl (Step.unwr hb) (fun d en' l' hd hl' hblk => ?_) (fun d en' l' hd hd' hl' hblk => ?_) (fun d hd => ?_)
  ·rw [AH.get_set] at hd
   by_cases hdb : d = b
   ·subst hdb
    rw [if_pos rfl] at hd; cases hd
    rw [hL] at hl'; cases hl'
    exact ⟨List.mem_cons_self .., by rw [zee]; omega⟩
   ·rw [if_neg hdb] at hd
    have hm : d ∈ olds := s.only hb hL rfl hd hl' hblk hdb
    have := s.ends b d _ en' L l' hb hm hd hL hl' hblk.symm
    rw [zee] at this
    exact ⟨List.mem_cons_of_mem _ hm, by omega⟩
  ·rw [AH.get_set] at hd'
   by_cases hdb : d = b
   ·rw [if_pos hdb] at hd'; cases hd'; rfl
   ·rw [if_neg hdb] at hd'
    rcases List.mem_cons.1 hd with h | h
    ·exact absurd h hdb
    ·exact s.olds b d _ en' L l' hb h hd' hL hl' hblk.symm
  ·rcases List.mem_cons.1 hd with rfl | h
   ·exact s.get_lt hb
   ·exact s.oldsLt b d _ hb h
 ·rw [AH.new_eq, zaG, zcn] at hv'
  cases hv'
  refine key (AH.kill (b :: olds) h) [] (s.kill _) (zbk (b :: olds) h).1 (Step.kill _) (fun d en' l' hd hl' hblk => ?_) (fun d en' l' hd _ => by cases hd) (fun d hd => by cases hd)
  rw [zb5] at hd
  by_cases hm : d ∈ b :: olds
  ·rw [if_pos hm] at hd; cases hd
  ·rw [if_neg hm] at hd
   exact absurd (List.mem_cons_of_mem _ (s.only hb hL rfl hd hl' hblk (fun hx => hm (hx ▸ List.mem_cons_self ..)))) hm
end
end
end Go.Xe
end
section
namespace Go.Xe
noncomputable section
section
variable {P : Program} {e : Env} {w : World}
theorem append_sound {h : AH} (s : Sat e h w.heap) {t ty : TypeId} {ts : Array TypeId} {zr : Bool} {a x v : AV} {ua ux : Value} {h' : AH} (ht : ts[0]? = some t) (ha : VR e a ua) (hx : VR e x ux) (hz : zerosA P (nth ts.toList 1) = some zr)
  (hv : appendA P t zr a x h = some (v, h')) : Runs P (Builtin.append_ ts ty #[ua, ux]) w fun u' w' => Out e h w v h' u' w' := by
 unfold appendA at hv
 rw [zab] at hv
 obtain ⟨⟨el, z⟩, hel, hv⟩ := hv
 rw [zab] at hv
 obtain ⟨⟨n, cs⟩, hs, hv⟩ := hv
 simp only at hs hv
 obtain ⟨htd, hsz, hz0⟩ := zed hel
 obtain ⟨hn, hcl, happ⟩ := append_src (P := P) s hx hs
 have hbeg : ∀ {Q : Value → World → Prop} {base : Option Addr} {sl sc : Nat}, ua = .slice base sl sc → Runs P (zcM el z n sl sc zr base (.slice base sl sc) ux) w Q → Runs P (Builtin.append_ ts ty #[ua, ux]) w Q := fun {Q base sl sc} hua hr => by
  subst hua
  exact Runs.run_eq (append_run ht htd hsz hz hn) hr
 unfold appendTo at hv
 rw [zav] at hv
 have hzero : ∀ {base : Option Addr} {sl sc : Nat}, n = 0 → ua = .slice base sl sc → sl ≤ sc → VR e v ua → h' = h → Runs P (Builtin.append_ ts ty #[ua, ux]) w fun u' w' => Out e h w v h' u' w' := fun {base sl sc} hn0 hua hle hvr hh => by
  subst hn0 hh
  refine hbeg hua ?_
  obtain ⟨us, hus, hvs⟩ := happ w rfl
  have h0 : us.toList = [] := by
   have h1 := hvs.length
   rw [hcl, Nat.zero_mul] at h1
   exact List.eq_nil_of_length_eq_zero h1.symm
  refine ⟨ua, w, ?_, .same s hvr⟩
  unfold zcM
  simp only []
  rw [if_pos (by omega)]
  show Sem.run P (zb8 el z 0 zr ux >>= _) w = _
  rw [zac, hus]
  simp only [h0, Nat.add_zero, hua]
  cases base <;> rfl
 rcases hv with ⟨h0, hv'⟩ | ⟨h0, hv'⟩
 ·rw [zah] at h0
  cases a <;> try (simp at hv'; done)
  case sl b o l z' =>
   cases hv'
   obtain ⟨L, c, hL, _, _, hlc, hua⟩ := vr_sl ha
   exact hzero h0 hua hlc ha rfl
  case sle =>
   cases hv'
   cases ha with
   | sle ad c => exact hzero h0 rfl (Nat.zero_le _) (.sle ad c) rfl
  case snil =>
   cases hv'
   cases ha
   exact hzero h0 rfl (Nat.le_refl _) .snil rfl
 ·cases a <;> try (simp at hv'; done)
  case sl b o l z' =>
   have hv2 : grd (Nat.beq z z') (bnd (h.get b) fun en => appendE P el z b o l (Nat.add o (Nat.mul l z)) n cs h en) = some (v, h') := hv'
   rw [zaf, zah, zab] at hv2
   obtain ⟨rfl, en, hb, hv2⟩ := hv2
   obtain ⟨L, c, hL, _, hext, hlc, hua⟩ := vr_sl ha
   exact hbeg hua (appendE_sound s hb hL hz0 hext hlc happ hcl hv2)
  case snil =>
   have hv2 : bnd (zeu P el z n) (fun _ => h.new (.cells cs el true 0 []) fun b h => some (AV.sl b 0 n z, h)) = some (v, h') := hv'
   rw [zab] at hv2
   obtain ⟨_, hrm, hv2⟩ := hv2
   rw [AH.new_eq] at hv2
   cases hv2
   cases ha
   have hn0 : n ≠ 0 := fun h => by subst h; simp at h0
   refine hbeg rfl ?_
   obtain ⟨c', d, arr', hc', hrun, hsz', hg⟩ := grow_run (P := P) (w := w) (zr := zr) (base := none) (us := .slice none 0 0) (ux := ux) (sLen := 0) (sCap := 0) (mine := []) (olds := #[]) (by omega) (by rw [Nat.zero_add]; exact hrm)
    (fun w' _ => rfl) .nil (by simp) happ hcl
   obtain ⟨s2, st2⟩ := fresh_row (ty := el) (fz := 0) (olds := []) (T := el) (ext := c' * z) (d := d) (l := cs) s (.refl e h w) s.glob
    (by rw [hcl]; exact Nat.mul_le_mul_right z (by omega)) (by rw [hsz']; exact Nat.le_refl _) (fun _ => rfl) hg (fun c hc => by cases hc)
   rw [Nat.zero_add] at hrun
   exact ⟨_, _, hrun, _, s2, .sl _ 0 n z c' _ (Env.at_self _ _ _) hz0 (by simp only; omega) (by omega), st2⟩
theorem ze5 {h : AH} (s : Sat e h w.heap) {pt ty : TypeId} {ts : Array TypeId} {p l v : AV} {up ul : Value} {h' : AH} (ht : ts[0]? = some pt) (hp : VR e p up) (hl : VR e l ul) (hv : zcp P pt p l h = some (v, h')) :
  Runs P (Builtin.unsafeString_ ts ty #[up, ul]) w fun u' w' => Out e h w v h' u' w' := by
 unfold zcp at hv
 rw [zew] at hv
 obtain ⟨kd, n, rfl, hv⟩ := hv
 rw [zaf, zaV] at hv
 obtain ⟨hn9, hv⟩ := hv
 cases vr_int hl
 have hmax : ¬ ((n : Int) > IntKind.i64.max) := by
  have : IntKind.i64.max = 9223372036854775807 := by decide
  rw [this]; omega
 have hbeg : ∀ {Q : Value → World → Prop} {q : Option Addr}, up = .pointer q → Runs P (match q with
   | none => if (n : Int) = 0 then pure (.string .empty) else runtimePanic (.error "unsafe.String: ptr is nil and len is not zero")
   | some a =>
     if (n : Int) = 0 then pure (.string .empty)
     else do if ← variablesAt a (← elemOf pt) (n : Int).toNat then (do
      let s ← loadBytes a .empty (n : Int).toNat
      freeze a (n : Int).toNat
      pure (.string s)) else unsupported (.unsafePointer "String: not so many bytes at ptr") : Sem Value) w Q → Runs P (Builtin.unsafeString_ ts ty #[up, .int kd n]) w Q := fun {Q q} hup hr => by
  subst hup
  refine Runs.run_eq ?_ hr
  unfold Builtin.unsafeString_
  rw [ht]
  show Sem.run P (asInt (.int kd n) >>= _) w = _
  rw [zac]
  have h0 : (asInt (.int kd n)).run P w = .ok (n : Int) w := rfl
  rw [h0]
  show Sem.run P (if (n : Int) < 0 then _ else _) w = _
  rw [if_neg (by omega)]
  show Sem.run P (if (n : Int) > IntKind.i64.max then _ else _) w = _
  rw [if_neg hmax]
  cases q <;> rfl
 have hempty : ∀ {a : Option Addr}, n = 0 → up = .pointer a → v = .str 0 0 → h' = h → Runs P (Builtin.unsafeString_ ts ty #[up, .int kd n]) w fun u' w' => Out e h w v h' u' w' := fun {a} h0 hup hvv hh => by
  subst h0 hvv hh
  refine hbeg hup ?_
  refine ⟨.string .empty, w, ?_, .same s (.str 0 0)⟩
  cases a <;> rfl
 cases p <;> try (simp at hv; done)
 case pnil =>
  cases hp
  have hv' : grd (Nat.beq n 0) (some (AV.str 0 0, h)) = some (v, h') := hv
  rw [zaf, zah] at hv'
  obtain ⟨h0, hv'⟩ := hv'
  cases hv'
  exact hempty h0 rfl rfl rfl
 case ptr b o =>
  obtain ⟨L, hL, rfl⟩ := zcG hp
  have hv' : ite' (Nat.beq n 0) (some (AV.str 0 0, h)) (grd (Nat.beq o 0) (bnd (P.underlying pt) fun d => bnd (pointerD d) fun t => bnd (h.get b) fun e => stringE P h t b n e)) = some (v, h') := hv
  rw [zav] at hv'
  rcases hv' with ⟨h0, hv'⟩ | ⟨h0, hv'⟩
  ·cases hv'
   exact hempty ((zah _ _).1 h0) rfl rfl rfl
  have hn0 : n ≠ 0 := fun h => by subst h; simp at h0
  rw [zaf, zah, zab] at hv'
  obtain ⟨rfl, d, hd, hv'⟩ := hv'
  rw [zab] at hv'
  obtain ⟨t, hdt, hv'⟩ := hv'
  rw [zab] at hv'
  obtain ⟨en, hb, hv'⟩ := hv'
  have hd' : d = .pointer t := by cases d <;> simp [pointerD] at hdt; subst hdt; rfl
  subst hd'
  cases en <;> try (simp [stringE] at hv'; done)
  rename_i row tyr wr fz olds
  have hv2 : grd wr (grd (Nat.beq tyr t) (grd (Nat.blt 0 tyr) (bnd (zaQ P tyr) fun z => grd (Nat.beq z 1) (bnd (cut row 0 n) fun cs => bnd (zd2 cs) fun s =>
   some (s, AH.set (AH.kill olds h) b (.cells row tyr true (Nat.max fz n) [])))))) = some (v, h') := hv'
  rw [zaf, zaf, zaf, zah, zat, zab] at hv2
  obtain ⟨rfl, rfl, hty, z, hz, hv2⟩ := hv2
  rw [zaf, zah, zab] at hv2
  obtain ⟨rfl, cs, hcut, hv2⟩ := hv2
  rw [zab] at hv2
  obtain ⟨sv, hsv, hv2⟩ := hv2
  cases hv2
  obtain ⟨arr, T, lo, hi, hH, hR⟩ := s.row hb hL
  obtain ⟨rfl, hoff, hlo, hhi⟩ := hR.ty (by omega)
  have hcut' : n ≤ row.length ∧ row.take n = cs := by
   rw [cut_eq] at hcut
   by_cases hx : 0 + n ≤ row.length
   ·rw [if_pos hx] at hcut
    exact ⟨by omega, by simpa using Option.some.inj hcut⟩
   ·rw [if_neg hx] at hcut; cases hcut
  obtain ⟨hnl, rfl⟩ := hcut'
  have hlen := hR.len
  have hroom := hR.room
  have hcells : ∃ us : List Value, us.length = n ∧ VRs e (row.take n) us ∧ ∀ (i : Nat) (u : Value), us[i]? = some u → arr[i]? = some u := by
   refine ⟨(arr.extract 0 n).toList, by simp; omega, VRs.of_get (by simp; omega) fun i a u ha hu => ?_, fun i u hu => ?_⟩
   ·have hin : i < n := by
     have := (List.getElem?_eq_some_iff.1 ha).1
     simp at this; omega
    rw [List.getElem?_take_of_lt hin] at ha
    obtain ⟨u', hu', hr⟩ := hR.vals i a ha
    rw [Array.getElem?_toList, Array.getElem?_extract, if_pos (by omega), Nat.zero_add] at hu
    rw [hoff, Nat.zero_add, hu] at hu'
    cases hu'; exact hr
   ·have hin : i < n := by
     have := (List.getElem?_eq_some_iff.1 hu).1
     simp at this; omega
    rw [Array.getElem?_toList, Array.getElem?_extract, if_pos (by omega), Nat.zero_add] at hu
    exact hu
  obtain ⟨us, hul, hvr, hget⟩ := hcells
  obtain ⟨bs, rfl, hstr⟩ := strBytes_eq hsv hvr
  have hbl : bs.length = n := by rw [← hul]; simp
  obtain ⟨it, hit, hsz⟩ := sizeA_eq hz
  have hco : P.cellsOf T = 1 := by
   unfold Program.cellsOf
   rw [hit]; exact hsz
  have hsh : w.shape? L.blk = some (T, arr.size) := by
   unfold World.shape?
   rw [hH]
  have hlies := Lib.liesAt_bytes (P := P) hco (arr.size / P.cellsOf T) n (by rw [hco]; simp; omega)
  have hload := Lib.run_loadBytes (P := P) w bs ⟨L.blk, L.off + 0, none⟩ .empty (fun j x hx => by
   have := hget j (.int .u8 x.toNat) (by rw [List.getElem?_map, hx]; rfl)
   rw [hoff, Addr.add_eq]
   simp only [World.cell?, hH, Nat.zero_add]
   simpa using this)
  rw [hbl] at hload
  refine hbeg rfl ?_
  have hnb : b ∉ olds := fun hm => by
   have := s.olds b b _ _ L L hb hm hb hL hL rfl
   simp [wrE] at this
  have hkb : (AH.kill olds h).get b = some (.cells row T true fz olds) := by rw [zb5, if_neg hnb]; exact hb
  have hal := (s.kill olds).aloneW hkb hL rfl fun c hc => by rw [zb5]; exact if_pos hc
  have hBlt := (s.locs b L hL).2
  refine ⟨.string ⟨bs.toArray⟩, w.freeze ⟨L.blk, L.off + 0, none⟩ n, ?_, e, ?_, hstr, ?_⟩
  ·simp only []
   rw [if_neg (by omega)]
   show Sem.run P (elemOf pt >>= _) w = _
   have hel : (elemOf pt).run P w = .ok T w := by
    unfold elemOf
    rw [zai hd]; rfl
   rw [zac, hel]
   simp only [Int.toNat_natCast]
   have hva : (variablesAt ⟨L.blk, L.off + 0, none⟩ T n).run P w = .ok true w := by
    unfold variablesAt
    show Sem.run P (match w.shape? L.blk with | some (e, cells) => pure (liesAt P P.depth e (cells / P.cellsOf e) (L.off + 0) T n) | none => pure false) w = _
    rw [hsh]
    simp only [hoff]
    rw [hlies]; rfl
   rw [zac, hva]
   show Sem.run P (loadBytes ⟨L.blk, L.off + 0, none⟩ .empty n >>= _) w = _
   rw [zac, hload]
   show Result.ok _ _ = _
   congr 1
   simp
  ·have hfr : (w.freeze ⟨L.blk, L.off + 0, none⟩ n).heap = w.heap.setIfInBounds L.blk (.cells arr T (if lo == hi then (0, n) else (min lo 0, max hi n))) := by
    unfold World.freeze
    rw [if_neg hn0]
    apply Array.ext_getElem?
    intro i
    simp only [Array.getElem?_modify, Array.getElem?_setIfInBounds]
    by_cases hi' : L.blk = i
    ·subst hi'
     have hg : w.heap[L.blk] = .cells arr T (lo, hi) := by
      rw [Array.getElem?_eq_getElem hBlt] at hH; exact Option.some.inj hH
     simp only [hBlt, if_true, Array.getElem?_eq_getElem, hg, Option.map_some, hoff, Nat.zero_add]
    ·simp [hi']
   rw [hfr]
   refine (s.kill olds).setObj hkb hL hal ?_ (fun c hc => by cases hc) (fun hx => by simp [wrE] at hx)
   have hpair : (if lo == hi then (0, n) else (min lo 0, max hi n)) = ((0, if lo == hi then n else max hi n) : Nat × Nat) := by
    subst hlo
    split <;> simp
   rw [hpair, kill_fm]
   refine .cells _ _ _ _ _ _ _ _ _ _ ⟨hroom, hlen, hR.vals, fun i h1 h2 => ?_, fun _ => ⟨rfl, hoff, rfl, fun hz => ?_⟩⟩
   ·have h1' : fz ≤ i ∧ n ≤ i := by
     have : Nat.max fz n ≤ i := h1
     exact ⟨Nat.le_trans (Nat.le_max_left fz n) this, Nat.le_trans (Nat.le_max_right fz n) this⟩
    have h3 := hR.free fz (Nat.le_refl _) (by omega)
    rw [hoff, hlo] at h3
    rw [hoff]
    have hhf : hi ≤ fz := by omega
    intro ⟨_, h4⟩
    split at h4
    ·omega
    ·have : max hi n ≤ i := Nat.max_le.2 ⟨by omega, h1'.2⟩
     omega
   ·have : n ≤ 0 := by rw [← hz]; exact Nat.le_max_right fz n
    omega
  ·have hst := Step.setObj (s.kill olds) (w := w) (en' := .cells row T true (Nat.max fz n) []) (.cells arr T (if lo == hi then (0, n) else (min lo 0, max hi n))) hkb hL
   have hfw : w.freeze ⟨L.blk, L.off + 0, none⟩ n = { w with heap := w.heap.setIfInBounds L.blk (.cells arr T (if lo == hi then (0, n) else (min lo 0, max hi n))) } := by
    unfold World.freeze
    rw [if_neg hn0]
    congr 1
    apply Array.ext_getElem?
    intro i
    simp only [Array.getElem?_modify, Array.getElem?_setIfInBounds]
    by_cases hi' : L.blk = i
    ·subst hi'
     have hg : w.heap[L.blk] = .cells arr T (lo, hi) := by
      rw [Array.getElem?_eq_getElem hBlt] at hH; exact Option.some.inj hH
     simp only [hBlt, if_true, Array.getElem?_eq_getElem, hg, Option.map_some, hoff, Nat.zero_add]
    ·simp [hi']
   rw [hfw]
   exact (Step.kill (w := w) olds).trans hst
theorem cap_sound {h : AH} (s : Sat e h w.heap) {t ty : TypeId} {ts : Array TypeId} {x v : AV} {u : Value} {h' : AH} (ht : ts[0]? = some t) (hx : VR e x u)
  (hv : (bnd (zga P t) fun _ => (match x with | .snil => some (zde 0, h) | _ => none)) = some (v, h')) : Runs P (Builtin.cap_ ts ty #[u]) w fun u' w' => Out e h w v h' u' w' := by
 rw [zab] at hv
 obtain ⟨⟨el, z⟩, hel, hv⟩ := hv
 cases x <;> try (simp at hv; done)
 cases hv; cases hx
 obtain ⟨htd, _, _⟩ := zed hel
 refine ⟨.int .i64 0, w, ?_, .same s (by rw [zd9]; exact .int _ _)⟩
 unfold Builtin.cap_
 rw [ht]
 show Sem.run P (underlying t >>= _) w = _
 rw [zai htd]
 rfl
end
end
end Go.Xe
end
section
namespace Go.Xe
noncomputable section
section
variable {P : Program} {e : Env} {w : World}
theorem ze6 (b : Nat) (hb : b < 256) : ∀ (n c i : Nat), zd5 b n c i = if Lib.indexByte (zay n c) b.toUInt8 = -1 then -1 else (i : Int) + Lib.indexByte (zay n c) b.toUInt8
 | 0, c, i => by
   show (-1 : Int) = _
   have : zay 0 c = [] := rfl
   rw [this]; rfl
 | n + 1, c, i => by
   show ite' (Nat.beq (c % 256) b) (.ofNat i) (zd5 b n (c / 256) (i + 1)) = _
   rw [za6]
   unfold Lib.indexByte
   have hx : (UInt8.ofNat (c % 256) == b.toUInt8) = Nat.beq (c % 256) b := by
    by_cases h : c % 256 = b
    ·rw [h]
     have : Nat.beq b b = true := (zah _ _).2 rfl
     rw [this]
     have : UInt8.ofNat b = b.toUInt8 := rfl
     rw [this]; simp
    ·have h1 : Nat.beq (c % 256) b = false := by
      cases hh : Nat.beq (c % 256) b
      ·rfl
      ·exact absurd ((zah _ _).1 hh) h
     rw [h1, beq_eq_false_iff_ne]
     intro h2
     have h3 := congrArg UInt8.toNat h2
     simp at h3
     omega
   rw [hx, zaB]
   by_cases h : Nat.beq (c % 256) b = true
   ·rw [if_pos h, if_pos h]
    simp
   ·rw [if_neg h, if_neg h, ze6 b hb n (c / 256) (i + 1)]
    by_cases h2 : Lib.indexByte (zay n (c / 256)) b.toUInt8 = -1
    ·rw [if_pos h2, if_pos (by simp [h2])]
    ·have h3 : (Lib.indexByte (zay n (c / 256)) b.toUInt8 == -1) = false := beq_eq_false_iff_ne.2 h2
     have h4 := Lib.indexByte_ge (zay n (c / 256)) b.toUInt8
     rw [if_neg h2, h3]
     simp only [Bool.false_eq_true, if_false]
     rw [if_neg (by omega)]
     omega
theorem extern_sound {h : AH} (s : Sat e h w.heap) {f : FuncId} {fn : Func} {args : List AV} {us : Array Value} {v : AV} {h' : AH} (hf : P.funcs[f]? = some fn) (hb : fn.body = none) (ha : VRs e args us.toList)
  (hv : externA fn.name fn.origin args h = some (v, h')) : Runs P (callFunc f us) w fun n w' => ∃ u, n = .value u ∧ Out e h w v h' u w' := by
 unfold externA at hv
 rw [zaf, decide_eq_true_eq, zav] at hv
 obtain ⟨ho, hv⟩ := hv
 have hgo : ∀ {x : Array Value → Sem Value} {u : Value}, (fn.name == "runtime.NumGoroutine") = false → Extern.findNext fn = none → Extern.find fn = some x → (x us).run P w = .ok u w → VR e v u → h' = h →
   Runs P (callFunc f us) w fun n w' => ∃ u, n = .value u ∧ Out e h w v h' u w' := fun {x u} h1 h2 h3 h4 h5 h6 => by
  have := run_callFunc_extern hf h1 (by rw [hb]; rfl) h2 h3 us w
  rw [h4] at this
  subst h6
  exact ⟨.value u, w, this, u, rfl, .same s h5⟩
 rcases hv with ⟨hn, hv⟩ | ⟨_, hv⟩
 ·rw [decide_eq_true_eq] at hn
  cases args with
  | nil => cases hv
  | cons x t =>
    have hv' : grd (zaY t) (some (x, h)) = some (v, h') := hv
    rw [zaf, zaD] at hv'
    obtain ⟨rfl, hv'⟩ := hv'
    cases hv'
    obtain ⟨us⟩ := us
    cases ha with
    | cons _ u _ l' hx ht =>
      cases ht
      refine hgo (x := Extern.AbiNoEscape.same) (u := u) ?_ ?_ ?_ rfl hx rfl
      ·rw [hn]; decide
      ·unfold Extern.findNext; rw [hn, ho]; kernel_rfl
      ·unfold Extern.find; rw [hn, ho]; kernel_rfl
 ·rw [zav] at hv
  rcases hv with ⟨hn, hv⟩ | ⟨_, hv⟩
  ·rw [decide_eq_true_eq] at hn
   cases args with
   | nil => cases hv
   | cons x t =>
     cases t with
     | nil => cases hv
     | cons y t =>
       have hv' : grd (zaY t) (strV x fun n c => byteV y fun b => some (zbT .i64 (zd5 b n c 0), h)) = some (v, h') := hv
       rw [zaf, zaD, zex] at hv'
       obtain ⟨rfl, n, c, rfl, hv'⟩ := hv'
       rw [byteV_eq] at hv'
       obtain ⟨b, rfl, hb256, hv'⟩ := hv'
       cases hv'
       obtain ⟨us⟩ := us
       cases ha with
       | cons _ u _ l' hx ht =>
         cases ht with
         | cons _ u2 _ l2 hy ht =>
           cases ht
           cases zbm hx
           cases vr_int hy
           refine hgo (x := Extern.BytealgIndexByte.indexByte) (u := .int .i64 (Lib.indexByte (zae n c).data.toList ((b : Int).toNat.toUInt8))) ?_ ?_ ?_ (Lib.run_indexByteString _ _ _) ?_ rfl
           ·rw [hn]; decide
           ·unfold Extern.findNext; rw [hn, ho]; kernel_rfl
           ·unfold Extern.find; rw [hn, ho]; kernel_rfl
           ·rw [zaZ, ze6 b hb256 n c 0]
            have hl : (zae n c).data.toList = zay n c := rfl
            rw [hl, Int.toNat_natCast]
            split
            ·rename_i h1; rw [h1]; exact .int _ _
            ·simp only [Int.natCast_zero, Int.zero_add]
             exact .int _ _
  ·cases hv
end
end
end Go.Xe
end
