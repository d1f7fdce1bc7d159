/-
  delete and len; What is appended or copied; copy; pick, nilCheck, unsafe.SliceData; append; append; append: the walk's own. Conditions: none.
-/
import Derived.Test.YtppjodfehhlniaaGreatDoorXpToXt
set_option linter.unusedVariables false
set_option linter.unusedSimpArgs false
set_option linter.unusedSectionVars false
section
namespace Go.Xe
noncomputable section
section
variable {P : Program} {e : Env} {w : World}
theorem zqR {h : AH} {k : AV} {es es' : List ME} (hp : zlu h k es = some es') :
  (∃ pre m post, es = pre ++ m :: post ∧ zar h k m.k = some true ∧ es' = pre ++ post) ∨ ((∀ m ∈ es, zar h k m.k = some false) ∧ es' = es) := by
 induction es generalizing es' with
 | nil => cases hp; exact .inr ⟨fun m hm => (by cases hm), rfl⟩
 | cons m es ih =>
   have hp' : bnd (zar h k m.k) (fun q => ite' q (some es) (bnd (zlu h k es) fun t => some (m :: t))) = some es' := hp
   rw [zaa] at hp'
   obtain ⟨q, hq, hp'⟩ := hp'
   cases q with
   | true => cases hp'; exact .inl ⟨[], m, es, rfl, hq, rfl⟩
   | false =>
     have hp2 : bnd (zlu h k es) (fun t => some (m :: t)) = some es' := hp'
     rw [zaa] at hp2
     obtain ⟨t, ht, hp2⟩ := hp2
     cases hp2
     rcases ih ht with ⟨pre, m', post, rfl, he, rfl⟩ | ⟨ha, rfl⟩
     ·exact .inl ⟨m :: pre, m', post, rfl, he, rfl⟩
     ·refine .inr ⟨fun x hx => ?_, rfl⟩
      rcases List.mem_cons.1 hx with rfl | hx
      ·exact hq
      ·exact ha x hx
theorem zg7 {R : MapEntry → MapEntry → Prop} {A B : List MapEntry} {x : MapEntry} (h : (A ++ x :: B).Pairwise R) : (A ++ B).Pairwise R := by
 rw [List.pairwise_append, List.pairwise_cons] at h
 rw [List.pairwise_append]
 exact ⟨h.1, h.2.1.2, fun y hy z hz => h.2.2 y hy z (List.mem_cons_of_mem _ hz)⟩
theorem MapR.out {es pre post a b : List ME} {m : ME} {A B : List MapEntry} {x : MapEntry} {ents ents' : Array MapEntry} {clock : Nat} (h : MapR e es ents clock)
  (he : es = pre ++ m :: post) (hp : (a ++ m :: b).Perm es) (hL : ents.toList = A ++ x :: B) (hL' : ents'.toList = A ++ B) (h1 : MERs e a A) (h3 : MERs e b B) : MapR e (pre ++ post) ents' clock := by
 refine ⟨⟨a ++ b, ?_, ?_⟩, ?_, ?_, ?_⟩
 ·have h4 : (m :: (a ++ b)).Perm (m :: (pre ++ post)) := (List.perm_middle.symm.trans (he ▸ hp)).trans List.perm_middle
  exact (List.perm_cons m).1 h4
 ·rw [hL']; exact h1.append h3
 ·intro y hy
  rw [hL'] at hy
  apply h.born
  rw [hL]
  rcases List.mem_append.1 hy with hy | hy
  ·exact List.mem_append_left _ hy
  ·exact List.mem_append_right _ (List.mem_cons_of_mem _ hy)
 ·have hs := h.stamps
  rw [hL] at hs
  rw [hL']; exact zg7 hs
 ·have hs := h.keys
  rw [hL] at hs
  rw [hL']; exact zg7 hs
theorem zsP {A B : List MapEntry} {x : MapEntry} {ents : Array MapEntry} (h : ents.toList = A ++ x :: B) : (ents.eraseIdxIfInBounds A.length).toList = A ++ B := by
 have hlt : A.length < ents.size := by
  have := congrArg List.length h
  simp at this; omega
 unfold Array.eraseIdxIfInBounds
 rw [dif_pos hlt, Array.toList_eraseIdx, h]
 clear h hlt
 induction A with
 | nil => rfl
 | cons a A ih => rw [List.cons_append, List.length_cons, List.eraseIdx_cons_succ, ih]; rfl
theorem zlV {h : AH} (s : Sat e h w.heap) {t ty : TypeId} {ts : Array TypeId} {m k : AV} {um uk : Value} {h' : AH} (ht : ts[0]? = some t) (hm : VR e m um) (hk : VR e k uk) (hu : zoE P t m k h = some h') :
  Runs P (Builtin.delete_ ts ty #[um, uk]) w fun u' w' => Out e h w (.tup []) h' u' w' := by
 unfold zoE at hu
 rw [zaa] at hu
 obtain ⟨el, hel, hu⟩ := hu
 obtain ⟨key, kd, hd, hkd, hsd, hko⟩ := zkS hel
 obtain ⟨hf, _⟩ := zjN hsd hko hk
 have hbeg : ∀ {Q : Value → World → Prop}, Runs P (do
   match um with
   | .map none => Instr.checkKey true 10000 key uk
   | .map (some r) =>
     let .map es clock ← getObj r | stuck "delete: map expected"
     Instr.checkKey es.isEmpty 10000 key uk
     match ← Instr.findKey key uk es.toList with
     | some (i, _) => setObj r (.map (es.eraseIdxIfInBounds i) clock)
     | none => setObj r (.map es clock)
   | _ => stuck "delete: map expected"
   pure (.tuple #[])) w Q → Runs P (Builtin.delete_ ts ty #[um, uk]) w Q := fun {Q} hr => by
  refine Runs.run_eq ?_ hr
  unfold Builtin.delete_
  rw [ht]
  show Sem.run P (underlying t >>= _) w = _
  rw [zag hd]
  rfl
 cases m <;> try (simp at hu; done)
 case map b =>
  have hu' : bnd (h.map b) (fun p => bnd (zlu h k p.1) fun es => some (h.set b (.map es p.2))) = some h' := hu
  rw [zaa] at hu'
  obtain ⟨es, hes, hu'⟩ := hu'
  rw [zaa] at hu'
  obtain ⟨es', hp, hu'⟩ := hu'
  cases hu'
  obtain ⟨L, hL, rfl⟩ := zh2 hm
  obtain ⟨hg, ents, hH, hR⟩ := s.mapAt hes hL
  refine hbeg ?_
  simp only []
  refine Runs.bind' ⟨_, w, zbI hH, ?_⟩
  simp only []
  refine Runs.bind' ⟨(), w, zcq hkd hf, ?_⟩
  rcases zqR hp with ⟨pre, m', post, hes1, hq, rfl⟩ | ⟨hn, rfl⟩
  ·obtain ⟨a, b', A, x, B, hperm, hLs, h1, h2, h3, hkx, hfn⟩ := zfP s hsd hko hk hR hes1 hq
   refine Runs.bind' ⟨_, w, zbA hkd hfn, ?_⟩
   simp only []
   refine Runs.bind' ⟨_, _, zce hH _, ?_⟩
   have hR' := hR.out hes1 hperm hLs (zsP hLs) h1 h3
   exact Runs.pure' ⟨e, s.setObj hg hL (s.alone hg hL rfl) (.map _ _ _ _ hR') (fun c hc => by cases hc) (fun h => by cases h), .tup _ _ .nil, Step.setObj (w := w) s _ hg hL⟩
  ·obtain ⟨hfn, _⟩ := zfO s hsd hko hk hR hn
   refine Runs.bind' ⟨_, w, zbA hkd hfn, ?_⟩
   simp only []
   refine Runs.bind' ⟨_, _, zce hH _, ?_⟩
   exact Runs.pure' ⟨e, s.setObj hg hL (s.alone hg hL rfl) (.map _ _ _ _ hR) (fun c hc => by cases hc) (fun h => by cases h), .tup _ _ .nil, Step.setObj (w := w) s _ hg hL⟩
 case mnil =>
  cases hm
  have hu' : some h = some h' := hu
  cases hu'
  refine hbeg ?_
  simp only []
  refine Runs.bind' ⟨(), w, zcq hkd hf, ?_⟩
  exact Runs.pure' (.same s (.tup _ _ .nil))
theorem MERs.length {p : List ME} {L : List MapEntry} (h : MERs e p L) : p.length = L.length := by
 induction h with
 | nil => rfl
 | cons _ _ _ _ _ _ ih => exact congrArg Nat.succ ih
theorem zqS {h : AH} (s : Sat e h w.heap) {t ty : TypeId} {ts : Array TypeId} {d : TypeDesc} {x : AV} {ux : Value} {n : Nat} (ht : ts[0]? = some t) (hd : P.underlying t = some d) (hx : VR e x ux) (hv : lenD x h d = some n) :
  (Builtin.len_ ts ty #[ux]).run P w = .ok (goInt n) w := by
 unfold Builtin.len_
 rw [ht]
 show Sem.run P (underlying t >>= _) w = _
 rw [zag hd]
 cases d <;> try (simp [lenD] at hv; done)
 case string =>
  have hv' : strV x (fun n _ => some n) = some n := hv
  rw [zfi] at hv'
  obtain ⟨m, c, rfl, hv'⟩ := hv'
  cases hv'
  cases zbX hx
  show Result.ok (goInt (zad n c).size) w = _
  rw [zaM]
 case array m el =>
  have hv' : some m = some n := hv
  cases hv'
  rfl
 case slice el =>
  cases x <;> try (simp [lenD] at hv; done)
  case sl b o l z =>
   have hv' : some l = some n := hv
   cases hv'
   cases hx
   rfl
  case sle =>
   have hv' : some 0 = some n := hv
   cases hv'
   cases hx
   rfl
  case snil =>
   have hv' : some 0 = some n := hv
   cases hv'
   cases hx
   rfl
 case map key el =>
  have hv' : bnd (zee x h) (fun es => some (len es)) = some n := hv
  rw [zaa] at hv'
  obtain ⟨es, hes, hv'⟩ := hv'
  cases hv'
  rw [zaU]
  cases x <;> try (simp [zee] at hes; done)
  case map b =>
   obtain ⟨L, hL, rfl⟩ := zh2 hx
   have hes' : bnd (h.map b) (fun p => some p.1) = some es := hes
   rw [zaa] at hes'
   obtain ⟨q, hq, hes'⟩ := hes'
   cases hes'
   obtain ⟨hg, ents, hH, hR⟩ := s.mapAt hq hL
   obtain ⟨p, hp, hr⟩ := hR.perm
   have hlen : ents.size = q.1.length := by
    have := hr.length
    rw [hp.length_eq] at this
    simpa using this.symm
   show Sem.run P (getObj L.blk >>= _) w = _
   rw [zab, zbI hH]
   show Result.ok (goInt ents.size) w = _
   rw [hlen]
  case mnil =>
   cases hx
   cases hes
   rfl
theorem zqT {h : AH} (s : Sat e h w.heap) {t ty : TypeId} {ts : Array TypeId} {d : TypeDesc} {x : AV} {ux : Value} {n : Nat} (ht : ts[0]? = some t) (hd : P.underlying t = some d) (hx : VR e x ux) (hv : lenD x h d = some n) :
  Runs P (Builtin.len_ ts ty #[ux]) w fun u' w' => Out e h w (zdI n) h u' w' := by
 have hn : zdI n = .int .i64 (n : Int) := by unfold zdI; rw [zaL]; rfl
 rw [hn]
 exact ⟨_, w, zqS s ht hd hx hv, .same s (.int _ _)⟩
theorem zlW {mx : Bool} {y : AV} {l : List AV} {x v : AV} (h : ze3 mx (y :: l) x = some v) : ∃ k a k' b, x = .int k a ∧ y = .int k' b ∧ ze3 mx l (.int k (if (if mx then a < b else b < a) then b else a)) = some v := by
 cases x <;> try (simp [ze3] at h; done)
 rename_i k a
 have h' : intV y (fun b => ze3 mx l (zca k (ite' (ite' mx (zlr a b) (zlr b a)) b a))) = some v := h
 rw [zgz] at h'
 obtain ⟨k', b, rfl, h'⟩ := h'
 rw [za6] at h'
 refine ⟨k, a, k', b, rfl, rfl, ?_⟩
 rw [zaK, zaK, zdv, zdv] at h'
 cases mx <;> simpa using h'
theorem zqU {l : List AV} {x v : AV} {u : Value} {us : List Value} (hx : VR e x u) (hl : VRs e l us) (h : ze3 false l x = some v) : ∃ u', (us.foldlM Builtin.min2 u).run P w = .ok u' w ∧ VR e v u' := by
 induction l generalizing x u us with
 | nil => cases hl; cases h; exact ⟨u, rfl, hx⟩
 | cons y l ih =>
   cases hl with
   | cons _ uy _ us hy hl =>
     obtain ⟨k, a, k', b, rfl, rfl, h'⟩ := zlW h
     cases zbd hx
     cases zbd hy
     have : (if (if false = true then a < b else b < a) then b else a) = (if b < a then b else a) := by simp
     rw [this] at h'
     obtain ⟨u', hr, hv⟩ := ih (.int _ _) hl h'
     exact ⟨u', hr, hv⟩
theorem zqV {l : List AV} {x v : AV} {u : Value} {us : List Value} (hx : VR e x u) (hl : VRs e l us) (h : ze3 true l x = some v) : ∃ u', (us.foldlM Builtin.max2 u).run P w = .ok u' w ∧ VR e v u' := by
 induction l generalizing x u us with
 | nil => cases hl; cases h; exact ⟨u, rfl, hx⟩
 | cons y l ih =>
   cases hl with
   | cons _ uy _ us hy hl =>
     obtain ⟨k, a, k', b, rfl, rfl, h'⟩ := zlW h
     cases zbd hx
     cases zbd hy
     have : (if (if true = true then a < b else b < a) then b else a) = (if b > a then b else a) := by simp
     rw [this] at h'
     obtain ⟨u', hr, hv⟩ := ih (.int _ _) hl h'
     exact ⟨u', hr, hv⟩
end
end
end Go.Xe
end
section
namespace Go.Xe
noncomputable section
section
variable {P : Program} {e : Env} {w : World}
theorem zik {h : AH} (s : Sat e h w.heap) {z n : Nat} {x : AV} {cs : List AV} {u : Value} (hx : VR e x u) (hs : zeI z x h = some (n, cs)) :
  (Builtin.lenOf u).run P w = .ok n w ∧ cs.length = n * z ∧ ∀ m, m ≤ n → ∃ us : Array Value, (Builtin.firstCells z m u).run P w = .ok us w ∧ VRs e (cs.take (m * z)) us.toList := by
 cases x <;> try (simp [zeI] at hs; done)
 case str k c =>
  have hs' : grd (Nat.beq z 1) (some (k, zb0 k c)) = some (n, cs) := hs
  rw [zac, zae] at hs'
  obtain ⟨rfl, hs'⟩ := hs'
  cases hs'
  cases zbX hx
  refine ⟨?_, by rw [zeq]; omega, fun m hm => ⟨((zad n c).extract 0 m).data.map fun b => Value.int .u8 b.toNat, rfl, ?_⟩⟩
  ·show Result.ok (zad n c).size w = _
   rw [zaM]
  ·rw [Nat.mul_one]
   have h1 := (zg3 e n c).take m
   rw [← List.map_take, zh7 n c m hm] at h1
   rw [zep n c 0 m (Nat.zero_le _) hm]
   have : (zad (m - 0) (c / 256 ^ 0 % 256 ^ (m - 0))).data = (zaC m c).toArray := by
    show (zaC (m - 0) (c / 256 ^ 0 % 256 ^ (m - 0))).toArray = _
    rw [Nat.sub_zero, Nat.pow_zero, Nat.div_one, zeP]
   rw [this]
   simpa using h1
 case sl b o l z' =>
  have hs' : grd (Nat.beq z z') (bnd (zbo h b o (Nat.mul l z)) fun cs => some (l, cs)) = some (n, cs) := hs
  rw [zac, zae, zaa] at hs'
  obtain ⟨rfl, cs', hr, hs'⟩ := hs'
  cases hs'
  obtain ⟨L, c, hL, h0, hext, hlc, rfl⟩ := zlE hx
  have hr' := hr
  unfold zbo at hr'
  rw [zaa] at hr'
  obtain ⟨row, hrow, hcut⟩ := hr'
  rw [zhW] at hcut
  by_cases hlen : o + Nat.mul n z ≤ row.length
  ·rw [if_pos hlen] at hcut
   cases hcut
   have hlen' : o + n * z ≤ row.length := hlen
   refine ⟨rfl, ?_, fun m hm => ?_⟩
   ·simp only [List.length_take, List.length_drop]
    show min (n * z) (row.length - o) = n * z
    omega
   ·have hmz : m * z ≤ n * z := Nat.mul_le_mul_right z hm
    have hread : zbo h b o (m * z) = some ((row.drop o).take (m * z)) := by
     unfold zbo
     rw [hrow]
     show cut row o (m * z) = _
     rw [zhW, if_pos (by omega)]
    obtain ⟨us, hus, hvr⟩ := zbz (P := P) s hL hread
    refine ⟨us, hus, ?_⟩
    rw [List.take_take]
    have : min (m * z) (Nat.mul n z) = m * z := Nat.min_eq_left hmz
    rw [this]; exact hvr
  ·rw [if_neg hlen] at hcut; cases hcut
 case sle =>
  have hs' : some (0, ([] : List AV)) = some (n, cs) := hs
  cases hs'
  cases hx with
  | sle a c =>
    refine ⟨rfl, by simp, fun m hm => ?_⟩
    obtain rfl : m = 0 := by omega
    refine ⟨#[], ?_, by simp; exact .nil⟩
    show (loadCells a (0 * z)).run P w = _
    rw [Nat.zero_mul]; rfl
 case snil =>
  have hs' : some (0, ([] : List AV)) = some (n, cs) := hs
  cases hs'
  cases hx
  exact ⟨rfl, by simp, fun m hm => ⟨#[], rfl, by simp; exact .nil⟩⟩
theorem zpE {h : AH} (s : Sat e h w.heap) {t ty : TypeId} {ts : Array TypeId} {d x v : AV} {ud ux : Value} {h' : AH} (ht : ts[0]? = some t) (hd : VR e d ud) (hx : VR e x ux) (hu : zsz P t d x h = some (v, h')) :
  Runs P (Builtin.copy_ ts ty #[ud, ux]) w fun u' w' => Out e h w v h' u' w' := by
 unfold zsz at hu
 rw [zaa] at hu
 obtain ⟨⟨el, z⟩, hel, hu⟩ := hu
 rw [zaa] at hu
 obtain ⟨⟨n, cs⟩, hs, hu⟩ := hu
 obtain ⟨htd, hsz, hz0⟩ := zeS hel
 obtain ⟨hlen, hcl, hfirst⟩ := zik (P := P) s hx hs
 simp only at hu
 have hbeg : ∀ {Q : Value → World → Prop} {base : Option Addr} {dl dc : Nat}, ud = .slice base dl dc → Runs P (do
   let cells ← Builtin.firstCells z (Nat.min n dl) ux
   if let some a := base then storeCells a cells.toList
   pure (goInt (Nat.min n dl : Nat))) w Q → Runs P (Builtin.copy_ ts ty #[ud, ux]) w Q := fun {Q base dl dc} hud hr => by
  refine Runs.run_eq ?_ hr
  subst hud
  unfold Builtin.copy_
  rw [ht]
  show Sem.run P (underlying t >>= _) w = _
  rw [zag htd]
  show Sem.run P (Builtin.lenOf ux >>= _) w = _
  rw [zab, hlen]
  show Sem.run P (sizeOf el >>= _) w = _
  rw [zab, zbx hsz]
  rfl
 cases d <;> try (simp at hu; done)
 case sl b o l z' =>
  have hu' : grd (Nat.beq z' z) (bnd (tak cs (Nat.mul (Nat.min n l) z')) fun cs => bnd (zbe h b o cs) fun h => some (zdI (Nat.min n l), h)) = some (v, h') := hu
  rw [zac, zae, zaa] at hu'
  obtain ⟨rfl, cs', htk, hu'⟩ := hu'
  rw [zaa] at hu'
  obtain ⟨h2, hw, hu'⟩ := hu'
  cases hu'
  obtain ⟨L, c, hL, _, _, _, rfl⟩ := zlE hd
  refine hbeg rfl ?_
  obtain ⟨us, hus, hvr⟩ := hfirst (Nat.min n l) (Nat.min_le_left _ _)
  have htk' : cs' = cs.take (Nat.min n l * z') := by
   rw [zjD] at htk
   split at htk
   ·exact (Option.some.inj htk).symm
   ·cases htk
  rw [← htk'] at hvr
  refine Runs.bind' ⟨us, w, hus, ?_⟩
  obtain ⟨w', hst, hs', hstep⟩ := zcw (P := P) s hL hvr hw
  simp only []
  refine Runs.bind' ⟨(), w', hst, ?_⟩
  rw [zeO]
  exact Runs.pure' ⟨e, hs', .int _ _, hstep⟩
 case sle =>
  have hu' : some (zdI 0, h) = some (v, h') := hu
  cases hu'
  cases hd with
  | sle a c =>
    refine hbeg rfl ?_
    obtain ⟨us, hus, hvr⟩ := hfirst (Nat.min n 0) (Nat.min_le_left _ _)
    refine Runs.bind' ⟨us, w, hus, ?_⟩
    have hm : Nat.min n 0 = 0 := Nat.min_zero n
    rw [hm, Nat.zero_mul] at hvr
    have : us.toList = [] := by
     have h0 := hvr.length
     simp at h0
     exact List.eq_nil_of_length_eq_zero (by rw [Array.length_toList]; exact h0.symm)
    simp only [this]
    rw [hm]
    refine Runs.bind' ⟨(), w, rfl, ?_⟩
    rw [zeO]
    exact Runs.pure' (.same s (.int _ _))
 case snil =>
  have hu' : some (zdI 0, h) = some (v, h') := hu
  cases hu'
  cases hd
  refine hbeg rfl ?_
  obtain ⟨us, hus, hvr⟩ := hfirst (Nat.min n 0) (Nat.min_le_left _ _)
  refine Runs.bind' ⟨us, w, hus, ?_⟩
  have hm : Nat.min n 0 = 0 := Nat.min_zero n
  rw [hm]
  simp only []
  rw [zeO]
  exact Runs.pure' (.same s (.int _ _))
end
end
end Go.Xe
end
section
namespace Go.Xe
noncomputable section
section
variable {P : Program} {e : Env} {w : World}
theorem zjP {c a b v : AV} {uc ua ub : Value} (hc : VR e c uc) (ha : VR e a ua) (hb : VR e b ub) (hv : zul c a b = some v) :
  Runs P (do pure (Next.value (if ← asBool uc then ua else ub)) : Sem Next) w fun n w' => ∃ u, n = .value u ∧ VR e v u ∧ w' = w := by
 cases c <;> try (simp [zul] at hv; done)
 case bool q =>
  cases zdN hc
  have hv' : some (ite' q a b) = some v := hv
  cases hv'
  rw [zaK]
  refine ⟨.value (if q then ua else ub), w, rfl, _, rfl, ?_, rfl⟩
  cases q with
  | true => exact ha
  | false => exact hb
def zqW (u : Value) : Sem Next := match u with
 | .pointer none | .nilIface | .nilFunc => runtimePanic .nilDeref
 | .func (.method name) first captured =>
   match (first[0]? : Option Value) with
   | some .nilIface => runtimePanic .nilDeref
   | some (.iface t w) => do
     if (← nilAhead ((← program).types.size + Made.depth) t w name) != some false then
      unsupported (.noEntry "op/nilCheck.the method's receiver behind this interface value is a nil pointer, or cannot be seen to be none, and the arguments act or may panic (ledger 612)")
     pure (.value (.func (.method name) first captured))
   | _ => pure (.value (.func (.method name) first captured))
 | x => pure (.value x)
theorem ze5 {a v : AV} {u : Value} (ha : VR e a u) (hv : zfF a = some v) :
  Runs P (zqW u) w fun n w' => n = .value u ∧ VR e v u ∧ w' = w := by
 cases ha <;> try (simp [zfF] at hv; done)
 case func f f' x y x' y' hf hx hy =>
  have hm : (∀ name, f ≠ .method name) ∧ v = .func f x y := by
   cases f <;> first | (exact ⟨(fun _ h => by cases h), (Option.some.inj hv).symm⟩) | (simp [zfF] at hv)
  obtain ⟨hm, rfl⟩ := hm
  have hm' : ∀ name, f' ≠ .method name := fun name h => by
   cases hf with
   | same => exact hm name h
   | yield => cases h
  refine ⟨.value (.func f' x' y'), w, ?_, rfl, .func _ _ _ _ _ _ hf hx hy, rfl⟩
  cases f' <;> first | rfl | (exact absurd rfl (hm' _))
 all_goals
  cases hv
  refine ⟨_, w, rfl, rfl, ?_, rfl⟩
  first
   | exact .bool _
   | exact .int _ _
   | exact .str _ _
   | exact .gptr _
   | exact .snil
   | exact .mnil
   | exact .sle _ _
   | (constructor <;> assumption)
theorem zil {h : AH} (s : Sat e h w.heap) {ts : Array TypeId} {ty : TypeId} {x v : AV} {u : Value} {h' : AH} (hx : VR e x u) (hv : zeJ x h = some (v, h')) :
  Runs P (Builtin.unsafeSliceData_ ts ty #[u]) w fun u' w' => Out e h w v h' u' w' := by
 cases x <;> try (simp [zeJ] at hv; done)
 case snil =>
  cases hv; cases hx
  exact ⟨_, w, rfl, .same s .pnil⟩
 case sl b o n z =>
  have hv' : bnd (h.cells b) (fun l => grd (Nat.blt o (len l)) (some (AV.ptr b o, h))) = some (v, h') := hv
  rw [zaa] at hv'
  obtain ⟨l, hl, hv'⟩ := hv'
  rw [zac, zau, zaU] at hv'
  obtain ⟨hol, hv'⟩ := hv'
  cases hv'
  obtain ⟨L, c, hL, h0, hext, hlc, rfl⟩ := zlE hx
  obtain ⟨tyr, wr, fz, olds, hb⟩ := zeM hl
  obtain ⟨arr, T, lo, hi, hH, hR⟩ := s.row hb hL
  have hc : c ≠ 0 := fun h => by
   subst h
   have := hR.len
   omega
  refine ⟨.pointer (some ⟨L.blk, L.off + o, none⟩), w, ?_, .same s (.ptr b o L hL)⟩
  unfold Builtin.unsafeSliceData_
  show Sem.run P (if c ≠ 0 then pure (Value.pointer (some ⟨L.blk, L.off + o, none⟩)) else _) w = _
  rw [if_pos hc]; rfl
end
end
end Go.Xe
end
section
namespace Go.Xe
noncomputable section
theorem Sat.unwr {e : Env} {h : AH} {H : Array Obj} (s : Sat e h H) {b : Nat} {l : List AV} {ty fz : Nat} {wr : Bool} {olds : List Nat} (hb : h.get b = some (.cells l ty wr fz olds)) :
  Sat e (h.set b (.cells l ty false fz olds)) H := by
 have g : ∀ c en, (h.set b (.cells l ty false fz olds)).get c = some en → ∃ en0, h.get c = some en0 ∧ zbq en0 = zbq en ∧ lenE en0 = lenE en ∧ (wrE en0 = false → wrE en = false) ∧
   (∀ l o, EntR e h.fm en0 l o → EntR e h.fm en l o) ∧ famE en0 = famE en := fun c en hc => by
  rw [AH.get_set] at hc
  by_cases hcb : c = b
  ·subst hcb
   rw [if_pos rfl] at hc; cases hc
   refine ⟨_, hb, rfl, rfl, fun _ => rfl, fun l o hr => ?_, rfl⟩
   cases hr with
   | cells _ _ _ _ _ _ arr T lo hi hr => exact .cells _ _ _ _ _ _ arr T lo hi hr
  ·rw [if_neg hcb] at hc
   exact ⟨en, hc, rfl, rfl, id, fun _ _ h => h, rfl⟩
 refine ⟨fun c en hc => ?_, s.locs, s.nums, s.numI, s.stps, s.keys, s.vals, fun c d en en' l1 l2 hc hd => ?_, fun c d en en' l1 l2 hc hd hd' => ?_, fun c d en hc hd => ?_, s.fam,
  fun c d en en' l1 l2 hc hd hd' => ?_, fun c en hc => ?_, s.room, s.glob.less fun X ⟨c, en, l2, hc, hl2, hX⟩ => (by obtain ⟨en0, h0, _⟩ := g c en hc; exact ⟨c, en0, l2, h0, hl2, hX⟩)⟩
 ·obtain ⟨en0, h0, _, _, _, hr, _⟩ := g c en hc
  obtain ⟨l1, o, hl, ho, hr1⟩ := s.ents c en0 h0
  exact ⟨l1, o, hl, ho, hr _ _ hr1⟩
 ·obtain ⟨en0, h0, q1, _⟩ := g c en hc
  obtain ⟨en1, h1, q2, _⟩ := g d en' hd
  rw [← q1, ← q2]
  exact s.sep c d en0 en1 l1 l2 h0 h1
 ·obtain ⟨en0, h0, q1, _⟩ := g c en hc
  obtain ⟨en1, h1, _, _, q2, _⟩ := g d en' hd'
  rw [← q1] at hd
  exact fun a1 a2 a3 => q2 (s.olds c d en0 en1 l1 l2 h0 hd h1 a1 a2 a3)
 ·obtain ⟨en0, h0, q1, _⟩ := g c en hc
  rw [← q1] at hd
  exact s.oldsLt c d en0 h0 hd
 ·obtain ⟨en0, h0, q1, q2, _⟩ := g c en hc
  obtain ⟨en1, h1, _, q3, _⟩ := g d en' hd'
  rw [← q1] at hd
  rw [← q2, ← q3]
  exact s.ends c d en0 en1 l1 l2 h0 hd h1
 ·obtain ⟨en0, h0, _, _, _, _, q⟩ := g c en hc
  rw [← q]; exact s.its c en0 h0
theorem Sat.addOver {e : Env} {h h0 : AH} {w w' : World} (s : Sat e h w.heap) (st : Step e h0 w e h w) (g0 : GOk e h0 w.heap) {en : Ent} {L : Loc} {o : Obj}
  (hB : w'.heap[L.blk]? = some o) (hsz : w.heap.size ≤ w'.heap.size) (hkeep : ∀ X, X < w.heap.size → X ≠ L.blk → w'.heap[X]? = w.heap[X]?)
  (hr : EntR (e.at_ h.next L) h.fm en L o)
  (hold : ∀ c en' l', h.get c = some en' → e.loc c = some l' → l'.blk = L.blk → c ∈ zbq en ∧ l'.off + lenE en' ≤ L.off + lenE en ∧ EntR e h.fm en' l' o)
  (hwr : ∀ c en' l', c ∈ zbq en → h.get c = some en' → e.loc c = some l' → l'.blk = L.blk → wrE en' = false) (hlt : ∀ c, c ∈ zbq en → c < h.next)
  (hown : L.blk < w.heap.size → Own e h0 L.blk) (hos : w'.os = w.os) (htp : w'.tape = w.tape) (hou : w'.output = w.output) (hf : famE en = 0 := by rfl) :
  Sat (e.at_ h.next L) (h.add en) w'.heap ∧ Step e h0 w (e.at_ h.next L) (h.add en) w' := by
 have hle : e.le (e.at_ h.next L) := Env.at_le s.fresh
 have hne : ∀ b l, e.loc b = some l → b ≠ h.next := fun b l hb he => Nat.lt_irrefl _ (he ▸ (s.locs b l hb).1)
 have hBlt : L.blk < w'.heap.size := by
  rcases Nat.lt_or_ge L.blk w'.heap.size with h | h
  ·exact h
  ·rw [Array.getElem?_eq_none h] at hB; cases hB
 have loc' : ∀ b l, (e.at_ h.next L).loc b = some l → (b = h.next ∧ l = L) ∨ (b ≠ h.next ∧ e.loc b = some l) := fun b l hb => by
  by_cases hbn : b = h.next
  ·subst hbn; rw [Env.at_self] at hb; cases hb; exact .inl ⟨rfl, rfl⟩
  ·rw [Env.at_ne _ hbn] at hb; exact .inr ⟨hbn, hb⟩
 have get' : ∀ b en', (h.add en).get b = some en' → (b = h.next ∧ en' = en) ∨ (b ≠ h.next ∧ h.get b = some en') := fun b en' hb => by
  rw [AH.get_add] at hb
  by_cases hbn : b = h.next
  ·rw [if_pos hbn] at hb; cases hb; exact .inl ⟨hbn, rfl⟩
  ·rw [if_neg hbn] at hb; exact .inr ⟨hbn, hb⟩
 constructor
 ·constructor
  ·intro b en' hb
   rcases get' b en' hb with ⟨rfl, rfl⟩ | ⟨hbn, hb⟩
   ·exact ⟨L, o, Env.at_self _ _ _, hB, hr⟩
   ·obtain ⟨l, o', hl, ho', hr'⟩ := s.ents b en' hb
    refine ⟨l, if l.blk = L.blk then o else o', (Env.at_ne _ hbn).trans hl, ?_, ?_⟩
    ·by_cases hx : l.blk = L.blk
     ·rw [if_pos hx, hx]; exact hB
     ·rw [if_neg hx, hkeep _ (s.locs b l hl).2 hx]; exact ho'
    ·by_cases hx : l.blk = L.blk
     ·rw [if_pos hx]; exact (hold b en' l hb hl hx).2.2.mono hle rfl rfl
     ·rw [if_neg hx]; exact hr'.mono hle rfl rfl
  ·intro b l hb
   rcases loc' b l hb with ⟨rfl, rfl⟩ | ⟨_, hb⟩
   ·exact ⟨Nat.lt_succ_self _, hBlt⟩
   ·have := s.locs b l hb
    exact ⟨Nat.lt_succ_of_lt this.1, Nat.lt_of_lt_of_le this.2 hsz⟩
  ·exact fun g j v hv => Nat.lt_succ_of_lt (s.nums g j v hv)
  ·exact s.numI
  ·exact fun i v hv => Nat.lt_succ_of_lt (s.stps i v hv)
  ·exact fun i v hv => Nat.lt_succ_of_lt (s.keys i v hv)
  ·exact fun i v hv => Nat.lt_succ_of_lt (s.vals i v hv)
  ·intro b c en1 en2 l l' hb hc hl hl' hbc hblk
   rcases get' b en1 hb with ⟨rfl, h1⟩ | ⟨hbn, hb1⟩
   ·rcases get' c en2 hc with ⟨rfl, _⟩ | ⟨hcn, hc1⟩
    ·exact absurd rfl hbc
    ·rw [Env.at_self] at hl; cases hl
     rw [Env.at_ne _ hcn] at hl'
     exact .inl (h1 ▸ (hold c en2 l' hc1 hl' hblk.symm).1)
   ·rw [Env.at_ne _ hbn] at hl
    rcases get' c en2 hc with ⟨rfl, h2⟩ | ⟨hcn, hc1⟩
    ·rw [Env.at_self] at hl'; cases hl'
     exact .inr (h2 ▸ (hold b en1 l hb1 hl hblk).1)
    ·rw [Env.at_ne _ hcn] at hl'
     exact s.sep b c en1 en2 l l' hb1 hc1 hl hl' hbc hblk
  ·intro b c en1 en2 l l' hb hc hc2 hl hl' hblk
   have hcn : c ≠ h.next := fun hx => by
    subst hx
    rcases get' b en1 hb with ⟨rfl, h1⟩ | ⟨_, hb1⟩
    ·exact Nat.lt_irrefl _ (hlt _ (h1 ▸ hc))
    ·exact Nat.lt_irrefl _ (s.oldsLt b _ en1 hb1 hc)
   rcases get' c en2 hc2 with ⟨hx, _⟩ | ⟨_, hc3⟩
   ·exact absurd hx hcn
   ·rcases get' b en1 hb with ⟨rfl, h1⟩ | ⟨_, hb1⟩
    ·rw [Env.at_self] at hl; cases hl
     rw [Env.at_ne _ hcn] at hl'
     exact hwr c en2 l' (h1 ▸ hc) hc3 hl' hblk.symm
    ·rw [Env.at_ne _ hcn] at hl'
     by_cases hbn : b = h.next
     ·subst hbn
      exact absurd (s.get_lt hb1) (Nat.lt_irrefl _)
     ·rw [Env.at_ne _ hbn] at hl
      exact s.olds b c en1 en2 l l' hb1 hc hc3 hl hl' hblk
  ·intro b c en1 hb hc
   rcases get' b en1 hb with ⟨rfl, h1⟩ | ⟨_, hb1⟩
   ·exact Nat.lt_succ_of_lt (hlt c (h1 ▸ hc))
   ·exact Nat.lt_succ_of_lt (s.oldsLt b c en1 hb1 hc)
  ·exact s.fam.mono hle rfl
  ·intro b c en1 en2 l l' hb hc hc2 hl hl' hblk
   have hcn : c ≠ h.next := fun hx => by
    subst hx
    rcases get' b en1 hb with ⟨rfl, h1⟩ | ⟨_, hb1⟩
    ·exact Nat.lt_irrefl _ (hlt _ (h1 ▸ hc))
    ·exact Nat.lt_irrefl _ (s.oldsLt b _ en1 hb1 hc)
   rcases get' c en2 hc2 with ⟨hx, _⟩ | ⟨_, hc3⟩
   ·exact absurd hx hcn
   ·rw [Env.at_ne _ hcn] at hl'
    rcases get' b en1 hb with ⟨rfl, h1⟩ | ⟨hbn, hb1⟩
    ·rw [Env.at_self] at hl; cases hl
     exact h1 ▸ (hold c en2 l' hc3 hl' hblk.symm).2.1
    ·rw [Env.at_ne _ hbn] at hl
     exact s.ends b c en1 en2 l l' hb1 hc hc3 hl hl' hblk
  ·intro b en1 hb
   rcases get' b en1 hb with ⟨_, h1⟩ | ⟨_, hb1⟩
   ·rw [h1]; exact .inl hf
   ·exact s.its b en1 hb1
  ·exact Nat.le_succ_of_le s.room
  ·refine g0.of fun X hX hO => ⟨?_, fun ⟨b, en', l, hb, hl, hX'⟩ => ?_⟩
   ·exact hkeep X hX fun hx => hO (hx ▸ hown (hx ▸ hX))
   ·rcases loc' b l hl with ⟨rfl, rfl⟩ | ⟨hbn, hl⟩
    ·exact hO (hX' ▸ hown (hX' ▸ hX))
    ·rcases get' b en' hb with ⟨hx, _⟩ | ⟨_, hb⟩
     ·exact hbn hx
     ·exact (st.keep X hX hO).2 ⟨b, en', l, hb, hl, hX'⟩
 ·refine ⟨hle, Nat.le_succ_of_le st.nxt, hsz, fun X hX hO => ⟨?_, fun ⟨b, en', l, hb, hl, hX'⟩ => ?_⟩, hos, htp, hou, fun b l hb => (loc' b l hb).elim (fun h => .inr (h.1 ▸ st.nxt)) fun h => .inl h.2, fun b hb hg => (AH.get_add h en b).trans ((if_neg (Nat.ne_of_lt (Nat.lt_of_lt_of_le hb st.nxt))).trans (st.gone b hb hg))⟩
  ·exact hkeep X hX fun hx => hO (hx ▸ hown (hx ▸ hX))
  ·rcases loc' b l hl with ⟨rfl, rfl⟩ | ⟨hbn, hl⟩
   ·exact hO (hX' ▸ hown (hX' ▸ hX))
   ·rcases get' b en' hb with ⟨hx, _⟩ | ⟨_, hb⟩
    ·exact hbn hx
    ·exact (st.keep X hX hO).2 ⟨b, en', l, hb, hl, hX'⟩
theorem Step.unwr {e : Env} {h : AH} {w : World} {b : Nat} {en en' : Ent} (hb : h.get b = some en) : Step e h w e (h.set b en') w := by
 refine ⟨.refl e, Nat.le_refl _, Nat.le_refl _, fun X hX hO => ⟨rfl, fun ⟨c, en2, l2, hc, hl2, hX2⟩ => ?_⟩, rfl, rfl, rfl, fun _ _ h => .inl h, fun c _ hg => (AH.get_set h b en' c).trans ((if_neg fun hx => by rw [hx, hb] at hg; cases hg).trans hg)⟩
 rw [AH.get_set] at hc
 by_cases hcb : c = b
 ·subst hcb; exact hO ⟨c, en, l2, hb, hl2, hX2⟩
 ·rw [if_neg hcb] at hc; exact hO ⟨c, en2, l2, hc, hl2, hX2⟩
end
end Go.Xe
end
section
namespace Go.Xe
noncomputable section
section
variable {P : Program} {e : Env} {w : World}
def appended (el z n : Nat) (zr : Bool) (ux : Value) : Sem (Array Value) :=
 if !zr then Builtin.firstCells z n ux
 else if n * z = 0 then pure #[]
 else do pure (Builtin.zeroCells (← zeroValue el).cells n)
def zcZ (el z n sLen sCap : Nat) (zr : Bool) (base : Option Addr) (us ux : Value) : Sem Value := do
 let need := sLen + n
 if need ≤ sCap then
  let new ← appended el z n zr ux
  if let some a := base then storeCells (a.add (sLen * z)) new.toList
  pure (.slice base need sCap)
 else
  if (need : Int) > IntKind.i64.max ∧ (zr ∨ (← typeInfo el).bytes = 0) then runtimePanic (.error "growslice: len out of range")
  if Builtin.nextslicecap need sCap * (← typeInfo el).bytes > 2 ^ 48 then (if zr then runtimePanic (.error "growslice: len out of range") else do
   if !(← Builtin.mayShare z sLen n base ux) then mark .noRoom
   unsupported (.resourceLimit "append: a slice or a string whose bytes no memory bears"))
  let newCap ← choose (.appendCap need sCap el)
  askRoom (newCap * (← typeInfo el).bytes)
  let old ← Builtin.firstCells z sLen us
  let new ← appended el z n zr ux
  let rest := Builtin.zeroCells (← zeroValue el).cells (newCap - need)
  pure (.slice (some (← newRow el (old ++ new ++ rest))) need newCap)
def zqX (P : Program) (el n : Nat) (zr : Bool) (ux : Value) (w : World) : Prop :=
 (zr = false ∧ (Builtin.lenOf ux).run P w = .ok n w) ∨ (zr = true ∧ ∃ kd i, ux = .int kd (n : Int) ∧ n ≤ 100000 ∧ P.info? el = some i ∧ i.bytes * n ≤ 140737488355328)
theorem zpF {ts : Array TypeId} {t ty el z n : Nat} {zr : Bool} {base : Option Addr} {sLen sCap : Nat} {ux : Value} (ht : ts[0]? = some t) (htd : P.underlying t = some (.slice el)) (hsz : zaX P el = some z)
  (hz : zoG P (nth ts.toList 1) = some zr) (hn : zqX P el n zr ux w) :
  (Builtin.append_ ts ty #[.slice base sLen sCap, ux]).run P w = (zcZ el z n sLen sCap zr base (.slice base sLen sCap) ux).run P w := by
 unfold Builtin.append_
 rw [ht]
 show Sem.run P (underlying t >>= _) w = _
 rw [zag htd]
 show Sem.run P (sizeOf el >>= _) w = _
 rw [zab, zbx hsz]
 simp only []
 rw [zbf, Array.getElem?_toList] at hz
 have hlen : zr = false → ∀ (k : Bool → Nat → Sem Value), Sem.run P (do let n ← Builtin.lenOf ux; k false n) w = Sem.run P (k zr n) w := fun hf k => by
  subst hf
  rcases hn with ⟨_, hn⟩ | ⟨hx, _⟩
  ·show Sem.run P (Builtin.lenOf ux >>= _) w = _
   rw [zab, hn]
  ·cases hx
 cases h1 : ts[1]? with
 | none =>
   rw [h1] at hz
   have hz' : some false = some zr := hz
   cases hz'
   exact hlen rfl fun zr n => zcZ el z n sLen sCap zr base (.slice base sLen sCap) ux
 | some t' =>
   rw [h1] at hz
   have hz' : bnd (P.underlying t') (fun d => some (Option.isSome (intD d))) = some zr := hz
   rw [zaa] at hz'
   obtain ⟨d, hd, hz'⟩ := hz'
   cases hz'
   show Sem.run P (underlying t' >>= _) w = _
   rw [zag hd]
   by_cases hi : ∃ k, d = .int k
   ·obtain ⟨k, rfl⟩ := hi
    rcases hn with ⟨hx, _⟩ | ⟨_, kd, i, rfl, hm, hi, hby⟩
    ·cases hx
    ·have hwn : IntKind.i64.wrap (n : Int) = n := zkR hm
     have hb1 : ¬ ((n : Int) * (i.bytes : Int) > 2 ^ 48) := by
      have h1 : ((i.bytes * n : Nat) : Int) ≤ ((140737488355328 : Nat) : Int) := Int.ofNat_le.2 hby
      rw [Nat.mul_comm, Int.natCast_mul] at h1
      omega
     have hp : Sem.run P (pure (match TypeDesc.int k with | .int _ => true | _ => false) : Sem Bool) w = .ok true w := rfl
     rw [zab, hp]
     show Sem.run P (asInt (.int kd n) >>= _) w = _
     rw [zab]
     have h0 : (asInt (.int kd n)).run P w = .ok (n : Int) w := rfl
     rw [h0]
     show Sem.run P (if IntKind.i64.wrap (n : Int) < 0 then _ else _) w = _
     rw [hwn, if_neg (show ¬ ((n : Int) < 0) by omega)]
     show Sem.run P (typeInfo el >>= _) w = _
     rw [zab, zcm hi]
     show Sem.run P (if (n : Int) * (i.bytes : Int) > 2 ^ 48 then _ else _) w = _
     rw [if_neg hb1]
     rfl
   ·have hf : Option.isSome (intD d) = false := by cases d <;> first | rfl | exact absurd ⟨_, rfl⟩ hi
    have := hlen hf fun zr n => zcZ el z n sLen sCap zr base (.slice base sLen sCap) ux
    rw [← this]
    cases d <;> first | rfl | exact absurd ⟨_, rfl⟩ hi
theorem zim {el c : Nat} (h : zdK P el c = some ()) : ∃ i, P.info? el = some i ∧ i.bytes * c ≤ 140737488355328 := by
 unfold zdK at h
 rw [zaa] at h
 obtain ⟨i, hi, h⟩ := h
 rw [zac, za1] at h
 exact ⟨i, hi, h.1⟩
theorem zpG {h : AH} (s : Sat e h w.heap) {el z n : Nat} {zr : Bool} {x : AV} {cs : List AV} {ux : Value} (hx : VR e x ux)
  (hs : ite' zr (zjv P el z x) (zeI z x h) = some (n, cs)) :
  zqX P el n zr ux w ∧ cs.length = n * z ∧
  ∀ w' : World, w'.heap = w.heap → ∃ us : Array Value, (appended el z n zr ux).run P w' = .ok us w' ∧ VRs e cs us.toList := by
 cases zr with
 | false =>
   have hs' : zeI z x h = some (n, cs) := hs
   obtain ⟨h1, h2, h3⟩ := zik (P := P) s hx hs'
   refine ⟨.inl ⟨rfl, h1⟩, h2, fun w' hw => ?_⟩
   obtain ⟨us, hu, hv⟩ := (zik (P := P) (w := w') (hw ▸ s) hx hs').2.2 n (Nat.le_refl n)
   refine ⟨us, hu, ?_⟩
   rwa [List.take_of_length_le (by omega)] at hv
 | true =>
   have hs' : natV x (fun n => grd (Nat.ble n 100000) (bnd (zdK P el n) fun _ => bnd (zcP P el z n) fun r => some (n, r))) = some (n, cs) := hs
   rw [zfh] at hs'
   obtain ⟨kd, m, rfl, hs'⟩ := hs'
   rw [zac, za1, zaa] at hs'
   obtain ⟨hm, _, hsm, hs'⟩ := hs'
   rw [zaa] at hs'
   obtain ⟨r, hr, hs'⟩ := hs'
   cases hs'
   cases zbd hx
   obtain ⟨i, hi, hby⟩ := zim hsm
   obtain ⟨uz, hrun, hus, hlz, hvz⟩ := zbH (P := P) (w := w) (e := e) hr
   refine ⟨.inr ⟨rfl, kd, i, rfl, hm, hi, hby⟩, hlz, fun w' hw => ?_⟩
   ·unfold appended
    rw [if_neg (by decide)]
    by_cases h0 : n * z = 0
    ·rw [if_pos h0]
     have : cs = [] := List.eq_nil_of_length_eq_zero (by rw [hlz, h0])
     subst this
     exact ⟨#[], rfl, .nil⟩
    ·rw [if_neg h0]
     obtain ⟨uz, hrun, hus, hlz, hvz⟩ := zbH (P := P) (w := w') (e := e) hr
     refine ⟨_, by rw [zab, hrun]; rfl, ?_⟩
     have : Builtin.zeroCells uz.cells n = (Array.range (n * z)).map (uz.cells[· % uz.cells.size]!) := by
      unfold Builtin.zeroCells
      rw [hus]
     rw [this]; exact hvz
theorem zlX (m : Nat) : ∀ (r c : Nat), c ≤ m + (m + 768) / 4 → Builtin.growBy m r c ≤ m + (m + 768) / 4
 | 0, c, h => h
 | r + 1, c, h => by
   unfold Builtin.growBy
   by_cases hc : c ≥ m
   ·rw [if_pos hc]; exact h
   ·rw [if_neg hc]
    exact zlX m r _ (by omega)
theorem zin {m c : Nat} (h : c < m) : Builtin.nextslicecap m c ≤ 2 * m + 200 := by
 unfold Builtin.nextslicecap
 by_cases h1 : m > 2 * c
 ·rw [if_pos h1]; omega
 ·rw [if_neg h1]
  by_cases h2 : c < 256
  ·rw [if_pos h2]; omega
  ·rw [if_neg h2]
   have := zlX m 4 c (by omega)
   omega
theorem zpH {el z m : Nat} (h : zff P el z m = some ()) : ∃ i zs, m ≤ 1000000000 ∧ zcP P el z 0 = some zs ∧ P.info? el = some i ∧ i.bytes * (4 * m + 1000) ≤ 140737488355328 := by
 unfold zff at h
 rw [zac, za1, zaa] at h
 obtain ⟨hm, zs, hz, h⟩ := h
 obtain ⟨i, hi, hb⟩ := zim h
 exact ⟨i, zs, hm, hz, hi, hb⟩
theorem zoV {el z n sLen sCap : Nat} {zr : Bool} {base : Option Addr} {us ux : Value} {mine cs : List AV} {olds : Array Value} (hgt : sCap < sLen + n) (hroom : zff P el z (sLen + n) = some ())
  (hold : ∀ w' : World, w'.heap = w.heap → (Builtin.firstCells z sLen us).run P w' = .ok olds w') (hmine : VRs e mine olds.toList) (hml : mine.length = sLen * z)
  (happ : ∀ w' : World, w'.heap = w.heap → ∃ us : Array Value, (appended el z n zr ux).run P w' = .ok us w' ∧ VRs e cs us.toList) (hcl : cs.length = n * z) :
  ∃ (c d : Nat) (arr : Array Value), sLen + n ≤ c ∧ (zcZ el z n sLen sCap zr base us ux).run P w = .ok (.slice (some ⟨w.heap.size, 0, none⟩) (sLen + n) c) { w with drawn := d, heap := w.heap.push (.cells arr el (0, 0)) } ∧
    arr.size = c * z ∧ ∀ (i : Nat) v, (mine ++ cs)[i]? = some v → ∃ u, arr[i]? = some u ∧ VR e v u := by
 obtain ⟨i, zs, hm, hzs, hi, hby⟩ := zpH hroom
 let w1 : World := { w with drawn := w.drawn + 1 }
 obtain ⟨uz, hrun, hus, _, _⟩ := zbH (P := P) (w := w1) (e := e) hzs
 obtain ⟨news, hnews, hvr⟩ := happ w1 rfl
 let c := (Question.appendCap (sLen + n) sCap el).cut (w.tape w.drawn (.appendCap (sLen + n) sCap el))
 have hc : sLen + n ≤ c := Nat.le_add_right _ _
 have hos : olds.size = sLen * z := by rw [← hml, hmine.length]; simp
 have hns : news.size = n * z := by rw [← hcl, hvr.length]; simp
 have hrest : (Builtin.zeroCells uz.cells (c - (sLen + n))).size = (c - (sLen + n)) * z := by
  unfold Builtin.zeroCells
  rw [hus]; simp
 refine ⟨c, w.drawn + 1, olds ++ news ++ Builtin.zeroCells uz.cells (c - (sLen + n)), hc, ?_, ?_, ?_⟩
 ·unfold zcZ
  simp only []
  rw [if_neg (by omega)]
  show Sem.run P (typeInfo el >>= _) w = _
  rw [zab, zcm hi]
  simp only []
  have h63 : ¬ (((sLen + n : Nat) : Int) > IntKind.i64.max ∧ ((zr = true) ∨ i.bytes = 0)) := by
   intro ⟨h, _⟩
   have : IntKind.i64.max = 9223372036854775807 := by decide
   rw [this] at h
   omega
  rw [if_neg h63]
  show Sem.run P (typeInfo el >>= _) w = _
  rw [zab, zcm hi]
  simp only []
  have hcap : ¬ (Builtin.nextslicecap (sLen + n) sCap * i.bytes > 2 ^ 48) := by
   have h1 := zin hgt
   have h2 : Builtin.nextslicecap (sLen + n) sCap * i.bytes ≤ (4 * (sLen + n) + 1000) * i.bytes := Nat.mul_le_mul_right _ (by omega)
   rw [Nat.mul_comm (4 * (sLen + n) + 1000)] at h2
   omega
  rw [if_neg hcap]
  show Sem.run P (choose (.appendCap (sLen + n) sCap el) >>= _) w = _
  have hch : (choose (.appendCap (sLen + n) sCap el)).run P w = .ok c w1 := rfl
  rw [zab, hch]
  show Sem.run P (typeInfo el >>= _) w1 = _
  rw [zab, zcm hi]
  simp only []
  have hask : (askRoom (c * i.bytes)).run P w1 = .ok () w1 := by
   unfold askRoom
   split <;> rfl
  rw [zab, hask]
  show Sem.run P (Builtin.firstCells z sLen us >>= _) w1 = _
  rw [zab, hold w1 rfl]
  show Sem.run P (appended el z n zr ux >>= _) w1 = _
  rw [zab, hnews]
  show Sem.run P (zeroValue el >>= _) w1 = _
  rw [zab, hrun]
  rfl
 ·rw [Array.size_append, Array.size_append, hos, hns, hrest, ← Nat.add_mul, ← Nat.add_mul]
  congr 1
  omega
 ·intro j v hv
  obtain ⟨u, hu, hr⟩ := (hmine.app hvr).get hv
  refine ⟨u, ?_, hr⟩
  have hj : j < (olds.toList ++ news.toList).length := (List.getElem?_eq_some_iff.1 hu).1
  rw [← Array.getElem?_toList, Array.toList_append, Array.toList_append, List.getElem?_append_left hj]
  exact hu
end
end
end Go.Xe
end
section
namespace Go.Xe
noncomputable section
section
variable {P : Program} {e : Env} {w : World}
theorem zeT (l : List AV) (ty fz : Nat) (wr : Bool) (olds : List Nat) : lenE (.cells l ty wr fz olds) = l.length := rfl
theorem zlY {h h0 : AH} (s : Sat e h w.heap) (st : Step e h0 w e h w) (g0 : GOk e h0 w.heap) {l : List AV} {ty fz : Nat} {olds : List Nat} {arr : Array Value} {T ext d : Nat} (hlen : l.length ≤ ext) (hroom : ext ≤ arr.size) (hty : ty ≠ 0 → T = ty)
  (hv : ∀ (i : Nat) v, l[i]? = some v → ∃ u, arr[i]? = some u ∧ VR e v u) (hlt : ∀ c, c ∈ olds → c < h.next) :
  let w' : World := { w with drawn := d, heap := w.heap.push (.cells arr T (0, 0)) }
  Sat (e.at_ h.next ⟨w.heap.size, 0, ext⟩) (h.add (.cells l ty true fz olds)) w'.heap ∧ Step e h0 w (e.at_ h.next ⟨w.heap.size, 0, ext⟩) (h.add (.cells l ty true fz olds)) w' := by
 intro w'
 have hle : e.le (e.at_ h.next ⟨w.heap.size, 0, ext⟩) := Env.at_le s.fresh
 refine s.addOver st g0 (L := ⟨w.heap.size, 0, ext⟩) (o := .cells arr T (0, 0)) (by show (w.heap.push _)[w.heap.size]? = _; simp) (by show w.heap.size ≤ (w.heap.push _).size; simp) (fun X hX hne => ?_) ?_ (fun c en' l' hc hl' hblk => ?_) (fun c en' l' _ _ hl' hblk => absurd (s.locs c l' hl').2 (by simp only at hblk; omega)) hlt
  (fun hlt' => absurd hlt' (Nat.lt_irrefl _)) rfl rfl rfl
 ·show (w.heap.push _)[X]? = _
  rw [Array.getElem?_push, if_neg (by omega)]
 ·refine .cells _ _ _ _ _ _ _ _ _ _ ⟨by simp only; omega, hlen, fun i v hi => ?_, fun i _ _ h => by omega, fun h0 => ⟨hty h0, rfl, rfl, fun _ => rfl⟩⟩
  obtain ⟨u, hu, hr⟩ := hv i v hi
  exact ⟨u, by rw [Nat.zero_add]; exact hu, hr.mono hle⟩
 ·have := (s.locs c l' hl').2
  simp only at hblk
  omega
theorem Sat.only {h : AH} {H : Array Obj} (s : Sat e h H) {b c : Nat} {en en' : Ent} {l l' : Loc} (hb : h.get b = some en) (hl : e.loc b = some l) (hw : wrE en = true) (hc : h.get c = some en') (hl' : e.loc c = some l')
  (hblk : l'.blk = l.blk) (hne : c ≠ b) : c ∈ zbq en := by
 rcases s.sep b c en en' l l' hb hc hl hl' (fun h => hne h.symm) hblk.symm with h1 | h1
 ·exact h1
 ·have := s.olds c b en' en l' l hc h1 hb hl' hl hblk
  rw [hw] at this; cases this
theorem zqY {fb : Nat × List ME} {en : Ent} {l : Loc} {arr : Array Value} {T lo hi p : Nat} {us : List Value} (hr : EntR e fb en l (.cells arr T (lo, hi))) (hend : l.off + lenE en ≤ p) (hb : p + us.length ≤ arr.size) :
  EntR e fb en l (.cells (zhk arr p us) T (lo, hi)) := by
 cases hr with
 | cells cs ty wr fz olds _ _ _ _ _ h =>
   refine .cells _ _ _ _ _ _ _ _ _ _ ⟨by rw [zgx]; exact h.room, h.len, fun i v hi => ?_, h.free, h.ty⟩
   obtain ⟨u, hu, hvr⟩ := h.vals i v hi
   refine ⟨u, ?_, hvr⟩
   rw [zh0 _ _ _ _ hb, if_neg]
   ·exact hu
   ·have : i < cs.length := (List.getElem?_eq_some_iff.1 hi).1
    rw [zeT] at hend
    omega
theorem zsQ {h h1 : AH} (s : Sat e h w.heap) (s1 : Sat e h1 w.heap) (st : Step e h w e h1 w) (hn : h1.next = h.next) {b : Nat} {L : Loc} {old mine : List AV} {cs : List AV} {ty fz o f el : Nat} {olds olds' : List Nat}
  (hb : h.get b = some (.cells old ty true fz olds)) (hl : e.loc b = some L) {arr : Array Value} {T lo hi : Nat} (hH : w.heap[L.blk]? = some (.cells arr T (lo, hi))) (hR : CellsR e old ty fz L arr T lo hi)
  {us : List Value} (hvr : VRs e cs us) (hfo : f = o + mine.length) (hfz : fz ≤ f) (hmine : ∀ (i : Nat) v, mine[i]? = some v → ∃ u, arr[L.off + o + i]? = some u ∧ VR e v u) (hext : f + cs.length ≤ L.ext)
  (hgot : ∀ c en' l', h1.get c = some en' → e.loc c = some l' → l'.blk = L.blk → c ∈ olds' ∧ l'.off + lenE en' ≤ L.off + f)
  (hwr : ∀ c en' l', c ∈ olds' → h1.get c = some en' → e.loc c = some l' → l'.blk = L.blk → wrE en' = false) (hlt : ∀ c, c ∈ olds' → c < h.next)
  (hty : zdc o ty el ≠ 0 → o = 0 ∧ ty = zdc o ty el) :
  let w' : World := { w with heap := w.heap.setIfInBounds L.blk (.cells (zhk arr (L.off + f) us) T (lo, hi)) }
  Sat (e.at_ h1.next ⟨L.blk, L.off + o, L.ext - o⟩) (h1.add (.cells (mine ++ cs) (zdc o ty el) true (fz - o) olds')) w'.heap ∧
   Step e h w (e.at_ h1.next ⟨L.blk, L.off + o, L.ext - o⟩) (h1.add (.cells (mine ++ cs) (zdc o ty el) true (fz - o) olds')) w' := by
 intro w'
 have hle : e.le (e.at_ h1.next ⟨L.blk, L.off + o, L.ext - o⟩) := Env.at_le s1.fresh
 have hBlt := (s.locs b L hl).2
 have hlen := hR.len
 have hroom := hR.room
 have hus := hvr.length
 refine s1.addOver st s.glob (L := ⟨L.blk, L.off + o, L.ext - o⟩) (o := .cells (zhk arr (L.off + f) us) T (lo, hi)) (by show (w.heap.setIfInBounds _ _)[L.blk]? = _; simp [hBlt]) (by show w.heap.size ≤ (w.heap.setIfInBounds _ _).size; simp)
  (fun X hX hne => ?_) ?_ (fun c en' l' hc hl' hblk => ?_) hwr (fun c hc => hn ▸ hlt c hc) (fun _ => ⟨b, _, L, hb, hl, rfl⟩) rfl rfl rfl
 ·show (w.heap.setIfInBounds _ _)[X]? = _
  rw [Array.getElem?_setIfInBounds_ne (fun hx => hne hx.symm)]
 ·refine .cells _ _ _ _ _ _ _ _ _ _ ⟨by rw [zgx]; simp only; omega, by simp only [List.length_append]; omega, fun i v hi => ?_, fun i h1 h2 => ?_, fun h0 => ?_⟩
  ·simp only
   rw [zh0 _ _ _ _ (by omega)]
   by_cases hin : i < mine.length
   ·rw [List.getElem?_append_left hin] at hi
    rw [if_neg (by omega)]
    obtain ⟨u, hu, hr⟩ := hmine i v hi
    exact ⟨u, hu, hr.mono hle⟩
   ·rw [List.getElem?_append_right (by omega)] at hi
    obtain ⟨u, hu, hr⟩ := hvr.get hi
    have hilt : i - mine.length < cs.length := (List.getElem?_eq_some_iff.1 hi).1
    rw [if_pos (by omega)]
    exact ⟨u, by rw [show L.off + o + i - (L.off + f) = i - mine.length by omega]; exact hu, hr.mono hle⟩
  ·simp only at h2 ⊢
   have := hR.free (o + i) (by omega) (by omega)
   rwa [show L.off + (o + i) = L.off + o + i by omega] at this
  ·obtain ⟨ho, hty'⟩ := hty h0
   have hty0 : ty ≠ 0 := fun h => h0 (hty' ▸ h)
   obtain ⟨q1, q2, q4, q3⟩ := hR.ty hty0
   subst ho
   exact ⟨by rw [q1]; exact hty', by simp only; omega, q4, fun hz => q3 (by omega)⟩
 ·simp only at hblk
  obtain ⟨h2, h3⟩ := hgot c en' l' hc hl' hblk
  refine ⟨h2, ?_, ?_⟩
  ·rw [zeT, List.length_append]; simp only; omega
  ·obtain ⟨l2, o2, hl2, ho2, hr2⟩ := s1.ents c en' hc
   rw [hl'] at hl2; cases hl2
   rw [hblk, hH] at ho2; cases ho2
   exact zqY hr2 h3 (by omega)
theorem zlZ (B p m : Nat) : (⟨B, p, none⟩ : Addr).add m = ⟨B, p + m, none⟩ := Addr.add_eq B p m
theorem zio {o ty el : Nat} (h : zdc o ty el ≠ 0) : o = 0 ∧ ty = zdc o ty el ∧ zdc o ty el = el := by
 unfold zdc ztW at h ⊢
 rw [zaK, zaK] at h
 rw [zaK, zaK]
 by_cases h1 : Nat.beq o 0 = true
 ·rw [if_pos h1] at h ⊢
  by_cases h2 : Nat.beq ty el = true
  ·rw [if_pos h2] at h ⊢
   exact ⟨(zae _ _).1 h1, (zae _ _).1 h2, rfl⟩
  ·rw [if_neg h2] at h; exact absurd rfl h
 ·rw [if_neg h1] at h; exact absurd rfl h
theorem zkT {h : AH} (s : Sat e h w.heap) {el z b o l n : Nat} {zr : Bool} {cs : List AV} {v : AV} {ux : Value} {en : Ent} {L : Loc} {c : Nat} {h' : AH} (hb : h.get b = some en) (hL : e.loc b = some L) (hz0 : 0 < z)
  (hext : o + c * z = L.ext) (hlc : l ≤ c) (happ : ∀ w' : World, w'.heap = w.heap → ∃ us : Array Value, (appended el z n zr ux).run P w' = .ok us w' ∧ VRs e cs us.toList) (hcl : cs.length = n * z)
  (hv : zko P el z b o l (Nat.add o (Nat.mul l z)) n cs h en = some (v, h')) :
  Runs P (zcZ el z n l c zr (some ⟨L.blk, L.off + o, none⟩) (.slice (some ⟨L.blk, L.off + o, none⟩) l c) ux) w fun u' w' => Out e h w v h' u' w' := by
 cases en <;> try (simp [zko] at hv; done)
 rename_i old ty wr fz olds
 obtain ⟨arr, T, lo, hi, hH, hR⟩ := s.row hb hL
 have hlen := hR.len
 have hroom := hR.room
 obtain ⟨f, hf⟩ : ∃ f, f = o + l * z := ⟨_, rfl⟩
 have hv' : ite' (Nat.ble (Nat.add (o + l * z) (Nat.mul n z)) (len old))
   (bnd (zbe h b (o + l * z) cs) fun h => some (frc (Nat.add l n) fun m => AV.sl b o m z, h))
   (grd wr (grd (Nat.ble fz (o + l * z)) (grd (allC cs) (bnd (zff P el z (Nat.add l n)) fun _ => bnd (cut old o (Nat.mul l z)) fun mine =>
    ite' (Nat.beq (o + l * z) (len old))
     (AH.new (h.set b (.cells old ty false fz olds)) (.cells (app mine cs) (zdc o ty el) true (Nat.sub fz o) (b :: olds)) fun b' h => some (frc (Nat.add l n) fun m => AV.sl b' 0 m z, h))
     (AH.new (AH.kill (b :: olds) h) (.cells (app mine cs) (zdc o ty el) true (Nat.sub fz o) []) fun b' h => some (frc (Nat.add l n) fun m => AV.sl b' 0 m z, h)))))) = some (v, h') := hv
 rw [← hf] at hv'
 have hcz : (l + n) * z = l * z + n * z := Nat.add_mul l n z
 rw [zav] at hv'
 rcases hv' with ⟨hin, hv'⟩ | ⟨_, hv'⟩
 ·
  rw [za1, zaU] at hin
  have hin' : f + n * z ≤ old.length := hin
  rw [zaa] at hv'
  obtain ⟨h2, hw, hv'⟩ := hv'
  rw [zaL] at hv'
  cases hv'
  obtain ⟨us, hus, hvr⟩ := happ w rfl
  obtain ⟨w', hst, hs', hstep⟩ := zcw (P := P) s hL hvr hw
  have hneed : l + n ≤ c := by
   have : (l + n) * z ≤ c * z := by rw [hcz]; omega
   exact Nat.le_of_mul_le_mul_right this hz0
  refine ⟨.slice (some ⟨L.blk, L.off + o, none⟩) (l + n) c, w', ?_, e, hs', .sl b o (l + n) z c L hL hz0 hext hneed, hstep⟩
  unfold zcZ
  simp only []
  rw [if_pos hneed]
  show Sem.run P (appended el z n zr ux >>= _) w = _
  rw [zab, hus]
  simp only [zlZ]
  rw [zab, show L.off + o + l * z = L.off + f by omega, hst]
  rfl
 rw [zac, zac, za1, zac, zaa] at hv'
 obtain ⟨rfl, hfz, hac, _, hrm, hv'⟩ := hv'
 rw [zaa] at hv'
 obtain ⟨mine, hcut, hv'⟩ := hv'
 rw [zhW] at hcut
 have hcut' : o + l * z ≤ old.length ∧ (old.drop o).take (l * z) = mine := by
  by_cases hx : o + Nat.mul l z ≤ old.length
  ·rw [if_pos hx] at hcut; exact ⟨hx, Option.some.inj hcut⟩
  ·rw [if_neg hx] at hcut; cases hcut
 obtain ⟨hol, rfl⟩ := hcut'
 have hml : ((old.drop o).take (l * z)).length = l * z := by simp; omega
 have hread : zbo h b o (l * z) = some ((old.drop o).take (l * z)) := by
  unfold zbo AH.cells
  rw [hb]
  show cut old o (l * z) = _
  rw [zhW, if_pos hol]
 obtain ⟨ous, hous, hmvr⟩ := zbz (P := P) s hL hread
 have hmget : ∀ (i : Nat) v, ((old.drop o).take (l * z))[i]? = some v → ∃ u, arr[L.off + o + i]? = some u ∧ VR e v u := fun i v hi => by
  have hil : i < l * z := by
   have := (List.getElem?_eq_some_iff.1 hi).1
   rwa [hml] at this
  rw [List.getElem?_take_of_lt hil, List.getElem?_drop] at hi
  obtain ⟨u, hu, hr⟩ := hR.vals (o + i) v hi
  exact ⟨u, by rw [show L.off + o + i = L.off + (o + i) by omega]; exact hu, hr⟩
 have hnold : b ∉ olds := fun hm => by
  have := s.olds b b _ _ L L hb hm hb hL hL rfl
  simp [wrE] at this
 have key : ∀ (h1 : AH) (olds' : List Nat), Sat e h1 w.heap → h1.next = h.next → Step e h w e h1 w →
   (∀ c en' l', h1.get c = some en' → e.loc c = some l' → l'.blk = L.blk → c ∈ olds' ∧ l'.off + lenE en' ≤ L.off + f) →
   (∀ c en' l', c ∈ olds' → h1.get c = some en' → e.loc c = some l' → l'.blk = L.blk → wrE en' = false) → (∀ c, c ∈ olds' → c < h.next) →
   Runs P (zcZ el z n l c zr (some ⟨L.blk, L.off + o, none⟩) (.slice (some ⟨L.blk, L.off + o, none⟩) l c) ux) w fun u' w' =>
    Out e h w (.sl h1.next 0 (l + n) z) (h1.add (.cells ((old.drop o).take (l * z) ++ cs) (zdc o ty el) true (fz - o) olds')) u' w' := by
  intro h1 olds' s1 hn st1 hgot hwr hlt
  by_cases hneed : l + n ≤ c
  ·obtain ⟨us, hus, hvr⟩ := happ w rfl
   have hnz : (l + n) * z ≤ c * z := Nat.mul_le_mul_right z hneed
   obtain ⟨s2, st2⟩ := zsQ s s1 st1 hn (el := el) (olds' := olds') (o := o) (mine := (old.drop o).take (l * z)) (f := f) hb hL hH hR hvr (by rw [hml]; exact hf) hfz hmget (by rw [hcl]; omega) hgot hwr hlt (fun h => ⟨(zio h).1, (zio h).2.1⟩)
   have hul := hvr.length
   have hrun := zdk (P := P) us.toList 0 (w := w) (B := L.blk) (p := L.off + f) hH (by rw [← hul, hcl]; omega)
    (fun k hk1 hk2 => by
     have := hR.free (k - L.off) (by omega) (by rw [← hul, hcl] at hk2; omega)
     rwa [show L.off + (k - L.off) = k by omega] at this)
   refine ⟨.slice (some ⟨L.blk, L.off + o, none⟩) (l + n) c, _, ?_, _, s2, ?_, st2⟩
   ·unfold zcZ
    simp only []
    rw [if_pos hneed]
    show Sem.run P (appended el z n zr ux >>= _) w = _
    rw [zab, hus]
    simp only [zlZ]
    rw [zab, show L.off + o + l * z = L.off + f by omega, hrun ?_]
    ·rfl
    ·exact zno hvr hac
   ·exact .sl _ 0 (l + n) z c _ (Env.at_self _ _ _) hz0 (by simp only; omega) hneed
  ·obtain ⟨c', d, arr', hc', hrun, hsz, hg⟩ := zoV (P := P) (w := w) (zr := zr) (base := some ⟨L.blk, L.off + o, none⟩) (us := .slice (some ⟨L.blk, L.off + o, none⟩) l c) (ux := ux) (sCap := c) (by omega) hrm
    (fun w' hw => by
     obtain ⟨us', hus', _⟩ := zbz (P := P) (w := w') (hw ▸ s) hL hread
     have h1 := zbF (P := P) (w := w') (hw ▸ hH) (l * z) 0 #[] (p := L.off + o) (by omega)
     have h2 := zbF (P := P) (w := w) hH (l * z) 0 #[] (p := L.off + o) (by omega)
     have h3 : (loadCells ⟨L.blk, L.off + o, none⟩ (l * z)).run P w = .ok ous w := hous
     rw [show loadCells ⟨L.blk, L.off + o, none⟩ (l * z) = loadCellsFrom ⟨L.blk, L.off + o, none⟩ 0 (l * z) #[] from rfl, h2] at h3
     have h4 : ous = #[] ++ arr.extract (L.off + o + 0) (L.off + o + 0 + l * z) := by cases h3; rfl
     show (loadCells ⟨L.blk, L.off + o, none⟩ (l * z)).run P w' = _
     rw [show loadCells ⟨L.blk, L.off + o, none⟩ (l * z) = loadCellsFrom ⟨L.blk, L.off + o, none⟩ 0 (l * z) #[] from rfl, h1, h4]) hmvr hml happ hcl
   obtain ⟨s2, st2⟩ := zlY s1 st1 s.glob (ty := zdc o ty el) (fz := fz - o) (olds := olds') (T := el) (ext := c' * z) (d := d) (l := (old.drop o).take (l * z) ++ cs)
    (by rw [List.length_append, hml, hcl, ← hcz]; exact Nat.mul_le_mul_right z hc') (by rw [hsz]; exact Nat.le_refl _) (fun h => ((zio h).2.2).symm) hg (fun c hc => hn ▸ hlt c hc)
   exact ⟨_, _, hrun, _, s2, .sl _ 0 (l + n) z c' _ (Env.at_self _ _ _) hz0 (by simp only; omega) hc', st2⟩
 rw [zav] at hv'
 rcases hv' with ⟨hend, hv'⟩ | ⟨_, hv'⟩
 ·rw [zae, zaU] at hend
  rw [AH.new_eq, zaL, zcE] at hv'
  cases hv'
  refine key (h.set b (.cells old ty false fz olds)) (b :: olds) (s.unwr hb) rfl (Step.unwr hb) (fun d en' l' hd hl' hblk => ?_) (fun d en' l' hd hd' hl' hblk => ?_) (fun d hd => ?_)
  ·rw [AH.get_set] at hd
   by_cases hdb : d = b
   ·subst hdb
    rw [if_pos rfl] at hd; cases hd
    rw [hL] at hl'; cases hl'
    exact ⟨List.mem_cons_self .., by rw [zeT]; omega⟩
   ·rw [if_neg hdb] at hd
    have hm : d ∈ olds := s.only hb hL rfl hd hl' hblk hdb
    have := s.ends b d _ en' L l' hb hm hd hL hl' hblk.symm
    rw [zeT] at this
    exact ⟨List.mem_cons_of_mem _ hm, by omega⟩
  ·rw [AH.get_set] at hd'
   by_cases hdb : d = b
   ·rw [if_pos hdb] at hd'; cases hd'; rfl
   ·rw [if_neg hdb] at hd'
    rcases List.mem_cons.1 hd with h | h
    ·exact absurd h hdb
    ·exact s.olds b d _ en' L l' hb h hd' hL hl' hblk.symm
  ·rcases List.mem_cons.1 hd with rfl | h
   ·exact s.get_lt hb
   ·exact s.oldsLt b d _ hb h
 ·rw [AH.new_eq, zaL, zcE] at hv'
  cases hv'
  refine key (AH.kill (b :: olds) h) [] (s.kill _) (zby (b :: olds) h).1 (Step.kill _) (fun d en' l' hd hl' hblk => ?_) (fun d en' l' hd _ => by cases hd) (fun d hd => by cases hd)
  rw [zcl] at hd
  by_cases hm : d ∈ b :: olds
  ·rw [if_pos hm] at hd; cases hd
  ·rw [if_neg hm] at hd
   exact absurd (List.mem_cons_of_mem _ (s.only hb hL rfl hd hl' hblk (fun hx => hm (hx ▸ List.mem_cons_self ..)))) hm
end
end
end Go.Xe
end
