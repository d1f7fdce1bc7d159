/-
  Calls: what a function's body leaves, deferred calls, results; Calls, with their deferred calls; Rounds; the range over a function; Code. Conditions: none.
-/
import Derived.Test.YtppjodfehhlniaaGreatDoorYfToYj
import Derived.RecoverIn
import Derived.LoopNIn
set_option linter.unusedVariables false
set_option linter.unusedSimpArgs false
set_option linter.unusedSectionVars false
section
namespace Go.Xe
noncomputable section
section
variable {P : Program} {e : Env} {w : World}
def resS (tmps : Array Value) : ResultVar → Sem Value
 | .tmp t => pure (tmps.getD t undef)
 | .cell c t => do loadVar t (← asAddr (tmps.getD c undef))
theorem zkY {h : AH} (s : Sat e h w.heap) {fr : Fr} {a : Act} (hf : FR e fr a) {rv : ResultVar} {v : AV} (hv : zhQ P h fr rv = some v) :
  ∃ u, (resS a.tmps rv).run P w = .ok u w ∧ VR e v u := by
 cases rv with
 | tmp t =>
   have hv' : some (fr.at_ t) = some v := hv
   cases hv'
   rw [zhZ]
   exact ⟨_, rfl, hf.tmps.at_ t⟩
 | cell c t =>
   have hv' : load P t (fr.at_ c) h = some v := hv
   rw [zhZ] at hv'
   obtain ⟨u, w', hr, hvr, rfl⟩ := zgA (P := P) s (hf.tmps.at_ c) hv'
   refine ⟨u, ?_, hvr⟩
   have hp : ∃ A, a.tmps.getD c undef = .pointer (some A) := by
    have h2 := hv'
    unfold load at h2
    rw [zek] at h2
    obtain ⟨b, o, hb, _⟩ := h2
    have h3 := hf.tmps.at_ c
    rw [hb] at h3
    obtain ⟨L, _, hL⟩ := zcT h3
    exact ⟨_, hL⟩
   obtain ⟨A, hA⟩ := hp
   rw [hA] at hr
   show Sem.run P (asAddr (a.tmps.getD c undef) >>= fun x => loadVar t x) _ = _
   rw [hA]
   exact hr
theorem zma {h : AH} (s : Sat e h w.heap) {fr : Fr} {a : Act} (hf : FR e fr a) {rs : List ResultVar} {l : List AV} (hv : mapO (zhQ P h fr) rs = some l) :
  ∃ us : List Value, (rs.mapM (resS a.tmps)).run P w = .ok us w ∧ VRs e l us := by
 induction rs generalizing l with
 | nil => cases hv; exact ⟨[], rfl, .nil⟩
 | cons r rs ih =>
   have hv' : bnd (zhQ P h fr r) (fun y => bnd (mapO (zhQ P h fr) rs) fun ys => some (y :: ys)) = some l := hv
   rw [zaa] at hv'
   obtain ⟨y, hy, hv'⟩ := hv'
   rw [zaa] at hv'
   obtain ⟨ys, hys, hv'⟩ := hv'
   cases hv'
   obtain ⟨u, hu, hr⟩ := zkY (P := P) s hf hy
   obtain ⟨us, hus, hrs⟩ := ih hys
   refine ⟨u :: us, ?_, .cons _ _ _ _ hr hrs⟩
   rw [List.mapM_cons, zab]
   rw [hu]
   simp only []
   rw [zab, hus]
   rfl
theorem zfT {h : AH} (s : Sat e h w.heap) {fr : Fr} {a : Act} (hf : FR e fr a) {fn : Func} {v : AV} (hv : zgu P h fr fn.results.toList = some v) :
  ∃ u, (results fn a.tmps).run P w = .ok u w ∧ VR e v u := by
 unfold zgu at hv
 rw [zaa] at hv
 obtain ⟨l, hl, hv⟩ := hv
 cases hv
 obtain ⟨us, hus, hr⟩ := zma (P := P) s hf hl
 have hm : (fn.results.mapM (resS a.tmps)).run P w = .ok us.toArray w := by
  rw [Array.mapM_eq_mapM_toList]
  show Sem.run P (Functor.map List.toArray _) w = _
  rw [map_eq_pure_bind, zab, hus]
  rfl
 refine ⟨if h : us.toArray.size = 1 then us.toArray[0] else .tuple us.toArray, ?_, ?_⟩
 ·show Sem.run P (fn.results.mapM (resS a.tmps) >>= fun vs => pure (if h : vs.size = 1 then vs[0] else .tuple vs)) w = _
  rw [zab, hm]
  rfl
 ·cases hr with
  | nil => exact .tup _ _ .nil
  | cons x u l' us' hx ht =>
    cases ht with
    | nil =>
      rw [dif_pos (by simp)]
      exact hx
    | cons y u2 l2 us2 hy ht =>
      rw [dif_neg (by simp)]
      exact .tup _ _ (.cons _ _ _ _ hx (.cons _ _ _ _ hy ht))
theorem zmb : ∀ (l : List AV) (i : Nat) (t : Tr AV) (j : Nat), atT (zjA l i t) j = if i ≤ j ∧ j < i + l.length then (l[j - i]?).getD zaP else atT t j
 | [], i, t, j => by
   have : zjA [] i t = t := rfl
   rw [this, if_neg (by simp)]
 | v :: l, i, t, j => by
   have h1 : zjA (v :: l) i t = zjA l (i + 1) (Tr.put (some v) (Nat.succ i) t i) := rfl
   rw [h1, zmb l (i + 1), znm]
   simp only [List.length_cons]
   by_cases hj : j = i
   ·subst hj
    rw [if_neg (by omega), if_pos rfl, if_pos (by omega), Nat.sub_self]
    rfl
   ·by_cases h2 : i ≤ j ∧ j < i + (l.length + 1)
    ·rw [if_pos (by omega), if_pos h2]
     have : j - i = (j - (i + 1)) + 1 := by omega
     rw [this, List.getElem?_cons_succ]
    ·rw [if_neg (by omega), if_neg hj, if_neg h2]
theorem zg9 {fn : Func} {args : List AV} {us : Array Value} (ha : VRs e args us.toList) :
  FR e (zlv fn args) { tmps := us ++ Array.replicate (fn.ntmps - us.size) undef, defers := [] } := by
 have hlen : args.length = us.size := by rw [ha.length]; simp
 refine ⟨⟨?_, fun i => ?_⟩, .nil⟩
 ·show (us ++ Array.replicate (fn.ntmps - us.size) undef).size = Nat.max fn.ntmps (len args)
  rw [zaU, hlen]
  simp only [Array.size_append, Array.size_replicate]
  have : Nat.max fn.ntmps us.size = max fn.ntmps us.size := rfl
  rw [this]
  omega
 ·show VR e (atT (zjA args 0 .nil) i) _
  rw [zmb]
  by_cases hi : i < args.length
  ·rw [if_pos (by omega), Nat.sub_zero]
   have hv : args[i]? = some args[i] := List.getElem?_eq_getElem hi
   obtain ⟨u, hu, hr⟩ := ha.get hv
   rw [hv]
   rw [Array.getElem?_toList] at hu
   have : (us ++ Array.replicate (fn.ntmps - us.size) undef).getD i undef = u := by
    rw [Array.getD_eq_getD_getElem?, Array.getElem?_append_left (by omega), hu]; rfl
   rw [this]; exact hr
  ·rw [if_neg (by omega)]
   have h1 : atT (Tr.nil : Tr AV) i = zaP := rfl
   have h2 : (us ++ Array.replicate (fn.ntmps - us.size) undef).getD i undef = undef := by
    rw [Array.getD_eq_getD_getElem?, Array.getElem?_append_right (by omega), Array.getElem?_replicate]
    split <;> rfl
   rw [h1, h2]; exact zcG e
end
end
end Go.Xe
end
section
namespace Go.Xe
noncomputable section
section
variable {P : Program} {e : Env} {w : World} {self : Option Nat → Code → Fr → AH → R}
theorem zmc {op : Op} (h : zcQ op = true) : ∃ c : Call, op = .call c ∧ c.callee = .builtin .recover := by
 cases op <;> try (simp [zcQ] at h; done)
 rename_i c
 refine ⟨c, rfl, ?_⟩
 obtain ⟨callee, args, ats⟩ := c
 cases callee <;> try (simp [zcQ] at h; done)
 rename_i b
 cases b <;> first | rfl | (simp [zcQ] at h)
def zuA (e : Env) (h : AH) (w : World) (x : XE) (fr' : Fr) (h' : AH) (cs : List Frame) : Exit → Act → List Frame → World → Prop :=
 fun ex a' cs' w' => cs' = cs ∧ ex = zo2 x ∧ ∃ e', Sat e' h' w'.heap ∧ FR e' fr' a' ∧ Step e h w e' h' w'
theorem zkZ (ok : POk P) {ops : Array Oper} {x : XE} {fr' : Fr} {h' : AH} {c₀ : Frame} {cs : List Frame} (hc : c₀.mode = .returning) {Q : Exit → Act → List Frame → World → Prop} {e0 : Env} {h0 : AH} {w0 : World}
  (hQ : ∀ e' a' w', Sat e' h' w'.heap → FR e' fr' a' → Step e0 h0 w0 e' h' w' → Q (zo2 x) a' (c₀ :: cs) w') :
  ∀ (l : List Oper) (i : Nat) (e : Env) (a : Act) (w : World) (fr : Fr) (h : AH), ops.toList.drop i = l → zgv P ops.toList l fr h = .ok x fr' h' → Sat e h w.heap → FR e fr a → Step e0 h0 w0 e h w →
    wpOpsSIn Fence.wide 0 P ops Q (List.range' i l.length) a (c₀ :: cs) w := by
 intro l
 induction l with
 | nil =>
   intro i e a w fr h _ hr s hf st
   have hr' : R.ok .normal fr h = .ok x fr' h' := hr
   cases hr'
   exact hQ e a w s hf st
 | cons o l ih =>
   intro i e a w fr h hdrop hr s hf st
   have ho : ops[i]? = some o := by
    rw [← Array.getElem?_toList]
    have := congrArg List.head? hdrop
    rw [List.head?_drop] at this
    exact this
   have hdrop' : ops.toList.drop (i + 1) = l := by
    rw [← List.drop_drop, hdrop]; rfl
   have hr' : oE (R.no o.pos) (fun wb => ite' wb (zuo P o fr h (zgv P ops.toList l)) (putR fr o.dst zaP fun fr => zgv P ops.toList l fr h)) (zat ops.toList fr o.guard) = .ok x fr' h' := hr
   rw [List.length_cons, List.range'_succ]
   simp only [wpOpsSIn, ho]
   refine ⟨fun f _ => trivial, ?_⟩
   cases hw : zat ops.toList fr o.guard with
   | none => rw [hw] at hr'; cases hr'
   | some wb =>
     rw [hw, oE_some] at hr'
     rw [zg8 hf hw]
     cases wb with
     | false =>
       rw [ite'_false] at hr'
       obtain ⟨fr1, hp, hr1⟩ := zdn hr'
       rw [if_neg (by simp)]
       exact ih (i + 1) e _ w fr1 h hdrop' hr1 s (zbQ hf (zcG e) hp) st
     | true =>
       rw [ite'_true] at hr'
       rw [if_pos rfl]
       unfold zuo at hr'
       rw [zaK] at hr'
       by_cases hrec : zcQ o.op = true
       ·rw [if_pos hrec] at hr'
        obtain ⟨fr1, hp, hr1⟩ := zdn hr'
        have hrun : (execOp a.eval o).run P w = .ok .recover w := by
         obtain ⟨c, hop, hcal⟩ := zmc hrec
         obtain ⟨dst, op, ty, pos, after, guard⟩ := o
         simp only at hop
         subst hop
         obtain ⟨callee, args, ats⟩ := c
         simp only at hcal
         subst hcal
         rfl
        have hd : recoverD (c₀ :: cs) = none := by
         simp only [recoverD, hc]
        rw [hrun]
        simp only [hd]
        exact ih (i + 1) e _ w fr1 h hdrop' hr1 s (zbQ hf .inil hp) st
       ·rw [if_neg hrec] at hr'
        cases hm : mapO (fun x => ev x fr) (zbp o.op) with
        | none => rw [hm] at hr'; cases hr'
        | some vs =>
          rw [hm, oE_some] at hr'
          have hvs := zo1 hf hm
          cases ho' : opV P o.op vs h with
          | val v h1 =>
            rw [ho'] at hr'
            obtain ⟨fr1, hp, hr1⟩ := zdn hr'
            obtain ⟨n, w1, hrun, hout⟩ := zbr ok s hvs ho' (by simp)
            obtain ⟨e1, u, rfl, s1, hv, st1⟩ := hout
            rw [hrun]
            exact ih (i + 1) e1 _ w1 fr1 h1 hdrop' hr1 s1 (zbQ (hf.mono st1.le) hv hp) (st.trans st1)
          | skip h1 =>
            rw [ho'] at hr'
            obtain ⟨fr1, hp, hr1⟩ := zdn hr'
            obtain ⟨n, w1, hrun, hout⟩ := zbr ok s hvs ho' (by simp)
            obtain ⟨e1, rfl, s1, st1⟩ := hout
            rw [hrun]
            exact ih (i + 1) e1 _ w1 fr1 h1 hdrop' hr1 s1 (zbQ (hf.mono st1.le) (zcG e1) hp) (st.trans st1)
          | no => rw [ho'] at hr'; cases hr'
          | enter => rw [ho'] at hr'; cases hr'
          | round => rw [ho'] at hr'; cases hr'
          | dfr => rw [ho'] at hr'; cases hr'
theorem zgJ {c : Code} {Q Q' : Exit → Act → List Frame → World → Prop} {a : Act} {cs : List Frame} (h : c.wpSIn Fence.wide 0 P Q a cs w) (hq : ∀ e a cs w, Q e a cs w → Q' e a cs w) : c.wpSIn Fence.wide 0 P Q' a cs w :=
 fun b k hb hr hF hroom => let ⟨e, a', cs', w', l, q, r⟩ := h b k hb hr hF hroom; ⟨e, a', cs', w', l, hq _ _ _ _ q, r⟩
theorem zpL (ok : POk P) (hg : Good P self) {c₀ : Frame} {cs : List Frame} (hc : c₀.mode = .returning) : ∀ (n : Nat) (c : Code) (fr : Fr) (h : AH) (x : XE) (fr' : Fr) (h' : AH), runS P self n c fr h = .ok x fr' h' →
  ∀ e a w, Sat e h w.heap → FR e fr a → c.wpSIn Fence.wide 0 P (zuA e h w x fr' h' (c₀ :: cs)) a (c₀ :: cs) w := by
 intro n
 induction n with
 | zero => intro c fr h x fr' h' hr; cases hr
 | succ n ih =>
   intro c fr h x fr' h' hr e a w s hf
   have plain : self none c fr h = .ok x fr' h' → c.wpSIn Fence.wide 0 P (zuA e h w x fr' h' (c₀ :: cs)) a (c₀ :: cs) w := fun hr => by
    refine wpSIn_of_wpIn rfl ?_
    have := hg none c fr h x fr' h' hr e a w none s hf (.inl ⟨rfl, rfl⟩)
    exact wpIn_mono (F := Fence.wide) this fun ex a' w' ⟨h1, h2⟩ => ⟨rfl, h1, h2⟩
   cases c <;> try (exact plain hr)
   case seq c1 c2 =>
    have hr' : seqS (runS P self n c2) (runS P self n c1 fr h) = .ok x fr' h' := hr
    cases h1 : runS P self n c1 fr h with
    | no y => rw [h1] at hr'; cases hr'
    | ok x1 fr1 hh1 =>
      rw [h1] at hr'
      have hw1 := ih c1 fr h x1 fr1 hh1 h1 e a w s hf
      refine wpSIn_seq (zgJ hw1 fun ex a1 cs1 w1 ⟨hcs, hex, e1, s1, hf1, st1⟩ => ?_)
      subst hcs hex
      cases x1 with
      | normal =>
        have hr2 : runS P self n c2 fr1 hh1 = .ok x fr' h' := hr'
        have hw2 := ih c2 fr1 hh1 x fr' h' hr2 e1 a1 w1 s1 hf1
        exact zgJ hw2 fun ex a2 cs2 w2 ⟨hcs, hex, e2, s2, hf2, st2⟩ => ⟨hcs, hex, e2, s2, hf2, st1.trans st2⟩
      | exit id => cases hr'; exact ⟨rfl, rfl, e1, s1, hf1, st1⟩
      | goto l => cases hr'; exact ⟨rfl, rfl, e1, s1, hf1, st1⟩
      | ret => cases hr'; exact ⟨rfl, rfl, e1, s1, hf1, st1⟩
   case region id ops d =>
    have hr' : ite' (zgw ops.toList) (ite' d (R.no "recover in a region that draws") (zgv P ops.toList ops.toList fr h)) (self none (.region id ops d) fr h) = .ok x fr' h' := hr
    rw [zaK] at hr'
    by_cases ha : zgw ops.toList = true
    ·rw [if_pos ha] at hr'
     cases d with
     | true => cases hr'
     | false =>
       have hr2 : zgv P ops.toList ops.toList fr h = .ok x fr' h' := hr'
       refine wpSIn_region ?_
       have := zkZ ok hc (cs := cs) (Q := zuA e h w x fr' h' (c₀ :: cs)) (e0 := e) (h0 := h) (w0 := w) (fun e' a' w' s' hf' st' => ⟨rfl, rfl, e', s', hf', st'⟩) ops.toList 0 e a w fr h rfl hr2 s hf (.refl e h w)
       rw [List.range_eq_range']
       simpa using this
    ·rw [if_neg ha] at hr'
     exact plain hr'
theorem zo3 {k : Code → Fr → AH → R} {f : Nat} {args : List AV} {h : AH} {r : Func × Fr × AH} (hr : zpt P k f args h = some r) :
  ∃ c x, P.funcs[f]? = some r.1 ∧ r.1.body = some c ∧ k c (zlv r.1 args) h = .ok x r.2.1 r.2.2 ∧ (x = .normal ∨ x = .ret) := by
 unfold zpt at hr
 rw [zaa] at hr
 obtain ⟨fn, hf, hr⟩ := hr
 rw [zaa] at hr
 obtain ⟨c, hb, hr⟩ := hr
 cases hk : k c (zlv fn args) h with
 | no y => rw [hk] at hr; cases hr
 | ok x fr h1 =>
   rw [hk] at hr
   have hr' : zvl x (some (fn, fr, h1)) none = some r := hr
   cases x with
   | normal => cases hr'; exact ⟨c, .normal, hf, hb, hk, .inl rfl⟩
   | ret => cases hr'; exact ⟨c, .ret, hf, hb, hk, .inr rfl⟩
   | exit id => cases hr'
   | goto l => cases hr'
theorem zhq {B : Nat} (hB : w.heap[B]? = some (.deferred (some []))) : (Instr.takeDeferred B).run P w = .ok [] { w with heap := w.heap.setIfInBounds B (.deferred none) } := by
 have hget : (getObj B).run P w = .ok (.deferred (some [])) w := by simp only [getObj, Sem.run, hB]
 unfold Instr.takeDeferred
 rw [zab, hget]
 show Sem.run P (setObj B (.deferred none) >>= fun _ => pure []) w = _
 rw [zab]
 have hset : (setObj B (.deferred none)).run P w = .ok () { w with heap := w.heap.setIfInBounds B (.deferred none) } := by simp only [setObj, Sem.run, hB]
 rw [hset]; rfl
theorem znK (ok : POk P) (hg : Good P self) {fn : Func} {tmps : Array Value} {R : Ending → World → Prop} {h2 : AH} : ∀ (ds : List ADef) (h1 : AH), zqw P self ds h1 = some h2 → ∀ (e1 : Env) (w1 : World) (ds' : List Deferred), DRs e1 ds ds' → Sat e1 h1 w1.heap →
  (∀ e2 w2, Sat e2 h2 w2.heap → Step e1 h1 w1 e2 h2 w2 → LeavesInM Fence.wide 0 P fn tmps R [] .returning w2) → LeavesInM Fence.wide 0 P fn tmps R ds' .returning w1 := by
 intro ds
 induction ds with
 | nil =>
   intro h1 hl e1 w1 ds' hd s hend
   cases hl
   cases hd
   exact hend e1 w1 s (.refl e1 _ w1)
 | cons d ds ih =>
   intro h1 hl e1 w1 ds' hd s hend
   have hl' : bnd (ztZ P self d h1) (zqw P self ds) = some h2 := hl
   rw [zaa] at hl'
   obtain ⟨hm, h1m, hl'⟩ := hl'
   cases hd with
   | cons _ d' _ ds2 hd0 hds =>
     refine ⟨by simp, ?_⟩
     cases hd0 with
     | coll b L hL =>
       left
       have h1m' : bnd (h1.get b) (fun en => zup h1 b en) = some hm := h1m
       rw [zaa] at h1m'
       obtain ⟨en, hb, hce⟩ := h1m'
       obtain ⟨L', o, hL', ho, hr⟩ := s.ents b en hb
       rw [hL] at hL'; cases hL'
       cases en <;> try (simp [zup] at hce; done)
       rename_i dd
       have hce' : bnd dd (fun ds => grd (za5 ds) (some (h1.set b (.dfr none)))) = some hm := hce
       rw [zaa] at hce'
       obtain ⟨dl, rfl, hce'⟩ := hce'
       rw [zac, zaG] at hce'
       obtain ⟨rfl, hce'⟩ := hce'
       cases hce'
       cases hr with
       | dfr _ _ ds3 hds3 =>
         cases hds3
         have s2 : Sat e1 (h1.set b (.dfr none)) (w1.heap.setIfInBounds L.blk (.deferred none)) := s.setObj hb hL (s.alone hb hL rfl) (.dfr0 _) (fun c hc => by cases hc) (fun h => by cases h)
         have st2 : Step e1 h1 w1 e1 (h1.set b (.dfr none)) { w1 with heap := w1.heap.setIfInBounds L.blk (.deferred none) } := Step.setObj s _ hb hL
         exact ⟨L.blk, _, rfl, zhq ho, ih _ hl' e1 _ ds2 hds s2 fun e2 w2 s3 st3 => hend e2 w2 s3 (st2.trans st3)⟩
     | fn f f' cx ax cx' ax' hfr hcx hax =>
       right
       have h1m' : ztY (zeL P cx ax h1 f) (fun f args h => bnd (zpt P (runS P self 60) f args h) fun r => grd (za5 r.2.1.ds) (bnd (zgu P r.2.2 r.2.1 r.1.results.toList) fun _ => some r.2.2)) = some hm := h1m
       refine ⟨zdx none, ?_⟩
       cases ho : zeL P cx ax h1 f with
       | enter g args hh =>
         rw [ho] at h1m'
         obtain ⟨n, w', hrun, hout⟩ := ze6 ok s hfr hcx hax ho (by simp)
         obtain ⟨rfl, rfl, us, rfl, hus⟩ := hout
         have h1m2 : bnd (zpt P (runS P self 60) g args hh) (fun r => grd (za5 r.2.1.ds) (bnd (zgu P r.2.2 r.2.1 r.1.results.toList) fun _ => some r.2.2)) = some hm := h1m'
         rw [zaa] at h1m2
         obtain ⟨r, hbr, h1m2⟩ := h1m2
         rw [zac, zaG, zaa] at h1m2
         obtain ⟨hnil, rv, hrv, h1m2⟩ := h1m2
         cases h1m2
         obtain ⟨c, x, hfn, hbody, hk, hx⟩ := zo3 hbr
         refine ⟨f', cx', g, us, rfl, hrun, fun _ _ => trivial, ?_⟩
         refine callsDIn_of_wpSIn hfn hbody trivial fun c₀ cs hc0 => ?_
         have hS := zpL ok hg (cs := cs) hc0 60 c _ _ x _ _ hk e1 _ w' s (zg9 (fn := r.1) hus)
         refine zgJ hS fun ex a' cs' w2 ⟨hcs, hex, e2, s2, hf2, st2⟩ => ?_
         obtain ⟨u, hu, _⟩ := zfT (P := P) s2 hf2 hrv
         have hdf : a'.defers = [] := by
          have := hf2.ds
          rw [hnil] at this
          generalize a'.defers = q at this ⊢
          cases this; rfl
         have hfin : LeavesInM Fence.wide 0 P fn tmps R ds2 (settle .returning) w2 :=
          ih _ hl' e2 w2 ds2 (hds.mono st2.le) s2 fun e3 w3 s3 st3 => hend e3 w3 s3 (st2.trans st3)
         have hcs2 : cs' = { c₀ with mode := FrameMode.returning } :: cs := by
          rw [hcs]
          congr 1
          rw [← hc0]
         rcases hx with rfl | rfl
         ·subst hex
          exact ⟨hdf, .returning, hcs2, u, hu, hfin⟩
         ·subst hex
          exact ⟨hdf, .returning, hcs2, u, hu, hfin⟩
       | no => rw [ho] at h1m'; cases h1m'
       | val => rw [ho] at h1m'; cases h1m'
       | skip => rw [ho] at h1m'; cases h1m'
       | round => rw [ho] at h1m'; cases h1m'
       | dfr => rw [ho] at h1m'; cases h1m'
theorem zfq (ok : POk P) (hg : Good P self) : zb4 P (zni P self) := by
 intro f args h e w us s ha v h' hv
 unfold zni at hv
 rw [zaa] at hv
 obtain ⟨r, hbr, hv⟩ := hv
 rw [zaa] at hv
 obtain ⟨h2, hl, hv⟩ := hv
 rw [zaa] at hv
 obtain ⟨rv, hrv, hv⟩ := hv
 cases hv
 obtain ⟨c, x, hfn, hbody, hk, hx⟩ := zo3 hbr
 refine callsIn_of_wp_marks hfn hbody trivial ?_
 have hw := hg none c _ h x _ _ hk e _ w none s (zg9 (fn := r.1) ha) (.inl ⟨rfl, rfl⟩)
 refine wpIn_mono (F := Fence.wide) hw fun ex a' w1 ⟨hex, e1, s1, hf1, st1⟩ => ?_
 have hfin : LeavesInM Fence.wide 0 P r.1 a'.tmps (fun en w' => match en with | .returned u => Out e h w v h' u w' | _ => False) a'.defers .returning w1 := by
  refine znK ok hg r.2.1.ds r.2.2 hl e1 w1 a'.defers hf1.ds s1 fun e2 w2 s2 st2 => ?_
  obtain ⟨u, hu, hvr⟩ := zfT (P := P) s2 (hf1.mono st2.le) hrv
  exact ⟨u, hu, e2, s2, hvr, st1.trans st2⟩
 rcases hx with rfl | rfl
 ·subst hex; exact hfin
 ·subst hex; exact hfin
structure KnownOk (P : Program) (I : zba) : Prop where
 whole : ∀ f k, I f = some (.whole k) → ∀ args h e w (us : Array Value), Sat e h w.heap → VRs e args us.toList → znI P (k args h) e h w f us
 pre : ∀ f k, I f = some (.pre k) → ∀ args h e w (us : Array Value), Sat e h w.heap → VRs e args us.toList → znI P (k args h) e h w f us
 post : ∀ f k, I f = some (.post k) → ∀ args h h1 h2 v, k h args h1 = some h2 → ∀ e w (us : Array Value) e1 w1 u, Sat e h w.heap → VRs e args us.toList → Sat e1 h1 w1.heap → VR e1 v u → Step e h w e1 h1 w1 → Out e h w v h2 u w1
theorem zfr (ok : POk P) (hg : Good P self) {I : zba} (hI : KnownOk P I) : zb4 P (zdt P I self) := by
 intro f args h e w us s ha v h' hv
 unfold zdt at hv
 cases hi : I f with
 | none =>
   rw [hi] at hv
   exact zfq ok hg f args h e w us s ha v h' hv
 | some k =>
   rw [hi, oE_some] at hv
   cases k with
   | whole k => exact hI.whole f k hi args h e w us s ha v h' hv
   | pre k =>
     have hv' : oE (zni P self f args h) (fun r => some r) (k args h) = some (v, h') := hv
     cases hk : k args h with
     | none =>
       rw [hk, oE_none] at hv'
       exact zfq ok hg f args h e w us s ha v h' hv'
     | some r =>
       rw [hk, oE_some] at hv'
       rw [hv'] at hk
       exact hI.pre f k hi args h e w us s ha v h' hk
   | post k =>
     have hv' : bnd (zni P self f args h) (fun r => bnd (k h args r.2) fun h' => some (r.1, h')) = some (v, h') := hv
     rw [zaa] at hv'
     obtain ⟨r, hr, hv'⟩ := hv'
     rw [zaa] at hv'
     obtain ⟨h2, hk, hv'⟩ := hv'
     cases hv'
     refine CallsIn.mono (zfq ok hg f args h e w us s ha r.1 r.2 hr) fun en w1 hen => ?_
     cases en with
     | returned u =>
       obtain ⟨e1, s1, hv1, st1⟩ := hen
       exact hI.post f k hi args h r.2 h' r.1 hk e w us e1 w1 u s ha s1 hv1 st1
     | panicked c => exact hen.elim
     | outgrown => exact hen.elim
end
end
end Go.Xe
end
section
namespace Go.Xe
noncomputable section
section
variable {P : Program} {e : Env} {w : World} {self : Option Nat → Code → Fr → AH → R}
theorem zdU {B : Nat} {L : Go.Loop} (hB : w.heap[B]? = some (.loop L)) : (Instr.getLoop B).run P w = .ok L w := by
 have hget : (getObj B).run P w = .ok (.loop L) w := by simp only [getObj, Sem.run, hB]
 unfold Instr.getLoop
 rw [zab, hget]; rfl
theorem zfs {B : Nat} {L : Go.Loop} (hB : w.heap[B]? = some (.loop L)) (o : Obj) : (setObj B o).run P w = .ok () { w with heap := w.heap.setIfInBounds B o } := by
 simp only [setObj, Sem.run, hB]
theorem Sat.loopAt {h : AH} {H : Array Obj} (s : Sat e h H) {l : Nat} {st : LoopState} {pend : Option Code} {tm : Tr AV} {nt : Nat} {ps : List Nat} {asg body : Code} {d : Nat} {L : Loc} (hb : h.get l = some (.loop st pend tm nt ps asg body d)) (hl : e.loc l = some L) :
  ∃ R : Go.Loop, H[L.blk]? = some (.loop R) ∧ R.state = st ∧ R.pending = pend ∧ R.params.toList = ps ∧ R.assign = asg ∧ R.body = body ∧ TR e tm nt R.tmps ∧ ∃ ld, e.loc d = some ld ∧ R.defers = ld.blk := by
 obtain ⟨L', o, hL', ho, hr⟩ := s.ents l _ hb
 rw [hl] at hL'; cases hL'
 cases hr with
 | loop R _ _ _ _ ld ht hd hbl => exact ⟨R, ho, rfl, rfl, rfl, rfl, rfl, ht, ld, hd, hbl⟩
theorem Sat.setLoop {h : AH} {w : World} (s : Sat e h w.heap) {l : Nat} {st : LoopState} {pend : Option Code} {tm : Tr AV} {nt : Nat} {ps : List Nat} {asg body : Code} {d : Nat} {L : Loc} (hb : h.get l = some (.loop st pend tm nt ps asg body d)) (hl : e.loc l = some L)
  {R : Go.Loop} (hH : w.heap[L.blk]? = some (.loop R)) (st' : LoopState) (pend' : Option Code) :
  let w' : World := { w with heap := w.heap.setIfInBounds L.blk (.loop { R with state := st', pending := pend' }) }
  Sat e (h.set l (.loop st' pend' tm nt ps asg body d)) w'.heap ∧ Step e h w e (h.set l (.loop st' pend' tm nt ps asg body d)) w' := by
 intro w'
 obtain ⟨R', hH', rfl, rfl, rfl, rfl, rfl, ht, ld, hd, hbl⟩ := s.loopAt hb hl
 rw [hH] at hH'; cases hH'
 have hr : EntR e h.fm (.loop st' pend' tm nt R.params.toList R.assign R.body d) L (.loop { R with state := st', pending := pend' }) := .loop { R with state := st', pending := pend' } tm nt d L ld ht hd hbl
 exact ⟨s.setObj hb hl (s.alone hb hl rfl) hr (fun c hc => by cases hc) (fun h => by cases h), Step.setObj s _ hb hl⟩
theorem zq4 {h h' : AH} {l : Nat} {en : Ent} (hb : zlx h l en = some h') : ∃ pend tm nt ps a b d, en = .loop .ready pend tm nt ps a b d ∧ h' = h.set l (.loop .busy pend tm nt ps a b d) := by
 cases en <;> try (simp [zlx] at hb; done)
 rename_i st pend tm nt ps a b d
 cases st <;> try (simp [zlx] at hb; done)
 cases hb
 exact ⟨_, _, _, _, _, _, _, rfl, rfl⟩
theorem zuB {h h' : AH} {l : Nat} {j : Option Code} {en : Ent} {v : AV} (hb : endE h l j en = some (v, h')) : ∃ pend tm nt ps a b d, en = .loop .busy pend tm nt ps a b d ∧ v = zbZ (isNone j) ∧ h' = h.set l (.loop (ite' (isNone j) .ready .done) j tm nt ps a b d) := by
 cases en <;> try (simp [endE] at hb; done)
 rename_i st pend tm nt ps a b d
 cases st <;> try (simp [endE] at hb; done)
 cases hb
 exact ⟨_, _, _, _, _, _, _, rfl, rfl, rfl⟩
theorem zix (hg : Good P self) : zcs P (roundA self) := by
 intro l tm nt asg body h v h' hv e w L tmps fn s hL htr
 unfold roundA at hv
 cases h1 : self (some l) asg ⟨tm, nt, []⟩ h with
 | no y => rw [h1] at hv; cases hv
 | ok x fr1 hh1 =>
   rw [h1] at hv
   have hv' : grd (zkz x) (bnd (hh1.get l) fun en => bnd (zlx hh1 l en) fun h =>
    rE (fun x fr h => grd (roundA.isNilD fr.ds) (bnd (h.get l) fun e => endE h l (zcD x) e)) (fun _ => none) (self (some l) body fr1 h)) = some (v, h') := hv
   rw [zac, zaa] at hv'
   obtain ⟨hx, en, hen, hv'⟩ := hv'
   rw [zaa] at hv'
   obtain ⟨hh2, hbeg, hv'⟩ := hv'
   have hx' : x = .normal := by cases x <;> first | rfl | (simp [zkz] at hx)
   subst hx'
   cases h2 : self (some l) body fr1 hh2 with
   | no y => rw [h2] at hv'; cases hv'
   | ok x2 fr2 hh3 =>
     rw [h2] at hv'
     have hv2 : grd (roundA.isNilD fr2.ds) (bnd (hh3.get l) fun e => endE hh3 l (zcD x2) e) = some (v, h') := hv'
     rw [zac, zaa] at hv2
     obtain ⟨_, en3, hen3, hend⟩ := hv2
     obtain ⟨pend, tm2, nt2, ps2, a2, b2, d2, rfl, rfl⟩ := zq4 hbeg
     obtain ⟨pend3, tm3, nt3, ps3, a3, b3, d3, rfl, rfl, rfl⟩ := zuB hend
     refine roundIn_of_wpIn (F := Fence.wide) trivial ?_
     have hw1 := hg (some l) asg ⟨tm, nt, []⟩ h .normal fr1 hh1 h1 e { tmps := tmps, defers := [] } w (some L.blk) s ⟨htr, .nil⟩ (.inr ⟨l, L, rfl, hL, rfl⟩)
     refine wpIn_mono (F := fen (some L.blk)) hw1 fun ex a1 w1 ⟨hex, e1, s1, hf1, st1⟩ => ?_
     subst hex
     have hL1 := st1.le.loc _ _ hL
     obtain ⟨R, hH, hst, _⟩ := s1.loopAt hen hL1
     obtain ⟨s2, st2⟩ := s1.setLoop hen hL1 hH .busy pend
     have hpend : R.pending = pend := (s1.loopAt hen hL1).elim fun R' h => by
      have : R' = R := by
       have := h.1
       rw [hH] at this
       cases this; rfl
      rw [← this]; exact h.2.2.1
     refine ⟨{ w1 with heap := w1.heap.setIfInBounds L.blk (.loop { R with state := .busy, pending := pend }) }, ?_, ?_⟩
     rotate_left
     ·have hw2 := hg (some l) body fr1 _ x2 fr2 hh3 h2 e1 a1 { w1 with heap := w1.heap.setIfInBounds L.blk (.loop { R with state := .busy, pending := pend }) } (some L.blk) s2 hf1 (.inr ⟨l, L, rfl, hL1, rfl⟩)
      refine wpIn_mono (F := fen (some L.blk)) hw2 fun ex2 a2' w3 ⟨hex2, e3, s3, hf3, st3⟩ => ?_
      subst hex2
      have hL3 := st3.le.loc _ _ hL1
      obtain ⟨R3, hH3, _⟩ := s3.loopAt hen3 hL3
      have fin : ∀ j : Option Code, zcD x2 = j → ∃ u w4, (Instr.endRound L.blk j).run P w3 = .ok u w4 ∧ Out e h w (zbZ (isNone (zcD x2))) (hh3.set l (.loop (ite' (isNone (zcD x2)) .ready .done) (zcD x2) tm3 nt3 ps3 a3 b3 d3)) u w4 := fun j hj => by
       subst hj
       obtain ⟨s4, st4⟩ := s3.setLoop hen3 hL3 hH3 (ite' (isNone (zcD x2)) .ready .done) (zcD x2)
       refine ⟨.bool (zcD x2).isNone, _, ?_, e3, s4, ?_, ((st1.trans st2).trans st3).trans st4⟩
       ·unfold Instr.endRound
        rw [zab, zdU hH3]
        simp only []
        rw [zab, zfs hH3]
        have : (if (zcD x2).isNone = true then LoopState.ready else LoopState.done) = ite' (isNone (zcD x2)) .ready .done := by
         cases zcD x2 <;> rfl
        rw [this]
        rfl
       ·rw [zaV]
        have : isNone (zcD x2) = (zcD x2).isNone := by cases zcD x2 <;> rfl
        rw [this]; exact .bool _
      cases x2 with
      | normal => obtain ⟨u, w4, hr, ho⟩ := fin none rfl; exact ⟨u, w4, hr, ho⟩
      | exit id => obtain ⟨u, w4, hr, ho⟩ := fin (some (.exit id)) rfl; exact ⟨u, w4, hr, ho⟩
      | goto t => obtain ⟨u, w4, hr, ho⟩ := fin (some (.goto t)) rfl; exact ⟨u, w4, hr, ho⟩
      | ret => obtain ⟨u, w4, hr, ho⟩ := fin (some .ret) rfl; exact ⟨u, w4, hr, ho⟩
     ·unfold Instr.beginRound
      rw [zab, zdU hH]
      simp only []
      rw [zab, zfs hH]
      rw [hst, ← hpend]
      rfl
variable {I : zba}
theorem zfU (ok : POk P) (hg : Good P self) (hcall : zb4 P (zdt P I self)) {rd ρ : Option Nat} {g : Operand} {ps : Array Tmp} {asg body : Code} {fr fr' : Fr} {h h1 h' : AH} {x : XE} {a : Act} {d : Nat} {mark : List ADef} {mark' : List Deferred} {e1 : Env} {w1 : World} {ld : Loc}
  (hf : FR e fr a) (hrr : RR e rd ρ) (s1 : Sat e1 h1 w1.heap) (st1 : Step e h w e1 h1 w1) (hd : e1.loc d = some ld) (hm : DRs e1 mark mark')
  (hr : (h1.new (.loop .ready none fr.t fr.nt ps.toList asg body d) fun l h =>
   oE (R.no "rangeFunc")
    (fun fv => opE (fun _ _ => R.no "rangeFunc") (fun _ => .no "rangeFunc")
     (fun f args h => zly "rangeFunc" (fun _ h => oE (R.no "rangeFunc: loop")
       (fun e => rangeFuncA.rangeEnd self rd l ⟨fr.t, fr.nt, app mark fr.ds⟩ h e) (h.get l)) (zdt P I self f args h))
     (fun _ _ _ _ _ _ => .no "rangeFunc") (fun _ _ => .no "rangeFunc") (.no "rangeFunc: what is called")
     (zpp P fv [.func (.yield l) [] []] h)) (ev g fr)) = .ok x fr' h') (fn : FuncId)
  (hent : ∀ L : Go.Loop, L.state = .ready → (Instr.enterLoop fn a.tmps ps asg body ρ).run P w = .ok (w1.heap.size, mark') { w1 with heap := w1.heap.push (.loop { state := .ready, pending := none, fn, tmps := a.tmps, params := ps, assign := asg, body := body, defers := ld.blk }) }) :
  ∃ (l : Nat) (mk : List Deferred) (w₁ : World) (d : Deferred) (w₁' : World) (f : FuncId) (args : Array Value) (w₂ : World),
    (Instr.enterLoop fn a.tmps ps asg body (fen ρ).round).run P w = .ok (l, mk) w₁ ∧
    (resolve a.eval (rangeCall g l) 0).run P w₁ = .ok d w₁' ∧
    (∀ f', Target.leads P w₁' d.target d.args = some f' → (fen ρ).fn f') ∧
    (invoke d.target d.args).run P w₁' = .ok (.enter f args) w₂ ∧
    ((fen ρ).depth.isSome = true → 1 ≤ 0) ∧
    CallsIn (fen ρ) (0 - 1) P f args w₂ (rangePost (fen ρ) 0 P l (Post e h w x fr' h') { a with defers := mk ++ a.defers }) := by
 rw [AH.new_eq] at hr
 obtain ⟨LR, hR⟩ : ∃ LR : Go.Loop, LR = { state := .ready, pending := none, fn, tmps := a.tmps, params := ps, assign := asg, body := body, defers := ld.blk } := ⟨_, rfl⟩
 have hle1 : e1.le (e1.at_ h1.next ⟨w1.heap.size, 0, 0⟩) := Env.at_le s1.fresh
 have hf1 := hf.mono st1.le
 have hen : EntR (e1.at_ h1.next ⟨w1.heap.size, 0, 0⟩) h1.fm (.loop .ready none fr.t fr.nt ps.toList asg body d) ⟨w1.heap.size, 0, 0⟩ (.loop LR) := by
  rw [hR]
  exact .loop { state := .ready, pending := none, fn, tmps := a.tmps, params := ps, assign := asg, body := body, defers := ld.blk } fr.t fr.nt d _ ld (hf1.tmps.mono hle1) (hle1.loc _ _ hd) rfl
 obtain ⟨s2, st2⟩ := s1.add (w := w1) 0 rfl hen
 have hloc : (e1.at_ h1.next ⟨w1.heap.size, 0, 0⟩).loc h1.next = some ⟨w1.heap.size, 0, 0⟩ := Env.at_self _ _ _
 have hf2 := hf1.mono hle1
 cases hev : ev g fr with
 | none => rw [hev] at hr; cases hr
 | some fv =>
   rw [hev, oE_some] at hr
   have hfv := zkN hf2 hev
   have hus : VRs (e1.at_ h1.next ⟨w1.heap.size, 0, 0⟩) [.func (.yield h1.next) [] []] (#[Value.func (.yield w1.heap.size) #[] #[]] : Array Value).toList :=
    .cons _ _ _ _ (.func _ _ _ _ _ _ (.yield h1.next ⟨w1.heap.size, 0, 0⟩ hloc) .nil .nil) .nil
   cases hc : zpp P fv [.func (.yield h1.next) [] []] (h1.add (.loop .ready none fr.t fr.nt ps.toList asg body d)) with
   | enter f args hh =>
     rw [hc] at hr
     have hr2 : zly "rangeFunc" (fun _ h => oE (R.no "rangeFunc: loop") (fun e => rangeFuncA.rangeEnd self rd h1.next ⟨fr.t, fr.nt, app mark fr.ds⟩ h e) (h.get h1.next)) (zdt P I self f args hh) = .ok x fr' h' := hr
     obtain ⟨v, hh3, hca, hr3⟩ := zkX hr2
     obtain ⟨fn', first', capt', huf, n, w2, hrun, hout⟩ := ziw (w := { w1 with heap := w1.heap.push (.loop LR) }) ok s2 hfv hus hc (by simp)
     obtain ⟨rfl, rfl, us, rfl, hargs⟩ := hout
     have hent' := hent LR (by rw [hR])
     rw [← hR] at hent'
     refine ⟨w1.heap.size, mark', _, { target := .fn fn' capt', args := first' ++ #[Value.func (.yield w1.heap.size) #[] #[]] }, _, f, us, _, hent', ?_, fun _ _ => trivial, hrun, zdx ρ, ?_⟩
     ·show Sem.run P (Deferred.ofValue (a.eval g) (#[Operand.const (.func (.yield w1.heap.size) #[] #[])].map a.eval)) _ = _
      have hmap : (#[Operand.const (.func (.yield w1.heap.size) #[] #[])].map a.eval) = #[Value.func (.yield w1.heap.size) #[] #[]] := by simp [Act.eval]
      rw [huf, hmap]
      rfl
     ·refine zfp.2 (CallsIn.mono (hcall f args _ _ _ us s2 hargs v hh3 hca) fun en w3 hen3 => ?_)
      cases en with
      | panicked c => exact hen3.elim
      | outgrown => exact hen3.elim
      | returned u =>
        obtain ⟨e3, s3, _, st3⟩ := hen3
        have hL3 := st3.le.loc _ _ hloc
        cases hget : hh3.get h1.next with
        | none => rw [hget] at hr3; cases hr3
        | some en3 =>
          rw [hget, oE_some] at hr3
          cases en3 <;> try (cases hr3; done)
          rename_i stt pend tm3 nt3 ps3 a3 b3 d3
          obtain ⟨R3, hH3, hst3, hpe3, _⟩ := s3.loopAt hget hL3
          have hnb : stt ≠ .busy := fun h => by subst h; cases hr3
          have hr4 : oE (R.ok .normal ⟨fr.t, fr.nt, app mark fr.ds⟩ (hh3.set h1.next (.loop .exhausted pend tm3 nt3 ps3 a3 b3 d3)))
           (fun c => self rd c ⟨fr.t, fr.nt, app mark fr.ds⟩ (hh3.set h1.next (.loop .exhausted pend tm3 nt3 ps3 a3 b3 d3))) pend = .ok x fr' h' := by
           cases stt <;> first | exact hr3 | exact absurd rfl hnb
          obtain ⟨s4, st4⟩ := s3.setLoop hget hL3 hH3 .exhausted pend
          have hstep := ((st1.trans st2).trans st3).trans st4
          have hf4 : FR e3 ⟨fr.t, fr.nt, app mark fr.ds⟩ { a with defers := mark' ++ a.defers } := by
           refine ⟨(hf2.tmps).mono st3.le, ?_⟩
           show DRs e3 (app mark fr.ds) (mark' ++ a.defers)
           rw [zcE]
           exact ((hm.mono hle1).mono st3.le).app (hf2.ds.mono st3.le)
          refine ⟨pend, { w3 with heap := w3.heap.setIfInBounds w1.heap.size (.loop { R3 with state := .exhausted, pending := pend }) }, ?_, ?_⟩
          rotate_left
          ·cases pend with
           | none =>
             cases hr4
             exact ⟨rfl, e3, s4, hf4, hstep⟩
           | some c =>
             rw [oE_some] at hr4
             have hw := hg rd c _ _ x fr' h' hr4 e3 { a with defers := mark' ++ a.defers } _ ρ s4 hf4 (hrr.mono hstep.le)
             exact wpIn_mono hw fun ex a5 w5 ⟨hex, e5, s5, hf5, st5⟩ => ⟨hex, e5, s5, hf5, hstep.trans st5⟩
          ·unfold Instr.endLoop
           rw [zab, zdU hH3]
           have hbz : (R3.state == LoopState.busy) = false := by
            rw [hst3]; cases stt <;> first | rfl | exact absurd rfl hnb
           show Sem.run P (if (R3.state == LoopState.busy) = true then _ else _) w3 = _
           rw [if_neg (by rw [hbz]; simp)]
           show Sem.run P (setObj w1.heap.size (.loop { R3 with state := .exhausted }) >>= fun _ => pure R3.pending) w3 = _
           rw [zab, zfs hH3, ← hpe3]
           rfl
   | no => rw [hc] at hr; cases hr
   | val => rw [hc] at hr; cases hr
   | skip => rw [hc] at hr; cases hr
   | round => rw [hc] at hr; cases hr
   | dfr => rw [hc] at hr; cases hr
theorem ziy (ok : POk P) (hg : Good P self) (hcall : zb4 P (zdt P I self)) {rd ρ : Option Nat} {g : Operand} {ps : Array Tmp} {asg body : Code} {fr fr' : Fr} {h h' : AH} {x : XE}
  (hr : rangeFuncA P I self rd g ps.toList asg body fr h = .ok x fr' h') {a : Act} (s : Sat e h w.heap) (hf : FR e fr a) (hrr : RR e rd ρ) :
  (Code.rangeFunc g ps asg body).wpIn (fen ρ) 0 P (Post e h w x fr' h') a w := by
 refine wpIn_rangeFunc fun fn _ => ?_
 unfold rangeFuncA at hr
 cases rd with
 | none =>
   have hρ : ρ = none := by
    rcases hrr with ⟨_, h⟩ | ⟨l, L, h, _⟩
    ·exact h
    ·cases h
   subst hρ
   rw [oE_none, AH.new_eq] at hr
   have hle : e.le (e.at_ h.next ⟨w.heap.size, 0, 0⟩) := Env.at_le s.fresh
   obtain ⟨s1, st1⟩ := s.add (w := w) (en := .dfr (some [])) (o := .deferred (some [])) 0 rfl (.dfr [] _ [] .nil)
   refine zfU (mark' := [{ target := .collected w.heap.size, args := #[] }]) ok hg hcall hf hrr s1 st1 (Env.at_self _ _ _) (.cons _ _ _ _ (.coll h.next _ (Env.at_self _ _ _)) .nil) hr fn fun L _ => ?_
   rfl
 | some l0 =>
   rw [oE_some] at hr
   obtain ⟨L0, hL0, hρ⟩ : ∃ L, e.loc l0 = some L ∧ ρ = some L.blk := by
    rcases hrr with ⟨h, _⟩ | ⟨l, L, h, h2, h3⟩
    ·cases h
    ·cases h; exact ⟨L, h2, h3⟩
   cases hget : h.get l0 with
   | none => rw [hget] at hr; cases hr
   | some en =>
     rw [hget, oE_some] at hr
     cases en <;> try (cases hr; done)
     rename_i stt pend tm3 nt3 ps3 a3 b3 d3
     obtain ⟨R3, hH3, _, _, _, _, _, _, ld, hd, hbl⟩ := s.loopAt hget hL0
     refine zfU (mark' := []) ok hg hcall hf hrr s (.refl e h w) hd .nil hr fn fun L _ => ?_
     subst hρ
     unfold Instr.enterLoop
     show Sem.run P (Instr.getLoop L0.blk >>= _) w = _
     rw [zab, zdU hH3, ← hbl]
     rfl
end
end
end Go.Xe
end
section
namespace Go.Xe
noncomputable section
section
variable {P : Program} {e : Env} {w : World} {self : Option Nat → Code → Fr → AH → R} {I : zba}
def zk0 (P : Program) (k : Option Nat → List Oper → Fr → AH → R) : Prop :=
 ∀ rd id (ops : Array Oper) fr h x fr' h', k rd ops.toList fr h = .ok x fr' h' → ∀ e a w ρ, Sat e h w.heap → FR e fr a → RR e rd ρ → (Code.region id ops true).wpIn (fen ρ) 0 P (Post e h w x fr' h') a w
theorem zjQ {e1 : Env} {h h1 h' : AH} {w1 : World} {x : XE} {fr' : Fr} (st : Step e h w e1 h1 w1) {ex : Exit} {a : Act} {w2 : World} (hp : Post e1 h1 w1 x fr' h' ex a w2) : Post e h w x fr' h' ex a w2 :=
 let ⟨q, e2, s2, hf2, st2⟩ := hp; ⟨q, e2, s2, hf2, st.trans st2⟩
theorem zft {F : Fence} {n : Nat} {Q : Exit → Act → World → Prop} {a : Act} {c : Code} (h : c.wpIn F n P (fun e a w => (∀ l, e ≠ .goto l) ∧ Q e a w) a w) : (Code.scope c).wpIn F n P Q a w := by
 intro b k cs hro hb hr
 have s0 : step P (lone (b.atR a (.code (.scope c) :: k)) cs w) = .next (lone (b.atR a (.code c :: .inScope c :: k)) cs w) := step_lone_go (by simp [stepG, stepG.exec, Frame.atR])
 have h0 : (lone (b.atR a (.code (.scope c) :: k)) cs w).fenced P F := fenced_calm hb hr rfl
 obtain ⟨e, a₁, w₁, ⟨hng, hq⟩, harr⟩ := h b (.inScope c :: k) cs hro hb hr
 cases e with
 | normal =>
   have s1 : step P (lone (b.atR a₁ (.inScope c :: k)) cs w₁) = .next (lone (b.atR a₁ k) cs w₁) := step_lone_go (by simp [stepG, stepG.exec, Frame.atR])
   exact ⟨.normal, a₁, w₁, hq, .head h0 s0 (StepsIn.trans harr (.one (fenced_calm hb hr rfl) s1))⟩
 | exit id =>
   have hx : exitTo id (.inScope c :: k) = exitTo id k := by simp [exitTo]
   exact ⟨.exit id, a₁, w₁, hq, fun k' hk => .head h0 s0 (harr.1 k' (by rw [hx]; exact hk)),
    fun hr' hk => let ⟨k₁, h1, h2⟩ := harr.2 hr' (by rw [hx]; exact hk); ⟨k₁, h1, .head h0 s0 h2⟩⟩
 | goto l => exact absurd rfl (hng l)
 | ret => exact ⟨_, a₁, w₁, hq, .of_steps (.one h0 s0) harr⟩
 | panic ch => exact ⟨_, a₁, w₁, hq, .of_steps (.one h0 s0) harr⟩
 | outgrown => exact ⟨_, a₁, w₁, hq, .of_steps (.one h0 s0) harr⟩
theorem zfV {F : Fence} {n : Nat} {c : Code} {Q Q' : Exit → Act → World → Prop} (hq : ∀ e a w, Q e a w → Q' e a w) : ∀ (m : Nat) (a : Act) (w : World), Code.roundsIn F n P c Q m a w → Code.roundsIn F n P c Q' m a w
 | 0, _, _, h => h
 | m + 1, a, w, h => by
   rw [roundsIn_succ] at h ⊢
   refine wpIn_mono h fun e a' w' hx => ?_
   cases e with
   | normal => exact zfV hq m a' w' hx
   | _ => exact hq _ _ _ hx
def zfW (P : Program) (self : Option Nat → Code → Fr → AH → R) (n : Nat) : Prop :=
 ∀ rd b fr h x fr' h', self rd (.loop b) fr h = .ok x fr' h' → ∀ e a w ρ, Sat e h w.heap → FR e fr a → RR e rd ρ → Code.roundsIn (fen ρ) 0 P b (Post e h w x fr' h') n a w
theorem zq5 {rd : Option Nat} {b : Code} {r : R} {x : XE} {fr' : Fr} {h' : AH} (hr : seqA self rd b r = .ok x fr' h') :
  (∃ fr1 h1, r = .ok .normal fr1 h1 ∧ self rd b fr1 h1 = .ok x fr' h') ∨ (r = .ok x fr' h' ∧ x ≠ .normal) := by
 cases r with
 | no y => cases hr
 | ok x1 fr1 h1 =>
   cases x1 with
   | normal => exact .inl ⟨fr1, h1, rfl, hr⟩
   | exit id => cases hr; exact .inr ⟨rfl, by simp⟩
   | goto l => cases hr; exact .inr ⟨rfl, by simp⟩
   | ret => cases hr; exact .inr ⟨rfl, by simp⟩
theorem zmd {x : XE} (hx : x ≠ .normal) {e1 : Env} {h h' : AH} {fr' : Fr} {next : Act → World → Prop} {Q : Exit → Act → World → Prop} {ex : Exit} {a : Act} {w1 w2 : World} (hp : Post e1 h w1 x fr' h' ex a w2)
  (hQ : Post e1 h w1 x fr' h' ex a w2 → Q ex a w2) : Exit.then next Q ex a w2 := by
 have hex := hp.1
 cases x with
 | normal => exact absurd rfl hx
 | exit id => subst hex; exact hQ hp
 | goto l => subst hex; exact hQ hp
 | ret => subst hex; exact hQ hp
theorem zq6 {n : Nat} {self' : Option Nat → Code → Fr → AH → R} (hg : Good P self) (hl : zfW P self n) (hs : ∀ rd b fr h, self' rd (.loop b) fr h = seqA self rd (.loop b) (self rd b fr h)) : zfW P self' (n + 1) := by
 intro rd b fr h x fr' h' hr e a w ρ s hf hrr
 rw [hs] at hr
 rw [roundsIn_succ]
 rcases zq5 hr with ⟨fr1, h1, hb, hr2⟩ | ⟨hb, hx⟩
 ·refine wpIn_mono (hg rd b fr h .normal fr1 h1 hb e a w ρ s hf hrr) fun ex a1 w1 ⟨hex, e1, s1, hf1, st1⟩ => ?_
  subst hex
  exact zfV (fun ex a2 w2 hp => zjQ st1 hp) n a1 w1 (hl rd b fr1 h1 x fr' h' hr2 e1 a1 w1 ρ s1 hf1 (hrr.mono st1.le))
 ·exact wpIn_mono (hg rd b fr h x fr' h' hb e a w ρ s hf hrr) fun ex a1 w1 hp => zmd hx hp id
theorem zpM (ok : POk P) (hI : KnownOk P I) (hg : Good P self) (hd : zk0 P (zsC P I self)) {n : Nat} (hl : zfW P (zut P I self) n) : Good P (zut P I self) := by
 have hcall := zfr (I := I) ok hg hI
 have hround := zix hg
 intro rd c fr h x fr' h' hr e a w ρ s hf hrr
 cases c with
 | skip =>
   have hr' : R.ok .normal fr h = .ok x fr' h' := hr
   cases hr'
   exact wpIn_skip ⟨rfl, e, s, hf, .refl e _ w⟩
 | label l =>
   have hr' : R.ok .normal fr h = .ok x fr' h' := hr
   cases hr'
   exact wpIn_label ⟨rfl, e, s, hf, .refl e _ w⟩
 | region id ops d =>
   cases d with
   | false => exact zl9 ok hcall hround hr s hf hrr
   | true => exact hd rd id ops fr h x fr' h' hr e a w ρ s hf hrr
 | seq c1 c2 =>
   have hr' : seqA self rd c2 (self rd c1 fr h) = .ok x fr' h' := hr
   refine wpIn_seq ?_
   rcases zq5 hr' with ⟨fr1, h1, hb, hr2⟩ | ⟨hb, hx⟩
   ·refine wpIn_mono (hg rd c1 fr h .normal fr1 h1 hb e a w ρ s hf hrr) fun ex a1 w1 ⟨hex, e1, s1, hf1, st1⟩ => ?_
    subst hex
    exact wpIn_mono (hg rd c2 fr1 h1 x fr' h' hr2 e1 a1 w1 ρ s1 hf1 (hrr.mono st1.le)) fun ex a2 w2 hp => zjQ st1 hp
   ·exact wpIn_mono (hg rd c1 fr h x fr' h' hb e a w ρ s hf hrr) fun ex a1 w1 hp => zmd hx hp id
 | cond c c1 c2 =>
   have hr' : zvp self rd c1 c2 fr h (ev c fr) = .ok x fr' h' := hr
   cases hev : ev c fr with
   | none => rw [hev] at hr'; cases hr'
   | some v =>
     rw [hev] at hr'
     have hv := zkN hf hev
     have hr2 : (match v with | .bool q => self rd (ite' q c1 c2) fr h | _ => R.no "cond") = .ok x fr' h' := hr'
     cases v <;> try (cases hr2; done)
     rename_i q
     have hr3 : self rd (ite' q c1 c2) fr h = .ok x fr' h' := hr2
     refine wpIn_cond (t := q) (zdN hv) ?_
     rw [zaK] at hr3
     exact hg rd _ fr h x fr' h' hr3 e a w ρ s hf hrr
 | block id b =>
   have hr' : zt1 id (self rd b fr h) = .ok x fr' h' := hr
   refine wpIn_block ?_
   cases hb : self rd b fr h with
   | no y => rw [hb] at hr'; cases hr'
   | ok x1 fr1 h1 =>
     rw [hb] at hr'
     refine wpIn_mono (hg rd b fr h x1 fr1 h1 hb e a w ρ s hf hrr) fun ex a1 w1 ⟨hex, e1, s1, hf1, st1⟩ => ?_
     subst hex
     cases x1 with
     | normal => cases hr'; exact ⟨rfl, e1, s1, hf1, st1⟩
     | goto l => cases hr'; exact ⟨rfl, e1, s1, hf1, st1⟩
     | ret => cases hr'; exact ⟨rfl, e1, s1, hf1, st1⟩
     | exit i =>
       have hr2 : ite' (Nat.beq i id) (R.ok .normal fr1 h1) (.ok (.exit i) fr1 h1) = .ok x fr' h' := hr'
       rw [zaK] at hr2
       show Exit.inBlock id (Post e h w x fr' h') (.exit i) a1 w1
       by_cases hid : i = id
       ·rw [if_pos ((zae _ _).2 hid)] at hr2
        cases hr2
        simp only [Exit.inBlock, hid, if_true]
        exact ⟨rfl, e1, s1, hf1, st1⟩
       ·rw [if_neg (fun hx => hid ((zae _ _).1 hx))] at hr2
        cases hr2
        simp only [Exit.inBlock, hid, if_false]
        exact ⟨rfl, e1, s1, hf1, st1⟩
 | loop b => exact wpIn_loop_rounds n (hl rd b fr h x fr' h' hr e a w ρ s hf hrr)
 | rangeFunc g ps asg body => exact ziy ok hg hcall hr s hf hrr
 | exit id =>
   have hr' : R.ok (.exit id) fr h = .ok x fr' h' := hr
   cases hr'
   exact wpIn_exit ⟨rfl, e, s, hf, .refl e _ w⟩
 | goto l =>
   have hr' : R.ok (.goto l) fr h = .ok x fr' h' := hr
   cases hr'
   exact wpIn_goto ⟨rfl, e, s, hf, .refl e _ w⟩
 | ret =>
   have hr' : R.ok .ret fr h = .ok x fr' h' := hr
   cases hr'
   exact wpIn_ret ⟨rfl, e, s, hf, .refl e _ w⟩
 | scope b =>
   have hr' : zt2 (self rd b fr h) = .ok x fr' h' := hr
   cases hb : self rd b fr h with
   | no y => rw [hb] at hr'; cases hr'
   | ok x1 fr1 h1 =>
     rw [hb] at hr'
     have hw := hg rd b fr h x1 fr1 h1 hb e a w ρ s hf hrr
     refine zft (wpIn_mono hw fun ex a1 w1 ⟨hex, e1, s1, hf1, st1⟩ => ?_)
     subst hex
     cases x1 with
     | goto l => cases hr'
     | normal => cases hr'; exact ⟨fun _ h => (by cases h), rfl, e1, s1, hf1, st1⟩
     | ret => cases hr'; exact ⟨fun _ h => (by cases h), rfl, e1, s1, hf1, st1⟩
     | exit i => cases hr'; exact ⟨fun _ h => (by cases h), rfl, e1, s1, hf1, st1⟩
 | refuse y => cases hr
theorem zme (ok : POk P) (hI : KnownOk P I) (hdraw : ∀ self, Good P self → zk0 P (zsC P I self)) : ∀ n, Good P (exec P I n) ∧ zfW P (exec P I n) n
 | 0 => ⟨fun rd c fr h x fr' h' hr => (by cases hr), fun rd b fr h x fr' h' hr => (by cases hr)⟩
 | n + 1 => by
   obtain ⟨hg, hl⟩ := zme ok hI hdraw n
   have hl' : zfW P (exec P I (n + 1)) (n + 1) := zq6 hg hl fun rd b fr h => rfl
   exact ⟨zpM ok hI hg (hdraw _ hg) hl', hl'⟩
end
end
end Go.Xe
end
