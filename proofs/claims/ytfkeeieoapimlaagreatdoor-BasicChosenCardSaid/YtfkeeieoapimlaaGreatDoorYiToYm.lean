/-
  One operation of the executor against the model's; Regions in the order of the text; Calls: what a function's body leaves, deferred calls, results; Ca. Conditions: none.
-/
import Derived.Test.YtfkeeieoapimlaaGreatDoorYcToYh
import Derived.RecoverIn
set_option linter.unusedVariables false
set_option linter.unusedSimpArgs false
set_option linter.unusedSectionVars false
section
namespace Go.Xe
noncomputable section
section
variable {α β : Type}
theorem zax {l : List AV} {k : AV → Option α} {y : α} : arg1 l k = some y ↔ ∃ a, l = [a] ∧ k a = some y := by
 cases l with
 | nil => simp [arg1]
 | cons a t =>
   show grd (zaY t) (k a) = some y ↔ _
   rw [zaf, zaD]
   constructor
   ·rintro ⟨rfl, h⟩; exact ⟨a, rfl, h⟩
   ·rintro ⟨b, hb, h⟩; cases hb; exact ⟨rfl, h⟩
theorem zbd {l : List AV} {k : AV → AV → Option α} {y : α} : arg2 l k = some y ↔ ∃ a b, l = [a, b] ∧ k a b = some y := by
 cases l with
 | nil => simp [arg2]
 | cons a t =>
   show arg1 t (fun b => k a b) = some y ↔ _
   rw [zax]
   constructor
   ·rintro ⟨b, rfl, h⟩; exact ⟨a, b, rfl, h⟩
   ·rintro ⟨a', b, hb, h⟩; cases hb; exact ⟨b, rfl, h⟩
theorem arg3_eq {l : List AV} {k : AV → AV → AV → Option α} {y : α} : arg3 l k = some y ↔ ∃ a b c, l = [a, b, c] ∧ k a b c = some y := by
 cases l with
 | nil => simp [arg3]
 | cons a t =>
   show arg2 t (fun b c => k a b c) = some y ↔ _
   rw [zbd]
   constructor
   ·rintro ⟨b, c, rfl, h⟩; exact ⟨a, b, c, rfl, h⟩
   ·rintro ⟨a', b, c, hb, h⟩; cases hb; exact ⟨b, c, rfl, h⟩
theorem zbN {h : AH} {o : Option AV} {r : O} (hr : ofV h o = r) (hn : r ≠ .no) : ∃ v, o = some v ∧ r = .val v h := by
 cases o with
 | none => exact absurd hr.symm hn
 | some v => exact ⟨v, rfl, hr.symm⟩
theorem zc0 {o : VH} {r : O} (hr : ofVH o = r) (hn : r ≠ .no) : ∃ v h', o = some (v, h') ∧ r = .val v h' := by
 cases o with
 | none => exact absurd hr.symm hn
 | some p => exact ⟨p.1, p.2, rfl, hr.symm⟩
theorem ofH_eq {o : Option AH} {r : O} (hr : ofH o = r) (hn : r ≠ .no) : ∃ h', o = some h' ∧ r = .skip h' := by
 cases o with
 | none => exact absurd hr.symm hn
 | some p => exact ⟨p, rfl, hr.symm⟩
end
section
variable {P : Program} {e : Env} {w : World}
theorem mapO_vrs {fr : Fr} {a : Act} (hf : FR e fr a) {xs : List Operand} {vs : List AV} (h : mapO (fun x => ev x fr) xs = some vs) : VRs e vs (xs.map a.eval) := by
 induction xs generalizing vs with
 | nil => cases h; exact .nil
 | cons x xs ih =>
   have h' : bnd (ev x fr) (fun y => bnd (mapO (fun x => ev x fr) xs) fun ys => some (y :: ys)) = some vs := h
   rw [zab] at h'
   obtain ⟨y, hy, h'⟩ := h'
   rw [zab] at h'
   obtain ⟨ys, hys, h'⟩ := h'
   cases h'
   exact .cons _ _ _ _ (ev_sound hf hy) (ih hys)
theorem vrs1 {a : AV} {u : Value} (h : VRs e [a] [u]) : VR e a u := by cases h; assumption
theorem vrs2 {a b : AV} {u v : Value} (h : VRs e [a, b] [u, v]) : VR e a u ∧ VR e b v := by
 cases h with
 | cons _ _ _ _ h1 h => exact ⟨h1, vrs1 h⟩
theorem vrs3 {a b c : AV} {u v x : Value} (h : VRs e [a, b, c] [u, v, x]) : VR e a u ∧ VR e b v ∧ VR e c x := by
 cases h with
 | cons _ _ _ _ h1 h => exact ⟨h1, vrs2 h⟩
theorem zdT {h h' : AH} {s : Sem Value} {v : AV} (r : Runs P s w fun u w' => Out e h w v h' u w') : Runs P (do pure (.value (← s)) : Sem Next) w fun n w' => OutO e h w (.val v h') n w' := by
 refine Runs.bind' (r.mono fun u w' ho => ?_)
 exact Runs.pure' (.val_ ho)
theorem zcc {h : AH} (hs : Sat e h w.heap) {s : Sem Value} {v : AV} (r : Runs P s w fun u w' => VR e v u ∧ w' = w) : Runs P (do pure (.value (← s)) : Sem Next) w fun n w' => OutO e h w (.val v h) n w' :=
 zdT (Runs.same hs r)
theorem u_out {h h' : AH} {s : Sem Unit} (r : Runs P s w fun _ w' => OutH e h w h' w') : Runs P (do s; pure .skip : Sem Next) w fun n w' => OutO e h w (.skip h') n w' := by
 refine Runs.bind' (r.mono fun u w' ho => ?_)
 exact Runs.pure' (.skip_ ho)
theorem zeD {ts : Array TypeId} {i t : Nat} (h : nth ts.toList i = some t) : ts[i]? = some t := by
 rw [za3, Array.getElem?_toList] at h; exact h
theorem builtin_sound {h : AH} (s : Sat e h w.heap) {b : Builtin} {ts : Array TypeId} {ty : TypeId} {cs : Array Bool} {args : List AV} {us : Array Value} {v : AV} {h' : AH} (ha : VRs e args us.toList)
  (hv : zgm P b ts.toList args h = some (v, h')) : Runs P (builtin b ts ty cs us) w fun n w' => OutO e h w (.val v h') n w' := by
 cases b <;> try (simp [zgm] at hv; done)
 case append =>
  have hv' : arg2 args (fun s x => bnd (nth ts.toList 0) fun t => bnd (zerosA P (nth ts.toList 1)) fun z => appendA P t z s x h) = some (v, h') := hv
  rw [zbd] at hv'
  obtain ⟨a, x, rfl, hv'⟩ := hv'
  rw [zab] at hv'
  obtain ⟨t, ht, hv'⟩ := hv'
  rw [zab] at hv'
  obtain ⟨z, hz, hv'⟩ := hv'
  obtain ⟨us⟩ := us
  cases ha with
  | cons _ ua _ l' h1 ha =>
    cases ha with
    | cons _ ux _ l' h2 ha =>
      cases ha
      exact zdT (append_sound s (zeD ht) h1 h2 hz hv')
 case cap =>
  have hv' : arg1 args (fun x => bnd (nth ts.toList 0) fun t => bnd (zga P t) fun _ => (match x with | .snil => some (zde 0, h) | _ => none)) = some (v, h') := hv
  rw [zax] at hv'
  obtain ⟨a, rfl, hv'⟩ := hv'
  rw [zab] at hv'
  obtain ⟨t, ht, hv'⟩ := hv'
  obtain ⟨us⟩ := us
  cases ha with
  | cons _ ua _ l' h1 ha =>
    cases ha
    exact zdT (cap_sound s (zeD ht) h1 hv')
 case copy =>
  have hv' : arg2 args (fun d x => bnd (nth ts.toList 0) fun t => copyA P t d x h) = some (v, h') := hv
  rw [zbd] at hv'
  obtain ⟨a, x, rfl, hv'⟩ := hv'
  rw [zab] at hv'
  obtain ⟨t, ht, hv'⟩ := hv'
  obtain ⟨us⟩ := us
  cases ha with
  | cons _ ua _ l' h1 ha =>
    cases ha with
    | cons _ ux _ l' h2 ha =>
      cases ha
      exact zdT (copy_sound s (zeD ht) h1 h2 hv')
 case delete =>
  have hv' : arg2 args (fun m k => bnd (nth ts.toList 0) fun t => bnd (mapDel P t m k h) fun h => some (AV.tup [], h)) = some (v, h') := hv
  rw [zbd] at hv'
  obtain ⟨a, x, rfl, hv'⟩ := hv'
  rw [zab] at hv'
  obtain ⟨t, ht, hv'⟩ := hv'
  rw [zab] at hv'
  obtain ⟨h2, hd, hv'⟩ := hv'
  cases hv'
  obtain ⟨us⟩ := us
  cases ha with
  | cons _ ua _ l' h1 ha =>
    cases ha with
    | cons _ ux _ l' h2 ha =>
      cases ha
      exact zdT (mapDel_sound s (zeD ht) h1 h2 hd)
 case len =>
  have hv' : arg1 args (fun x => bnd (nth ts.toList 0) fun t => bnd (P.underlying t) fun d => bnd (lenD x h d) fun n => some (zde n, h)) = some (v, h') := hv
  rw [zax] at hv'
  obtain ⟨a, rfl, hv'⟩ := hv'
  rw [zab] at hv'
  obtain ⟨t, ht, hv'⟩ := hv'
  rw [zab] at hv'
  obtain ⟨d, hd, hv'⟩ := hv'
  rw [zab] at hv'
  obtain ⟨n, hl, hv'⟩ := hv'
  cases hv'
  obtain ⟨us⟩ := us
  cases ha with
  | cons _ ua _ l' h1 ha =>
    cases ha
    exact zdT (len_sound s (zeD ht) hd h1 hl)
 case max =>
  cases args with
  | nil => cases hv
  | cons a l =>
    have hv' : vh h (zek true l a) = some (v, h') := hv
    unfold vh at hv'
    rw [zab] at hv'
    obtain ⟨m, hm, hv'⟩ := hv'
    cases hv'
    obtain ⟨us⟩ := us
    cases ha with
    | cons _ ua _ l' h1 ha =>
      obtain ⟨u', hr, hvr⟩ := max_sound (P := P) (w := w) h1 ha hm
      exact zcc s ⟨u', w, hr, hvr, rfl⟩
 case min =>
  cases args with
  | nil => cases hv
  | cons a l =>
    have hv' : vh h (zek false l a) = some (v, h') := hv
    unfold vh at hv'
    rw [zab] at hv'
    obtain ⟨m, hm, hv'⟩ := hv'
    cases hv'
    obtain ⟨us⟩ := us
    cases ha with
    | cons _ ua _ l' h1 ha =>
      obtain ⟨u', hr, hvr⟩ := min_sound (P := P) (w := w) h1 ha hm
      exact zcc s ⟨u', w, hr, hvr, rfl⟩
 case unsafeSliceData =>
  have hv' : arg1 args (fun x => zd4 x h) = some (v, h') := hv
  rw [zax] at hv'
  obtain ⟨a, rfl, hv'⟩ := hv'
  obtain ⟨us⟩ := us
  cases ha with
  | cons _ ua _ l' h1 ha =>
    cases ha
    exact zdT (sliceData_sound s h1 hv')
 case unsafeString =>
  have hv' : arg2 args (fun p l => bnd (nth ts.toList 0) fun pt => zcp P pt p l h) = some (v, h') := hv
  rw [zbd] at hv'
  obtain ⟨a, x, rfl, hv'⟩ := hv'
  rw [zab] at hv'
  obtain ⟨t, ht, hv'⟩ := hv'
  obtain ⟨us⟩ := us
  cases ha with
  | cons _ ua _ l' h1 ha =>
    cases ha with
    | cons _ ux _ l' h2 ha =>
      cases ha
      exact zdT (ze5 s (zeD ht) h1 h2 hv')
theorem slice_sound {h : AH} (s : Sat e h w.heap) {t : TypeId} {ρ : Operand → Value} {x : Operand} {lo hi : Option Operand} {vs : List AV} {v : AV} (ha : VRs e vs ((x :: (lo.toList ++ hi.toList)).map ρ))
  (hv : sliceOp P t (zgA lo) (zgA hi) vs h = some v) : Runs P (Instr.sliceAt t (ρ x) (lo.map ρ) (hi.map ρ) none) w fun u w' => VR e v u ∧ w' = w := by
 cases vs with
 | nil => cases hv
 | cons y r =>
   cases ha with
   | cons _ _ _ _ hx hr =>
     cases lo with
     | none =>
       cases hi with
       | none =>
         have hv' : grd (zaY r) (zej P t y none none h) = some v := hv
         rw [zaf] at hv'
         exact zcT s hx .none .none hv'.2
       | some hi =>
         have hv' : arg1 r (fun u => zej P t y none (some u) h) = some v := hv
         rw [zax] at hv'
         obtain ⟨a, rfl, hv'⟩ := hv'
         exact zcT s hx .none (.some _ _ (vrs1 hr)) hv'
     | some lo =>
       cases hi with
       | none =>
         have hv' : arg1 r (fun l => zej P t y (some l) none h) = some v := hv
         rw [zax] at hv'
         obtain ⟨a, rfl, hv'⟩ := hv'
         exact zcT s hx (.some _ _ (vrs1 hr)) .none hv'
       | some hi =>
         have hv' : arg2 r (fun l u => zej P t y (some l) (some u) h) = some v := hv
         rw [zbd] at hv'
         obtain ⟨a, b, rfl, hv'⟩ := hv'
         obtain ⟨h1, h2⟩ := vrs2 hr
         exact zcT s hx (.some _ _ h1) (.some _ _ h2) hv'
theorem callV_sound (ok : POk P) {h : AH} (s : Sat e h w.heap) {f : AV} {uf : Value} {args : List AV} {us : Array Value} {r : O} (hf : VR e f uf) (ha : VRs e args us.toList) (hv : callV P f args h = r) (hn : r ≠ .no) :
  ∃ fn' first' capt', uf = .func fn' first' capt' ∧ Runs P (invoke (.fn fn' capt') (first' ++ us)) w fun n w' => OutO e h w r n w' := by
 cases f <;> try (exact absurd hv.symm hn)
 rename_i fn first capt
 have hv' : zd6 P capt (app first args) h fn = r := hv
 rw [zcn] at hv'
 cases hf with
 | func _ f' _ _ x' y' h1 h2 h3 => exact ⟨f', x', y', rfl, zen ok s h1 h3 (by rw [Array.toList_append]; exact h2.app ha) hv' hn⟩
theorem zbc (ok : POk P) {h : AH} (s : Sat e h w.heap) {ρ : Operand → Value} {o : Oper} {vs : List AV} {r : O} (ha : VRs e vs ((zbb o.op).map ρ)) (hv : opV P o.op vs h = r) (hn : r ≠ .no) :
  Runs P (execOp ρ o) w fun n w' => OutO e h w r n w' := by
 obtain ⟨dst, op, ty, pos, after, guard⟩ := o
 simp only at ha hv
 cases op <;> try (exact absurd hv.symm hn)
 case move x =>
  obtain ⟨v, hv', rfl⟩ := zbN hv hn
  rw [zax] at hv'
  obtain ⟨a, rfl, hv'⟩ := hv'
  cases hv'
  exact Runs.pure' (.val_ (.same s (vrs1 ha)))
 case assign x =>
  obtain ⟨v, hv', rfl⟩ := zbN hv hn
  rw [zax] at hv'
  obtain ⟨a, rfl, hv'⟩ := hv'
  cases hv'
  exact Runs.pure' (.val_ (.same s (vrs1 ha)))
 case pick c x y =>
  obtain ⟨v, hv', rfl⟩ := zbN hv hn
  rw [arg3_eq] at hv'
  obtain ⟨a, b, c', rfl, hv'⟩ := hv'
  obtain ⟨h1, h2, h3⟩ := vrs3 ha
  exact (pick_sound h1 h2 h3 hv').mono fun n w' ⟨u, hu, hr, hw⟩ => by subst hu hw; exact .val_ (.same s hr)
 case alloc t =>
  obtain ⟨v, h', hv', rfl⟩ := zc0 hv hn
  exact zdT (alloc_sound s hv')
 case box t x =>
  obtain ⟨v, h', hv', rfl⟩ := zc0 hv hn
  rw [zax] at hv'
  obtain ⟨a, rfl, hv'⟩ := hv'
  exact zdT (box_sound s (vrs1 ha) hv')
 case build t ps =>
  obtain ⟨v, hv', rfl⟩ := zbN hv hn
  have hp : PR e (zipI ps.toList vs) (ps.map fun (i, x) => (i, ρ x)).toList := by
   rw [Array.toList_map]
   refine pr_zip (f := ρ) ?_
   have : (zbb (.build t ps)).map ρ = ps.toList.map fun p => ρ p.2 := by
    show (ps.toList.map (·.2)).map ρ = _
    rw [List.map_map]; rfl
   rw [← this]; exact ha
  exact zcc s (build_sound hp hv')
 case buildSlice t n ps =>
  obtain ⟨v, h', hv', rfl⟩ := zc0 hv hn
  have hp : PR e (zipI ps.toList vs) (ps.map fun (i, x) => (i, ρ x)).toList := by
   rw [Array.toList_map]
   refine pr_zip (f := ρ) ?_
   have : (zbb (.buildSlice t n ps)).map ρ = ps.toList.map fun p => ρ p.2 := by
    show (ps.toList.map (·.2)).map ρ = _
    rw [List.map_map]; rfl
   rw [← this]; exact ha
  exact zdT (zgg s hp hv')
 case load t x =>
  obtain ⟨v, hv', rfl⟩ := zbN hv hn
  rw [zax] at hv'
  obtain ⟨a, rfl, hv'⟩ := hv'
  exact zcc s (zfH s (vrs1 ha) hv')
 case store t x y =>
  obtain ⟨h', hv', rfl⟩ := ofH_eq hv hn
  rw [zbd] at hv'
  obtain ⟨a, b, rfl, hv'⟩ := hv'
  obtain ⟨h1, h2⟩ := vrs2 ha
  exact u_out ((store_sound s h1 h2 hv').mono fun _ w' ⟨q1, q2⟩ => ⟨e, q1, q2⟩)
 case nilCheck x =>
  obtain ⟨v, hv', rfl⟩ := zbN hv hn
  rw [zax] at hv'
  obtain ⟨a, rfl, hv'⟩ := hv'
  exact (zem (P := P) (w := w) (vrs1 ha) hv').mono fun n w' ⟨hu, hr, hw⟩ => by subst hu hw; exact .val_ (.same s hr)
 case binOp bo t x y cm =>
  obtain ⟨v, hv', rfl⟩ := zbN hv hn
  rw [zbd] at hv'
  obtain ⟨a, b, rfl, hv'⟩ := hv'
  obtain ⟨h1, h2⟩ := vrs2 ha
  exact zcc s (binA_sound s h1 h2 hv')
 case unOp uo t x =>
  obtain ⟨v, hv', rfl⟩ := zbN hv hn
  rw [zax] at hv'
  obtain ⟨a, rfl, hv'⟩ := hv'
  exact zcc s (unA_sound (vrs1 ha) hv')
 case convert sr ds x =>
  obtain ⟨v, h', hv', rfl⟩ := zc0 hv hn
  rw [zax] at hv'
  obtain ⟨a, rfl, hv'⟩ := hv'
  exact zdT (convA_sound s (vrs1 ha) hv')
 case makeInterface t x =>
  obtain ⟨v, hv', rfl⟩ := zbN hv hn
  rw [zax] at hv'
  obtain ⟨a, rfl, hv'⟩ := hv'
  exact zcc s (zdQ (vrs1 ha) hv')
 case makeFunc fn first capt =>
  obtain ⟨v, hv', rfl⟩ := zbN hv hn
  rw [zaf, zab] at hv'
  obtain ⟨hy, a, hta, hv'⟩ := hv'
  rw [zab] at hv'
  obtain ⟨b, htb, hv'⟩ := hv'
  cases hv'
  have hop : (zbb (.makeFunc fn first capt)).map ρ = (first.map ρ).toList ++ (capt.map ρ).toList := by
   show (app first.toList capt.toList).map ρ = _
   rw [zcn]; simp
  rw [hop] at ha
  have hlen : (first.map ρ).toList.length = len first.toList := by rw [zaH]; simp
  have h1 := ha.take (len first.toList)
  have h2 := ha.drop (len first.toList)
  rw [List.take_left' hlen] at h1
  rw [List.drop_left' hlen] at h2
  have hta' : a = vs.take (len first.toList) := by
   rw [tak_eq] at hta
   by_cases hle : len first.toList ≤ vs.length
   ·rw [if_pos hle] at hta; exact (Option.some.inj hta).symm
   ·rw [if_neg hle] at hta; cases hta
  have htb' : b = vs.drop (len first.toList) := by
   rw [drp_eq] at htb
   by_cases hle : len first.toList ≤ vs.length
   ·rw [if_pos hle] at htb; exact (Option.some.inj htb).symm
   ·rw [if_neg hle] at htb; cases htb
  rw [← hta'] at h1
  rw [← htb'] at h2
  exact zcc s ⟨_, w, rfl, .func _ _ _ _ _ _ (.same _ hy) h1 h2, rfl⟩
 case makeMap t x =>
  obtain ⟨v, h', hv', rfl⟩ := zc0 hv hn
  refine zdT (makeMap_sound s ?_ hv')
  cases x with
  | none =>
    cases vs with
    | nil => exact .inl ⟨rfl, rfl⟩
    | cons _ _ => cases ha
  | some x =>
    cases vs with
    | nil => cases ha
    | cons a l =>
      cases ha with
      | cons _ _ _ _ h1 h2 =>
        cases h2
        exact .inr ⟨a, ρ x, rfl, rfl, h1⟩
 case makeSlice t x y =>
  obtain ⟨v, h', hv', rfl⟩ := zc0 hv hn
  rw [zbd] at hv'
  obtain ⟨a, b, rfl, hv'⟩ := hv'
  obtain ⟨h1, h2⟩ := vrs2 ha
  exact zdT (makeSlice_sound s h1 h2 hv')
 case slice t x lo hi mx =>
  cases mx with
  | some m => exact absurd hv.symm hn
  | none =>
    have hv2 : ofV h (sliceOp P t (zgA lo) (zgA hi) vs h) = r := hv
    obtain ⟨v, hv', rfl⟩ := zbN hv2 hn
    have hop : zbb (.slice t x lo hi none) = x :: (lo.toList ++ hi.toList) := by
     show x :: app lo.toList hi.toList = _
     rw [zcn]
    rw [hop] at ha
    exact zcc s (slice_sound s ha hv')
 case fieldAddr t x f =>
  obtain ⟨v, hv', rfl⟩ := zbN hv hn
  rw [zax] at hv'
  obtain ⟨a, rfl, hv'⟩ := hv'
  exact zcc s (zdJ (vrs1 ha) hv')
 case field t x f =>
  obtain ⟨v, hv', rfl⟩ := zbN hv hn
  rw [zax] at hv'
  obtain ⟨a, rfl, hv'⟩ := hv'
  exact zcc s (field_sound (vrs1 ha) hv')
 case indexAddr t x y =>
  obtain ⟨v, hv', rfl⟩ := zbN hv hn
  rw [zbd] at hv'
  obtain ⟨a, b, rfl, hv'⟩ := hv'
  obtain ⟨h1, h2⟩ := vrs2 ha
  exact zcc s (zdK h1 h2 hv')
 case index t x y =>
  obtain ⟨v, hv', rfl⟩ := zbN hv hn
  rw [zbd] at hv'
  obtain ⟨a, b, rfl, hv'⟩ := hv'
  obtain ⟨h1, h2⟩ := vrs2 ha
  exact zcc s (index_sound h1 h2 hv')
 case lookup t m k okk =>
  obtain ⟨v, hv', rfl⟩ := zbN hv hn
  rw [zbd] at hv'
  obtain ⟨a, b, rfl, hv'⟩ := hv'
  obtain ⟨h1, h2⟩ := vrs2 ha
  exact zcc s (zcb s h1 h2 hv')
 case mapUpdate t m k x =>
  obtain ⟨h', hv', rfl⟩ := ofH_eq hv hn
  rw [arg3_eq] at hv'
  obtain ⟨a, b, c, rfl, hv'⟩ := hv'
  obtain ⟨h1, h2, h3⟩ := vrs3 ha
  exact u_out (zf3 s h1 h2 h3 hv')
 case insert t m k x =>
  obtain ⟨h', hv', rfl⟩ := ofH_eq hv hn
  rw [arg3_eq] at hv'
  obtain ⟨a, b, c, rfl, hv'⟩ := hv'
  obtain ⟨h1, h2, h3⟩ := vrs3 ha
  exact u_out (zf3 s h1 h2 h3 hv')
 case mapEntry t m k =>
  obtain ⟨v, h', hv', rfl⟩ := zc0 hv hn
  rw [zbd] at hv'
  obtain ⟨a, b, rfl, hv'⟩ := hv'
  obtain ⟨h1, h2⟩ := vrs2 ha
  exact zdT (mapEntry_sound s h1 h2 hv')
 case entryStore t m k x =>
  obtain ⟨h', hv', rfl⟩ := ofH_eq hv hn
  rw [arg3_eq] at hv'
  obtain ⟨a, b, c, rfl, hv'⟩ := hv'
  obtain ⟨h1, h2, h3⟩ := vrs3 ha
  exact u_out (zgh s h1 h2 h3 hv')
 case range t x =>
  obtain ⟨v, h', hv', rfl⟩ := zc0 hv hn
  rw [zax] at hv'
  obtain ⟨a, rfl, hv'⟩ := hv'
  rw [zab] at hv'
  obtain ⟨d, hd, hv'⟩ := hv'
  exact zdT (range_sound s hd (vrs1 ha) hv')
 case next it b =>
  obtain ⟨v, h', hv', rfl⟩ := zc0 hv hn
  rw [zax] at hv'
  obtain ⟨a, rfl, hv'⟩ := hv'
  exact zdT (next_sound s (vrs1 ha) hv')
 case entry it =>
  obtain ⟨v, hv', rfl⟩ := zbN hv hn
  rw [zax] at hv'
  obtain ⟨a, rfl, hv'⟩ := hv'
  exact zcc s (entry_sound s (vrs1 ha) hv')
 case typeAssert x xt t okk =>
  obtain ⟨v, hv', rfl⟩ := zbN hv hn
  rw [zax] at hv'
  obtain ⟨a, rfl, hv'⟩ := hv'
  rw [zab] at hv'
  obtain ⟨d, hd, hv'⟩ := hv'
  exact zcc s (zdv hd (vrs1 ha) hv')
 case extract x i =>
  obtain ⟨v, hv', rfl⟩ := zbN hv hn
  rw [zax] at hv'
  obtain ⟨a, rfl, hv'⟩ := hv'
  exact zcc s (ze3 (vrs1 ha) hv')
 case call c =>
  obtain ⟨callee, args, ats⟩ := c
  cases callee with
  | builtin b =>
    have hv2 : ofVH (zgm P b ats.toList vs h) = r := hv
    obtain ⟨v, h', hv', rfl⟩ := zc0 hv2 hn
    have ha' : VRs e vs (args.map ρ).toList := by rw [Array.toList_map]; exact ha
    exact builtin_sound s ha' hv'
  | value f =>
    cases vs with
    | nil => exact absurd hv.symm hn
    | cons a as =>
      have hv2 : callV P a as h = r := hv
      cases ha with
      | cons _ _ _ _ h1 h2 =>
        obtain ⟨fn', first', capt', huf, hrun⟩ := callV_sound ok s (us := args.map ρ) h1 (by rw [Array.toList_map]; exact h2) hv2 hn
        refine Runs.run_eq ?_ hrun
        show Sem.run P (Deferred.ofValue (ρ f) (args.map ρ) >>= fun d => invoke d.target d.args) w = _
        rw [huf]; rfl
  | invoke x name =>
    have hv2 : zgz P name vs h = r := hv
    have ha' : VRs e vs (#[ρ x] ++ args.map ρ).toList := by
     rw [Array.toList_append, Array.toList_map]; exact ha
    exact ze7 ok s ha' hv2 hn
 case defer c =>
  obtain ⟨callee, args, ats⟩ := c
  cases callee with
  | builtin b => exact absurd hv.symm hn
  | invoke x name => exact absurd hv.symm hn
  | value f =>
    cases vs with
    | nil => exact absurd hv.symm hn
    | cons a as =>
      cases a <;> try (exact absurd hv.symm hn)
      rename_i fn first capt
      have hv2 : O.dfr (.fn fn capt (app first as)) h = r := hv
      subst hv2
      cases ha with
      | cons _ _ _ _ h1 h2 =>
        generalize hu : ρ f = uf at h1
        cases h1 with
        | func _ f' _ _ x' y' q1 q2 q3 =>
          refine ⟨.defer { target := .fn f' y', args := x' ++ args.map ρ }, w, ?_, rfl, rfl, _, rfl, .fn _ _ _ _ _ _ q1 q3 ?_⟩
          ·show Sem.run P (Deferred.ofValue (ρ f) (args.map ρ) >>= fun d => pure (Next.defer d)) w = _
           rw [hu]; rfl
          ·rw [zcn, Array.toList_append, Array.toList_map]
           exact q2.app h2
end
end
end Go.Xe
end
section
namespace Go.Xe
noncomputable section
def fen (ρ : Option Nat) : Fence := { Fence.wide with round := ρ }
theorem zdb (ρ : Option Nat) {p : Prop} : (fen ρ).depth.isSome = true → p := fun h => by cases h
theorem zeE {ρ : Option Nat} {n : Nat} {P : Program} {f : FuncId} {args : Array Value} {w : World} {R : Ending → World → Prop} : CallsIn (fen ρ) n P f args w R ↔ CallsIn Fence.wide n P f args w R := Iff.rfl
def RR (e : Env) (rd ρ : Option Nat) : Prop := (rd = none ∧ ρ = none) ∨ ∃ l L, rd = some l ∧ e.loc l = some L ∧ ρ = some L.blk
theorem RR.mono {e e' : Env} (he : e.le e') {rd ρ : Option Nat} (h : RR e rd ρ) : RR e' rd ρ := by
 rcases h with h | ⟨l, L, h1, h2, h3⟩
 ·exact .inl h
 ·exact .inr ⟨l, L, h1, he.loc _ _ h2, h3⟩
def exitOf : XE → Exit
 | .normal => .normal
 | .exit id => .exit id
 | .goto l => .goto l
 | .ret => .ret
def Post (e : Env) (h : AH) (w : World) (x : XE) (fr' : Fr) (h' : AH) : Exit → Act → World → Prop :=
 fun ex a' w' => ex = exitOf x ∧ ∃ e', Sat e' h' w'.heap ∧ FR e' fr' a' ∧ Step e h w e' h' w'
def Good (P : Program) (self : Option Nat → Code → Fr → AH → R) : Prop :=
 ∀ rd c fr h x fr' h', self rd c fr h = .ok x fr' h' → ∀ e a w ρ, Sat e h w.heap → FR e fr a → RR e rd ρ → c.wpIn (fen ρ) 0 P (Post e h w x fr' h') a w
def GoodV (P : Program) (c : VH) (e : Env) (h : AH) (w : World) (f : FuncId) (us : Array Value) : Prop :=
 ∀ v h', c = some (v, h') → CallsIn Fence.wide 0 P f us w fun en w' => match en with | .returned u => Out e h w v h' u w' | _ => False
def zbO (P : Program) (k : Nat → List AV → AH → VH) : Prop :=
 ∀ f args h, ∀ e w us, Sat e h w.heap → VRs e args us.toList → GoodV P (k f args h) e h w f us
def zcd (P : Program) (k : Nat → Tr AV → Nat → Code → Code → AH → VH) : Prop :=
 ∀ l tm nt asg body h v h', k l tm nt asg body h = some (v, h') → ∀ e w L tmps fn, Sat e h w.heap → e.loc l = some L → TR e tm nt tmps →
   RoundIn Fence.wide 0 P L.blk fn tmps asg body w fun en w' => match en with | .returned u => Out e h w v h' u w' | _ => False
section
variable {P : Program} {e : Env} {w : World}
theorem zf5 {ops : Array Oper} {fr : Fr} {a : Act} (hf : FR e fr a) {o : Oper} {wb : Bool} (h : zau ops.toList fr o.guard = some wb) : Region.wanted o (yielded ops a.tmps) = wb := by
 unfold Region.wanted
 cases hg : o.guard with
 | none =>
   rw [hg] at h
   have h' : some true = some wb := h
   cases h'; rfl
 | some g =>
   obtain ⟨j, want⟩ := g
   rw [hg] at h
   have h' : bnd (nth ops.toList j) (fun oj => bnd oj.dst fun d => match fr.at_ d with
    | .bool b => some (ite' b want (ite' want false true))
    | .sval _ => none
    | _ => some false) = some wb := h
   rw [zab] at h'
   obtain ⟨oj, hj, h'⟩ := h'
   rw [zab] at h'
   obtain ⟨d, hd, h'⟩ := h'
   rw [za3, Array.getElem?_toList] at hj
   have hy : yielded ops a.tmps j = match a.tmps[d]? with | some (.bool b) => some b | _ => none := by
    unfold yielded
    rw [hj]
    simp only [Option.bind_some, hd]
    rfl
   simp only [hy]
   have hv := hf.tmps.at_ d
   rw [at_eq] at h'
   generalize hx : atT fr.t d = x at h' hv
   have hget : ∀ v, a.tmps[d]? = some v → a.tmps.getD d undef = v := fun v hv => by
    simp [Array.getD_eq_getD_getElem?, hv]
   have hother : (∀ b, x ≠ .bool b) → (∀ i, x ≠ .sval i) → (match a.tmps[d]? with | some (.bool b) => some b | _ => none) = none := fun h1 h2 => by
    cases hq : a.tmps[d]? with
    | none => rfl
    | some v =>
      rw [hget v hq] at hv
      cases v <;> first | rfl | skip
      rename_i b
      cases hv with
      | bool => exact absurd rfl (h1 b)
      | sval i => exact absurd rfl (h2 i)
   cases x with
   | bool b =>
     have h2 : some (ite' b want (ite' want false true)) = some wb := h'
     cases h2
     have hb := vr_bool hv
     have hq : a.tmps[d]? = some (.bool b) := by
      cases hq : a.tmps[d]? with
      | none =>
        have : a.tmps.getD d undef = undef := by simp [Array.getD_eq_getD_getElem?, hq]
        rw [this] at hb; cases hb
      | some v => rw [hget v hq] at hb; rw [hb]
     rw [hq]
     cases b <;> cases want <;> rfl
   | sval i => cases h'
   | _ =>
     have h2 : some false = some wb := h'
     cases h2
     rw [hother (fun _ h => by cases h) (fun _ h => by cases h)]
     rfl
theorem zc1 {fr : Fr} {d : Option Nat} {v : AV} {k : Fr → R} {x : XE} {fr' : Fr} {h' : AH} (h : putR fr d v k = .ok x fr' h') : ∃ fr1, fr.put d v = some fr1 ∧ k fr1 = .ok x fr' h' := by
 unfold putR at h
 cases hp : fr.put d v with
 | none => rw [hp] at h; cases h
 | some fr1 => rw [hp] at h; exact ⟨fr1, rfl, h⟩
theorem contR_ok {why : String} {k : AV → AH → R} {o : VH} {x : XE} {fr' : Fr} {h' : AH} (h : contR why k o = .ok x fr' h') : ∃ v h1, o = some (v, h1) ∧ k v h1 = .ok x fr' h' := by
 cases o with
 | none => cases h
 | some p => exact ⟨p.1, p.2, rfl, h⟩
variable {I : zaR} {self : Option Nat → Code → Fr → AH → R}
theorem operA_sound (ok : POk P) (hcall : zbO P (zc7 P I self)) (hround : zcd P (roundA self)) {rd ρ : Option Nat} {o : Oper} {fr : Fr} {h : AH} {k : Fr → AH → R} {x : XE} {fr' : Fr} {h' : AH}
  (hr : operA P I self rd o fr h k = .ok x fr' h') {a : Act} {next : Act → World → Prop} {Q : Exit → Act → World → Prop} (s : Sat e h w.heap) (hf : FR e fr a) (hrr : RR e rd ρ)
  (hk : ∀ fr1 h1, k fr1 h1 = .ok x fr' h' → ∀ e1 a1 w1, Sat e1 h1 w1.heap → FR e1 fr1 a1 → Step e h w e1 h1 w1 → next a1 w1) :
  o.wpIn (fen ρ) 0 P a w next Q := by
 refine ⟨fun f _ => trivial, ?_⟩
 unfold operA at hr
 cases hm : mapO (fun x => ev x fr) (zbb o.op) with
 | none => rw [hm] at hr; cases hr
 | some vs =>
   rw [hm, oE_some] at hr
   have hvs := mapO_vrs hf hm
   have hsem : (∀ d h1, opV P o.op vs h = .dfr d h1 → rd = none) → (o.semAt (fen ρ).round a.eval) = execOp a.eval o ∨ rd ≠ none ∧ ∃ c, o.op = .defer c := fun hd => by
    by_cases hc : ∃ c, o.op = .defer c
    ·rcases hrr with ⟨_, rfl⟩ | ⟨l, L, rfl, _, rfl⟩
     ·exact .inl rfl
     ·exact .inr ⟨by simp, hc⟩
    ·exact .inl (Oper.semAt_eq _ _ _ fun c hx => hc ⟨c, hx⟩)
   cases ho : opV P o.op vs h with
   | no => rw [ho] at hr; cases hr
   | val v h1 =>
     rw [ho] at hr
     obtain ⟨fr1, hp, hr⟩ := zc1 hr
     obtain ⟨n, w1, hrun, hout⟩ := zbc ok s hvs ho (by simp)
     obtain ⟨e1, u, rfl, s1, hv, st⟩ := hout
     have hse : o.semAt (fen ρ).round a.eval = execOp a.eval o := Oper.semAt_eq _ _ _ fun c hx => by
      rw [hx] at ho
      obtain ⟨callee, cargs, cats⟩ := c
      cases callee with
      | builtin b => cases ho
      | invoke _ _ => cases ho
      | value f =>
        cases vs with
        | nil => cases ho
        | cons y ys => cases y <;> cases ho
     rw [hse, hrun, Oper.uponIn_value]
     exact hk fr1 h1 hr e1 _ w1 s1 (zbz (hf.mono st.le) hv hp) st
   | skip h1 =>
     rw [ho] at hr
     obtain ⟨fr1, hp, hr⟩ := zc1 hr
     obtain ⟨n, w1, hrun, hout⟩ := zbc ok s hvs ho (by simp)
     obtain ⟨e1, rfl, s1, st⟩ := hout
     have hse : o.semAt (fen ρ).round a.eval = execOp a.eval o := Oper.semAt_eq _ _ _ fun c hx => by
      rw [hx] at ho
      obtain ⟨callee, cargs, cats⟩ := c
      cases callee with
      | builtin b => cases ho
      | invoke _ _ => cases ho
      | value f =>
        cases vs with
        | nil => cases ho
        | cons y ys => cases y <;> cases ho
     rw [hse, hrun, Oper.uponIn_skip]
     exact hk fr1 h1 hr e1 _ w1 s1 (zbz (hf.mono st.le) (zcq e1) hp) st
   | enter f args h1 =>
     rw [ho] at hr
     have hr2 : contR o.pos (fun v h => putR fr o.dst v fun fr => k fr h) (zc7 P I self f args h1) = .ok x fr' h' := hr
     clear hr
     obtain ⟨v, h2, hc, hr⟩ := contR_ok hr2
     obtain ⟨fr1, hp, hr⟩ := zc1 hr
     obtain ⟨n, w1, hrun, hout⟩ := zbc ok s hvs ho (by simp)
     obtain ⟨rfl, rfl, us, rfl, hus⟩ := hout
     have hse : o.semAt (fen ρ).round a.eval = execOp a.eval o := Oper.semAt_eq _ _ _ fun c hx => by
      rw [hx] at ho
      obtain ⟨callee, cargs, cats⟩ := c
      cases callee with
      | builtin b => cases ho
      | invoke _ _ => cases ho
      | value f =>
        cases vs with
        | nil => cases ho
        | cons y ys => cases y <;> cases ho
     rw [hse, hrun, Oper.uponIn_enter]
     refine ⟨zdb ρ, zeE.2 (CallsIn.mono (hcall f args _ e w1 us s hus v h2 hc) fun en w' hen => ?_)⟩
     cases en with
     | returned u =>
       obtain ⟨e2, s2, hv, st⟩ := hen
       exact hk fr1 h2 hr e2 _ w' s2 (zbz (hf.mono st.le) hv hp) st
     | panicked c => exact hen.elim
     | outgrown => exact hen.elim
   | round l tm nt asg body h1 =>
     rw [ho] at hr
     have hr2 : contR o.pos (fun v h => putR fr o.dst v fun fr => k fr h) (roundA self l tm nt asg body h1) = .ok x fr' h' := hr
     clear hr
     obtain ⟨v, h2, hc, hr⟩ := contR_ok hr2
     obtain ⟨fr1, hp, hr⟩ := zc1 hr
     obtain ⟨n, w1, hrun, hout⟩ := zbc ok s hvs ho (by simp)
     obtain ⟨rfl, rfl, L, fn, tmps, rfl, hL, htr⟩ := hout
     have hse : o.semAt (fen ρ).round a.eval = execOp a.eval o := Oper.semAt_eq _ _ _ fun c hx => by
      rw [hx] at ho
      obtain ⟨callee, cargs, cats⟩ := c
      cases callee with
      | builtin b => cases ho
      | invoke _ _ => cases ho
      | value f =>
        cases vs with
        | nil => cases ho
        | cons y ys => cases y <;> cases ho
     rw [hse, hrun, Oper.uponIn_round]
     refine ⟨zdb ρ, ?_⟩
     have hx : RoundIn Fence.wide 0 P L.blk fn tmps asg body w1 _ := hround l tm nt asg body _ v h2 hc e w1 L tmps fn s hL htr
     refine RoundIn.mono (F := fen ρ) hx fun en w' hen => ?_
     cases en with
     | returned u =>
       obtain ⟨e2, s2, hv, st⟩ := hen
       exact hk fr1 h2 hr e2 _ w' s2 (zbz (hf.mono st.le) hv hp) st
     | panicked c => exact hen.elim
     | outgrown => exact hen.elim
   | dfr d h1 =>
     rw [ho] at hr
     have hr' : oE (putR ⟨fr.t, fr.nt, d :: fr.ds⟩ o.dst zaK fun fr => k fr h1) (fun _ => R.no "defer in a round") rd = .ok x fr' h' := hr
     cases rd with
     | some l => cases hr'
     | none =>
       have hρ : ρ = none := by
        rcases hrr with ⟨_, h⟩ | ⟨l, L, h, _⟩
        ·exact h
        ·cases h
       subst hρ
       rw [oE_none] at hr'
       obtain ⟨fr1, hp, hr2⟩ := zc1 hr'
       obtain ⟨n, w1, hrun, hout⟩ := zbc ok s hvs ho (by simp)
       obtain ⟨rfl, rfl, d', rfl, hd⟩ := hout
       have hse : o.semAt (fen none).round a.eval = execOp a.eval o := rfl
       rw [hse, hrun, Oper.uponIn_defer]
       have hf2 : FR e ⟨fr.t, fr.nt, d :: fr.ds⟩ { a with defers := d' :: a.defers } := ⟨hf.tmps, .cons _ _ _ _ hd hf.ds⟩
       exact hk fr1 _ hr2 e _ w1 s (zbz hf2 (zcq e) hp) (.refl e _ w1)
theorem runOps_sound (ok : POk P) (hcall : zbO P (zc7 P I self)) (hround : zcd P (roundA self)) {rd ρ : Option Nat} {ops : Array Oper} {x : XE} {fr' : Fr} {h' : AH} {Q : Exit → Act → World → Prop} {e0 : Env} {h0 : AH} {w0 : World}
  (hQ : ∀ e' a' w', Sat e' h' w'.heap → FR e' fr' a' → Step e0 h0 w0 e' h' w' → Q (exitOf x) a' w') :
  ∀ (l : List Oper) (i : Nat) (e : Env) (a : Act) (w : World) (fr : Fr) (h : AH), ops.toList.drop i = l → runOps P I self rd ops.toList l fr h = .ok x fr' h' → Sat e h w.heap → FR e fr a → RR e rd ρ → Step e0 h0 w0 e h w →
    wpOpsIn (fen ρ) 0 P ops Q (List.range' i l.length) a w := by
 intro l
 induction l with
 | nil =>
   intro i e a w fr h _ hr s hf _ st
   have hr' : R.ok .normal fr h = .ok x fr' h' := hr
   cases hr'
   exact hQ e a w s hf st
 | cons o l ih =>
   intro i e a w fr h hdrop hr s hf hrr st
   have ho : ops[i]? = some o := by
    rw [← Array.getElem?_toList]
    have := congrArg List.head? hdrop
    rw [List.head?_drop] at this
    exact this
   have hdrop' : ops.toList.drop (i + 1) = l := by
    rw [← List.drop_drop, hdrop]; rfl
   have hr' : oE (R.no o.pos) (fun wb => ite' wb (operA P I self rd o fr h (runOps P I self rd ops.toList l)) (putR fr o.dst zaK fun fr => runOps P I self rd ops.toList l fr h)) (zau ops.toList fr o.guard) = .ok x fr' h' := hr
   rw [List.length_cons, List.range'_succ]
   simp only [wpOpsIn, ho]
   cases hw : zau ops.toList fr o.guard with
   | none => rw [hw] at hr'; cases hr'
   | some wb =>
     rw [hw, oE_some] at hr'
     rw [zf5 hf hw]
     cases wb with
     | true =>
       rw [ite'_true] at hr'
       rw [if_pos rfl]
       exact operA_sound ok hcall hround hr' s hf hrr fun fr1 h1 hr1 e1 a1 w1 s1 hf1 st1 => ih (i + 1) e1 a1 w1 fr1 h1 hdrop' hr1 s1 hf1 (hrr.mono st1.le) (st.trans st1)
     | false =>
       rw [ite'_false] at hr'
       obtain ⟨fr1, hp, hr1⟩ := zc1 hr'
       rw [if_neg (by simp)]
       exact ⟨fun f _ => trivial, ih (i + 1) e _ w fr1 h hdrop' hr1 s (zbz hf (zcq e) hp) hrr st⟩
theorem region_sound (ok : POk P) (hcall : zbO P (zc7 P I self)) (hround : zcd P (roundA self)) {rd ρ : Option Nat} {id : Nat} {ops : Array Oper} {fr fr' : Fr} {h h' : AH} {x : XE} (hr : runOps P I self rd ops.toList ops.toList fr h = .ok x fr' h')
  {a : Act} (s : Sat e h w.heap) (hf : FR e fr a) (hrr : RR e rd ρ) : (Code.region id ops false).wpIn (fen ρ) 0 P (Post e h w x fr' h') a w := by
 refine wpIn_region ?_
 have := runOps_sound (ρ := ρ) ok hcall hround (Q := Post e h w x fr' h') (e0 := e) (h0 := h) (w0 := w) (fun e' a' w' s' hf' st' => ⟨rfl, e', s', hf', st'⟩) ops.toList 0 e a w fr h rfl hr s hf hrr (.refl e h w)
 rw [List.range_eq_range']
 simpa using this
end
end
end Go.Xe
end
section
namespace Go.Xe
noncomputable section
section
variable {P : Program} {e : Env} {w : World}
def resS (tmps : Array Value) : ResultVar → Sem Value
 | .tmp t => pure (tmps.getD t undef)
 | .cell c t => do loadVar t (← asAddr (tmps.getD c undef))
theorem result1_sound {h : AH} (s : Sat e h w.heap) {fr : Fr} {a : Act} (hf : FR e fr a) {rv : ResultVar} {v : AV} (hv : result1 P h fr rv = some v) :
  ∃ u, (resS a.tmps rv).run P w = .ok u w ∧ VR e v u := by
 cases rv with
 | tmp t =>
   have hv' : some (fr.at_ t) = some v := hv
   cases hv'
   rw [at_eq]
   exact ⟨_, rfl, hf.tmps.at_ t⟩
 | cell c t =>
   have hv' : load P t (fr.at_ c) h = some v := hv
   rw [at_eq] at hv'
   obtain ⟨u, w', hr, hvr, rfl⟩ := zfH (P := P) s (hf.tmps.at_ c) hv'
   refine ⟨u, ?_, hvr⟩
   have hp : ∃ A, a.tmps.getD c undef = .pointer (some A) := by
    have h2 := hv'
    unfold load at h2
    rw [zdH] at h2
    obtain ⟨b, o, hb, _⟩ := h2
    have h3 := hf.tmps.at_ c
    rw [hb] at h3
    obtain ⟨L, _, hL⟩ := zcG h3
    exact ⟨_, hL⟩
   obtain ⟨A, hA⟩ := hp
   rw [hA] at hr
   show Sem.run P (asAddr (a.tmps.getD c undef) >>= fun x => loadVar t x) _ = _
   rw [hA]
   exact hr
theorem results_list {h : AH} (s : Sat e h w.heap) {fr : Fr} {a : Act} (hf : FR e fr a) {rs : List ResultVar} {l : List AV} (hv : mapO (result1 P h fr) rs = some l) :
  ∃ us : List Value, (rs.mapM (resS a.tmps)).run P w = .ok us w ∧ VRs e l us := by
 induction rs generalizing l with
 | nil => cases hv; exact ⟨[], rfl, .nil⟩
 | cons r rs ih =>
   have hv' : bnd (result1 P h fr r) (fun y => bnd (mapO (result1 P h fr) rs) fun ys => some (y :: ys)) = some l := hv
   rw [zab] at hv'
   obtain ⟨y, hy, hv'⟩ := hv'
   rw [zab] at hv'
   obtain ⟨ys, hys, hv'⟩ := hv'
   cases hv'
   obtain ⟨u, hu, hr⟩ := result1_sound (P := P) s hf hy
   obtain ⟨us, hus, hrs⟩ := ih hys
   refine ⟨u :: us, ?_, .cons _ _ _ _ hr hrs⟩
   rw [List.mapM_cons, zac]
   rw [hu]
   simp only []
   rw [zac, hus]
   rfl
theorem ze8 {h : AH} (s : Sat e h w.heap) {fr : Fr} {a : Act} (hf : FR e fr a) {fn : Func} {v : AV} (hv : zfB P h fr fn.results.toList = some v) :
  ∃ u, (results fn a.tmps).run P w = .ok u w ∧ VR e v u := by
 unfold zfB at hv
 rw [zab] at hv
 obtain ⟨l, hl, hv⟩ := hv
 cases hv
 obtain ⟨us, hus, hr⟩ := results_list (P := P) s hf hl
 have hm : (fn.results.mapM (resS a.tmps)).run P w = .ok us.toArray w := by
  rw [Array.mapM_eq_mapM_toList]
  show Sem.run P (Functor.map List.toArray _) w = _
  rw [map_eq_pure_bind, zac, hus]
  rfl
 refine ⟨if h : us.toArray.size = 1 then us.toArray[0] else .tuple us.toArray, ?_, ?_⟩
 ·show Sem.run P (fn.results.mapM (resS a.tmps) >>= fun vs => pure (if h : vs.size = 1 then vs[0] else .tuple vs)) w = _
  rw [zac, hm]
  rfl
 ·cases hr with
  | nil => exact .tup _ _ .nil
  | cons x u l' us' hx ht =>
    cases ht with
    | nil =>
      rw [dif_pos (by simp)]
      exact hx
    | cons y u2 l2 us2 hy ht =>
      rw [dif_neg (by simp)]
      exact .tup _ _ (.cons _ _ _ _ hx (.cons _ _ _ _ hy ht))
theorem enterT_at : ∀ (l : List AV) (i : Nat) (t : Tr AV) (j : Nat), atT (enterT l i t) j = if i ≤ j ∧ j < i + l.length then (l[j - i]?).getD zaK else atT t j
 | [], i, t, j => by
   have : enterT [] i t = t := rfl
   rw [this, if_neg (by simp)]
 | v :: l, i, t, j => by
   have h1 : enterT (v :: l) i t = enterT l (i + 1) (Tr.put (some v) (Nat.succ i) t i) := rfl
   rw [h1, enterT_at l (i + 1), atT_put]
   simp only [List.length_cons]
   by_cases hj : j = i
   ·subst hj
    rw [if_neg (by omega), if_pos rfl, if_pos (by omega), Nat.sub_self]
    rfl
   ·by_cases h2 : i ≤ j ∧ j < i + (l.length + 1)
    ·rw [if_pos (by omega), if_pos h2]
     have : j - i = (j - (i + 1)) + 1 := by omega
     rw [this, List.getElem?_cons_succ]
    ·rw [if_neg (by omega), if_neg hj, if_neg h2]
theorem zf6 {fn : Func} {args : List AV} {us : Array Value} (ha : VRs e args us.toList) :
  FR e (enterF fn args) { tmps := us ++ Array.replicate (fn.ntmps - us.size) undef, defers := [] } := by
 have hlen : args.length = us.size := by rw [ha.length]; simp
 refine ⟨⟨?_, fun i => ?_⟩, .nil⟩
 ·show (us ++ Array.replicate (fn.ntmps - us.size) undef).size = Nat.max fn.ntmps (len args)
  rw [zaH, hlen]
  simp only [Array.size_append, Array.size_replicate]
  have : Nat.max fn.ntmps us.size = max fn.ntmps us.size := rfl
  rw [this]
  omega
 ·show VR e (atT (enterT args 0 .nil) i) _
  rw [enterT_at]
  by_cases hi : i < args.length
  ·rw [if_pos (by omega), Nat.sub_zero]
   have hv : args[i]? = some args[i] := List.getElem?_eq_getElem hi
   obtain ⟨u, hu, hr⟩ := ha.get hv
   rw [hv]
   rw [Array.getElem?_toList] at hu
   have : (us ++ Array.replicate (fn.ntmps - us.size) undef).getD i undef = u := by
    rw [Array.getD_eq_getD_getElem?, Array.getElem?_append_left (by omega), hu]; rfl
   rw [this]; exact hr
  ·rw [if_neg (by omega)]
   have h1 : atT (Tr.nil : Tr AV) i = zaK := rfl
   have h2 : (us ++ Array.replicate (fn.ntmps - us.size) undef).getD i undef = undef := by
    rw [Array.getD_eq_getD_getElem?, Array.getElem?_append_right (by omega), Array.getElem?_replicate]
    split <;> rfl
   rw [h1, h2]; exact zcq e
end
end
end Go.Xe
end
section
namespace Go.Xe
noncomputable section
section
variable {P : Program} {e : Env} {w : World} {self : Option Nat → Code → Fr → AH → R}
theorem isRecover_eq {op : Op} (h : zcD op = true) : ∃ c : Call, op = .call c ∧ c.callee = .builtin .recover := by
 cases op <;> try (simp [zcD] at h; done)
 rename_i c
 refine ⟨c, rfl, ?_⟩
 obtain ⟨callee, args, ats⟩ := c
 cases callee <;> try (simp [zcD] at h; done)
 rename_i b
 cases b <;> first | rfl | (simp [zcD] at h)
def PostS (e : Env) (h : AH) (w : World) (x : XE) (fr' : Fr) (h' : AH) (cs : List Frame) : Exit → Act → List Frame → World → Prop :=
 fun ex a' cs' w' => cs' = cs ∧ ex = exitOf x ∧ ∃ e', Sat e' h' w'.heap ∧ FR e' fr' a' ∧ Step e h w e' h' w'
theorem runOpsS_sound (ok : POk P) {ops : Array Oper} {x : XE} {fr' : Fr} {h' : AH} {c₀ : Frame} {cs : List Frame} (hc : c₀.mode = .returning) {Q : Exit → Act → List Frame → World → Prop} {e0 : Env} {h0 : AH} {w0 : World}
  (hQ : ∀ e' a' w', Sat e' h' w'.heap → FR e' fr' a' → Step e0 h0 w0 e' h' w' → Q (exitOf x) a' (c₀ :: cs) w') :
  ∀ (l : List Oper) (i : Nat) (e : Env) (a : Act) (w : World) (fr : Fr) (h : AH), ops.toList.drop i = l → zfC P ops.toList l fr h = .ok x fr' h' → Sat e h w.heap → FR e fr a → Step e0 h0 w0 e h w →
    wpOpsSIn Fence.wide 0 P ops Q (List.range' i l.length) a (c₀ :: cs) w := by
 intro l
 induction l with
 | nil =>
   intro i e a w fr h _ hr s hf st
   have hr' : R.ok .normal fr h = .ok x fr' h' := hr
   cases hr'
   exact hQ e a w s hf st
 | cons o l ih =>
   intro i e a w fr h hdrop hr s hf st
   have ho : ops[i]? = some o := by
    rw [← Array.getElem?_toList]
    have := congrArg List.head? hdrop
    rw [List.head?_drop] at this
    exact this
   have hdrop' : ops.toList.drop (i + 1) = l := by
    rw [← List.drop_drop, hdrop]; rfl
   have hr' : oE (R.no o.pos) (fun wb => ite' wb (operS P o fr h (zfC P ops.toList l)) (putR fr o.dst zaK fun fr => zfC P ops.toList l fr h)) (zau ops.toList fr o.guard) = .ok x fr' h' := hr
   rw [List.length_cons, List.range'_succ]
   simp only [wpOpsSIn, ho]
   refine ⟨fun f _ => trivial, ?_⟩
   cases hw : zau ops.toList fr o.guard with
   | none => rw [hw] at hr'; cases hr'
   | some wb =>
     rw [hw, oE_some] at hr'
     rw [zf5 hf hw]
     cases wb with
     | false =>
       rw [ite'_false] at hr'
       obtain ⟨fr1, hp, hr1⟩ := zc1 hr'
       rw [if_neg (by simp)]
       exact ih (i + 1) e _ w fr1 h hdrop' hr1 s (zbz hf (zcq e) hp) st
     | true =>
       rw [ite'_true] at hr'
       rw [if_pos rfl]
       unfold operS at hr'
       rw [zaB] at hr'
       by_cases hrec : zcD o.op = true
       ·rw [if_pos hrec] at hr'
        obtain ⟨fr1, hp, hr1⟩ := zc1 hr'
        have hrun : (execOp a.eval o).run P w = .ok .recover w := by
         obtain ⟨c, hop, hcal⟩ := isRecover_eq hrec
         obtain ⟨dst, op, ty, pos, after, guard⟩ := o
         simp only at hop
         subst hop
         obtain ⟨callee, args, ats⟩ := c
         simp only at hcal
         subst hcal
         rfl
        have hd : recoverD (c₀ :: cs) = none := by
         simp only [recoverD, hc]
        rw [hrun]
        simp only [hd]
        exact ih (i + 1) e _ w fr1 h hdrop' hr1 s (zbz hf .inil hp) st
       ·rw [if_neg hrec] at hr'
        cases hm : mapO (fun x => ev x fr) (zbb o.op) with
        | none => rw [hm] at hr'; cases hr'
        | some vs =>
          rw [hm, oE_some] at hr'
          have hvs := mapO_vrs hf hm
          cases ho' : opV P o.op vs h with
          | val v h1 =>
            rw [ho'] at hr'
            obtain ⟨fr1, hp, hr1⟩ := zc1 hr'
            obtain ⟨n, w1, hrun, hout⟩ := zbc ok s hvs ho' (by simp)
            obtain ⟨e1, u, rfl, s1, hv, st1⟩ := hout
            rw [hrun]
            exact ih (i + 1) e1 _ w1 fr1 h1 hdrop' hr1 s1 (zbz (hf.mono st1.le) hv hp) (st.trans st1)
          | skip h1 =>
            rw [ho'] at hr'
            obtain ⟨fr1, hp, hr1⟩ := zc1 hr'
            obtain ⟨n, w1, hrun, hout⟩ := zbc ok s hvs ho' (by simp)
            obtain ⟨e1, rfl, s1, st1⟩ := hout
            rw [hrun]
            exact ih (i + 1) e1 _ w1 fr1 h1 hdrop' hr1 s1 (zbz (hf.mono st1.le) (zcq e1) hp) (st.trans st1)
          | no => rw [ho'] at hr'; cases hr'
          | enter => rw [ho'] at hr'; cases hr'
          | round => rw [ho'] at hr'; cases hr'
          | dfr => rw [ho'] at hr'; cases hr'
theorem zfQ {c : Code} {Q Q' : Exit → Act → List Frame → World → Prop} {a : Act} {cs : List Frame} (h : c.wpSIn Fence.wide 0 P Q a cs w) (hq : ∀ e a cs w, Q e a cs w → Q' e a cs w) : c.wpSIn Fence.wide 0 P Q' a cs w :=
 fun b k hb hr hF hroom => let ⟨e, a', cs', w', l, q, r⟩ := h b k hb hr hF hroom; ⟨e, a', cs', w', l, hq _ _ _ _ q, r⟩
theorem runS_sound (ok : POk P) (hg : Good P self) {c₀ : Frame} {cs : List Frame} (hc : c₀.mode = .returning) : ∀ (n : Nat) (c : Code) (fr : Fr) (h : AH) (x : XE) (fr' : Fr) (h' : AH), runS P self n c fr h = .ok x fr' h' →
  ∀ e a w, Sat e h w.heap → FR e fr a → c.wpSIn Fence.wide 0 P (PostS e h w x fr' h' (c₀ :: cs)) a (c₀ :: cs) w := by
 intro n
 induction n with
 | zero => intro c fr h x fr' h' hr; cases hr
 | succ n ih =>
   intro c fr h x fr' h' hr e a w s hf
   have plain : self none c fr h = .ok x fr' h' → c.wpSIn Fence.wide 0 P (PostS e h w x fr' h' (c₀ :: cs)) a (c₀ :: cs) w := fun hr => by
    refine wpSIn_of_wpIn rfl ?_
    have := hg none c fr h x fr' h' hr e a w none s hf (.inl ⟨rfl, rfl⟩)
    exact wpIn_mono (F := Fence.wide) this fun ex a' w' ⟨h1, h2⟩ => ⟨rfl, h1, h2⟩
   cases c <;> try (exact plain hr)
   case seq c1 c2 =>
    have hr' : seqS (runS P self n c2) (runS P self n c1 fr h) = .ok x fr' h' := hr
    cases h1 : runS P self n c1 fr h with
    | no y => rw [h1] at hr'; cases hr'
    | ok x1 fr1 hh1 =>
      rw [h1] at hr'
      have hw1 := ih c1 fr h x1 fr1 hh1 h1 e a w s hf
      refine wpSIn_seq (zfQ hw1 fun ex a1 cs1 w1 ⟨hcs, hex, e1, s1, hf1, st1⟩ => ?_)
      subst hcs hex
      cases x1 with
      | normal =>
        have hr2 : runS P self n c2 fr1 hh1 = .ok x fr' h' := hr'
        have hw2 := ih c2 fr1 hh1 x fr' h' hr2 e1 a1 w1 s1 hf1
        exact zfQ hw2 fun ex a2 cs2 w2 ⟨hcs, hex, e2, s2, hf2, st2⟩ => ⟨hcs, hex, e2, s2, hf2, st1.trans st2⟩
      | exit id => cases hr'; exact ⟨rfl, rfl, e1, s1, hf1, st1⟩
      | goto l => cases hr'; exact ⟨rfl, rfl, e1, s1, hf1, st1⟩
      | ret => cases hr'; exact ⟨rfl, rfl, e1, s1, hf1, st1⟩
   case region id ops d =>
    have hr' : ite' (zfD ops.toList) (ite' d (R.no "recover in a region that draws") (zfC P ops.toList ops.toList fr h)) (self none (.region id ops d) fr h) = .ok x fr' h' := hr
    rw [zaB] at hr'
    by_cases ha : zfD ops.toList = true
    ·rw [if_pos ha] at hr'
     cases d with
     | true => cases hr'
     | false =>
       have hr2 : zfC P ops.toList ops.toList fr h = .ok x fr' h' := hr'
       refine wpSIn_region ?_
       have := runOpsS_sound ok hc (cs := cs) (Q := PostS e h w x fr' h' (c₀ :: cs)) (e0 := e) (h0 := h) (w0 := w) (fun e' a' w' s' hf' st' => ⟨rfl, rfl, e', s', hf', st'⟩) ops.toList 0 e a w fr h rfl hr2 s hf (.refl e h w)
       rw [List.range_eq_range']
       simpa using this
    ·rw [if_neg ha] at hr'
     exact plain hr'
theorem bodyR_eq {k : Code → Fr → AH → R} {f : Nat} {args : List AV} {h : AH} {r : Func × Fr × AH} (hr : bodyR P k f args h = some r) :
  ∃ c x, P.funcs[f]? = some r.1 ∧ r.1.body = some c ∧ k c (enterF r.1 args) h = .ok x r.2.1 r.2.2 ∧ (x = .normal ∨ x = .ret) := by
 unfold bodyR at hr
 rw [zab] at hr
 obtain ⟨fn, hf, hr⟩ := hr
 rw [zab] at hr
 obtain ⟨c, hb, hr⟩ := hr
 cases hk : k c (enterF fn args) h with
 | no y => rw [hk] at hr; cases hr
 | ok x fr h1 =>
   rw [hk] at hr
   have hr' : isEnd x (some (fn, fr, h1)) none = some r := hr
   cases x with
   | normal => cases hr'; exact ⟨c, .normal, hf, hb, hk, .inl rfl⟩
   | ret => cases hr'; exact ⟨c, .ret, hf, hb, hk, .inr rfl⟩
   | exit id => cases hr'
   | goto l => cases hr'
theorem zgi {B : Nat} (hB : w.heap[B]? = some (.deferred (some []))) : (Instr.takeDeferred B).run P w = .ok [] { w with heap := w.heap.setIfInBounds B (.deferred none) } := by
 have hget : (getObj B).run P w = .ok (.deferred (some [])) w := by simp only [getObj, Sem.run, hB]
 unfold Instr.takeDeferred
 rw [zac, hget]
 show Sem.run P (setObj B (.deferred none) >>= fun _ => pure []) w = _
 rw [zac]
 have hset : (setObj B (.deferred none)).run P w = .ok () { w with heap := w.heap.setIfInBounds B (.deferred none) } := by simp only [setObj, Sem.run, hB]
 rw [hset]; rfl
theorem leave_sound (ok : POk P) (hg : Good P self) {fn : Func} {tmps : Array Value} {R : Ending → World → Prop} {h2 : AH} : ∀ (ds : List ADef) (h1 : AH), leaveA P self ds h1 = some h2 → ∀ (e1 : Env) (w1 : World) (ds' : List Deferred), DRs e1 ds ds' → Sat e1 h1 w1.heap →
  (∀ e2 w2, Sat e2 h2 w2.heap → Step e1 h1 w1 e2 h2 w2 → LeavesInM Fence.wide 0 P fn tmps R [] .returning w2) → LeavesInM Fence.wide 0 P fn tmps R ds' .returning w1 := by
 intro ds
 induction ds with
 | nil =>
   intro h1 hl e1 w1 ds' hd s hend
   cases hl
   cases hd
   exact hend e1 w1 s (.refl e1 _ w1)
 | cons d ds ih =>
   intro h1 hl e1 w1 ds' hd s hend
   have hl' : bnd (leave1 P self d h1) (leaveA P self ds) = some h2 := hl
   rw [zab] at hl'
   obtain ⟨hm, h1m, hl'⟩ := hl'
   cases hd with
   | cons _ d' _ ds2 hd0 hds =>
     refine ⟨by simp, ?_⟩
     cases hd0 with
     | coll b L hL =>
       left
       have h1m' : bnd (h1.get b) (fun en => collE h1 b en) = some hm := h1m
       rw [zab] at h1m'
       obtain ⟨en, hb, hce⟩ := h1m'
       obtain ⟨L', o, hL', ho, hr⟩ := s.ents b en hb
       rw [hL] at hL'; cases hL'
       cases en <;> try (simp [collE] at hce; done)
       rename_i dd
       have hce' : bnd dd (fun ds => grd (zaY ds) (some (h1.set b (.dfr none)))) = some hm := hce
       rw [zab] at hce'
       obtain ⟨dl, rfl, hce'⟩ := hce'
       rw [zaf, zaD] at hce'
       obtain ⟨rfl, hce'⟩ := hce'
       cases hce'
       cases hr with
       | dfr _ _ ds3 hds3 =>
         cases hds3
         have s2 : Sat e1 (h1.set b (.dfr none)) (w1.heap.setIfInBounds L.blk (.deferred none)) := s.setObj hb hL (s.alone hb hL rfl) (.dfr0 _) (fun c hc => by cases hc) (fun h => by cases h)
         have st2 : Step e1 h1 w1 e1 (h1.set b (.dfr none)) { w1 with heap := w1.heap.setIfInBounds L.blk (.deferred none) } := Step.setObj s _ hb hL
         exact ⟨L.blk, _, rfl, zgi ho, ih _ hl' e1 _ ds2 hds s2 fun e2 w2 s3 st3 => hend e2 w2 s3 (st2.trans st3)⟩
     | fn f f' cx ax cx' ax' hfr hcx hax =>
       right
       have h1m' : enterO (zd6 P cx ax h1 f) (fun f args h => bnd (bodyR P (runS P self 60) f args h) fun r => grd (zaY r.2.1.ds) (bnd (zfB P r.2.2 r.2.1 r.1.results.toList) fun _ => some r.2.2)) = some hm := h1m
       refine ⟨zdb none, ?_⟩
       cases ho : zd6 P cx ax h1 f with
       | enter g args hh =>
         rw [ho] at h1m'
         obtain ⟨n, w', hrun, hout⟩ := zen ok s hfr hcx hax ho (by simp)
         obtain ⟨rfl, rfl, us, rfl, hus⟩ := hout
         have h1m2 : bnd (bodyR P (runS P self 60) g args hh) (fun r => grd (zaY r.2.1.ds) (bnd (zfB P r.2.2 r.2.1 r.1.results.toList) fun _ => some r.2.2)) = some hm := h1m'
         rw [zab] at h1m2
         obtain ⟨r, hbr, h1m2⟩ := h1m2
         rw [zaf, zaD, zab] at h1m2
         obtain ⟨hnil, rv, hrv, h1m2⟩ := h1m2
         cases h1m2
         obtain ⟨c, x, hfn, hbody, hk, hx⟩ := bodyR_eq hbr
         refine ⟨f', cx', g, us, rfl, hrun, fun _ _ => trivial, ?_⟩
         refine callsDIn_of_wpSIn hfn hbody trivial fun c₀ cs hc0 => ?_
         have hS := runS_sound ok hg (cs := cs) hc0 60 c _ _ x _ _ hk e1 _ w' s (zf6 (fn := r.1) hus)
         refine zfQ hS fun ex a' cs' w2 ⟨hcs, hex, e2, s2, hf2, st2⟩ => ?_
         obtain ⟨u, hu, _⟩ := ze8 (P := P) s2 hf2 hrv
         have hdf : a'.defers = [] := by
          have := hf2.ds
          rw [hnil] at this
          generalize a'.defers = q at this ⊢
          cases this; rfl
         have hfin : LeavesInM Fence.wide 0 P fn tmps R ds2 (settle .returning) w2 :=
          ih _ hl' e2 w2 ds2 (hds.mono st2.le) s2 fun e3 w3 s3 st3 => hend e3 w3 s3 (st2.trans st3)
         have hcs2 : cs' = { c₀ with mode := FrameMode.returning } :: cs := by
          rw [hcs]
          congr 1
          rw [← hc0]
         rcases hx with rfl | rfl
         ·subst hex
          exact ⟨hdf, .returning, hcs2, u, hu, hfin⟩
         ·subst hex
          exact ⟨hdf, .returning, hcs2, u, hu, hfin⟩
       | no => rw [ho] at h1m'; cases h1m'
       | val => rw [ho] at h1m'; cases h1m'
       | skip => rw [ho] at h1m'; cases h1m'
       | round => rw [ho] at h1m'; cases h1m'
       | dfr => rw [ho] at h1m'; cases h1m'
theorem zeF (ok : POk P) (hg : Good P self) : zbO P (callB P self) := by
 intro f args h e w us s ha v h' hv
 unfold callB at hv
 rw [zab] at hv
 obtain ⟨r, hbr, hv⟩ := hv
 rw [zab] at hv
 obtain ⟨h2, hl, hv⟩ := hv
 rw [zab] at hv
 obtain ⟨rv, hrv, hv⟩ := hv
 cases hv
 obtain ⟨c, x, hfn, hbody, hk, hx⟩ := bodyR_eq hbr
 refine callsIn_of_wp_marks hfn hbody trivial ?_
 have hw := hg none c _ h x _ _ hk e _ w none s (zf6 (fn := r.1) ha) (.inl ⟨rfl, rfl⟩)
 refine wpIn_mono (F := Fence.wide) hw fun ex a' w1 ⟨hex, e1, s1, hf1, st1⟩ => ?_
 have hfin : LeavesInM Fence.wide 0 P r.1 a'.tmps (fun en w' => match en with | .returned u => Out e h w v h' u w' | _ => False) a'.defers .returning w1 := by
  refine leave_sound ok hg r.2.1.ds r.2.2 hl e1 w1 a'.defers hf1.ds s1 fun e2 w2 s2 st2 => ?_
  obtain ⟨u, hu, hvr⟩ := ze8 (P := P) s2 (hf1.mono st2.le) hrv
  exact ⟨u, hu, e2, s2, hvr, st1.trans st2⟩
 rcases hx with rfl | rfl
 ·subst hex; exact hfin
 ·subst hex; exact hfin
structure KnownOk (P : Program) (I : zaR) : Prop where
 whole : ∀ f k, I f = some (.whole k) → ∀ args h e w (us : Array Value), Sat e h w.heap → VRs e args us.toList → GoodV P (k args h) e h w f us
 pre : ∀ f k, I f = some (.pre k) → ∀ args h e w (us : Array Value), Sat e h w.heap → VRs e args us.toList → GoodV P (k args h) e h w f us
 post : ∀ f k, I f = some (.post k) → ∀ args h h1 h2 v, k h args h1 = some h2 → ∀ e w (us : Array Value) e1 w1 u, Sat e h w.heap → VRs e args us.toList → Sat e1 h1 w1.heap → VR e1 v u → Step e h w e1 h1 w1 → Out e h w v h2 u w1
theorem zeG (ok : POk P) (hg : Good P self) {I : zaR} (hI : KnownOk P I) : zbO P (zc7 P I self) := by
 intro f args h e w us s ha v h' hv
 unfold zc7 at hv
 cases hi : I f with
 | none =>
   rw [hi] at hv
   exact zeF ok hg f args h e w us s ha v h' hv
 | some k =>
   rw [hi, oE_some] at hv
   cases k with
   | whole k => exact hI.whole f k hi args h e w us s ha v h' hv
   | pre k =>
     have hv' : oE (callB P self f args h) (fun r => some r) (k args h) = some (v, h') := hv
     cases hk : k args h with
     | none =>
       rw [hk, oE_none] at hv'
       exact zeF ok hg f args h e w us s ha v h' hv'
     | some r =>
       rw [hk, oE_some] at hv'
       rw [hv'] at hk
       exact hI.pre f k hi args h e w us s ha v h' hk
   | post k =>
     have hv' : bnd (callB P self f args h) (fun r => bnd (k h args r.2) fun h' => some (r.1, h')) = some (v, h') := hv
     rw [zab] at hv'
     obtain ⟨r, hr, hv'⟩ := hv'
     rw [zab] at hv'
     obtain ⟨h2, hk, hv'⟩ := hv'
     cases hv'
     refine CallsIn.mono (zeF ok hg f args h e w us s ha r.1 r.2 hr) fun en w1 hen => ?_
     cases en with
     | returned u =>
       obtain ⟨e1, s1, hv1, st1⟩ := hen
       exact hI.post f k hi args h r.2 h' r.1 hk e w us e1 w1 u s ha s1 hv1 st1
     | panicked c => exact hen.elim
     | outgrown => exact hen.elim
end
end
end Go.Xe
end
section
namespace Go.Xe
noncomputable section
section
variable {P : Program} {e : Env} {w : World} {self : Option Nat → Code → Fr → AH → R}
theorem zdn {B : Nat} {L : Go.Loop} (hB : w.heap[B]? = some (.loop L)) : (Instr.getLoop B).run P w = .ok L w := by
 have hget : (getObj B).run P w = .ok (.loop L) w := by simp only [getObj, Sem.run, hB]
 unfold Instr.getLoop
 rw [zac, hget]; rfl
theorem zeH {B : Nat} {L : Go.Loop} (hB : w.heap[B]? = some (.loop L)) (o : Obj) : (setObj B o).run P w = .ok () { w with heap := w.heap.setIfInBounds B o } := by
 simp only [setObj, Sem.run, hB]
theorem Sat.loopAt {h : AH} {H : Array Obj} (s : Sat e h H) {l : Nat} {st : LoopState} {pend : Option Code} {tm : Tr AV} {nt : Nat} {ps : List Nat} {asg body : Code} {d : Nat} {L : Loc} (hb : h.get l = some (.loop st pend tm nt ps asg body d)) (hl : e.loc l = some L) :
  ∃ R : Go.Loop, H[L.blk]? = some (.loop R) ∧ R.state = st ∧ R.pending = pend ∧ R.params.toList = ps ∧ R.assign = asg ∧ R.body = body ∧ TR e tm nt R.tmps ∧ ∃ ld, e.loc d = some ld ∧ R.defers = ld.blk := by
 obtain ⟨L', o, hL', ho, hr⟩ := s.ents l _ hb
 rw [hl] at hL'; cases hL'
 cases hr with
 | loop R _ _ _ _ ld ht hd hbl => exact ⟨R, ho, rfl, rfl, rfl, rfl, rfl, ht, ld, hd, hbl⟩
theorem Sat.setLoop {h : AH} {w : World} (s : Sat e h w.heap) {l : Nat} {st : LoopState} {pend : Option Code} {tm : Tr AV} {nt : Nat} {ps : List Nat} {asg body : Code} {d : Nat} {L : Loc} (hb : h.get l = some (.loop st pend tm nt ps asg body d)) (hl : e.loc l = some L)
  {R : Go.Loop} (hH : w.heap[L.blk]? = some (.loop R)) (st' : LoopState) (pend' : Option Code) :
  let w' : World := { w with heap := w.heap.setIfInBounds L.blk (.loop { R with state := st', pending := pend' }) }
  Sat e (h.set l (.loop st' pend' tm nt ps asg body d)) w'.heap ∧ Step e h w e (h.set l (.loop st' pend' tm nt ps asg body d)) w' := by
 intro w'
 obtain ⟨R', hH', rfl, rfl, rfl, rfl, rfl, ht, ld, hd, hbl⟩ := s.loopAt hb hl
 rw [hH] at hH'; cases hH'
 have hr : EntR e h.fm (.loop st' pend' tm nt R.params.toList R.assign R.body d) L (.loop { R with state := st', pending := pend' }) := .loop { R with state := st', pending := pend' } tm nt d L ld ht hd hbl
 exact ⟨s.setObj hb hl (s.alone hb hl rfl) hr (fun c hc => by cases hc) (fun h => by cases h), Step.setObj s _ hb hl⟩
theorem beginE_eq {h h' : AH} {l : Nat} {en : Ent} (hb : beginE h l en = some h') : ∃ pend tm nt ps a b d, en = .loop .ready pend tm nt ps a b d ∧ h' = h.set l (.loop .busy pend tm nt ps a b d) := by
 cases en <;> try (simp [beginE] at hb; done)
 rename_i st pend tm nt ps a b d
 cases st <;> try (simp [beginE] at hb; done)
 cases hb
 exact ⟨_, _, _, _, _, _, _, rfl, rfl⟩
theorem endE_eq {h h' : AH} {l : Nat} {j : Option Code} {en : Ent} {v : AV} (hb : endE h l j en = some (v, h')) : ∃ pend tm nt ps a b d, en = .loop .busy pend tm nt ps a b d ∧ v = zbI (isNone j) ∧ h' = h.set l (.loop (ite' (isNone j) .ready .done) j tm nt ps a b d) := by
 cases en <;> try (simp [endE] at hb; done)
 rename_i st pend tm nt ps a b d
 cases st <;> try (simp [endE] at hb; done)
 cases hb
 exact ⟨_, _, _, _, _, _, _, rfl, rfl, rfl⟩
theorem round_sound (hg : Good P self) : zcd P (roundA self) := by
 intro l tm nt asg body h v h' hv e w L tmps fn s hL htr
 unfold roundA at hv
 cases h1 : self (some l) asg ⟨tm, nt, []⟩ h with
 | no y => rw [h1] at hv; cases hv
 | ok x fr1 hh1 =>
   rw [h1] at hv
   have hv' : grd (isNormal x) (bnd (hh1.get l) fun en => bnd (beginE hh1 l en) fun h =>
    rE (fun x fr h => grd (roundA.isNilD fr.ds) (bnd (h.get l) fun e => endE h l (zcm x) e)) (fun _ => none) (self (some l) body fr1 h)) = some (v, h') := hv
   rw [zaf, zab] at hv'
   obtain ⟨hx, en, hen, hv'⟩ := hv'
   rw [zab] at hv'
   obtain ⟨hh2, hbeg, hv'⟩ := hv'
   have hx' : x = .normal := by cases x <;> first | rfl | (simp [isNormal] at hx)
   subst hx'
   cases h2 : self (some l) body fr1 hh2 with
   | no y => rw [h2] at hv'; cases hv'
   | ok x2 fr2 hh3 =>
     rw [h2] at hv'
     have hv2 : grd (roundA.isNilD fr2.ds) (bnd (hh3.get l) fun e => endE hh3 l (zcm x2) e) = some (v, h') := hv'
     rw [zaf, zab] at hv2
     obtain ⟨_, en3, hen3, hend⟩ := hv2
     obtain ⟨pend, tm2, nt2, ps2, a2, b2, d2, rfl, rfl⟩ := beginE_eq hbeg
     obtain ⟨pend3, tm3, nt3, ps3, a3, b3, d3, rfl, rfl, rfl⟩ := endE_eq hend
     refine roundIn_of_wpIn (F := Fence.wide) trivial ?_
     have hw1 := hg (some l) asg ⟨tm, nt, []⟩ h .normal fr1 hh1 h1 e { tmps := tmps, defers := [] } w (some L.blk) s ⟨htr, .nil⟩ (.inr ⟨l, L, rfl, hL, rfl⟩)
     refine wpIn_mono (F := fen (some L.blk)) hw1 fun ex a1 w1 ⟨hex, e1, s1, hf1, st1⟩ => ?_
     subst hex
     have hL1 := st1.le.loc _ _ hL
     obtain ⟨R, hH, hst, _⟩ := s1.loopAt hen hL1
     obtain ⟨s2, st2⟩ := s1.setLoop hen hL1 hH .busy pend
     have hpend : R.pending = pend := (s1.loopAt hen hL1).elim fun R' h => by
      have : R' = R := by
       have := h.1
       rw [hH] at this
       cases this; rfl
      rw [← this]; exact h.2.2.1
     refine ⟨{ w1 with heap := w1.heap.setIfInBounds L.blk (.loop { R with state := .busy, pending := pend }) }, ?_, ?_⟩
     rotate_left
     ·have hw2 := hg (some l) body fr1 _ x2 fr2 hh3 h2 e1 a1 { w1 with heap := w1.heap.setIfInBounds L.blk (.loop { R with state := .busy, pending := pend }) } (some L.blk) s2 hf1 (.inr ⟨l, L, rfl, hL1, rfl⟩)
      refine wpIn_mono (F := fen (some L.blk)) hw2 fun ex2 a2' w3 ⟨hex2, e3, s3, hf3, st3⟩ => ?_
      subst hex2
      have hL3 := st3.le.loc _ _ hL1
      obtain ⟨R3, hH3, _⟩ := s3.loopAt hen3 hL3
      have fin : ∀ j : Option Code, zcm x2 = j → ∃ u w4, (Instr.endRound L.blk j).run P w3 = .ok u w4 ∧ Out e h w (zbI (isNone (zcm x2))) (hh3.set l (.loop (ite' (isNone (zcm x2)) .ready .done) (zcm x2) tm3 nt3 ps3 a3 b3 d3)) u w4 := fun j hj => by
       subst hj
       obtain ⟨s4, st4⟩ := s3.setLoop hen3 hL3 hH3 (ite' (isNone (zcm x2)) .ready .done) (zcm x2)
       refine ⟨.bool (zcm x2).isNone, _, ?_, e3, s4, ?_, ((st1.trans st2).trans st3).trans st4⟩
       ·unfold Instr.endRound
        rw [zac, zdn hH3]
        simp only []
        rw [zac, zeH hH3]
        have : (if (zcm x2).isNone = true then LoopState.ready else LoopState.done) = ite' (isNone (zcm x2)) .ready .done := by
         cases zcm x2 <;> rfl
        rw [this]
        rfl
       ·rw [zaM]
        have : isNone (zcm x2) = (zcm x2).isNone := by cases zcm x2 <;> rfl
        rw [this]; exact .bool _
      cases x2 with
      | normal => obtain ⟨u, w4, hr, ho⟩ := fin none rfl; exact ⟨u, w4, hr, ho⟩
      | exit id => obtain ⟨u, w4, hr, ho⟩ := fin (some (.exit id)) rfl; exact ⟨u, w4, hr, ho⟩
      | goto t => obtain ⟨u, w4, hr, ho⟩ := fin (some (.goto t)) rfl; exact ⟨u, w4, hr, ho⟩
      | ret => obtain ⟨u, w4, hr, ho⟩ := fin (some .ret) rfl; exact ⟨u, w4, hr, ho⟩
     ·unfold Instr.beginRound
      rw [zac, zdn hH]
      simp only []
      rw [zac, zeH hH]
      rw [hst, ← hpend]
      rfl
variable {I : zaR}
theorem ze9 (ok : POk P) (hg : Good P self) (hcall : zbO P (zc7 P I self)) {rd ρ : Option Nat} {g : Operand} {ps : Array Tmp} {asg body : Code} {fr fr' : Fr} {h h1 h' : AH} {x : XE} {a : Act} {d : Nat} {mark : List ADef} {mark' : List Deferred} {e1 : Env} {w1 : World} {ld : Loc}
  (hf : FR e fr a) (hrr : RR e rd ρ) (s1 : Sat e1 h1 w1.heap) (st1 : Step e h w e1 h1 w1) (hd : e1.loc d = some ld) (hm : DRs e1 mark mark')
  (hr : (h1.new (.loop .ready none fr.t fr.nt ps.toList asg body d) fun l h =>
   oE (R.no "rangeFunc")
    (fun fv => opE (fun _ _ => R.no "rangeFunc") (fun _ => .no "rangeFunc")
     (fun f args h => contR "rangeFunc" (fun _ h => oE (R.no "rangeFunc: loop")
       (fun e => rangeFuncA.rangeEnd self rd l ⟨fr.t, fr.nt, app mark fr.ds⟩ h e) (h.get l)) (zc7 P I self f args h))
     (fun _ _ _ _ _ _ => .no "rangeFunc") (fun _ _ => .no "rangeFunc") (.no "rangeFunc: what is called")
     (callV P fv [.func (.yield l) [] []] h)) (ev g fr)) = .ok x fr' h') (fn : FuncId)
  (hent : ∀ L : Go.Loop, L.state = .ready → (Instr.enterLoop fn a.tmps ps asg body ρ).run P w = .ok (w1.heap.size, mark') { w1 with heap := w1.heap.push (.loop { state := .ready, pending := none, fn, tmps := a.tmps, params := ps, assign := asg, body := body, defers := ld.blk }) }) :
  ∃ (l : Nat) (mk : List Deferred) (w₁ : World) (d : Deferred) (w₁' : World) (f : FuncId) (args : Array Value) (w₂ : World),
    (Instr.enterLoop fn a.tmps ps asg body (fen ρ).round).run P w = .ok (l, mk) w₁ ∧
    (resolve a.eval (rangeCall g l) 0).run P w₁ = .ok d w₁' ∧
    (∀ f', Target.leads P w₁' d.target d.args = some f' → (fen ρ).fn f') ∧
    (invoke d.target d.args).run P w₁' = .ok (.enter f args) w₂ ∧
    ((fen ρ).depth.isSome = true → 1 ≤ 0) ∧
    CallsIn (fen ρ) (0 - 1) P f args w₂ (rangePost (fen ρ) 0 P l (Post e h w x fr' h') { a with defers := mk ++ a.defers }) := by
 rw [AH.new_eq] at hr
 obtain ⟨LR, hR⟩ : ∃ LR : Go.Loop, LR = { state := .ready, pending := none, fn, tmps := a.tmps, params := ps, assign := asg, body := body, defers := ld.blk } := ⟨_, rfl⟩
 have hle1 : e1.le (e1.at_ h1.next ⟨w1.heap.size, 0, 0⟩) := Env.at_le s1.fresh
 have hf1 := hf.mono st1.le
 have hen : EntR (e1.at_ h1.next ⟨w1.heap.size, 0, 0⟩) h1.fm (.loop .ready none fr.t fr.nt ps.toList asg body d) ⟨w1.heap.size, 0, 0⟩ (.loop LR) := by
  rw [hR]
  exact .loop { state := .ready, pending := none, fn, tmps := a.tmps, params := ps, assign := asg, body := body, defers := ld.blk } fr.t fr.nt d _ ld (hf1.tmps.mono hle1) (hle1.loc _ _ hd) rfl
 obtain ⟨s2, st2⟩ := s1.add (w := w1) 0 rfl hen
 have hloc : (e1.at_ h1.next ⟨w1.heap.size, 0, 0⟩).loc h1.next = some ⟨w1.heap.size, 0, 0⟩ := Env.at_self _ _ _
 have hf2 := hf1.mono hle1
 cases hev : ev g fr with
 | none => rw [hev] at hr; cases hr
 | some fv =>
   rw [hev, oE_some] at hr
   have hfv := ev_sound hf2 hev
   have hus : VRs (e1.at_ h1.next ⟨w1.heap.size, 0, 0⟩) [.func (.yield h1.next) [] []] (#[Value.func (.yield w1.heap.size) #[] #[]] : Array Value).toList :=
    .cons _ _ _ _ (.func _ _ _ _ _ _ (.yield h1.next ⟨w1.heap.size, 0, 0⟩ hloc) .nil .nil) .nil
   cases hc : callV P fv [.func (.yield h1.next) [] []] (h1.add (.loop .ready none fr.t fr.nt ps.toList asg body d)) with
   | enter f args hh =>
     rw [hc] at hr
     have hr2 : contR "rangeFunc" (fun _ h => oE (R.no "rangeFunc: loop") (fun e => rangeFuncA.rangeEnd self rd h1.next ⟨fr.t, fr.nt, app mark fr.ds⟩ h e) (h.get h1.next)) (zc7 P I self f args hh) = .ok x fr' h' := hr
     obtain ⟨v, hh3, hca, hr3⟩ := contR_ok hr2
     obtain ⟨fn', first', capt', huf, n, w2, hrun, hout⟩ := callV_sound (w := { w1 with heap := w1.heap.push (.loop LR) }) ok s2 hfv hus hc (by simp)
     obtain ⟨rfl, rfl, us, rfl, hargs⟩ := hout
     have hent' := hent LR (by rw [hR])
     rw [← hR] at hent'
     refine ⟨w1.heap.size, mark', _, { target := .fn fn' capt', args := first' ++ #[Value.func (.yield w1.heap.size) #[] #[]] }, _, f, us, _, hent', ?_, fun _ _ => trivial, hrun, zdb ρ, ?_⟩
     ·show Sem.run P (Deferred.ofValue (a.eval g) (#[Operand.const (.func (.yield w1.heap.size) #[] #[])].map a.eval)) _ = _
      have hmap : (#[Operand.const (.func (.yield w1.heap.size) #[] #[])].map a.eval) = #[Value.func (.yield w1.heap.size) #[] #[]] := by simp [Act.eval]
      rw [huf, hmap]
      rfl
     ·refine zeE.2 (CallsIn.mono (hcall f args _ _ _ us s2 hargs v hh3 hca) fun en w3 hen3 => ?_)
      cases en with
      | panicked c => exact hen3.elim
      | outgrown => exact hen3.elim
      | returned u =>
        obtain ⟨e3, s3, _, st3⟩ := hen3
        have hL3 := st3.le.loc _ _ hloc
        cases hget : hh3.get h1.next with
        | none => rw [hget] at hr3; cases hr3
        | some en3 =>
          rw [hget, oE_some] at hr3
          cases en3 <;> try (cases hr3; done)
          rename_i stt pend tm3 nt3 ps3 a3 b3 d3
          obtain ⟨R3, hH3, hst3, hpe3, _⟩ := s3.loopAt hget hL3
          have hnb : stt ≠ .busy := fun h => by subst h; cases hr3
          have hr4 : oE (R.ok .normal ⟨fr.t, fr.nt, app mark fr.ds⟩ (hh3.set h1.next (.loop .exhausted pend tm3 nt3 ps3 a3 b3 d3)))
           (fun c => self rd c ⟨fr.t, fr.nt, app mark fr.ds⟩ (hh3.set h1.next (.loop .exhausted pend tm3 nt3 ps3 a3 b3 d3))) pend = .ok x fr' h' := by
           cases stt <;> first | exact hr3 | exact absurd rfl hnb
          obtain ⟨s4, st4⟩ := s3.setLoop hget hL3 hH3 .exhausted pend
          have hstep := ((st1.trans st2).trans st3).trans st4
          have hf4 : FR e3 ⟨fr.t, fr.nt, app mark fr.ds⟩ { a with defers := mark' ++ a.defers } := by
           refine ⟨(hf2.tmps).mono st3.le, ?_⟩
           show DRs e3 (app mark fr.ds) (mark' ++ a.defers)
           rw [zcn]
           exact ((hm.mono hle1).mono st3.le).app (hf2.ds.mono st3.le)
          refine ⟨pend, { w3 with heap := w3.heap.setIfInBounds w1.heap.size (.loop { R3 with state := .exhausted, pending := pend }) }, ?_, ?_⟩
          rotate_left
          ·cases pend with
           | none =>
             cases hr4
             exact ⟨rfl, e3, s4, hf4, hstep⟩
           | some c =>
             rw [oE_some] at hr4
             have hw := hg rd c _ _ x fr' h' hr4 e3 { a with defers := mark' ++ a.defers } _ ρ s4 hf4 (hrr.mono hstep.le)
             exact wpIn_mono hw fun ex a5 w5 ⟨hex, e5, s5, hf5, st5⟩ => ⟨hex, e5, s5, hf5, hstep.trans st5⟩
          ·unfold Instr.endLoop
           rw [zac, zdn hH3]
           have hbz : (R3.state == LoopState.busy) = false := by
            rw [hst3]; cases stt <;> first | rfl | exact absurd rfl hnb
           show Sem.run P (if (R3.state == LoopState.busy) = true then _ else _) w3 = _
           rw [if_neg (by rw [hbz]; simp)]
           show Sem.run P (setObj w1.heap.size (.loop { R3 with state := .exhausted }) >>= fun _ => pure R3.pending) w3 = _
           rw [zac, zeH hH3, ← hpe3]
           rfl
   | no => rw [hc] at hr; cases hr
   | val => rw [hc] at hr; cases hr
   | skip => rw [hc] at hr; cases hr
   | round => rw [hc] at hr; cases hr
   | dfr => rw [hc] at hr; cases hr
theorem rangeFunc_sound (ok : POk P) (hg : Good P self) (hcall : zbO P (zc7 P I self)) {rd ρ : Option Nat} {g : Operand} {ps : Array Tmp} {asg body : Code} {fr fr' : Fr} {h h' : AH} {x : XE}
  (hr : rangeFuncA P I self rd g ps.toList asg body fr h = .ok x fr' h') {a : Act} (s : Sat e h w.heap) (hf : FR e fr a) (hrr : RR e rd ρ) :
  (Code.rangeFunc g ps asg body).wpIn (fen ρ) 0 P (Post e h w x fr' h') a w := by
 refine wpIn_rangeFunc fun fn _ => ?_
 unfold rangeFuncA at hr
 cases rd with
 | none =>
   have hρ : ρ = none := by
    rcases hrr with ⟨_, h⟩ | ⟨l, L, h, _⟩
    ·exact h
    ·cases h
   subst hρ
   rw [oE_none, AH.new_eq] at hr
   have hle : e.le (e.at_ h.next ⟨w.heap.size, 0, 0⟩) := Env.at_le s.fresh
   obtain ⟨s1, st1⟩ := s.add (w := w) (en := .dfr (some [])) (o := .deferred (some [])) 0 rfl (.dfr [] _ [] .nil)
   refine ze9 (mark' := [{ target := .collected w.heap.size, args := #[] }]) ok hg hcall hf hrr s1 st1 (Env.at_self _ _ _) (.cons _ _ _ _ (.coll h.next _ (Env.at_self _ _ _)) .nil) hr fn fun L _ => ?_
   rfl
 | some l0 =>
   rw [oE_some] at hr
   obtain ⟨L0, hL0, hρ⟩ : ∃ L, e.loc l0 = some L ∧ ρ = some L.blk := by
    rcases hrr with ⟨h, _⟩ | ⟨l, L, h, h2, h3⟩
    ·cases h
    ·cases h; exact ⟨L, h2, h3⟩
   cases hget : h.get l0 with
   | none => rw [hget] at hr; cases hr
   | some en =>
     rw [hget, oE_some] at hr
     cases en <;> try (cases hr; done)
     rename_i stt pend tm3 nt3 ps3 a3 b3 d3
     obtain ⟨R3, hH3, _, _, _, _, _, _, ld, hd, hbl⟩ := s.loopAt hget hL0
     refine ze9 (mark' := []) ok hg hcall hf hrr s (.refl e h w) hd .nil hr fn fun L _ => ?_
     subst hρ
     unfold Instr.enterLoop
     show Sem.run P (Instr.getLoop L0.blk >>= _) w = _
     rw [zac, zdn hH3, ← hbl]
     rfl
end
end
end Go.Xe
end
