/-
  One operation of the executor against the model's; Regions in the order of the text; Calls: what a function's body leaves, deferred calls, results. Conditions: none.
-/
import Derived.Test.YtjibdoofogmkcaaGreatDoorYeToYh
import Derived.RecoverIn
set_option linter.unusedVariables false
set_option linter.unusedSimpArgs false
set_option linter.unusedSectionVars false
section
namespace Go.Xe
noncomputable section
section
variable {α β : Type}
theorem arg1_eq {l : List AV} {k : AV → Option α} {y : α} : arg1 l k = some y ↔ ∃ a, l = [a] ∧ k a = some y := by
  cases l with
  | nil => simp [arg1]
  | cons a t =>
    show grd (isNil t) (k a) = some y ↔ _
    rw [grd_eq, isNil_iff]
    constructor
    · rintro ⟨rfl, h⟩; exact ⟨a, rfl, h⟩
    · rintro ⟨b, hb, h⟩; cases hb; exact ⟨rfl, h⟩
theorem arg2_eq {l : List AV} {k : AV → AV → Option α} {y : α} : arg2 l k = some y ↔ ∃ a b, l = [a, b] ∧ k a b = some y := by
  cases l with
  | nil => simp [arg2]
  | cons a t =>
    show arg1 t (fun b => k a b) = some y ↔ _
    rw [arg1_eq]
    constructor
    · rintro ⟨b, rfl, h⟩; exact ⟨a, b, rfl, h⟩
    · rintro ⟨a', b, hb, h⟩; cases hb; exact ⟨b, rfl, h⟩
theorem arg3_eq {l : List AV} {k : AV → AV → AV → Option α} {y : α} : arg3 l k = some y ↔ ∃ a b c, l = [a, b, c] ∧ k a b c = some y := by
  cases l with
  | nil => simp [arg3]
  | cons a t =>
    show arg2 t (fun b c => k a b c) = some y ↔ _
    rw [arg2_eq]
    constructor
    · rintro ⟨b, c, rfl, h⟩; exact ⟨a, b, c, rfl, h⟩
    · rintro ⟨a', b, c, hb, h⟩; cases hb; exact ⟨b, c, rfl, h⟩
theorem ofV_eq {h : AH} {o : Option AV} {r : O} (hr : ofV h o = r) (hn : r ≠ .no) : ∃ v, o = some v ∧ r = .val v h := by
  cases o with
  | none => exact absurd hr.symm hn
  | some v => exact ⟨v, rfl, hr.symm⟩
theorem ofVH_eq {o : VH} {r : O} (hr : ofVH o = r) (hn : r ≠ .no) : ∃ v h', o = some (v, h') ∧ r = .val v h' := by
  cases o with
  | none => exact absurd hr.symm hn
  | some p => exact ⟨p.1, p.2, rfl, hr.symm⟩
theorem ofH_eq {o : Option AH} {r : O} (hr : ofH o = r) (hn : r ≠ .no) : ∃ h', o = some h' ∧ r = .skip h' := by
  cases o with
  | none => exact absurd hr.symm hn
  | some p => exact ⟨p, rfl, hr.symm⟩
end
section
variable {P : Program} {e : Env} {w : World}
theorem mapO_vrs {fr : Fr} {a : Act} (hf : FR e fr a) {xs : List Operand} {vs : List AV} (h : mapO (fun x => ev x fr) xs = some vs) : VRs e vs (xs.map a.eval) := by
  induction xs generalizing vs with
  | nil => cases h; exact .nil
  | cons x xs ih =>
    have h' : bnd (ev x fr) (fun y => bnd (mapO (fun x => ev x fr) xs) fun ys => some (y :: ys)) = some vs := h
    rw [bnd_eq] at h'
    obtain ⟨y, hy, h'⟩ := h'
    rw [bnd_eq] at h'
    obtain ⟨ys, hys, h'⟩ := h'
    cases h'
    exact .cons _ _ _ _ (ev_sound hf hy) (ih hys)
theorem vrs1 {a : AV} {u : Value} (h : VRs e [a] [u]) : VR e a u := by cases h; assumption
theorem vrs2 {a b : AV} {u v : Value} (h : VRs e [a, b] [u, v]) : VR e a u ∧ VR e b v := by
  cases h with
  | cons _ _ _ _ h1 h => exact ⟨h1, vrs1 h⟩
theorem vrs3 {a b c : AV} {u v x : Value} (h : VRs e [a, b, c] [u, v, x]) : VR e a u ∧ VR e b v ∧ VR e c x := by
  cases h with
  | cons _ _ _ _ h1 h => exact ⟨h1, vrs2 h⟩
theorem v_out {h h' : AH} {s : Sem Value} {v : AV} (r : Runs P s w fun u w' => Out e h w v h' u w') : Runs P (do pure (.value (← s)) : Sem Next) w fun n w' => OutO e h w (.val v h') n w' := by
  refine Runs.bind' (r.mono fun u w' ho => ?_)
  exact Runs.pure' (.val_ ho)
theorem v_same {h : AH} (hs : Sat e h w.heap) {s : Sem Value} {v : AV} (r : Runs P s w fun u w' => VR e v u ∧ w' = w) : Runs P (do pure (.value (← s)) : Sem Next) w fun n w' => OutO e h w (.val v h) n w' :=
  v_out (Runs.same hs r)
theorem u_out {h h' : AH} {s : Sem Unit} (r : Runs P s w fun _ w' => OutH e h w h' w') : Runs P (do s; pure .skip : Sem Next) w fun n w' => OutO e h w (.skip h') n w' := by
  refine Runs.bind' (r.mono fun u w' ho => ?_)
  exact Runs.pure' (.skip_ ho)
theorem nth_get {ts : Array TypeId} {i t : Nat} (h : nth ts.toList i = some t) : ts[i]? = some t := by
  rw [nth_eq, Array.getElem?_toList] at h; exact h
theorem toArray_one {l : List Value} {us : Array Value} (h : us.toList = l) : us = l.toArray := by
  apply Array.ext'
  rw [h]
theorem builtin_sound {h : AH} (s : Sat e h w.heap) {b : Builtin} {ts : Array TypeId} {ty : TypeId} {cs : Array Bool} {args : List AV} {us : Array Value} {v : AV} {h' : AH} (ha : VRs e args us.toList)
    (hv : builtinA P b ts.toList args h = some (v, h')) : Runs P (builtin b ts ty cs us) w fun n w' => OutO e h w (.val v h') n w' := by
  cases b <;> try (simp [builtinA] at hv; done)
  case append =>
    have hv' : arg2 args (fun s x => bnd (nth ts.toList 0) fun t => bnd (zerosA P (nth ts.toList 1)) fun z => appendA P t z s x h) = some (v, h') := hv
    rw [arg2_eq] at hv'
    obtain ⟨a, x, rfl, hv'⟩ := hv'
    rw [bnd_eq] at hv'
    obtain ⟨t, ht, hv'⟩ := hv'
    rw [bnd_eq] at hv'
    obtain ⟨z, hz, hv'⟩ := hv'
    obtain ⟨us⟩ := us
    cases ha with
    | cons _ ua _ l' h1 ha =>
      cases ha with
      | cons _ ux _ l' h2 ha =>
        cases ha
        exact v_out (append_sound s (nth_get ht) h1 h2 hz hv')
  case cap =>
    have hv' : arg1 args (fun x => bnd (nth ts.toList 0) fun t => bnd (elemA P t) fun _ => (match x with | .snil => some (mkNat 0, h) | _ => none)) = some (v, h') := hv
    rw [arg1_eq] at hv'
    obtain ⟨a, rfl, hv'⟩ := hv'
    rw [bnd_eq] at hv'
    obtain ⟨t, ht, hv'⟩ := hv'
    obtain ⟨us⟩ := us
    cases ha with
    | cons _ ua _ l' h1 ha =>
      cases ha
      exact v_out (cap_sound s (nth_get ht) h1 hv')
  case copy =>
    have hv' : arg2 args (fun d x => bnd (nth ts.toList 0) fun t => copyA P t d x h) = some (v, h') := hv
    rw [arg2_eq] at hv'
    obtain ⟨a, x, rfl, hv'⟩ := hv'
    rw [bnd_eq] at hv'
    obtain ⟨t, ht, hv'⟩ := hv'
    obtain ⟨us⟩ := us
    cases ha with
    | cons _ ua _ l' h1 ha =>
      cases ha with
      | cons _ ux _ l' h2 ha =>
        cases ha
        exact v_out (copy_sound s (nth_get ht) h1 h2 hv')
  case delete =>
    have hv' : arg2 args (fun m k => bnd (nth ts.toList 0) fun t => bnd (mapDel P t m k h) fun h => some (AV.tup [], h)) = some (v, h') := hv
    rw [arg2_eq] at hv'
    obtain ⟨a, x, rfl, hv'⟩ := hv'
    rw [bnd_eq] at hv'
    obtain ⟨t, ht, hv'⟩ := hv'
    rw [bnd_eq] at hv'
    obtain ⟨h2, hd, hv'⟩ := hv'
    cases hv'
    obtain ⟨us⟩ := us
    cases ha with
    | cons _ ua _ l' h1 ha =>
      cases ha with
      | cons _ ux _ l' h2 ha =>
        cases ha
        exact v_out (mapDel_sound s (nth_get ht) h1 h2 hd)
  case len =>
    have hv' : arg1 args (fun x => bnd (nth ts.toList 0) fun t => bnd (P.underlying t) fun d => bnd (lenD x h d) fun n => some (mkNat n, h)) = some (v, h') := hv
    rw [arg1_eq] at hv'
    obtain ⟨a, rfl, hv'⟩ := hv'
    rw [bnd_eq] at hv'
    obtain ⟨t, ht, hv'⟩ := hv'
    rw [bnd_eq] at hv'
    obtain ⟨d, hd, hv'⟩ := hv'
    rw [bnd_eq] at hv'
    obtain ⟨n, hl, hv'⟩ := hv'
    cases hv'
    obtain ⟨us⟩ := us
    cases ha with
    | cons _ ua _ l' h1 ha =>
      cases ha
      exact v_out (len_sound s (nth_get ht) hd h1 hl)
  case max =>
    cases args with
    | nil => cases hv
    | cons a l =>
      have hv' : vh h (minmax true l a) = some (v, h') := hv
      unfold vh at hv'
      rw [bnd_eq] at hv'
      obtain ⟨m, hm, hv'⟩ := hv'
      cases hv'
      obtain ⟨us⟩ := us
      cases ha with
      | cons _ ua _ l' h1 ha =>
        obtain ⟨u', hr, hvr⟩ := max_sound (P := P) (w := w) h1 ha hm
        exact v_same s ⟨u', w, hr, hvr, rfl⟩
  case min =>
    cases args with
    | nil => cases hv
    | cons a l =>
      have hv' : vh h (minmax false l a) = some (v, h') := hv
      unfold vh at hv'
      rw [bnd_eq] at hv'
      obtain ⟨m, hm, hv'⟩ := hv'
      cases hv'
      obtain ⟨us⟩ := us
      cases ha with
      | cons _ ua _ l' h1 ha =>
        obtain ⟨u', hr, hvr⟩ := min_sound (P := P) (w := w) h1 ha hm
        exact v_same s ⟨u', w, hr, hvr, rfl⟩
  case unsafeSliceData =>
    have hv' : arg1 args (fun x => sliceDataA x h) = some (v, h') := hv
    rw [arg1_eq] at hv'
    obtain ⟨a, rfl, hv'⟩ := hv'
    obtain ⟨us⟩ := us
    cases ha with
    | cons _ ua _ l' h1 ha =>
      cases ha
      exact v_out (sliceData_sound s h1 hv')
  case unsafeString =>
    have hv' : arg2 args (fun p l => bnd (nth ts.toList 0) fun pt => unsafeStringA P pt p l h) = some (v, h') := hv
    rw [arg2_eq] at hv'
    obtain ⟨a, x, rfl, hv'⟩ := hv'
    rw [bnd_eq] at hv'
    obtain ⟨t, ht, hv'⟩ := hv'
    obtain ⟨us⟩ := us
    cases ha with
    | cons _ ua _ l' h1 ha =>
      cases ha with
      | cons _ ux _ l' h2 ha =>
        cases ha
        exact v_out (unsafeString_sound s (nth_get ht) h1 h2 hv')
theorem slice_sound {h : AH} (s : Sat e h w.heap) {t : TypeId} {ρ : Operand → Value} {x : Operand} {lo hi : Option Operand} {vs : List AV} {v : AV} (ha : VRs e vs ((x :: (lo.toList ++ hi.toList)).map ρ))
    (hv : sliceOp P t (siceO lo) (siceO hi) vs h = some v) : Runs P (Instr.sliceAt t (ρ x) (lo.map ρ) (hi.map ρ) none) w fun u w' => VR e v u ∧ w' = w := by
  cases vs with
  | nil => cases hv
  | cons y r =>
    cases ha with
    | cons _ _ _ _ hx hr =>
      cases lo with
      | none =>
        cases hi with
        | none =>
          have hv' : grd (isNil r) (sliceA P t y none none h) = some v := hv
          rw [grd_eq] at hv'
          exact sliceA_sound s hx .none .none hv'.2
        | some hi =>
          have hv' : arg1 r (fun u => sliceA P t y none (some u) h) = some v := hv
          rw [arg1_eq] at hv'
          obtain ⟨a, rfl, hv'⟩ := hv'
          exact sliceA_sound s hx .none (.some _ _ (vrs1 hr)) hv'
      | some lo =>
        cases hi with
        | none =>
          have hv' : arg1 r (fun l => sliceA P t y (some l) none h) = some v := hv
          rw [arg1_eq] at hv'
          obtain ⟨a, rfl, hv'⟩ := hv'
          exact sliceA_sound s hx (.some _ _ (vrs1 hr)) .none hv'
        | some hi =>
          have hv' : arg2 r (fun l u => sliceA P t y (some l) (some u) h) = some v := hv
          rw [arg2_eq] at hv'
          obtain ⟨a, b, rfl, hv'⟩ := hv'
          obtain ⟨h1, h2⟩ := vrs2 hr
          exact sliceA_sound s hx (.some _ _ h1) (.some _ _ h2) hv'
theorem callV_sound (ok : POk P) {h : AH} (s : Sat e h w.heap) {f : AV} {uf : Value} {args : List AV} {us : Array Value} {r : O} (hf : VR e f uf) (ha : VRs e args us.toList) (hv : callV P f args h = r) (hn : r ≠ .no) :
    ∃ fn' first' capt', uf = .func fn' first' capt' ∧ Runs P (invoke (.fn fn' capt') (first' ++ us)) w fun n w' => OutO e h w r n w' := by
  cases f <;> try (exact absurd hv.symm hn)
  rename_i fn first capt
  have hv' : invokeFn P capt (app first args) h fn = r := hv
  rw [app_eq] at hv'
  cases hf with
  | func _ f' _ _ x' y' h1 h2 h3 => exact ⟨f', x', y', rfl, invokeFn_sound ok s h1 h3 (by rw [Array.toList_append]; exact h2.app ha) hv' hn⟩
theorem opV_sound (ok : POk P) {h : AH} (s : Sat e h w.heap) {ρ : Operand → Value} {o : Oper} {vs : List AV} {r : O} (ha : VRs e vs ((opnds o.op).map ρ)) (hv : opV P o.op vs h = r) (hn : r ≠ .no) :
    Runs P (execOp ρ o) w fun n w' => OutO e h w r n w' := by
  obtain ⟨dst, op, ty, pos, after, guard⟩ := o
  simp only at ha hv
  cases op <;> try (exact absurd hv.symm hn)
  case move x =>
    obtain ⟨v, hv', rfl⟩ := ofV_eq hv hn
    rw [arg1_eq] at hv'
    obtain ⟨a, rfl, hv'⟩ := hv'
    cases hv'
    exact Runs.pure' (.val_ (.same s (vrs1 ha)))
  case assign x =>
    obtain ⟨v, hv', rfl⟩ := ofV_eq hv hn
    rw [arg1_eq] at hv'
    obtain ⟨a, rfl, hv'⟩ := hv'
    cases hv'
    exact Runs.pure' (.val_ (.same s (vrs1 ha)))
  case pick c x y =>
    obtain ⟨v, hv', rfl⟩ := ofV_eq hv hn
    rw [arg3_eq] at hv'
    obtain ⟨a, b, c', rfl, hv'⟩ := hv'
    obtain ⟨h1, h2, h3⟩ := vrs3 ha
    exact (pick_sound h1 h2 h3 hv').mono fun n w' ⟨u, hu, hr, hw⟩ => by subst hu hw; exact .val_ (.same s hr)
  case alloc t =>
    obtain ⟨v, h', hv', rfl⟩ := ofVH_eq hv hn
    exact v_out (alloc_sound s hv')
  case box t x =>
    obtain ⟨v, h', hv', rfl⟩ := ofVH_eq hv hn
    rw [arg1_eq] at hv'
    obtain ⟨a, rfl, hv'⟩ := hv'
    exact v_out (box_sound s (vrs1 ha) hv')
  case build t ps =>
    obtain ⟨v, hv', rfl⟩ := ofV_eq hv hn
    have hp : PR e (zipI ps.toList vs) (ps.map fun (i, x) => (i, ρ x)).toList := by
      rw [Array.toList_map]
      refine pr_zip (f := ρ) ?_
      have : (opnds (.build t ps)).map ρ = ps.toList.map fun p => ρ p.2 := by
        show (ps.toList.map (·.2)).map ρ = _
        rw [List.map_map]; rfl
      rw [← this]; exact ha
    exact v_same s (build_sound hp hv')
  case buildSlice t n ps =>
    obtain ⟨v, h', hv', rfl⟩ := ofVH_eq hv hn
    have hp : PR e (zipI ps.toList vs) (ps.map fun (i, x) => (i, ρ x)).toList := by
      rw [Array.toList_map]
      refine pr_zip (f := ρ) ?_
      have : (opnds (.buildSlice t n ps)).map ρ = ps.toList.map fun p => ρ p.2 := by
        show (ps.toList.map (·.2)).map ρ = _
        rw [List.map_map]; rfl
      rw [← this]; exact ha
    exact v_out (buildSlice_sound s hp hv')
  case load t x =>
    obtain ⟨v, hv', rfl⟩ := ofV_eq hv hn
    rw [arg1_eq] at hv'
    obtain ⟨a, rfl, hv'⟩ := hv'
    exact v_same s (load_sound s (vrs1 ha) hv')
  case store t x y =>
    obtain ⟨h', hv', rfl⟩ := ofH_eq hv hn
    rw [arg2_eq] at hv'
    obtain ⟨a, b, rfl, hv'⟩ := hv'
    obtain ⟨h1, h2⟩ := vrs2 ha
    exact u_out ((store_sound s h1 h2 hv').mono fun _ w' ⟨q1, q2⟩ => ⟨e, q1, q2⟩)
  case nilCheck x =>
    obtain ⟨v, hv', rfl⟩ := ofV_eq hv hn
    rw [arg1_eq] at hv'
    obtain ⟨a, rfl, hv'⟩ := hv'
    exact (nilCheck_sound (P := P) (w := w) (vrs1 ha) hv').mono fun n w' ⟨hu, hr, hw⟩ => by subst hu hw; exact .val_ (.same s hr)
  case binOp bo t x y cm =>
    obtain ⟨v, hv', rfl⟩ := ofV_eq hv hn
    rw [arg2_eq] at hv'
    obtain ⟨a, b, rfl, hv'⟩ := hv'
    obtain ⟨h1, h2⟩ := vrs2 ha
    exact v_same s (binA_sound s h1 h2 hv')
  case unOp uo t x =>
    obtain ⟨v, hv', rfl⟩ := ofV_eq hv hn
    rw [arg1_eq] at hv'
    obtain ⟨a, rfl, hv'⟩ := hv'
    exact v_same s (unA_sound (vrs1 ha) hv')
  case convert sr ds x =>
    obtain ⟨v, h', hv', rfl⟩ := ofVH_eq hv hn
    rw [arg1_eq] at hv'
    obtain ⟨a, rfl, hv'⟩ := hv'
    exact v_out (convA_sound s (vrs1 ha) hv')
  case makeInterface t x =>
    obtain ⟨v, hv', rfl⟩ := ofV_eq hv hn
    rw [arg1_eq] at hv'
    obtain ⟨a, rfl, hv'⟩ := hv'
    exact v_same s (makeIface_sound (vrs1 ha) hv')
  case makeFunc fn first capt =>
    obtain ⟨v, hv', rfl⟩ := ofV_eq hv hn
    rw [grd_eq, bnd_eq] at hv'
    obtain ⟨hy, a, hta, hv'⟩ := hv'
    rw [bnd_eq] at hv'
    obtain ⟨b, htb, hv'⟩ := hv'
    cases hv'
    have hop : (opnds (.makeFunc fn first capt)).map ρ = (first.map ρ).toList ++ (capt.map ρ).toList := by
      show (app first.toList capt.toList).map ρ = _
      rw [app_eq]; simp
    rw [hop] at ha
    have hlen : (first.map ρ).toList.length = len first.toList := by rw [len_eq]; simp
    have h1 := ha.take (len first.toList)
    have h2 := ha.drop (len first.toList)
    rw [List.take_left' hlen] at h1
    rw [List.drop_left' hlen] at h2
    have hta' : a = vs.take (len first.toList) := by
      rw [tak_eq] at hta
      by_cases hle : len first.toList ≤ vs.length
      · rw [if_pos hle] at hta; exact (Option.some.inj hta).symm
      · rw [if_neg hle] at hta; cases hta
    have htb' : b = vs.drop (len first.toList) := by
      rw [drp_eq] at htb
      by_cases hle : len first.toList ≤ vs.length
      · rw [if_pos hle] at htb; exact (Option.some.inj htb).symm
      · rw [if_neg hle] at htb; cases htb
    rw [← hta'] at h1
    rw [← htb'] at h2
    exact v_same s ⟨_, w, rfl, .func _ _ _ _ _ _ (.same _ hy) h1 h2, rfl⟩
  case makeMap t x =>
    obtain ⟨v, h', hv', rfl⟩ := ofVH_eq hv hn
    refine v_out (makeMap_sound s ?_ hv')
    cases x with
    | none =>
      cases vs with
      | nil => exact .inl ⟨rfl, rfl⟩
      | cons _ _ => cases ha
    | some x =>
      cases vs with
      | nil => cases ha
      | cons a l =>
        cases ha with
        | cons _ _ _ _ h1 h2 =>
          cases h2
          exact .inr ⟨a, ρ x, rfl, rfl, h1⟩
  case makeSlice t x y =>
    obtain ⟨v, h', hv', rfl⟩ := ofVH_eq hv hn
    rw [arg2_eq] at hv'
    obtain ⟨a, b, rfl, hv'⟩ := hv'
    obtain ⟨h1, h2⟩ := vrs2 ha
    exact v_out (makeSlice_sound s h1 h2 hv')
  case slice t x lo hi mx =>
    cases mx with
    | some m => exact absurd hv.symm hn
    | none =>
      have hv2 : ofV h (sliceOp P t (siceO lo) (siceO hi) vs h) = r := hv
      obtain ⟨v, hv', rfl⟩ := ofV_eq hv2 hn
      have hop : opnds (.slice t x lo hi none) = x :: (lo.toList ++ hi.toList) := by
        show x :: app lo.toList hi.toList = _
        rw [app_eq]
      rw [hop] at ha
      exact v_same s (slice_sound s ha hv')
  case fieldAddr t x f =>
    obtain ⟨v, hv', rfl⟩ := ofV_eq hv hn
    rw [arg1_eq] at hv'
    obtain ⟨a, rfl, hv'⟩ := hv'
    exact v_same s (fieldAddr_sound (vrs1 ha) hv')
  case field t x f =>
    obtain ⟨v, hv', rfl⟩ := ofV_eq hv hn
    rw [arg1_eq] at hv'
    obtain ⟨a, rfl, hv'⟩ := hv'
    exact v_same s (field_sound (vrs1 ha) hv')
  case indexAddr t x y =>
    obtain ⟨v, hv', rfl⟩ := ofV_eq hv hn
    rw [arg2_eq] at hv'
    obtain ⟨a, b, rfl, hv'⟩ := hv'
    obtain ⟨h1, h2⟩ := vrs2 ha
    exact v_same s (indexAddr_sound h1 h2 hv')
  case index t x y =>
    obtain ⟨v, hv', rfl⟩ := ofV_eq hv hn
    rw [arg2_eq] at hv'
    obtain ⟨a, b, rfl, hv'⟩ := hv'
    obtain ⟨h1, h2⟩ := vrs2 ha
    exact v_same s (index_sound h1 h2 hv')
  case lookup t m k okk =>
    obtain ⟨v, hv', rfl⟩ := ofV_eq hv hn
    rw [arg2_eq] at hv'
    obtain ⟨a, b, rfl, hv'⟩ := hv'
    obtain ⟨h1, h2⟩ := vrs2 ha
    exact v_same s (lookup_sound s h1 h2 hv')
  case mapUpdate t m k x =>
    obtain ⟨h', hv', rfl⟩ := ofH_eq hv hn
    rw [arg3_eq] at hv'
    obtain ⟨a, b, c, rfl, hv'⟩ := hv'
    obtain ⟨h1, h2, h3⟩ := vrs3 ha
    exact u_out (mapUpd_sound s h1 h2 h3 hv')
  case insert t m k x =>
    obtain ⟨h', hv', rfl⟩ := ofH_eq hv hn
    rw [arg3_eq] at hv'
    obtain ⟨a, b, c, rfl, hv'⟩ := hv'
    obtain ⟨h1, h2, h3⟩ := vrs3 ha
    exact u_out (mapUpd_sound s h1 h2 h3 hv')
  case mapEntry t m k =>
    obtain ⟨v, h', hv', rfl⟩ := ofVH_eq hv hn
    rw [arg2_eq] at hv'
    obtain ⟨a, b, rfl, hv'⟩ := hv'
    obtain ⟨h1, h2⟩ := vrs2 ha
    exact v_out (mapEntry_sound s h1 h2 hv')
  case entryStore t m k x =>
    obtain ⟨h', hv', rfl⟩ := ofH_eq hv hn
    rw [arg3_eq] at hv'
    obtain ⟨a, b, c, rfl, hv'⟩ := hv'
    obtain ⟨h1, h2, h3⟩ := vrs3 ha
    exact u_out (entryStore_sound s h1 h2 h3 hv')
  case range t x =>
    obtain ⟨v, h', hv', rfl⟩ := ofVH_eq hv hn
    rw [arg1_eq] at hv'
    obtain ⟨a, rfl, hv'⟩ := hv'
    rw [bnd_eq] at hv'
    obtain ⟨d, hd, hv'⟩ := hv'
    exact v_out (range_sound s hd (vrs1 ha) hv')
  case next it b =>
    obtain ⟨v, h', hv', rfl⟩ := ofVH_eq hv hn
    rw [arg1_eq] at hv'
    obtain ⟨a, rfl, hv'⟩ := hv'
    exact v_out (next_sound s (vrs1 ha) hv')
  case entry it =>
    obtain ⟨v, hv', rfl⟩ := ofV_eq hv hn
    rw [arg1_eq] at hv'
    obtain ⟨a, rfl, hv'⟩ := hv'
    exact v_same s (entry_sound s (vrs1 ha) hv')
  case typeAssert x xt t okk =>
    obtain ⟨v, hv', rfl⟩ := ofV_eq hv hn
    rw [arg1_eq] at hv'
    obtain ⟨a, rfl, hv'⟩ := hv'
    rw [bnd_eq] at hv'
    obtain ⟨d, hd, hv'⟩ := hv'
    exact v_same s (typeAssert_sound hd (vrs1 ha) hv')
  case extract x i =>
    obtain ⟨v, hv', rfl⟩ := ofV_eq hv hn
    rw [arg1_eq] at hv'
    obtain ⟨a, rfl, hv'⟩ := hv'
    exact v_same s (extract_sound (vrs1 ha) hv')
  case call c =>
    obtain ⟨callee, args, ats⟩ := c
    cases callee with
    | builtin b =>
      have hv2 : ofVH (builtinA P b ats.toList vs h) = r := hv
      obtain ⟨v, h', hv', rfl⟩ := ofVH_eq hv2 hn
      have ha' : VRs e vs (args.map ρ).toList := by rw [Array.toList_map]; exact ha
      exact builtin_sound s ha' hv'
    | value f =>
      cases vs with
      | nil => exact absurd hv.symm hn
      | cons a as =>
        have hv2 : callV P a as h = r := hv
        cases ha with
        | cons _ _ _ _ h1 h2 =>
          obtain ⟨fn', first', capt', huf, hrun⟩ := callV_sound ok s (us := args.map ρ) h1 (by rw [Array.toList_map]; exact h2) hv2 hn
          refine Runs.run_eq ?_ hrun
          show Sem.run P (Deferred.ofValue (ρ f) (args.map ρ) >>= fun d => invoke d.target d.args) w = _
          rw [huf]; rfl
    | invoke x name =>
      have hv2 : invokeM P name vs h = r := hv
      have ha' : VRs e vs (#[ρ x] ++ args.map ρ).toList := by
        rw [Array.toList_append, Array.toList_map]; exact ha
      exact invokeM_sound ok s ha' hv2 hn
  case defer c =>
    obtain ⟨callee, args, ats⟩ := c
    cases callee with
    | builtin b => exact absurd hv.symm hn
    | invoke x name => exact absurd hv.symm hn
    | value f =>
      cases vs with
      | nil => exact absurd hv.symm hn
      | cons a as =>
        cases a <;> try (exact absurd hv.symm hn)
        rename_i fn first capt
        have hv2 : O.dfr (.fn fn capt (app first as)) h = r := hv
        subst hv2
        cases ha with
        | cons _ _ _ _ h1 h2 =>
          generalize hu : ρ f = uf at h1
          cases h1 with
          | func _ f' _ _ x' y' q1 q2 q3 =>
            refine ⟨.defer { target := .fn f' y', args := x' ++ args.map ρ }, w, ?_, rfl, rfl, _, rfl, .fn _ _ _ _ _ _ q1 q3 ?_⟩
            · show Sem.run P (Deferred.ofValue (ρ f) (args.map ρ) >>= fun d => pure (Next.defer d)) w = _
              rw [hu]; rfl
            · rw [app_eq, Array.toList_append, Array.toList_map]
              exact q2.app h2
end
end
end Go.Xe
end
section
namespace Go.Xe
noncomputable section
def fen (ρ : Option Nat) : Fence := { Fence.wide with round := ρ }
theorem fen_fn (ρ : Option Nat) (f : FuncId) : (fen ρ).fn f := trivial
theorem fen_room (ρ : Option Nat) (n : Nat) : (fen ρ).room n := fun _ h => by cases h
theorem fen_depth (ρ : Option Nat) {p : Prop} : (fen ρ).depth.isSome = true → p := fun h => by cases h
theorem callsIn_fen {ρ : Option Nat} {n : Nat} {P : Program} {f : FuncId} {args : Array Value} {w : World} {R : Ending → World → Prop} : CallsIn (fen ρ) n P f args w R ↔ CallsIn Fence.wide n P f args w R := Iff.rfl
def RR (e : Env) (rd ρ : Option Nat) : Prop := (rd = none ∧ ρ = none) ∨ ∃ l L, rd = some l ∧ e.loc l = some L ∧ ρ = some L.blk
theorem RR.mono {e e' : Env} (he : e.le e') {rd ρ : Option Nat} (h : RR e rd ρ) : RR e' rd ρ := by
  rcases h with h | ⟨l, L, h1, h2, h3⟩
  · exact .inl h
  · exact .inr ⟨l, L, h1, he.loc _ _ h2, h3⟩
def exitOf : XE → Exit
  | .normal => .normal
  | .exit id => .exit id
  | .goto l => .goto l
  | .ret => .ret
def Post (e : Env) (h : AH) (w : World) (x : XE) (fr' : Fr) (h' : AH) : Exit → Act → World → Prop :=
  fun ex a' w' => ex = exitOf x ∧ ∃ e', Sat e' h' w'.heap ∧ FR e' fr' a' ∧ Step e h w e' h' w'
def Good (P : Program) (self : Option Nat → Code → Fr → AH → R) : Prop :=
  ∀ rd c fr h x fr' h', self rd c fr h = .ok x fr' h' → ∀ e a w ρ, Sat e h w.heap → FR e fr a → RR e rd ρ → c.wpIn (fen ρ) 0 P (Post e h w x fr' h') a w
def GoodV (P : Program) (c : VH) (e : Env) (h : AH) (w : World) (f : FuncId) (us : Array Value) : Prop :=
  ∀ v h', c = some (v, h') → CallsIn Fence.wide 0 P f us w fun en w' => match en with | .returned u => Out e h w v h' u w' | _ => False
def GoodCall (P : Program) (k : Nat → List AV → AH → VH) : Prop :=
  ∀ f args h, ∀ e w us, Sat e h w.heap → VRs e args us.toList → GoodV P (k f args h) e h w f us
def GoodRound (P : Program) (k : Nat → Tr AV → Nat → Code → Code → AH → VH) : Prop :=
  ∀ l tm nt asg body h v h', k l tm nt asg body h = some (v, h') → ∀ e w L tmps fn, Sat e h w.heap → e.loc l = some L → TR e tm nt tmps →
    RoundIn Fence.wide 0 P L.blk fn tmps asg body w fun en w' => match en with | .returned u => Out e h w v h' u w' | _ => False
section
variable {P : Program} {e : Env} {w : World}
theorem wanted_sound {ops : Array Oper} {fr : Fr} {a : Act} (hf : FR e fr a) {o : Oper} {wb : Bool} (h : wantedA ops.toList fr o.guard = some wb) : Region.wanted o (yielded ops a.tmps) = wb := by
  unfold Region.wanted
  cases hg : o.guard with
  | none =>
    rw [hg] at h
    have h' : some true = some wb := h
    cases h'; rfl
  | some g =>
    obtain ⟨j, want⟩ := g
    rw [hg] at h
    have h' : bnd (nth ops.toList j) (fun oj => bnd oj.dst fun d => match fr.at_ d with
      | .bool b => some (ite' b want (ite' want false true))
      | .sval _ => none
      | _ => some false) = some wb := h
    rw [bnd_eq] at h'
    obtain ⟨oj, hj, h'⟩ := h'
    rw [bnd_eq] at h'
    obtain ⟨d, hd, h'⟩ := h'
    rw [nth_eq, Array.getElem?_toList] at hj
    have hy : yielded ops a.tmps j = match a.tmps[d]? with | some (.bool b) => some b | _ => none := by
      unfold yielded
      rw [hj]
      simp only [Option.bind_some, hd]
      rfl
    simp only [hy]
    have hv := hf.tmps.at_ d
    rw [at_eq] at h'
    generalize hx : atT fr.t d = x at h' hv
    have hget : ∀ v, a.tmps[d]? = some v → a.tmps.getD d undef = v := fun v hv => by
      simp [Array.getD_eq_getD_getElem?, hv]
    have hother : (∀ b, x ≠ .bool b) → (∀ i, x ≠ .sval i) → (match a.tmps[d]? with | some (.bool b) => some b | _ => none) = none := fun h1 h2 => by
      cases hq : a.tmps[d]? with
      | none => rfl
      | some v =>
        rw [hget v hq] at hv
        cases v <;> first | rfl | skip
        rename_i b
        cases hv with
        | bool => exact absurd rfl (h1 b)
        | sval i => exact absurd rfl (h2 i)
    cases x with
    | bool b =>
      have h2 : some (ite' b want (ite' want false true)) = some wb := h'
      cases h2
      have hb := vr_bool hv
      have hq : a.tmps[d]? = some (.bool b) := by
        cases hq : a.tmps[d]? with
        | none =>
          have : a.tmps.getD d undef = undef := by simp [Array.getD_eq_getD_getElem?, hq]
          rw [this] at hb; cases hb
        | some v => rw [hget v hq] at hb; rw [hb]
      rw [hq]
      cases b <;> cases want <;> rfl
    | sval i => cases h'
    | _ =>
      have h2 : some false = some wb := h'
      cases h2
      rw [hother (fun _ h => by cases h) (fun _ h => by cases h)]
      rfl
theorem putR_ok {fr : Fr} {d : Option Nat} {v : AV} {k : Fr → R} {x : XE} {fr' : Fr} {h' : AH} (h : putR fr d v k = .ok x fr' h') : ∃ fr1, fr.put d v = some fr1 ∧ k fr1 = .ok x fr' h' := by
  unfold putR at h
  cases hp : fr.put d v with
  | none => rw [hp] at h; cases h
  | some fr1 => rw [hp] at h; exact ⟨fr1, rfl, h⟩
theorem contR_ok {why : String} {k : AV → AH → R} {o : VH} {x : XE} {fr' : Fr} {h' : AH} (h : contR why k o = .ok x fr' h') : ∃ v h1, o = some (v, h1) ∧ k v h1 = .ok x fr' h' := by
  cases o with
  | none => cases h
  | some p => exact ⟨p.1, p.2, rfl, h⟩
variable {I : Known} {self : Option Nat → Code → Fr → AH → R}
theorem operA_sound (ok : POk P) (hcall : GoodCall P (callA P I self)) (hround : GoodRound P (roundA self)) {rd ρ : Option Nat} {o : Oper} {fr : Fr} {h : AH} {k : Fr → AH → R} {x : XE} {fr' : Fr} {h' : AH}
    (hr : operA P I self rd o fr h k = .ok x fr' h') {a : Act} {next : Act → World → Prop} {Q : Exit → Act → World → Prop} (s : Sat e h w.heap) (hf : FR e fr a) (hrr : RR e rd ρ)
    (hk : ∀ fr1 h1, k fr1 h1 = .ok x fr' h' → ∀ e1 a1 w1, Sat e1 h1 w1.heap → FR e1 fr1 a1 → Step e h w e1 h1 w1 → next a1 w1) :
    o.wpIn (fen ρ) 0 P a w next Q := by
  refine ⟨fun f _ => trivial, ?_⟩
  unfold operA at hr
  cases hm : mapO (fun x => ev x fr) (opnds o.op) with
  | none => rw [hm] at hr; cases hr
  | some vs =>
    rw [hm, oE_some] at hr
    have hvs := mapO_vrs hf hm
    have hsem : (∀ d h1, opV P o.op vs h = .dfr d h1 → rd = none) → (o.semAt (fen ρ).round a.eval) = execOp a.eval o ∨ rd ≠ none ∧ ∃ c, o.op = .defer c := fun hd => by
      by_cases hc : ∃ c, o.op = .defer c
      · rcases hrr with ⟨_, rfl⟩ | ⟨l, L, rfl, _, rfl⟩
        · exact .inl rfl
        · exact .inr ⟨by simp, hc⟩
      · exact .inl (Oper.semAt_eq _ _ _ fun c hx => hc ⟨c, hx⟩)
    cases ho : opV P o.op vs h with
    | no => rw [ho] at hr; cases hr
    | val v h1 =>
      rw [ho] at hr
      obtain ⟨fr1, hp, hr⟩ := putR_ok hr
      obtain ⟨n, w1, hrun, hout⟩ := opV_sound ok s hvs ho (by simp)
      obtain ⟨e1, u, rfl, s1, hv, st⟩ := hout
      have hse : o.semAt (fen ρ).round a.eval = execOp a.eval o := Oper.semAt_eq _ _ _ fun c hx => by
        rw [hx] at ho
        obtain ⟨callee, cargs, cats⟩ := c
        cases callee with
        | builtin b => cases ho
        | invoke _ _ => cases ho
        | value f =>
          cases vs with
          | nil => cases ho
          | cons y ys => cases y <;> cases ho
      rw [hse, hrun, Oper.uponIn_value]
      exact hk fr1 h1 hr e1 _ w1 s1 (put_sound (hf.mono st.le) hv hp) st
    | skip h1 =>
      rw [ho] at hr
      obtain ⟨fr1, hp, hr⟩ := putR_ok hr
      obtain ⟨n, w1, hrun, hout⟩ := opV_sound ok s hvs ho (by simp)
      obtain ⟨e1, rfl, s1, st⟩ := hout
      have hse : o.semAt (fen ρ).round a.eval = execOp a.eval o := Oper.semAt_eq _ _ _ fun c hx => by
        rw [hx] at ho
        obtain ⟨callee, cargs, cats⟩ := c
        cases callee with
        | builtin b => cases ho
        | invoke _ _ => cases ho
        | value f =>
          cases vs with
          | nil => cases ho
          | cons y ys => cases y <;> cases ho
      rw [hse, hrun, Oper.uponIn_skip]
      exact hk fr1 h1 hr e1 _ w1 s1 (put_sound (hf.mono st.le) (vr_undef e1) hp) st
    | enter f args h1 =>
      rw [ho] at hr
      have hr2 : contR o.pos (fun v h => putR fr o.dst v fun fr => k fr h) (callA P I self f args h1) = .ok x fr' h' := hr
      clear hr
      obtain ⟨v, h2, hc, hr⟩ := contR_ok hr2
      obtain ⟨fr1, hp, hr⟩ := putR_ok hr
      obtain ⟨n, w1, hrun, hout⟩ := opV_sound ok s hvs ho (by simp)
      obtain ⟨rfl, rfl, us, rfl, hus⟩ := hout
      have hse : o.semAt (fen ρ).round a.eval = execOp a.eval o := Oper.semAt_eq _ _ _ fun c hx => by
        rw [hx] at ho
        obtain ⟨callee, cargs, cats⟩ := c
        cases callee with
        | builtin b => cases ho
        | invoke _ _ => cases ho
        | value f =>
          cases vs with
          | nil => cases ho
          | cons y ys => cases y <;> cases ho
      rw [hse, hrun, Oper.uponIn_enter]
      refine ⟨fen_depth ρ, callsIn_fen.2 (CallsIn.mono (hcall f args _ e w1 us s hus v h2 hc) fun en w' hen => ?_)⟩
      cases en with
      | returned u =>
        obtain ⟨e2, s2, hv, st⟩ := hen
        exact hk fr1 h2 hr e2 _ w' s2 (put_sound (hf.mono st.le) hv hp) st
      | panicked c => exact hen.elim
      | outgrown => exact hen.elim
    | round l tm nt asg body h1 =>
      rw [ho] at hr
      have hr2 : contR o.pos (fun v h => putR fr o.dst v fun fr => k fr h) (roundA self l tm nt asg body h1) = .ok x fr' h' := hr
      clear hr
      obtain ⟨v, h2, hc, hr⟩ := contR_ok hr2
      obtain ⟨fr1, hp, hr⟩ := putR_ok hr
      obtain ⟨n, w1, hrun, hout⟩ := opV_sound ok s hvs ho (by simp)
      obtain ⟨rfl, rfl, L, fn, tmps, rfl, hL, htr⟩ := hout
      have hse : o.semAt (fen ρ).round a.eval = execOp a.eval o := Oper.semAt_eq _ _ _ fun c hx => by
        rw [hx] at ho
        obtain ⟨callee, cargs, cats⟩ := c
        cases callee with
        | builtin b => cases ho
        | invoke _ _ => cases ho
        | value f =>
          cases vs with
          | nil => cases ho
          | cons y ys => cases y <;> cases ho
      rw [hse, hrun, Oper.uponIn_round]
      refine ⟨fen_depth ρ, ?_⟩
      have hx : RoundIn Fence.wide 0 P L.blk fn tmps asg body w1 _ := hround l tm nt asg body _ v h2 hc e w1 L tmps fn s hL htr
      refine RoundIn.mono (F := fen ρ) hx fun en w' hen => ?_
      cases en with
      | returned u =>
        obtain ⟨e2, s2, hv, st⟩ := hen
        exact hk fr1 h2 hr e2 _ w' s2 (put_sound (hf.mono st.le) hv hp) st
      | panicked c => exact hen.elim
      | outgrown => exact hen.elim
    | dfr d h1 =>
      rw [ho] at hr
      have hr' : oE (putR ⟨fr.t, fr.nt, d :: fr.ds⟩ o.dst undefA fun fr => k fr h1) (fun _ => R.no "defer in a round") rd = .ok x fr' h' := hr
      cases rd with
      | some l => cases hr'
      | none =>
        have hρ : ρ = none := by
          rcases hrr with ⟨_, h⟩ | ⟨l, L, h, _⟩
          · exact h
          · cases h
        subst hρ
        rw [oE_none] at hr'
        obtain ⟨fr1, hp, hr2⟩ := putR_ok hr'
        obtain ⟨n, w1, hrun, hout⟩ := opV_sound ok s hvs ho (by simp)
        obtain ⟨rfl, rfl, d', rfl, hd⟩ := hout
        have hse : o.semAt (fen none).round a.eval = execOp a.eval o := rfl
        rw [hse, hrun, Oper.uponIn_defer]
        have hf2 : FR e ⟨fr.t, fr.nt, d :: fr.ds⟩ { a with defers := d' :: a.defers } := ⟨hf.tmps, .cons _ _ _ _ hd hf.ds⟩
        exact hk fr1 _ hr2 e _ w1 s (put_sound hf2 (vr_undef e) hp) (.refl e _ w1)
theorem runOps_sound (ok : POk P) (hcall : GoodCall P (callA P I self)) (hround : GoodRound P (roundA self)) {rd ρ : Option Nat} {ops : Array Oper} {x : XE} {fr' : Fr} {h' : AH} {Q : Exit → Act → World → Prop} {e0 : Env} {h0 : AH} {w0 : World}
    (hQ : ∀ e' a' w', Sat e' h' w'.heap → FR e' fr' a' → Step e0 h0 w0 e' h' w' → Q (exitOf x) a' w') :
    ∀ (l : List Oper) (i : Nat) (e : Env) (a : Act) (w : World) (fr : Fr) (h : AH), ops.toList.drop i = l → runOps P I self rd ops.toList l fr h = .ok x fr' h' → Sat e h w.heap → FR e fr a → RR e rd ρ → Step e0 h0 w0 e h w →
      wpOpsIn (fen ρ) 0 P ops Q (List.range' i l.length) a w := by
  intro l
  induction l with
  | nil =>
    intro i e a w fr h _ hr s hf _ st
    have hr' : R.ok .normal fr h = .ok x fr' h' := hr
    cases hr'
    exact hQ e a w s hf st
  | cons o l ih =>
    intro i e a w fr h hdrop hr s hf hrr st
    have ho : ops[i]? = some o := by
      rw [← Array.getElem?_toList]
      have := congrArg List.head? hdrop
      rw [List.head?_drop] at this
      exact this
    have hdrop' : ops.toList.drop (i + 1) = l := by
      rw [← List.drop_drop, hdrop]; rfl
    have hr' : oE (R.no o.pos) (fun wb => ite' wb (operA P I self rd o fr h (runOps P I self rd ops.toList l)) (putR fr o.dst undefA fun fr => runOps P I self rd ops.toList l fr h)) (wantedA ops.toList fr o.guard) = .ok x fr' h' := hr
    rw [List.length_cons, List.range'_succ]
    simp only [wpOpsIn, ho]
    cases hw : wantedA ops.toList fr o.guard with
    | none => rw [hw] at hr'; cases hr'
    | some wb =>
      rw [hw, oE_some] at hr'
      rw [wanted_sound hf hw]
      cases wb with
      | true =>
        rw [ite'_true] at hr'
        rw [if_pos rfl]
        exact operA_sound ok hcall hround hr' s hf hrr fun fr1 h1 hr1 e1 a1 w1 s1 hf1 st1 => ih (i + 1) e1 a1 w1 fr1 h1 hdrop' hr1 s1 hf1 (hrr.mono st1.le) (st.trans st1)
      | false =>
        rw [ite'_false] at hr'
        obtain ⟨fr1, hp, hr1⟩ := putR_ok hr'
        rw [if_neg (by simp)]
        exact ⟨fun f _ => trivial, ih (i + 1) e _ w fr1 h hdrop' hr1 s (put_sound hf (vr_undef e) hp) hrr st⟩
theorem region_sound (ok : POk P) (hcall : GoodCall P (callA P I self)) (hround : GoodRound P (roundA self)) {rd ρ : Option Nat} {id : Nat} {ops : Array Oper} {fr fr' : Fr} {h h' : AH} {x : XE} (hr : runOps P I self rd ops.toList ops.toList fr h = .ok x fr' h')
    {a : Act} (s : Sat e h w.heap) (hf : FR e fr a) (hrr : RR e rd ρ) : (Code.region id ops false).wpIn (fen ρ) 0 P (Post e h w x fr' h') a w := by
  refine wpIn_region ?_
  have := runOps_sound (ρ := ρ) ok hcall hround (Q := Post e h w x fr' h') (e0 := e) (h0 := h) (w0 := w) (fun e' a' w' s' hf' st' => ⟨rfl, e', s', hf', st'⟩) ops.toList 0 e a w fr h rfl hr s hf hrr (.refl e h w)
  rw [List.range_eq_range']
  simpa using this
end
end
end Go.Xe
end
section
namespace Go.Xe
noncomputable section
section
variable {P : Program} {e : Env} {w : World}
def resS (tmps : Array Value) : ResultVar → Sem Value
  | .tmp t => pure (tmps.getD t undef)
  | .cell c t => do loadVar t (← asAddr (tmps.getD c undef))
theorem result1_sound {h : AH} (s : Sat e h w.heap) {fr : Fr} {a : Act} (hf : FR e fr a) {rv : ResultVar} {v : AV} (hv : result1 P h fr rv = some v) :
    ∃ u, (resS a.tmps rv).run P w = .ok u w ∧ VR e v u := by
  cases rv with
  | tmp t =>
    have hv' : some (fr.at_ t) = some v := hv
    cases hv'
    rw [at_eq]
    exact ⟨_, rfl, hf.tmps.at_ t⟩
  | cell c t =>
    have hv' : load P t (fr.at_ c) h = some v := hv
    rw [at_eq] at hv'
    obtain ⟨u, w', hr, hvr, rfl⟩ := load_sound (P := P) s (hf.tmps.at_ c) hv'
    refine ⟨u, ?_, hvr⟩
    have hp : ∃ A, a.tmps.getD c undef = .pointer (some A) := by
      have h2 := hv'
      unfold load at h2
      rw [ptrV_eq] at h2
      obtain ⟨b, o, hb, _⟩ := h2
      have h3 := hf.tmps.at_ c
      rw [hb] at h3
      obtain ⟨L, _, hL⟩ := vr_ptr h3
      exact ⟨_, hL⟩
    obtain ⟨A, hA⟩ := hp
    rw [hA] at hr
    show Sem.run P (asAddr (a.tmps.getD c undef) >>= fun x => loadVar t x) _ = _
    rw [hA]
    exact hr
theorem results_list {h : AH} (s : Sat e h w.heap) {fr : Fr} {a : Act} (hf : FR e fr a) {rs : List ResultVar} {l : List AV} (hv : mapO (result1 P h fr) rs = some l) :
    ∃ us : List Value, (rs.mapM (resS a.tmps)).run P w = .ok us w ∧ VRs e l us := by
  induction rs generalizing l with
  | nil => cases hv; exact ⟨[], rfl, .nil⟩
  | cons r rs ih =>
    have hv' : bnd (result1 P h fr r) (fun y => bnd (mapO (result1 P h fr) rs) fun ys => some (y :: ys)) = some l := hv
    rw [bnd_eq] at hv'
    obtain ⟨y, hy, hv'⟩ := hv'
    rw [bnd_eq] at hv'
    obtain ⟨ys, hys, hv'⟩ := hv'
    cases hv'
    obtain ⟨u, hu, hr⟩ := result1_sound (P := P) s hf hy
    obtain ⟨us, hus, hrs⟩ := ih hys
    refine ⟨u :: us, ?_, .cons _ _ _ _ hr hrs⟩
    rw [List.mapM_cons, runM_bind]
    rw [hu]
    simp only []
    rw [runM_bind, hus]
    rfl
theorem results_sound {h : AH} (s : Sat e h w.heap) {fr : Fr} {a : Act} (hf : FR e fr a) {fn : Func} {v : AV} (hv : resultA P h fr fn.results.toList = some v) :
    ∃ u, (results fn a.tmps).run P w = .ok u w ∧ VR e v u := by
  unfold resultA at hv
  rw [bnd_eq] at hv
  obtain ⟨l, hl, hv⟩ := hv
  cases hv
  obtain ⟨us, hus, hr⟩ := results_list (P := P) s hf hl
  have hm : (fn.results.mapM (resS a.tmps)).run P w = .ok us.toArray w := by
    rw [Array.mapM_eq_mapM_toList]
    show Sem.run P (Functor.map List.toArray _) w = _
    rw [map_eq_pure_bind, runM_bind, hus]
    rfl
  refine ⟨if h : us.toArray.size = 1 then us.toArray[0] else .tuple us.toArray, ?_, ?_⟩
  · show Sem.run P (fn.results.mapM (resS a.tmps) >>= fun vs => pure (if h : vs.size = 1 then vs[0] else .tuple vs)) w = _
    rw [runM_bind, hm]
    rfl
  · cases hr with
    | nil => exact .tup _ _ .nil
    | cons x u l' us' hx ht =>
      cases ht with
      | nil =>
        rw [dif_pos (by simp)]
        exact hx
      | cons y u2 l2 us2 hy ht =>
        rw [dif_neg (by simp)]
        exact .tup _ _ (.cons _ _ _ _ hx (.cons _ _ _ _ hy ht))
theorem enterT_at : ∀ (l : List AV) (i : Nat) (t : Tr AV) (j : Nat), atT (enterT l i t) j = if i ≤ j ∧ j < i + l.length then (l[j - i]?).getD undefA else atT t j
  | [], i, t, j => by
    have : enterT [] i t = t := rfl
    rw [this, if_neg (by simp)]
  | v :: l, i, t, j => by
    have h1 : enterT (v :: l) i t = enterT l (i + 1) (Tr.put (some v) (Nat.succ i) t i) := rfl
    rw [h1, enterT_at l (i + 1), atT_put]
    simp only [List.length_cons]
    by_cases hj : j = i
    · subst hj
      rw [if_neg (by omega), if_pos rfl, if_pos (by omega), Nat.sub_self]
      rfl
    · by_cases h2 : i ≤ j ∧ j < i + (l.length + 1)
      · rw [if_pos (by omega), if_pos h2]
        have : j - i = (j - (i + 1)) + 1 := by omega
        rw [this, List.getElem?_cons_succ]
      · rw [if_neg (by omega), if_neg hj, if_neg h2]
theorem enterF_sound {fn : Func} {args : List AV} {us : Array Value} (ha : VRs e args us.toList) :
    FR e (enterF fn args) { tmps := us ++ Array.replicate (fn.ntmps - us.size) undef, defers := [] } := by
  have hlen : args.length = us.size := by rw [ha.length]; simp
  refine ⟨⟨?_, fun i => ?_⟩, .nil⟩
  · show (us ++ Array.replicate (fn.ntmps - us.size) undef).size = Nat.max fn.ntmps (len args)
    rw [len_eq, hlen]
    simp only [Array.size_append, Array.size_replicate]
    have : Nat.max fn.ntmps us.size = max fn.ntmps us.size := rfl
    rw [this]
    omega
  · show VR e (atT (enterT args 0 .nil) i) _
    rw [enterT_at]
    by_cases hi : i < args.length
    · rw [if_pos (by omega), Nat.sub_zero]
      have hv : args[i]? = some args[i] := List.getElem?_eq_getElem hi
      obtain ⟨u, hu, hr⟩ := ha.get hv
      rw [hv]
      rw [Array.getElem?_toList] at hu
      have : (us ++ Array.replicate (fn.ntmps - us.size) undef).getD i undef = u := by
        rw [Array.getD_eq_getD_getElem?, Array.getElem?_append_left (by omega), hu]; rfl
      rw [this]; exact hr
    · rw [if_neg (by omega)]
      have h1 : atT (Tr.nil : Tr AV) i = undefA := rfl
      have h2 : (us ++ Array.replicate (fn.ntmps - us.size) undef).getD i undef = undef := by
        rw [Array.getD_eq_getD_getElem?, Array.getElem?_append_right (by omega), Array.getElem?_replicate]
        split <;> rfl
      rw [h1, h2]; exact vr_undef e
end
end
end Go.Xe
end
