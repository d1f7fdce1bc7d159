/-
  Structs and arrays that are built, make, and the small ones; Maps: what is found; Maps: what is changed; Maps: entries held, and what goes; delete and len. Conditions: none.
-/
import Derived.Test.YtjibdoofogmkcaaGreatDoorXnToXp
set_option linter.unusedVariables false
set_option linter.unusedSimpArgs false
set_option linter.unusedSectionVars false
section
namespace Go.Xe
noncomputable section
section
variable {P : Program} {e : Env} {w : World}
theorem mapM_places (fs : List Field) {r : List (Nat × Nat)} (h : fs.mapM (fun f => (sizeA P f.type).map fun n => (f.offset, n)) = some r) :
    ((fs.mapM fun f => (do pure (f.offset, ← sizeOf f.type) : Sem (Nat × Nat))) : Sem (List (Nat × Nat))).run P w = .ok r w := by
  induction fs generalizing r with
  | nil => cases h; rfl
  | cons f fs ih =>
    rw [List.mapM_cons] at h ⊢
    cases hs : sizeA P f.type with
    | none => rw [hs] at h; cases h
    | some n =>
      rw [hs] at h
      cases hr : fs.mapM (fun f => (sizeA P f.type).map fun n => (f.offset, n)) with
      | none => rw [hr] at h; cases h
      | some r' =>
        rw [hr] at h
        cases h
        rw [runM_bind]
        have h1 : (do pure (f.offset, ← sizeOf f.type) : Sem (Nat × Nat)).run P w = .ok (f.offset, n) w := by
          rw [runM_bind, run_size hs]; rfl
        rw [h1]
        show Sem.run P (fs.mapM _ >>= _) w = _
        rw [runM_bind, ih hr]; rfl
theorem fieldsOk_eq {fs : List Field} (h : fieldsOk P fs = true) : ∃ r, fs.mapM (fun f => (sizeA P f.type).map fun n => (f.offset, n)) = some r ∧ ∀ i q, places P fs i = some q → r[i]? = some q := by
  induction fs with
  | nil => exact ⟨[], rfl, fun i q h => by unfold places at h; rw [nth_eq] at h; simp at h⟩
  | cons f fs ih =>
    have h' : ite' (Option.isSome (sizeA P f.type)) (fieldsOk P fs) false = true := h
    rw [ite'_and, Bool.and_eq_true] at h'
    obtain ⟨h1, h2⟩ := h'
    obtain ⟨r, hr, hg⟩ := ih h2
    obtain ⟨n, hn⟩ := Option.isSome_iff_exists.1 h1
    refine ⟨(f.offset, n) :: r, ?_, fun i q hq => ?_⟩
    · rw [List.mapM_cons, hn, hr]; rfl
    · cases i with
      | zero =>
        have hq' : bnd (some f) (fun f => bnd (sizeA P f.type) fun n => some (f.offset, n)) = some q := hq
        rw [bnd_eq] at hq'
        obtain ⟨f', hf, hq'⟩ := hq'
        cases hf
        rw [hn] at hq'
        exact hq'
      | succ i => exact hg i q hq
theorem makeMap_sound {h : AH} (s : Sat e h w.heap) {t : TypeId} {vs : List AV} {us : Option Value} {v : AV} {h' : AH} (hx : (vs = [] ∧ us = none) ∨ ∃ a u, vs = [a] ∧ us = some u ∧ VR e a u) (hv : makeMapA P t vs h = some (v, h')) :
    Runs P (Instr.makeMap t us) w fun u' w' => Out e h w v h' u' w' := by
  unfold makeMapA at hv
  rw [grd_eq, AH.new_eq] at hv
  obtain ⟨hc, hv⟩ := hv
  cases hv
  have hm : EntR (e.at_ h.next ⟨w.heap.size, 0, 0⟩) h.fm (.map [] 0) ⟨w.heap.size, 0, 0⟩ (.map #[] 0) :=
    .map _ _ _ _ ⟨⟨[], .refl _, .nil⟩, fun x hx => by simp at hx, by simp, by simp⟩
  obtain ⟨h1, h2⟩ := s.add (w := w) 0 rfl hm
  have hrun : (Instr.makeMap t us).run P w = .ok (.map (some w.heap.size)) { w with heap := w.heap.push (.map #[] 0) } := by
    rcases hx with ⟨rfl, rfl⟩ | ⟨a, u, rfl, rfl, ha⟩
    · rfl
    · have hc' : Option.isSome (bnd (mapA P t) fun _ => intV a fun _ => some ()) = true := hc
      obtain ⟨_, hc'⟩ := Option.isSome_iff_exists.1 hc'
      rw [bnd_eq] at hc'
      obtain ⟨el, hel, hc'⟩ := hc'
      rw [intV_eq] at hc'
      obtain ⟨k, n, rfl, _⟩ := hc'
      cases vr_int ha
      unfold mapA at hel
      rw [bnd_eq] at hel
      obtain ⟨d, hd, hel⟩ := hel
      rw [bnd_eq] at hel
      obtain ⟨ke, hke, _⟩ := hel
      have : ∃ a b, d = .map a b := by cases d <;> simp [mapD] at hke <;> exact ⟨_, _, rfl⟩
      obtain ⟨ka, kb, rfl⟩ := this
      unfold Instr.makeMap
      simp only []
      rw [runs_under' hd]
      rfl
  exact ⟨_, _, hrun, _, h1, .map h.next _ (Env.at_self _ _ _), h2⟩
theorem makeIface_sound {t : TypeId} {x v : AV} {u : Value} (hx : VR e x u) (hv : makeIfaceA P t x = some v) : Runs P (Instr.makeInterface t u) w fun u' w' => VR e v u' ∧ w' = w := by
  unfold makeIfaceA at hv
  rw [bnd_eq] at hv
  obtain ⟨d, hd, hv⟩ := hv
  rw [ite'_eq] at hv
  rcases hv with ⟨_, hv⟩ | ⟨hn, hv⟩
  · cases hv
  cases hv
  refine ⟨.iface t u, w, ?_, .ifc _ _ _ hx, rfl⟩
  unfold Instr.makeInterface
  rw [runs_under' hd]
  cases d <;> first | rfl | (simp [isIface] at hn)
theorem extract_sound {x v : AV} {u : Value} {i : Nat} (hx : VR e x u) (hv : (tupV x fun l => nth l i) = some v) : Runs P (Instr.extract u i) w fun u' w' => VR e v u' ∧ w' = w := by
  rw [tupV_eq] at hv
  obtain ⟨l, rfl, hv⟩ := hv
  rw [nth_eq] at hv
  obtain ⟨us, rfl, hr⟩ := vr_tup hx
  obtain ⟨u', hu, hr'⟩ := hr.get hv
  refine ⟨u', w, ?_, hr', rfl⟩
  rw [Array.getElem?_toList] at hu
  show Sem.run P (match us[i]? with | some v => pure v | none => stuck "Extract: no such component") w = _
  rw [hu]; rfl
theorem build_sound {t : TypeId} {ps : List (Nat × AV)} {us : Array (Nat × Value)} {v : AV} (hp : PR e ps us.toList) (hv : buildA P t ps = some v) : Runs P (Instr.build t us) w fun u' w' => VR e v u' ∧ w' = w := by
  unfold buildA at hv
  rw [bnd_eq] at hv
  obtain ⟨z, hz, hv⟩ := hv
  rw [aggV_eq] at hv
  obtain ⟨zs, rfl, hv⟩ := hv
  rw [bnd_eq] at hv
  obtain ⟨d, hd, hv⟩ := hv
  obtain ⟨uz, hr, hzr⟩ := run_zero (P := P) (w := w) (e := e) hz
  obtain ⟨cells, rfl, hc⟩ := vr_agg hzr
  have hcl : (Value.agg cells).cells = cells := rfl
  unfold Instr.build
  refine Runs.run_eq (b := (underlying t >>= fun d => match d with
    | .struct fields => do
      let places ← fields.mapM fun f => do pure (f.offset, ← sizeOf f.type)
      let some cells := Instr.fill (places[·]?) cells us.toList | stuck "build: no such field, or a part of the wrong size"
      pure (.agg cells)
    | .array _ elem => do
      let size ← sizeOf elem
      let some cells := Instr.fill (fun i => some (i * size, size)) cells us.toList | stuck "build: a part of the wrong size"
      pure (.agg cells)
    | _ => stuck "build: struct or array type expected")) (by rw [runM_bind, hr]; rfl) ?_
  refine Runs.run_eq (runs_under' hd) ?_
  cases d <;> try (simp [buildD] at hv; done)
  case struct fs =>
    have hv' : grd (fieldsOk P fs.toList) (bnd (fillA (places P fs.toList) ps zs) fun l => some (AV.agg l)) = some v := hv
    rw [grd_eq, bnd_eq] at hv'
    obtain ⟨hfs, l, hl, hv'⟩ := hv'
    cases hv'
    obtain ⟨r, hr1, hr2⟩ := fieldsOk_eq hfs
    obtain ⟨cells', hf, hvc, _⟩ := fill_sound (pm := (r.toArray[·]?)) (fun i q h => by have := hr2 i q h; simpa using this) hp hc hl
    refine ⟨.agg cells', w, ?_, .agg _ _ hvc, rfl⟩
    show Sem.run P (fs.mapM (fun f => (do pure (f.offset, ← sizeOf f.type) : Sem (Nat × Nat))) >>= _) w = _
    have hm : (fs.mapM (fun f => (do pure (f.offset, ← sizeOf f.type) : Sem (Nat × Nat)))).run P w = .ok r.toArray w := by
      rw [Array.mapM_eq_mapM_toList]
      show Sem.run P (Functor.map List.toArray _) w = _
      rw [map_eq_pure_bind, runM_bind, mapM_places _ hr1]
      rfl
    rw [runM_bind, hm]
    show Sem.run P (match Instr.fill (r.toArray[·]?) cells us.toList with | some cells => _ | _ => _) w = _
    rw [hf]; rfl
  case array n el =>
    have hv' : bnd (sizeA P el) (fun n => bnd (fillA (places' n) ps zs) fun l => some (AV.agg l)) = some v := hv
    rw [bnd_eq] at hv'
    obtain ⟨z, hz', hv'⟩ := hv'
    rw [bnd_eq] at hv'
    obtain ⟨l, hl, hv'⟩ := hv'
    cases hv'
    obtain ⟨cells', hf, hvc, _⟩ := fill_sound (pm := fun i => some (i * z, z)) (fun i q h => h) hp hc hl
    refine ⟨.agg cells', w, ?_, .agg _ _ hvc, rfl⟩
    show Sem.run P (sizeOf el >>= _) w = _
    rw [runM_bind, run_size hz']
    show Sem.run P (match Instr.fill (fun i => some (i * z, z)) cells us.toList with | some cells => _ | _ => _) w = _
    rw [hf]; rfl
theorem wrap_i64 {n : Nat} (h : n ≤ 100000) : IntKind.i64.wrap (n : Int) = n := by
  apply wrap_small
  show Nat.blt n 9223372036854775808 = true
  rw [blt_iff]; omega
theorem makeSlice_sound {h : AH} (s : Sat e h w.heap) {t : TypeId} {l c v : AV} {ul uc : Value} {h' : AH} (hl : VR e l ul) (hc : VR e c uc) (hv : makeSliceA P t l c h = some (v, h')) :
    Runs P (Instr.makeSlice t ul uc) w fun u' w' => Out e h w v h' u' w' := by
  unfold makeSliceA at hv
  rw [natV_eq] at hv
  obtain ⟨kl, n, rfl, hv⟩ := hv
  rw [natV_eq] at hv
  obtain ⟨kc, m, rfl, hv⟩ := hv
  rw [grd_eq, grd_eq, ble_iff, ble_iff, bnd_eq] at hv
  obtain ⟨hnm, hm, ⟨el, z⟩, he, hv⟩ := hv
  rw [bnd_eq] at hv
  obtain ⟨_, hsm, hv⟩ := hv
  rw [bnd_eq] at hv
  obtain ⟨zs, hzs, hv⟩ := hv
  rw [AH.new_eq] at hv
  cases hv
  simp only at hsm hzs
  unfold smallRow at hsm
  rw [bnd_eq] at hsm
  obtain ⟨i, hi, hsm⟩ := hsm
  rw [grd_eq, ble_iff] at hsm
  have hby : i.bytes * m ≤ 140737488355328 := hsm.1
  cases vr_int hl
  cases vr_int hc
  obtain ⟨hd, hsize, hz0⟩ := elemA_eq he
  obtain ⟨uz, hr, hus, hlz, hvz⟩ := zeroRow_sound (P := P) (w := w) (e := e) hzs
  obtain ⟨e', s', hloc, hle, st⟩ := new_row s hvz el
  refine ⟨.slice (some ⟨w.heap.size, 0, none⟩) n m, _, ?_, e', s', ?_, st⟩
  · unfold Instr.makeSlice
    rw [runs_under' hd]
    show Sem.run P (typeInfo el >>= _) w = _
    rw [runM_bind, run_info hi]
    have hwn : IntKind.i64.wrap (n : Int) = n := wrap_i64 (by omega)
    have hwm : IntKind.i64.wrap (m : Int) = m := wrap_i64 hm
    simp only [hwn, hwm]
    have hb1 : ¬ ((i.bytes : Int) * (m : Int) > 2 ^ 48) := by
      have h1 : ((i.bytes * m : Nat) : Int) ≤ ((140737488355328 : Nat) : Int) := Int.ofNat_le.2 hby
      rw [Int.natCast_mul] at h1
      omega
    have d1 : decide ((m : Int) < 0) = false := decide_eq_false (by omega)
    have d2 : decide ((i.bytes : Int) * (m : Int) > 2 ^ 48) = false := decide_eq_false hb1
    have d3 : decide ((n : Int) < 0) = false := decide_eq_false (by omega)
    have d4 : decide ((n : Int) > (m : Int)) = false := decide_eq_false (by omega)
    rw [d1, d2, d3, d4]
    rw [if_neg (show ¬ ((false || false || false || false) = true) by decide)]
    have hroom : (askRoom ((m : Int).toNat * i.bytes)).run P w = .ok () w := by
      unfold askRoom
      rw [Int.toNat_natCast, if_neg (by unfold roomBytes; rw [Nat.mul_comm]; omega)]
      rfl
    rw [runM_bind, hroom]
    show Sem.run P (sizeOf el >>= _) w = _
    rw [runM_bind, run_size hsize]
    simp only [Int.toNat_natCast]
    have hr0 : ∀ f : Nat → Value, (Array.range 0).map f = #[] := fun f => Array.eq_empty_of_size_eq_zero (by simp)
    by_cases h0 : m * z = 0
    · rw [if_pos h0]
      simp only [h0, hr0]
      rfl
    · rw [if_neg h0, runM_bind, hr]
      rfl
  · exact .sl h.next 0 n z m _ hloc hz0 (by simp only; omega) hnm
end
end
end Go.Xe
end
section
namespace Go.Xe
noncomputable section
section
variable {P : Program} {e : Env} {w : World}
theorem eqScalar_simpleV {h : AH} {x y : AV} {q : Bool} (hq : eqScalar h x y = some q) (hs : simpleV x = true) : simpleV y = true := by
  cases x <;> simp [simpleV] at hs <;> cases y <;> first | rfl | (simp [eqScalar, eqB, eqI, eqN, eqS, eqSS] at hq)
inductive Fit : TypeDesc → Value → Prop
  | bool (b : Bool) : Fit .bool (.bool b)
  | int (k k' : IntKind) (n : Int) : Fit (.int k) (.int k' n)
  | string (s : ByteArray) : Fit .string (.string s)
theorem fit_of {kd : TypeDesc} {a : AV} {u : Value} (h1 : simpleD kd = true) (h2 : kindOk kd a = true) (hv : VR e a u) : Fit kd u ∧ simpleV a = true := by
  cases kd <;> simp [simpleD] at h1 <;> cases a <;> simp [kindOk] at h2 <;> cases hv <;> exact ⟨by constructor, rfl⟩
theorem sameNow_cmp {kd : TypeDesc} {u v : Value} {q : Bool} (hf : Fit kd u) (hc : Cmp u v q) : Instr.sameNow kd u v = some q := by
  cases hc with
  | bool a b => cases hf; rfl
  | int k a b =>
    cases hf
    show (if k = k then some (a == b) else none) = some (a == b)
    rw [if_pos rfl]
  | string a b =>
    cases hf
    show some (a == b) = some (decide (a = b))
    rw [bytes_beq]
theorem cmp_true {u v : Value} (hc : Cmp u v true) : u = v := by
  generalize hq : true = q at hc
  cases hc with
  | bool a b => rw [eq_of_beq hq.symm]
  | int k a b => rw [eq_of_beq hq.symm]
  | string a b => rw [of_decide_eq_true hq.symm]
theorem cmp_keyNe {u v : Value} (hc : Cmp u v false) : keyNe u v := by
  generalize hq : false = q at hc
  cases hc with
  | bool a b => exact fun h => by subst h; simp at hq
  | int k a b => exact ⟨rfl, fun h => by subst h; simp at hq⟩
  | string a b => exact fun h => by subst h; simp at hq
theorem keyNe_cmp {u v : Value} (h : keyNe u v) : Cmp u v false := by
  cases u <;> cases v <;> try (exact h.elim)
  case bool a b =>
    have : (a == b) = false := by rw [beq_eq_false_iff_ne]; exact h
    rw [← this]; exact .bool a b
  case int k a j b =>
    obtain ⟨rfl, h⟩ := h
    have : (a == b) = false := by rw [beq_eq_false_iff_ne]; exact h
    rw [← this]; exact .int _ a b
  case string a b =>
    have : decide (a = b) = false := decide_eq_false h
    rw [← this]; exact .string a b
theorem keyNe_symm {u v : Value} (h : keyNe u v) : keyNe v u := by
  cases u <;> cases v <;> try (exact h.elim)
  case bool a b => exact fun h' => h h'.symm
  case int k a j b => exact ⟨h.1.symm, fun h' => h.2 h'.symm⟩
  case string a b => exact fun h' => h h'.symm
theorem keyNe_irrefl {u : Value} (h : keyNe u u) : False := by
  cases u <;> try (exact h.elim)
  case bool => exact h rfl
  case int => exact h.2 rfl
  case string => exact h rfl
theorem findNow_none {kd : TypeDesc} {u : Value} {L : List MapEntry} (h : ∀ x ∈ L, Instr.sameNow kd u x.key = some false) (i : Nat) : Instr.findNow kd u L i = some none := by
  induction L generalizing i with
  | nil => rfl
  | cons x L ih =>
    unfold Instr.findNow
    rw [h x List.mem_cons_self]
    exact ih (fun y hy => h y (List.mem_cons_of_mem _ hy)) _
theorem findNow_some {kd : TypeDesc} {u : Value} {A B : List MapEntry} {x : MapEntry} (h : ∀ y ∈ A, Instr.sameNow kd u y.key = some false) (hx : Instr.sameNow kd u x.key = some true) (i : Nat) :
    Instr.findNow kd u (A ++ x :: B) i = some (some (i + A.length, x.val)) := by
  induction A generalizing i with
  | nil => unfold Instr.findNow; rw [List.nil_append]; simp only [hx]; rfl
  | cons y A ih =>
    rw [List.cons_append]
    unfold Instr.findNow
    rw [h y List.mem_cons_self]
    simp only []
    rw [ih (fun z hz => h z (List.mem_cons_of_mem _ hz))]
    simp only [List.length_cons]
    congr 3
    omega
theorem findKey_eq {h : AH} {k : AV} {es : List ME} {r : Option ME} (hr : findKey h k es = some r) :
    (∃ m pre post, r = some m ∧ es = pre ++ m :: post ∧ eqScalar h k m.k = some true) ∨ (r = none ∧ ∀ m ∈ es, eqScalar h k m.k = some false) := by
  induction es with
  | nil => cases hr; exact .inr ⟨rfl, fun m hm => by cases hm⟩
  | cons m es ih =>
    have hr' : bnd (eqScalar h k m.k) (fun q => ite' q (some (some m)) (findKey h k es)) = some r := hr
    rw [bnd_eq] at hr'
    obtain ⟨q, hq, hr'⟩ := hr'
    cases q with
    | true =>
      cases hr'
      exact .inl ⟨m, [], es, rfl, rfl, hq⟩
    | false =>
      rcases ih hr' with ⟨m', pre, post, rfl, rfl, he⟩ | ⟨rfl, ha⟩
      · exact .inl ⟨m', m :: pre, post, rfl, rfl, he⟩
      · refine .inr ⟨rfl, fun x hx => ?_⟩
        rcases List.mem_cons.1 hx with rfl | hx
        · exact hq
        · exact ha x hx
theorem MERs.split {p : List ME} {L : List MapEntry} (h : MERs e p L) {a b : List ME} {m : ME} (hp : p = a ++ m :: b) : ∃ A x B, L = A ++ x :: B ∧ MERs e a A ∧ MER e m x ∧ MERs e b B := by
  induction a generalizing p L with
  | nil =>
    subst hp
    cases h with
    | cons _ x _ l' h ht => exact ⟨[], x, l', rfl, .nil, h, ht⟩
  | cons c a ih =>
    subst hp
    cases h with
    | cons _ x _ l' h ht =>
      obtain ⟨A, y, B, rfl, h1, h2, h3⟩ := ih ht rfl
      exact ⟨x :: A, y, B, rfl, .cons _ _ _ _ h h1, h2, h3⟩
theorem MERs.mem {p : List ME} {L : List MapEntry} (h : MERs e p L) {x : MapEntry} (hx : x ∈ L) : ∃ m ∈ p, MER e m x := by
  induction h with
  | nil => cases hx
  | cons m y l l' h _ ih =>
    rcases List.mem_cons.1 hx with rfl | hx
    · exact ⟨m, List.mem_cons_self, h⟩
    · obtain ⟨m', hm, hr⟩ := ih hx
      exact ⟨m', List.mem_cons_of_mem _ hm, hr⟩
theorem MERs.append {a b : List ME} {A B : List MapEntry} (h : MERs e a A) (k : MERs e b B) : MERs e (a ++ b) (A ++ B) := by
  induction h with
  | nil => exact k
  | cons m x l l' h _ ih => exact .cons _ _ _ _ h ih
theorem look_none {h : AH} {H : Array Obj} (s : Sat e h H) {kd : TypeDesc} {k : AV} {u : Value} (hd : simpleD kd = true) (hk : kindOk kd k = true) (hv : VR e k u) {es : List ME} {ents : Array MapEntry} {clock : Nat}
    (hm : MapR e es ents clock) (hn : ∀ m ∈ es, eqScalar h k m.k = some false) : Instr.findNow kd u ents.toList 0 = some none ∧ ∀ x ∈ ents.toList, keyNe u x.key := by
  obtain ⟨hf, hs⟩ := fit_of hd hk hv
  obtain ⟨p, hp, hr⟩ := hm.perm
  have hc : ∀ x ∈ ents.toList, Cmp u x.key false := fun x hx => by
    obtain ⟨m, hmp, hmr⟩ := hr.mem hx
    have hq := hn m (hp.mem_iff.1 hmp)
    exact eqScalar_simple s hv hmr.k hq hs (eqScalar_simpleV hq hs)
  exact ⟨findNow_none (fun x hx => sameNow_cmp hf (hc x hx)) 0, fun x hx => cmp_keyNe (hc x hx)⟩
theorem look_some {h : AH} {H : Array Obj} (s : Sat e h H) {kd : TypeDesc} {k : AV} {u : Value} (hd : simpleD kd = true) (hk : kindOk kd k = true) (hv : VR e k u) {es pre post : List ME} {m : ME} {ents : Array MapEntry} {clock : Nat}
    (hm : MapR e es ents clock) (he : es = pre ++ m :: post) (hq : eqScalar h k m.k = some true) :
    ∃ a b A x B, (a ++ m :: b).Perm es ∧ ents.toList = A ++ x :: B ∧ MERs e a A ∧ MER e m x ∧ MERs e b B ∧ x.key = u ∧ Instr.findNow kd u ents.toList 0 = some (some (A.length, x.val)) := by
  obtain ⟨hf, hs⟩ := fit_of hd hk hv
  obtain ⟨p, hp, hr⟩ := hm.perm
  have hmp : m ∈ p := hp.mem_iff.2 (by rw [he]; exact List.mem_append_right _ List.mem_cons_self)
  obtain ⟨a, b, rfl⟩ := List.append_of_mem hmp
  obtain ⟨A, x, B, hL, h1, h2, h3⟩ := hr.split rfl
  have hc := eqScalar_simple s hv h2.k hq hs (eqScalar_simpleV hq hs)
  have hkey := cmp_true hc
  have hA : ∀ y ∈ A, keyNe u y.key := fun y hy => by
    have := hm.keys
    rw [hL, List.pairwise_append] at this
    rw [hkey]
    exact keyNe_symm (this.2.2 y hy x List.mem_cons_self)
  refine ⟨a, b, A, x, B, hp, hL, h1, h2, h3, hkey.symm, ?_⟩
  rw [hL]
  have := findNow_some (B := B) (fun y hy => sameNow_cmp hf (keyNe_cmp (hA y hy))) (sameNow_cmp hf hc) 0
  rw [Nat.zero_add] at this
  exact this
end
end
end Go.Xe
end
section
namespace Go.Xe
noncomputable section
section
variable {P : Program} {e : Env} {w : World}
theorem mapK_eq {t el : Nat} {k : AV} (h : mapK P t k = some el) : ∃ key kd, P.underlying t = some (.map key el) ∧ P.underlying key = some kd ∧ simpleD kd = true ∧ kindOk kd k = true := by
  unfold mapK at h
  rw [bnd_eq] at h
  obtain ⟨d, hd, h⟩ := h
  rw [bnd_eq] at h
  obtain ⟨⟨key, el'⟩, hke, h⟩ := h
  rw [bnd_eq] at h
  obtain ⟨kd, hkd, h⟩ := h
  rw [grd_eq, grd_eq] at h
  obtain ⟨h1, h2, h⟩ := h
  cases h
  cases d <;> simp [mapD] at hke
  obtain ⟨rfl, rfl⟩ := hke
  exact ⟨_, kd, hd, hkd, h1, h2⟩
theorem run_checkKey {empty : Bool} {n : Nat} {key : TypeId} {kd : TypeDesc} {u : Value} (hk : P.underlying key = some kd) (hf : Fit kd u) : (Instr.checkKey empty (n + 1) key u).run P w = .ok () w := by
  unfold Instr.checkKey
  rw [runs_under' hk]
  cases hf <;> rfl
theorem run_findKey {key : TypeId} {kd : TypeDesc} {u : Value} {L : List MapEntry} {r : Option (Nat × Value)} (hk : P.underlying key = some kd) (hf : Instr.findNow kd u L 0 = some r) : (Instr.findKey key u L).run P w = .ok r w := by
  unfold Instr.findKey
  rw [runs_under' hk, hf]
  rfl
theorem run_keyStays {kd : TypeDesc} {u : Value} (hf : Fit kd u) : (Instr.keyThatStays u u).run P w = .ok u w := by
  have : Instr.sameBits 10000 u u = true := by cases hf <;> simp [Instr.sameBits, bytes_beq]
  unfold Instr.keyThatStays
  rw [if_pos this]; rfl
theorem putKey_eq {h : AH} {k v : AV} {st : Nat} {es es' : List ME} (hp : putKey h k v st es = some es') :
    (∃ pre m post, es = pre ++ m :: post ∧ eqScalar h k m.k = some true ∧ es' = pre ++ ⟨m.k, v, m.s⟩ :: post) ∨ ((∀ m ∈ es, eqScalar h k m.k = some false) ∧ es' = es ++ [⟨k, v, st⟩]) := by
  induction es generalizing es' with
  | nil => cases hp; exact .inr ⟨fun m hm => (by cases hm), rfl⟩
  | cons m es ih =>
    have hp' : bnd (eqScalar h k m.k) (fun q => ite' q (some (⟨m.k, v, m.s⟩ :: es)) (bnd (putKey h k v st es) fun t => some (m :: t))) = some es' := hp
    rw [bnd_eq] at hp'
    obtain ⟨q, hq, hp'⟩ := hp'
    cases q with
    | true => cases hp'; exact .inl ⟨[], m, es, rfl, hq, rfl⟩
    | false =>
      have hp2 : bnd (putKey h k v st es) (fun t => some (m :: t)) = some es' := hp'
      rw [bnd_eq] at hp2
      obtain ⟨t, ht, hp2⟩ := hp2
      cases hp2
      rcases ih ht with ⟨pre, m', post, rfl, he, rfl⟩ | ⟨ha, rfl⟩
      · exact .inl ⟨m :: pre, m', post, rfl, he, rfl⟩
      · refine .inr ⟨fun x hx => ?_, rfl⟩
        rcases List.mem_cons.1 hx with rfl | hx
        · exact hq
        · exact ha x hx
theorem MapR.change {es pre post a b : List ME} {m m' : ME} {A B : List MapEntry} {x x' : MapEntry} {ents ents' : Array MapEntry} {clock : Nat} (h : MapR e es ents clock)
    (he : es = pre ++ m :: post) (hp : (a ++ m :: b).Perm es) (hL : ents.toList = A ++ x :: B) (hL' : ents'.toList = A ++ x' :: B) (h1 : MERs e a A) (h2 : MER e m' x') (h3 : MERs e b B) (hk : x'.key = x.key) (hb : x'.born = x.born) :
    MapR e (pre ++ m' :: post) ents' clock := by
  refine ⟨⟨a ++ m' :: b, ?_, ?_⟩, ?_, ?_, ?_⟩
  · have : (a ++ b).Perm (pre ++ post) := by
      have h4 : (m :: (a ++ b)).Perm (m :: (pre ++ post)) := (List.perm_middle.symm.trans (he ▸ hp)).trans List.perm_middle
      exact (List.perm_cons m).1 h4
    exact (List.perm_middle.trans ((List.perm_cons m').2 this)).trans List.perm_middle.symm
  · rw [hL']
    exact h1.append (.cons _ _ _ _ h2 h3)
  · intro y hy
    rw [hL'] at hy
    have hb' := h.born
    rw [hL] at hb'
    rcases List.mem_append.1 hy with hy | hy
    · exact hb' y (List.mem_append_left _ hy)
    · rcases List.mem_cons.1 hy with rfl | hy
      · rw [hb]; exact hb' x (List.mem_append_right _ List.mem_cons_self)
      · exact hb' y (List.mem_append_right _ (List.mem_cons_of_mem _ hy))
  · have hs := h.stamps
    rw [hL, List.pairwise_append, List.pairwise_cons] at hs
    rw [hL', List.pairwise_append, List.pairwise_cons]
    refine ⟨hs.1, ⟨fun y hy => by rw [hb]; exact hs.2.1.1 y hy, hs.2.1.2⟩, fun y hy z hz => ?_⟩
    rcases List.mem_cons.1 hz with rfl | hz
    · rw [hb]; exact hs.2.2 y hy x List.mem_cons_self
    · exact hs.2.2 y hy z (List.mem_cons_of_mem _ hz)
  · have hs := h.keys
    rw [hL, List.pairwise_append, List.pairwise_cons] at hs
    rw [hL', List.pairwise_append, List.pairwise_cons]
    refine ⟨hs.1, ⟨fun y hy => by rw [hk]; exact hs.2.1.1 y hy, hs.2.1.2⟩, fun y hy z hz => ?_⟩
    rcases List.mem_cons.1 hz with rfl | hz
    · rw [hk]; exact hs.2.2 y hy x List.mem_cons_self
    · exact hs.2.2 y hy z (List.mem_cons_of_mem _ hz)
theorem MapR.push {es : List ME} {ents : Array MapEntry} {clock : Nat} (h : MapR e es ents clock) {m : ME} {x : MapEntry} (hm : MER e m x) (hb : x.born = clock) (hk : ∀ y ∈ ents.toList, keyNe x.key y.key) :
    MapR e (es ++ [m]) (ents.push x) (clock + 1) := by
  obtain ⟨p, hp, hr⟩ := h.perm
  refine ⟨⟨p ++ [m], hp.append_right _, ?_⟩, ?_, ?_, ?_⟩
  · rw [Array.toList_push]
    exact hr.append (.cons _ _ _ _ hm .nil)
  · intro y hy
    rw [Array.toList_push] at hy
    rcases List.mem_append.1 hy with hy | hy
    · exact Nat.lt_succ_of_lt (h.born y hy)
    · rw [List.mem_singleton.1 hy, hb]; exact Nat.lt_succ_self _
  · rw [Array.toList_push, List.pairwise_append]
    refine ⟨h.stamps, List.pairwise_singleton _ _, fun y hy z hz => ?_⟩
    rw [List.mem_singleton.1 hz, hb]
    exact Nat.ne_of_lt (h.born y hy)
  · rw [Array.toList_push, List.pairwise_append]
    refine ⟨h.keys, List.pairwise_singleton _ _, fun y hy z hz => ?_⟩
    rw [List.mem_singleton.1 hz]
    exact keyNe_symm (hk y hy)
theorem Sat.mapAt {h : AH} {H : Array Obj} (s : Sat e h H) {b : Nat} {p : List ME × Nat} {L : Loc} (hb : h.map b = some p) (hl : e.loc b = some L) :
    h.get b = some (.map p.1 p.2) ∧ ∃ ents, H[L.blk]? = some (.map ents p.2) ∧ MapR e p.1 ents p.2 := by
  unfold AH.map at hb
  rw [bnd_eq] at hb
  obtain ⟨en, hen, hes⟩ := hb
  cases en <;> simp [mapE] at hes
  subst hes
  obtain ⟨l, o, hl', ho, hr⟩ := s.ents b _ hen
  rw [hl] at hl'; cases hl'
  cases hr with
  | map _ _ _ ents hm => exact ⟨hen, ents, ho, hm⟩
theorem run_getMap {r : Nat} {ents : Array MapEntry} {clock : Nat} (h : w.heap[r]? = some (.map ents clock)) : (getObj r).run P w = .ok (.map ents clock) w := by
  simp only [getObj, Sem.run, h]
theorem run_setMap {r : Nat} {ents : Array MapEntry} {clock : Nat} (h : w.heap[r]? = some (.map ents clock)) (o : Obj) : (setObj r o).run P w = .ok () { w with heap := w.heap.setIfInBounds r o } := by
  simp only [setObj, Sem.run, h]
theorem commaOk_vr {ok : Bool} {v : AV} {u : Value} (hv : VR e v u) (b : Bool) : VR e (commaOk ok v b) (if ok then .tuple #[u, .bool b] else u) := by
  unfold commaOk
  rw [ite'_if]
  cases ok with
  | true => exact .tup _ _ (.cons _ _ _ _ hv (.cons _ _ _ _ (.bool b) .nil))
  | false => exact hv
theorem lookup_sound {h : AH} (s : Sat e h w.heap) {t : TypeId} {ok : Bool} {m k v : AV} {um uk : Value} (hm : VR e m um) (hk : VR e k uk) (hv : lookupA P t ok m k h = some v) :
    Runs P (Instr.lookup t um uk ok) w fun u' w' => VR e v u' ∧ w' = w := by
  unfold lookupA at hv
  rw [bnd_eq] at hv
  obtain ⟨el, hel, hv⟩ := hv
  rw [bnd_eq] at hv
  obtain ⟨es, hes, hv⟩ := hv
  rw [bnd_eq] at hv
  obtain ⟨r, hr, hv⟩ := hv
  obtain ⟨key, kd, hd, hkd, hsd, hko⟩ := mapK_eq hel
  obtain ⟨hf, _⟩ := fit_of hsd hko hk
  have main : ∀ (ents : Array MapEntry), (∃ clock, MapR e es ents clock) →
      Runs P (do
        Instr.checkKey ents.isEmpty 10000 key uk
        let (v, ok') ← match ← Instr.findKey key uk ents.toList with
          | some (_, v) => pure (v, true)
          | none => pure (← zeroValue el, false)
        pure (if ok then .tuple #[v, .bool ok'] else v)) w fun u' w' => VR e v u' ∧ w' = w := by
    rintro ents ⟨clock, hR⟩
    refine Runs.bind' ⟨(), w, run_checkKey hkd hf, ?_⟩
    rcases findKey_eq hr with ⟨m', pre, post, rfl, rfl, hq⟩ | ⟨rfl, hn⟩
    · obtain ⟨a, b, A, x, B, hp, hL, h1, h2, h3, hkx, hfn⟩ := look_some s hsd hko hk hR rfl hq
      have hv' : some (commaOk ok m'.v true) = some v := hv
      cases hv'
      refine Runs.bind' ⟨_, w, run_findKey hkd hfn, ?_⟩
      exact ⟨_, w, rfl, commaOk_vr h2.v true, rfl⟩
    · obtain ⟨hfn, _⟩ := look_none s hsd hko hk hR hn
      have hv' : bnd (zeroA P el) (fun z => some (commaOk ok z false)) = some v := hv
      rw [bnd_eq] at hv'
      obtain ⟨z, hz, hv'⟩ := hv'
      cases hv'
      obtain ⟨uz, hrz, hzr⟩ := run_zero (P := P) (w := w) (e := e) hz
      refine Runs.bind' ⟨_, w, run_findKey hkd hfn, ?_⟩
      refine ⟨if ok then .tuple #[uz, .bool false] else uz, w, ?_, commaOk_vr hzr false, rfl⟩
      show Sem.run P (zeroValue el >>= _) w = _
      rw [runM_bind, hrz]; rfl
  unfold Instr.lookup
  refine Runs.run_eq (runs_under' hd) ?_
  cases m <;> try (simp [entriesOf] at hes; done)
  case map b =>
    obtain ⟨L, hL, rfl⟩ := vr_map hm
    have hes' : bnd (h.map b) (fun p => some p.1) = some es := hes
    rw [bnd_eq] at hes'
    obtain ⟨p, hp, hes'⟩ := hes'
    cases hes'
    obtain ⟨hg, ents, hH, hR⟩ := s.mapAt hp hL
    refine Runs.run_eq ?_ (main ents ⟨_, hR⟩)
    show Sem.run P (getObj L.blk >>= _) w = _
    rw [runM_bind, run_getMap hH]
    rfl
  case mnil =>
    cases hm
    cases hes
    exact main #[] ⟨0, ⟨⟨[], .refl _, .nil⟩, fun x hx => by simp at hx, by simp, by simp⟩⟩
theorem own_more {h : AH} {X : Nat} : Own e h.more X ↔ Own e h X := Iff.rfl
theorem step_more {e' : Env} {h : AH} (hle : e.le e') (hloc : e'.loc = e.loc) : Step e h w e' h.more w :=
  ⟨hle, Nat.le_succ _, Nat.le_refl _, fun X hX hO => ⟨rfl, fun ⟨b, en, l, hb, hl, hX⟩ => hO ⟨b, en, l, hb, by rw [← hloc]; exact hl, hX⟩⟩, rfl, rfl, rfl, fun _ _ h => .inl (hloc ▸ h), fun _ _ h => h⟩
theorem put_step {h : AH} (s : Sat e h w.heap) {kd : TypeDesc} {k v : AV} {uk uv : Value} (hsd : simpleD kd = true) (hko : kindOk kd k = true) (hk : VR e k uk) (hv : VR e v uv) {b : Nat} {L : Loc} (hL : e.loc b = some L)
    {es es' : List ME} {ents : Array MapEntry} {clock : Nat} (hg : h.get b = some (.map es clock)) (hR : MapR e es ents clock) (hp : putKey h.more k v h.next es = some es') :
    (∃ A x B, ents.toList = A ++ x :: B ∧ x.key = uk ∧ Instr.findNow kd uk ents.toList 0 = some (some (A.length, x.val)) ∧
      ∀ ents' : Array MapEntry, ents'.toList = A ++ { x with key := uk, val := uv } :: B →
        Sat e (h.more.set b (.map es' (ckOf (es, clock) es'))) (w.heap.setIfInBounds L.blk (.map ents' clock)) ∧ Step e h w e (h.more.set b (.map es' (ckOf (es, clock) es'))) { w with heap := w.heap.setIfInBounds L.blk (.map ents' clock) }) ∨
    (Instr.findNow kd uk ents.toList 0 = some none ∧
      Sat (e.stamp h.next clock) (h.more.set b (.map es' (ckOf (es, clock) es'))) (w.heap.setIfInBounds L.blk (.map (ents.push { key := uk, val := uv, born := clock }) (clock + 1))) ∧
      Step e h w (e.stamp h.next clock) (h.more.set b (.map es' (ckOf (es, clock) es'))) { w with heap := w.heap.setIfInBounds L.blk (.map (ents.push { key := uk, val := uv, born := clock }) (clock + 1)) }) := by
  have sm := s.more
  rcases putKey_eq hp with ⟨pre, m, post, rfl, hq, rfl⟩ | ⟨hn, rfl⟩
  · left
    obtain ⟨a, b', A, x, B, hperm, hLs, h1, h2, h3, hkx, hfn⟩ := look_some sm hsd hko hk hR rfl hq
    refine ⟨A, x, B, hLs, hkx, hfn, fun ents' hL' => ?_⟩
    have hR' : MapR e (pre ++ ⟨m.k, v, m.s⟩ :: post) ents' clock :=
      hR.change rfl hperm hLs hL' h1 ⟨by rw [← hkx]; exact h2.k, hv, h2.s⟩ h3 hkx.symm rfl
    have hg' : h.more.get b = some (.map (pre ++ m :: post) clock) := hg
    have hck : ckOf (pre ++ m :: post, clock) (pre ++ (⟨m.k, v, m.s⟩ : ME) :: post) = clock := by
      unfold ckOf
      rw [frc_eq, len_eq, len_eq]
      show clock + ((pre ++ (⟨m.k, v, m.s⟩ : ME) :: post).length - (pre ++ m :: post).length) = clock
      simp
    rw [hck]
    refine ⟨sm.setObj hg' hL (sm.alone hg' hL rfl) (.map _ _ _ _ hR') (fun c hc => by cases hc) (fun h => by cases h), ?_⟩
    exact (step_more (w := w) (h := h) (.refl e) rfl).trans (Step.setObj (w := w) sm _ hg' hL)
  · right
    obtain ⟨hfn, hkn⟩ := look_none sm hsd hko hk hR hn
    have ss := s.stamp clock
    have hle := Env.stamp_le (v := clock) s.noStp
    have hR1 := hR.mono hle
    have hR' : MapR (e.stamp h.next clock) (es ++ [⟨k, v, h.next⟩]) (ents.push { key := uk, val := uv, born := clock }) (clock + 1) :=
      hR1.push ⟨hk.mono hle, hv.mono hle, if_pos rfl⟩ rfl hkn
    have hg' : h.more.get b = some (.map es clock) := hg
    have hck : ckOf (es, clock) (es ++ [(⟨k, v, h.next⟩ : ME)]) = clock + 1 := by
      unfold ckOf
      rw [frc_eq, len_eq, len_eq]
      show clock + ((es ++ [(⟨k, v, h.next⟩ : ME)]).length - es.length) = clock + 1
      simp
    rw [hck]
    have hL' : (e.stamp h.next clock).loc b = some L := hL
    refine ⟨hfn, ss.setObj hg' hL' (ss.alone hg' hL' rfl) (.map _ _ _ _ hR') (fun c hc => by cases hc) (fun h => by cases h), ?_⟩
    exact (step_more (w := w) (h := h) hle rfl).trans (Step.setObj (w := w) ss _ hg' hL')
theorem modify_at {A B : List MapEntry} {x : MapEntry} {ents : Array MapEntry} (h : ents.toList = A ++ x :: B) (f : MapEntry → MapEntry) : (ents.modify A.length f).toList = A ++ f x :: B := by
  rw [Array.toList_modify, h]
  clear h
  induction A with
  | nil => rfl
  | cons a A ih => rw [List.cons_append, List.length_cons, List.modify_succ_cons, ih]; rfl
theorem get_at {A B : List MapEntry} {x : MapEntry} {ents : Array MapEntry} (h : ents.toList = A ++ x :: B) : ents[A.length]? = some x := by
  rw [← Array.getElem?_toList, h]
  simp
theorem mapUpd_sound {h : AH} (s : Sat e h w.heap) {t : TypeId} {m k v : AV} {um uk uv : Value} {h' : AH} (hm : VR e m um) (hk : VR e k uk) (hv : VR e v uv) (hu : mapUpd P t m k v h = some h') :
    Runs P (Instr.mapUpdate t um uk uv) w fun _ w' => OutH e h w h' w' := by
  unfold mapUpd at hu
  rw [mapV_eq] at hu
  obtain ⟨b, rfl, hu⟩ := hu
  rw [bnd_eq] at hu
  obtain ⟨el, hel, hu⟩ := hu
  rw [bnd_eq] at hu
  obtain ⟨es, hes, hu⟩ := hu
  rw [AH.skip_eq, bnd_eq] at hu
  obtain ⟨es', hp, hu⟩ := hu
  cases hu
  obtain ⟨key, kd, hd, hkd, hsd, hko⟩ := mapK_eq hel
  obtain ⟨hf, _⟩ := fit_of hsd hko hk
  obtain ⟨L, hL, rfl⟩ := vr_map hm
  obtain ⟨hg, ents, hH, hR⟩ := s.mapAt hes hL
  unfold Instr.mapUpdate
  refine Runs.run_eq (runs_under' hd) ?_
  simp only []
  refine Runs.bind' ⟨_, w, run_getMap hH, ?_⟩
  simp only []
  refine Runs.bind' ⟨(), w, run_checkKey hkd hf, ?_⟩
  rcases put_step s hsd hko hk hv hL hg hR hp with ⟨A, x, B, hLs, hkx, hfn, hput⟩ | ⟨hfn, hs', hst⟩
  · refine Runs.bind' ⟨_, w, run_findKey hkd hfn, ?_⟩
    simp only []
    have hold : ((ents[A.length]?).map (·.key)).getD uk = uk := by rw [get_at hLs]; exact hkx
    rw [hold]
    refine Runs.bind' ⟨_, w, run_keyStays hf, ?_⟩
    obtain ⟨hs', hst⟩ := hput _ (modify_at hLs fun e => { e with key := uk, val := uv })
    exact ⟨(), _, run_setMap hH _, e, hs', hst⟩
  · refine Runs.bind' ⟨_, w, run_findKey hkd hfn, ?_⟩
    exact ⟨(), _, run_setMap hH _, _, hs', hst⟩
end
end
end Go.Xe
end
section
namespace Go.Xe
noncomputable section
section
variable {P : Program} {e : Env} {w : World}
theorem set_same {α : Type} {a : Array α} {i : Nat} {x : α} (h : a[i]? = some x) : a.setIfInBounds i x = a := by
  apply Array.ext
  · simp
  · intro j h1 h2
    rw [Array.getElem_setIfInBounds]
    split
    · next hij => subst hij; rw [Array.getElem?_eq_getElem h2] at h; exact (Option.some.inj h).symm
    · rfl
theorem mapEntry_sound {h : AH} (s : Sat e h w.heap) {t : TypeId} {m k v : AV} {um uk : Value} {h' : AH} (hm : VR e m um) (hk : VR e k uk) (hu : mapEntryA P t m k h = some (v, h')) :
    Runs P (Instr.mapEntry t um uk) w fun u' w' => Out e h w v h' u' w' := by
  unfold mapEntryA at hu
  rw [mapV_eq] at hu
  obtain ⟨b, rfl, hu⟩ := hu
  rw [bnd_eq] at hu
  obtain ⟨el, hel, hu⟩ := hu
  rw [bnd_eq] at hu
  obtain ⟨es, hes, hu⟩ := hu
  rw [bnd_eq] at hu
  obtain ⟨r, hr, hu⟩ := hu
  obtain ⟨key, kd, hd, hkd, hsd, hko⟩ := mapK_eq hel
  obtain ⟨hf, _⟩ := fit_of hsd hko hk
  obtain ⟨L, hL, rfl⟩ := vr_map hm
  obtain ⟨hg, ents, hH, hR⟩ := s.mapAt hes hL
  unfold Instr.mapEntry
  refine Runs.run_eq (runs_under' hd) ?_
  simp only []
  refine Runs.bind' ⟨_, w, run_getMap hH, ?_⟩
  simp only []
  refine Runs.bind' ⟨(), w, run_checkKey hkd hf, ?_⟩
  rcases findKey_eq hr with ⟨m', pre, post, rfl, hes1, hq⟩ | ⟨rfl, hn⟩
  · have hu' : some (AV.tup [m'.v, .stp m'.s], h) = some (v, h') := hu
    cases hu'
    obtain ⟨a, b', A, x, B, hp, hLs, h1, h2, h3, hkx, hfn⟩ := look_some s hsd hko hk hR hes1 hq
    refine Runs.bind' ⟨_, w, run_findKey hkd hfn, ?_⟩
    simp only []
    have hold : ((ents[A.length]?).map (·.key)).getD uk = uk := by rw [get_at hLs]; exact hkx
    have hborn : ((ents[A.length]?).map fun x => (x.born : Int)).getD 0 = (x.born : Int) := by rw [get_at hLs]; rfl
    rw [hold, hborn]
    refine Runs.bind' ⟨_, w, run_keyStays hf, ?_⟩
    have hsame : (ents.modify A.length fun e => { e with key := uk }) = ents := by
      apply Array.ext'
      rw [modify_at hLs, hLs, ← hkx]
    simp only []
    rw [hsame]
    refine Runs.bind' ⟨_, _, run_setMap hH _, ?_⟩
    have hw : ({ w with heap := w.heap.setIfInBounds L.blk (.map ents es.2) } : World) = w := by rw [set_same hH]
    simp only []
    rw [hw]
    exact Runs.pure' (.same s (.tup _ _ (.cons _ _ _ _ h2.v (.cons _ _ _ _ (.stp _ _ h2.s) .nil))))
  · have hu' : bnd (zeroA P el) (fun z => h.skip fun s h => bnd (putKey h k z s es.1) fun es1 => some (AV.tup [z, .stp s], h.set b (.map es1 (ckOf es es1)))) = some (v, h') := hu
    rw [bnd_eq] at hu'
    obtain ⟨z, hz, hu'⟩ := hu'
    rw [AH.skip_eq, bnd_eq] at hu'
    obtain ⟨es', hp, hu'⟩ := hu'
    cases hu'
    obtain ⟨uz, hrz, hzr⟩ := run_zero (P := P) (w := w) (e := e) hz
    obtain ⟨hfn, _⟩ := look_none s hsd hko hk hR hn
    refine Runs.bind' ⟨_, w, run_findKey hkd hfn, ?_⟩
    simp only []
    refine Runs.bind' ⟨_, w, hrz, ?_⟩
    rcases put_step s hsd hko hk hzr hL hg hR hp with ⟨A, x, B, hLs, hkx, hfn', hput⟩ | ⟨_, hs', hst⟩
    · rw [hfn] at hfn'; cases hfn'
    · refine Runs.bind' ⟨_, _, run_setMap hH _, ?_⟩
      refine Runs.pure' ⟨_, hs', ?_, hst⟩
      exact .tup _ _ (.cons _ _ _ _ (hzr.mono hst.le) (.cons _ _ _ _ (.stp _ _ (if_pos rfl)) .nil))
theorem putStamp_eq {v : AV} {st : Nat} {es es' : List ME} (hp : putStamp v st es = some es') : ∃ pre m post, es = pre ++ m :: post ∧ m.s = st ∧ es' = pre ++ ⟨m.k, v, m.s⟩ :: post := by
  induction es generalizing es' with
  | nil => cases hp
  | cons m es ih =>
    have hp' : ite' (Nat.beq st m.s) (some (⟨m.k, v, m.s⟩ :: es)) (bnd (putStamp v st es) fun t => some (m :: t)) = some es' := hp
    rw [ite'_eq] at hp'
    rcases hp' with ⟨hq, hp'⟩ | ⟨_, hp'⟩
    · cases hp'
      rw [beq_iff] at hq
      exact ⟨[], m, es, rfl, hq.symm, rfl⟩
    · rw [bnd_eq] at hp'
      obtain ⟨t, ht, hp'⟩ := hp'
      cases hp'
      obtain ⟨pre, m', post, rfl, h1, rfl⟩ := ih ht
      exact ⟨m :: pre, m', post, rfl, h1, rfl⟩
theorem findIdx_at {A B : List MapEntry} {x : MapEntry} {ents : Array MapEntry} (h : ents.toList = A ++ x :: B) (p : MapEntry → Bool) (hA : ∀ y ∈ A, p y = false) (hx : p x = true) : ents.findIdx? p = some A.length := by
  have hc : ents.findIdx? p = ents.toList.findIdx? p := by
    obtain ⟨l⟩ := ents
    simp
  rw [hc, h]
  clear h hc
  induction A with
  | nil => rw [List.nil_append, List.findIdx?_cons, hx]; rfl
  | cons a A ih =>
    rw [List.cons_append, List.findIdx?_cons, hA a List.mem_cons_self, ih (fun y hy => hA y (List.mem_cons_of_mem _ hy))]
    simp
theorem entryStore_sound {h : AH} (s : Sat e h w.heap) {t : TypeId} {m k v : AV} {um uk uv : Value} {h' : AH} (hm : VR e m um) (hk : VR e k uk) (hv : VR e v uv) (hu : entryStoreA m k v h = some h') :
    Runs P (Instr.entryStore t um uk uv) w fun _ w' => OutH e h w h' w' := by
  unfold entryStoreA at hu
  rw [mapV_eq] at hu
  obtain ⟨b, rfl, hu⟩ := hu
  rw [stpV_eq] at hu
  obtain ⟨st, rfl, hu⟩ := hu
  rw [bnd_eq] at hu
  obtain ⟨es, hes, hu⟩ := hu
  rw [bnd_eq] at hu
  obtain ⟨es', hp, hu⟩ := hu
  cases hu
  obtain ⟨L, hL, rfl⟩ := vr_map hm
  obtain ⟨hg, ents, hH, hR⟩ := s.mapAt hes hL
  cases hk with
  | stp _ n hn =>
    obtain ⟨pre, m', post, hes1, hms, rfl⟩ := putStamp_eq hp
    obtain ⟨p, hperm, hr⟩ := hR.perm
    have hmp : m' ∈ p := hperm.mem_iff.2 (hes1 ▸ List.mem_append_right _ List.mem_cons_self)
    obtain ⟨a, b', rfl⟩ := List.append_of_mem hmp
    obtain ⟨A, x, B, hLs, h1, h2, h3⟩ := hr.split rfl
    have hxb : x.born = n := by
      have := h2.s
      rw [hms, hn] at this
      exact (Option.some.inj this).symm
    have hA : ∀ y ∈ A, y.born ≠ n := fun y hy => by
      have := hR.stamps
      rw [hLs, List.pairwise_append] at this
      have := this.2.2 y hy x List.mem_cons_self
      rw [hxb] at this; exact this
    have hidx : ents.findIdx? (fun e => (e.born : Int) == (n : Int)) = some A.length :=
      findIdx_at hLs _ (fun y hy => by rw [beq_eq_false_iff_ne]; intro hh; exact hA y hy (by exact_mod_cast hh)) (by rw [hxb]; simp)
    have hR' : MapR e (pre ++ ⟨m'.k, v, m'.s⟩ :: post) (ents.modify A.length fun e => { e with val := uv }) es.2 :=
      hR.change hes1 hperm hLs (modify_at hLs _) h1 ⟨h2.k, hv, h2.s⟩ h3 rfl rfl
    refine ⟨(), _, ?_, e, s.setObj hg hL (s.alone hg hL rfl) (.map _ _ _ _ hR') (fun c hc => by cases hc) (fun h => by cases h), Step.setObj (w := w) s _ hg hL⟩
    unfold Instr.entryStore
    show Sem.run P (getObj L.blk >>= _) w = _
    rw [runM_bind, run_getMap hH]
    show Sem.run P (match ents.findIdx? (fun e => (e.born : Int) == (n : Int)) with | some i => _ | none => _) w = _
    rw [hidx]
    exact run_setMap hH _
end
end
end Go.Xe
end
section
namespace Go.Xe
noncomputable section
section
variable {P : Program} {e : Env} {w : World}
theorem delKey_eq {h : AH} {k : AV} {es es' : List ME} (hp : delKey h k es = some es') :
    (∃ pre m post, es = pre ++ m :: post ∧ eqScalar h k m.k = some true ∧ es' = pre ++ post) ∨ ((∀ m ∈ es, eqScalar h k m.k = some false) ∧ es' = es) := by
  induction es generalizing es' with
  | nil => cases hp; exact .inr ⟨fun m hm => (by cases hm), rfl⟩
  | cons m es ih =>
    have hp' : bnd (eqScalar h k m.k) (fun q => ite' q (some es) (bnd (delKey h k es) fun t => some (m :: t))) = some es' := hp
    rw [bnd_eq] at hp'
    obtain ⟨q, hq, hp'⟩ := hp'
    cases q with
    | true => cases hp'; exact .inl ⟨[], m, es, rfl, hq, rfl⟩
    | false =>
      have hp2 : bnd (delKey h k es) (fun t => some (m :: t)) = some es' := hp'
      rw [bnd_eq] at hp2
      obtain ⟨t, ht, hp2⟩ := hp2
      cases hp2
      rcases ih ht with ⟨pre, m', post, rfl, he, rfl⟩ | ⟨ha, rfl⟩
      · exact .inl ⟨m :: pre, m', post, rfl, he, rfl⟩
      · refine .inr ⟨fun x hx => ?_, rfl⟩
        rcases List.mem_cons.1 hx with rfl | hx
        · exact hq
        · exact ha x hx
theorem pairwise_out {R : MapEntry → MapEntry → Prop} {A B : List MapEntry} {x : MapEntry} (h : (A ++ x :: B).Pairwise R) : (A ++ B).Pairwise R := by
  rw [List.pairwise_append, List.pairwise_cons] at h
  rw [List.pairwise_append]
  exact ⟨h.1, h.2.1.2, fun y hy z hz => h.2.2 y hy z (List.mem_cons_of_mem _ hz)⟩
theorem MapR.out {es pre post a b : List ME} {m : ME} {A B : List MapEntry} {x : MapEntry} {ents ents' : Array MapEntry} {clock : Nat} (h : MapR e es ents clock)
    (he : es = pre ++ m :: post) (hp : (a ++ m :: b).Perm es) (hL : ents.toList = A ++ x :: B) (hL' : ents'.toList = A ++ B) (h1 : MERs e a A) (h3 : MERs e b B) : MapR e (pre ++ post) ents' clock := by
  refine ⟨⟨a ++ b, ?_, ?_⟩, ?_, ?_, ?_⟩
  · have h4 : (m :: (a ++ b)).Perm (m :: (pre ++ post)) := (List.perm_middle.symm.trans (he ▸ hp)).trans List.perm_middle
    exact (List.perm_cons m).1 h4
  · rw [hL']; exact h1.append h3
  · intro y hy
    rw [hL'] at hy
    apply h.born
    rw [hL]
    rcases List.mem_append.1 hy with hy | hy
    · exact List.mem_append_left _ hy
    · exact List.mem_append_right _ (List.mem_cons_of_mem _ hy)
  · have hs := h.stamps
    rw [hL] at hs
    rw [hL']; exact pairwise_out hs
  · have hs := h.keys
    rw [hL] at hs
    rw [hL']; exact pairwise_out hs
theorem erase_at {A B : List MapEntry} {x : MapEntry} {ents : Array MapEntry} (h : ents.toList = A ++ x :: B) : (ents.eraseIdxIfInBounds A.length).toList = A ++ B := by
  have hlt : A.length < ents.size := by
    have := congrArg List.length h
    simp at this; omega
  unfold Array.eraseIdxIfInBounds
  rw [dif_pos hlt, Array.toList_eraseIdx, h]
  clear h hlt
  induction A with
  | nil => rfl
  | cons a A ih => rw [List.cons_append, List.length_cons, List.eraseIdx_cons_succ, ih]; rfl
theorem mapDel_sound {h : AH} (s : Sat e h w.heap) {t ty : TypeId} {ts : Array TypeId} {m k : AV} {um uk : Value} {h' : AH} (ht : ts[0]? = some t) (hm : VR e m um) (hk : VR e k uk) (hu : mapDel P t m k h = some h') :
    Runs P (Builtin.delete_ ts ty #[um, uk]) w fun u' w' => Out e h w (.tup []) h' u' w' := by
  unfold mapDel at hu
  rw [bnd_eq] at hu
  obtain ⟨el, hel, hu⟩ := hu
  obtain ⟨key, kd, hd, hkd, hsd, hko⟩ := mapK_eq hel
  obtain ⟨hf, _⟩ := fit_of hsd hko hk
  have hbeg : ∀ {Q : Value → World → Prop}, Runs P (do
      match um with
      | .map none => Instr.checkKey true 10000 key uk
      | .map (some r) =>
        let .map es clock ← getObj r | stuck "delete: map expected"
        Instr.checkKey es.isEmpty 10000 key uk
        match ← Instr.findKey key uk es.toList with
        | some (i, _) => setObj r (.map (es.eraseIdxIfInBounds i) clock)
        | none => setObj r (.map es clock)
      | _ => stuck "delete: map expected"
      pure (.tuple #[])) w Q → Runs P (Builtin.delete_ ts ty #[um, uk]) w Q := fun {Q} hr => by
    refine Runs.run_eq ?_ hr
    unfold Builtin.delete_
    rw [ht]
    show Sem.run P (underlying t >>= _) w = _
    rw [runs_under' hd]
    rfl
  cases m <;> try (simp at hu; done)
  case map b =>
    have hu' : bnd (h.map b) (fun p => bnd (delKey h k p.1) fun es => some (h.set b (.map es p.2))) = some h' := hu
    rw [bnd_eq] at hu'
    obtain ⟨es, hes, hu'⟩ := hu'
    rw [bnd_eq] at hu'
    obtain ⟨es', hp, hu'⟩ := hu'
    cases hu'
    obtain ⟨L, hL, rfl⟩ := vr_map hm
    obtain ⟨hg, ents, hH, hR⟩ := s.mapAt hes hL
    refine hbeg ?_
    simp only []
    refine Runs.bind' ⟨_, w, run_getMap hH, ?_⟩
    simp only []
    refine Runs.bind' ⟨(), w, run_checkKey hkd hf, ?_⟩
    rcases delKey_eq hp with ⟨pre, m', post, hes1, hq, rfl⟩ | ⟨hn, rfl⟩
    · obtain ⟨a, b', A, x, B, hperm, hLs, h1, h2, h3, hkx, hfn⟩ := look_some s hsd hko hk hR hes1 hq
      refine Runs.bind' ⟨_, w, run_findKey hkd hfn, ?_⟩
      simp only []
      refine Runs.bind' ⟨_, _, run_setMap hH _, ?_⟩
      have hR' := hR.out hes1 hperm hLs (erase_at hLs) h1 h3
      exact Runs.pure' ⟨e, s.setObj hg hL (s.alone hg hL rfl) (.map _ _ _ _ hR') (fun c hc => by cases hc) (fun h => by cases h), .tup _ _ .nil, Step.setObj (w := w) s _ hg hL⟩
    · obtain ⟨hfn, _⟩ := look_none s hsd hko hk hR hn
      refine Runs.bind' ⟨_, w, run_findKey hkd hfn, ?_⟩
      simp only []
      refine Runs.bind' ⟨_, _, run_setMap hH _, ?_⟩
      exact Runs.pure' ⟨e, s.setObj hg hL (s.alone hg hL rfl) (.map _ _ _ _ hR) (fun c hc => by cases hc) (fun h => by cases h), .tup _ _ .nil, Step.setObj (w := w) s _ hg hL⟩
  case mnil =>
    cases hm
    have hu' : some h = some h' := hu
    cases hu'
    refine hbeg ?_
    simp only []
    refine Runs.bind' ⟨(), w, run_checkKey hkd hf, ?_⟩
    exact Runs.pure' (.same s (.tup _ _ .nil))
theorem MERs.length {p : List ME} {L : List MapEntry} (h : MERs e p L) : p.length = L.length := by
  induction h with
  | nil => rfl
  | cons _ _ _ _ _ _ ih => exact congrArg Nat.succ ih
theorem len_run {h : AH} (s : Sat e h w.heap) {t ty : TypeId} {ts : Array TypeId} {d : TypeDesc} {x : AV} {ux : Value} {n : Nat} (ht : ts[0]? = some t) (hd : P.underlying t = some d) (hx : VR e x ux) (hv : lenD x h d = some n) :
    (Builtin.len_ ts ty #[ux]).run P w = .ok (goInt n) w := by
  unfold Builtin.len_
  rw [ht]
  show Sem.run P (underlying t >>= _) w = _
  rw [runs_under' hd]
  cases d <;> try (simp [lenD] at hv; done)
  case string =>
    have hv' : strV x (fun n _ => some n) = some n := hv
    rw [strV_eq] at hv'
    obtain ⟨m, c, rfl, hv'⟩ := hv'
    cases hv'
    cases vr_str hx
    show Result.ok (goInt (bytesOf n c).size) w = _
    rw [bytesOf_size]
  case array m el =>
    have hv' : some m = some n := hv
    cases hv'
    rfl
  case slice el =>
    cases x <;> try (simp [lenD] at hv; done)
    case sl b o l z =>
      have hv' : some l = some n := hv
      cases hv'
      cases hx
      rfl
    case sle =>
      have hv' : some 0 = some n := hv
      cases hv'
      cases hx
      rfl
    case snil =>
      have hv' : some 0 = some n := hv
      cases hv'
      cases hx
      rfl
  case map key el =>
    have hv' : bnd (entriesOf x h) (fun es => some (len es)) = some n := hv
    rw [bnd_eq] at hv'
    obtain ⟨es, hes, hv'⟩ := hv'
    cases hv'
    rw [len_eq]
    cases x <;> try (simp [entriesOf] at hes; done)
    case map b =>
      obtain ⟨L, hL, rfl⟩ := vr_map hx
      have hes' : bnd (h.map b) (fun p => some p.1) = some es := hes
      rw [bnd_eq] at hes'
      obtain ⟨q, hq, hes'⟩ := hes'
      cases hes'
      obtain ⟨hg, ents, hH, hR⟩ := s.mapAt hq hL
      obtain ⟨p, hp, hr⟩ := hR.perm
      have hlen : ents.size = q.1.length := by
        have := hr.length
        rw [hp.length_eq] at this
        simpa using this.symm
      show Sem.run P (getObj L.blk >>= _) w = _
      rw [runM_bind, run_getMap hH]
      show Result.ok (goInt ents.size) w = _
      rw [hlen]
    case mnil =>
      cases hx
      cases hes
      rfl
theorem len_sound {h : AH} (s : Sat e h w.heap) {t ty : TypeId} {ts : Array TypeId} {d : TypeDesc} {x : AV} {ux : Value} {n : Nat} (ht : ts[0]? = some t) (hd : P.underlying t = some d) (hx : VR e x ux) (hv : lenD x h d = some n) :
    Runs P (Builtin.len_ ts ty #[ux]) w fun u' w' => Out e h w (mkNat n) h u' w' := by
  have hn : mkNat n = .int .i64 (n : Int) := by unfold mkNat; rw [frc_eq]; rfl
  rw [hn]
  exact ⟨_, w, len_run s ht hd hx hv, .same s (.int _ _)⟩
theorem minmax_eq {mx : Bool} {y : AV} {l : List AV} {x v : AV} (h : minmax mx (y :: l) x = some v) : ∃ k a k' b, x = .int k a ∧ y = .int k' b ∧ minmax mx l (.int k (if (if mx then a < b else b < a) then b else a)) = some v := by
  cases x <;> try (simp [minmax] at h; done)
  rename_i k a
  have h' : intV y (fun b => minmax mx l (mkInt k (ite' (ite' mx (ltInt a b) (ltInt b a)) b a))) = some v := h
  rw [intV_eq] at h'
  obtain ⟨k', b, rfl, h'⟩ := h'
  rw [mkInt_eq] at h'
  refine ⟨k, a, k', b, rfl, rfl, ?_⟩
  rw [ite'_if, ite'_if, ltInt_iff, ltInt_iff] at h'
  cases mx <;> simpa using h'
theorem min_sound {l : List AV} {x v : AV} {u : Value} {us : List Value} (hx : VR e x u) (hl : VRs e l us) (h : minmax false l x = some v) : ∃ u', (us.foldlM Builtin.min2 u).run P w = .ok u' w ∧ VR e v u' := by
  induction l generalizing x u us with
  | nil => cases hl; cases h; exact ⟨u, rfl, hx⟩
  | cons y l ih =>
    cases hl with
    | cons _ uy _ us hy hl =>
      obtain ⟨k, a, k', b, rfl, rfl, h'⟩ := minmax_eq h
      cases vr_int hx
      cases vr_int hy
      have : (if (if false = true then a < b else b < a) then b else a) = (if b < a then b else a) := by simp
      rw [this] at h'
      obtain ⟨u', hr, hv⟩ := ih (.int _ _) hl h'
      exact ⟨u', hr, hv⟩
theorem max_sound {l : List AV} {x v : AV} {u : Value} {us : List Value} (hx : VR e x u) (hl : VRs e l us) (h : minmax true l x = some v) : ∃ u', (us.foldlM Builtin.max2 u).run P w = .ok u' w ∧ VR e v u' := by
  induction l generalizing x u us with
  | nil => cases hl; cases h; exact ⟨u, rfl, hx⟩
  | cons y l ih =>
    cases hl with
    | cons _ uy _ us hy hl =>
      obtain ⟨k, a, k', b, rfl, rfl, h'⟩ := minmax_eq h
      cases vr_int hx
      cases vr_int hy
      have : (if (if true = true then a < b else b < a) then b else a) = (if b > a then b else a) := by simp
      rw [this] at h'
      obtain ⟨u', hr, hv⟩ := ih (.int _ _) hl h'
      exact ⟨u', hr, hv⟩
end
end
end Go.Xe
end
