/-
  Values that are built; Structs and arrays that are built, make, and the small ones; Maps: what is found; Maps: what is changed; Maps: entries held, an. Conditions: none.
-/
import Derived.Test.YtppjodfehhlniaaGreatDoorXlToXo
set_option linter.unusedVariables false
set_option linter.unusedSimpArgs false
set_option linter.unusedSectionVars false
section
namespace Go.Xe
noncomputable section
section
variable {P : Program} {e : Env} {w : World}
theorem zsK (s : ByteArray) : VR e (zqi s.data.toList) (.string s) := by
 unfold zqi
 rw [zeN, zaU]
 have q := VR.str (e := e) s.data.toList.length (zcp s.data.toList)
 rw [zg2] at q
 exact q
theorem zer {α : Type} {a : Array α} (h : za5 a.toList = true) : a = #[] := by
 rw [zaG] at h
 exact Array.toList_eq_nil_iff.1 h
theorem zes {v : Value} {a : AV} (h : zcA v = some a) : VR e a v := by
 cases v <;> try (simp [zcA] at h; done)
 case bool => cases h; exact .bool _
 case int => cases h; exact .int _ _
 case string s => cases h; exact zsK s
 case pointer o =>
  cases o with
  | none => cases h; exact .pnil
  | some _ => simp [zcA] at h
 case slice o l c =>
  cases o with
  | none =>
    have h' : grd (Nat.beq l 0) (grd (Nat.beq c 0) (some AV.snil)) = some a := h
    rw [zac, zac, zae, zae] at h'
    obtain ⟨rfl, rfl, h'⟩ := h'
    cases h'; exact .snil
  | some _ => simp [zcA] at h
 case map o =>
  cases o with
  | none => cases h; exact .mnil
  | some _ => simp [zcA] at h
 case func fn x y =>
  have h' : grd (za5 x.toList) (grd (za5 y.toList) (grd (zfD fn) (some (AV.func fn [] [])))) = some a := h
  rw [zac, zac, zac] at h'
  obtain ⟨h1, h2, h3, h'⟩ := h'
  cases h'
  rw [zer h1, zer h2]
  exact .func _ _ _ _ _ _ (.same _ h3) .nil .nil
 case nilFunc => cases h; exact .fnil
 case nilIface => cases h; exact .inil
 case tuple vs =>
  have h' : grd (za5 vs.toList) (some (AV.tup [])) = some a := h
  rw [zac] at h'
  obtain ⟨h1, h'⟩ := h'
  cases h'
  rw [zer h1]; exact .tup _ _ .nil
theorem zfl {l : List Value} {r : List AV} (h : mapO zcA l = some r) : VRs e r l := by
 induction l generalizing r with
 | nil => cases h; exact .nil
 | cons v l ih =>
   have h' : bnd (zcA v) (fun a => bnd (mapO zcA l) fun r => some (a :: r)) = some r := h
   rw [zaa] at h'
   obtain ⟨a, ha, h'⟩ := h'
   rw [zaa] at h'
   obtain ⟨r', hr, h'⟩ := h'
   cases h'
   exact .cons _ _ _ _ (zes ha) (ih hr)
theorem zjj {v : Value} {a : AV} (h : zkh v = some a) : VR e a v := by
 cases v <;> try (exact zes h)
 case agg cs =>
  have h' : bnd (mapO zcA cs.toList) (fun l => some (AV.agg l)) = some a := h
  rw [zaa] at h'
  obtain ⟨l, hl, h'⟩ := h'
  cases h'
  exact .agg _ _ (zfl hl)
theorem zdS {v : Value} {a : AV} (h : ofValue v = some a) : VR e a v := by
 cases v <;> try (exact zes h)
 case agg cs =>
  have h' : bnd (mapO zcA cs.toList) (fun l => some (AV.agg l)) = some a := h
  rw [zaa] at h'
  obtain ⟨l, hl, h'⟩ := h'
  cases h'
  exact .agg _ _ (zfl hl)
 case tuple cs =>
  have h' : bnd (mapO zcA cs.toList) (fun l => some (AV.tup l)) = some a := h
  rw [zaa] at h'
  obtain ⟨l, hl, h'⟩ := h'
  cases h'
  exact .tup _ _ (zfl hl)
 case iface t v =>
  have h' : bnd (zkh v) (fun a => some (AV.ifc t a)) = some a := h
  rw [zaa] at h'
  obtain ⟨l, hl, h'⟩ := h'
  cases h'
  exact .ifc _ _ _ (zjj hl)
theorem zsL {t : TypeId} {a : AV} (h : zfc P t = some a) : ∃ i z, P.info? t = some i ∧ i.zero = some z ∧ ofValue z = some a := by
 unfold zfc at h
 rw [zaa] at h
 obtain ⟨i, hi, h⟩ := h
 rw [zaa] at h
 obtain ⟨z, hz, h⟩ := h
 exact ⟨i, z, hi, hz, h⟩
theorem zdT {t : TypeId} {a : AV} (h : zfc P t = some a) : ∃ z, (zeroValue t).run P w = .ok z w ∧ VR e a z := by
 obtain ⟨i, z, hi, hz, ho⟩ := zsL h
 refine ⟨z, ?_, zdS ho⟩
 show Sem.run P (typeInfo t >>= fun i => match i.zero with | some v => pure v | none => unsupported (.resourceLimit "a value of more than 2^22 cells")) w = _
 rw [zab, zcm hi]
 show Sem.run P (match i.zero with | some v => pure v | none => unsupported (.resourceLimit "a value of more than 2^22 cells")) w = _
 rw [hz]; rfl
theorem zkN {fr : Fr} {a : Act} (hf : FR e fr a) {x : Operand} {v : AV} (h : ev x fr = some v) : VR e v (a.eval x) := by
 cases x with
 | tmp t =>
   have h' : some (fr.at_ t) = some v := h
   cases h'
   rw [zhZ]; exact hf.tmps.at_ t
 | const c => exact zdS h
 | global g => cases h; exact .gptr g
 | func f => cases h; exact .func _ _ _ _ _ _ (.same _ rfl) .nil .nil
theorem zkO {h : AH} (s : Sat e h w.heap) {l : List AV} {us : Array Value} (hv : VRs e l us.toList) (T : TypeId) :
  ∃ e', Sat e' (h.add (.cells l T true 0 [])) (w.heap.push (.cells us T (0, 0))) ∧ e'.loc h.next = some ⟨w.heap.size, 0, l.length⟩ ∧ e.le e' ∧
    Step e h w e' (h.add (.cells l T true 0 [])) { w with heap := w.heap.push (.cells us T (0, 0)) } := by
 have hlen := hv.length
 have hr : CellsR e l T 0 ⟨w.heap.size, 0, l.length⟩ us T 0 0 := by
  refine ⟨by simp only; rw [hlen]; simp, Nat.le_refl _, fun i v hi => ?_, fun i _ _ h => by omega, fun _ => ⟨rfl, rfl, rfl, fun _ => rfl⟩⟩
  obtain ⟨u, hu, hr⟩ := hv.get hi
  exact ⟨u, by rw [Nat.zero_add, ← Array.getElem?_toList]; exact hu, hr⟩
 have hle : e.le (e.at_ h.next ⟨w.heap.size, 0, l.length⟩) := Env.at_le s.fresh
 obtain ⟨h1, h2⟩ := s.add (w := w) (en := .cells l T true 0 []) (o := .cells us T (0, 0)) l.length rfl (.cells _ _ _ _ _ _ _ _ _ _ (hr.mono hle))
 exact ⟨_, h1, Env.at_self _ _ _, hle, h2⟩
theorem znx {h : AH} (s : Sat e h w.heap) {t : TypeId} {v : AV} {h' : AH}
  (hv : (bnd (zfc P t) fun z => h.new (.cells z.cells t true 0 []) fun b h => some (AV.ptr b 0, h)) = some (v, h')) :
  Runs P (Instr.alloc t true (.tuple #[])) w fun u' w' => Out e h w v h' u' w' := by
 rw [zaa] at hv
 obtain ⟨z, hz, hv⟩ := hv
 rw [AH.new_eq] at hv
 cases hv
 obtain ⟨uz, hr, hzr⟩ := zdT (P := P) (w := w) (e := e) hz
 obtain ⟨e', s', hl, hle, st⟩ := zkO s (zcU hzr) t
 refine ⟨.pointer (some ⟨w.heap.size, 0, none⟩), _, ?_, e', s', ?_, st⟩
 ·show Sem.run P (zeroValue t >>= _) w = _
  rw [zab, hr]; rfl
 ·exact .ptr h.next 0 _ hl
theorem zqM {h : AH} (s : Sat e h w.heap) {t : TypeId} {x v : AV} {u : Value} {h' : AH} (hx : VR e x u)
  (hv : (h.new (.cells x.cells t true 0 []) fun b h => some (AV.ptr b 0, h)) = some (v, h')) :
  Runs P (Instr.box t u) w fun u' w' => Out e h w v h' u' w' := by
 rw [AH.new_eq] at hv
 cases hv
 obtain ⟨e', s', hl, hle, st⟩ := zkO s (zcU hx) t
 exact ⟨.pointer (some ⟨w.heap.size, 0, none⟩), _, rfl, e', s', .ptr h.next 0 _ hl, st⟩
theorem zlQ {α : Type} (n : Nat) (l : List α) : repl (n + 1) l = l ++ repl n l := by
 show app l (repl n l) = _
 rw [zcE]
theorem zkP {α : Type} (n : Nat) (l : List α) : (repl n l).length = n * l.length := by
 induction n with
 | zero => simp [repl]
 | succ n ih => rw [zlQ, List.length_append, ih, Nat.succ_mul]; omega
theorem zsM {α : Type} (n : Nat) (l : List α) (i : Nat) (h : i < n * l.length) : (repl n l)[i]? = l[i % l.length]? := by
 induction n generalizing i with
 | zero => simp at h
 | succ n ih =>
   rw [zlQ]
   by_cases hi : i < l.length
   ·rw [List.getElem?_append_left hi, Nat.mod_eq_of_lt hi]
   ·rw [List.getElem?_append_right (by omega), ih _ (by rw [Nat.succ_mul] at h; omega), Nat.mod_eq_sub_mod (by omega : i ≥ l.length)]
theorem zbH {t z n : Nat} {l : List AV} (h : zcP P t z n = some l) : ∃ uz, (zeroValue t).run P w = .ok uz w ∧ uz.cells.size = z ∧ l.length = n * z ∧
  VRs e l ((Array.range (n * z)).map (uz.cells[· % uz.cells.size]!)).toList := by
 unfold zcP at h
 rw [zaa] at h
 obtain ⟨v, hv, h⟩ := h
 rw [zac, zae, zaU] at h
 obtain ⟨hz, h⟩ := h
 cases h
 obtain ⟨uz, hr, hzr⟩ := zdT (P := P) (w := w) (e := e) hv
 have hc := zcU hzr
 have hlen := hc.length
 have hsz : uz.cells.size = z := by rw [← hz, hlen]; simp
 refine ⟨uz, hr, hsz, by rw [zkP, hz], ?_⟩
 refine VRs.of_get (by rw [zkP, hz]; simp) fun i a u ha hu => ?_
 have hi : i < n * v.cells.length := by
  have := (List.getElem?_eq_some_iff.1 ha).1
  rw [zkP] at this; exact this
 rw [zsM n _ i hi] at ha
 obtain ⟨u', hu', hr'⟩ := hc.get ha
 have : u = u' := by
  rw [Array.getElem?_toList] at hu hu'
  rw [Array.getElem?_map] at hu
  have hi' : i < n * z := by rw [← hz]; exact hi
  rw [Array.getElem?_range, if_pos hi'] at hu
  simp only [Option.map_some, Option.some.injEq] at hu
  rw [← hu]
  rw [hz] at hu'
  rw [hsz]
  rw [getElem!_def, hu']
 rw [this]; exact hr'
theorem zpC (vs : List Value) (off k : Nat) (cells : Array Value) (hb : off + k + vs.length ≤ cells.size) (i : Nat) :
  ((vs.zipIdx k).foldl (fun cs (x : Value × Nat) => cs.setIfInBounds (off + x.2) x.1) cells)[i]? = if off + k ≤ i ∧ i < off + k + vs.length then vs[i - (off + k)]? else cells[i]? := by
 induction vs generalizing k cells with
 | nil => simp; intro h1 h2; omega
 | cons v vs ih =>
   rw [List.zipIdx_cons, List.foldl_cons]
   rw [ih (k + 1) _ (by simp at hb ⊢; omega)]
   simp only [List.length_cons] at hb ⊢
   by_cases h1 : i = off + k
   ·subst h1
    rw [if_neg (by omega), if_pos (by omega), Array.getElem?_setIfInBounds_self_of_lt (by omega)]
    simp
   ·by_cases h2 : off + k ≤ i ∧ i < off + k + (vs.length + 1)
    ·rw [if_pos (by omega), if_pos h2]
     rw [show i - (off + k) = (i - (off + (k + 1))) + 1 by omega, List.getElem?_cons_succ]
    ·rw [if_neg (by omega), if_neg h2, Array.getElem?_setIfInBounds_ne (by omega)]
theorem zny (vs : List Value) (off k : Nat) (cells : Array Value) :
  ((vs.zipIdx k).foldl (fun cs (x : Value × Nat) => cs.setIfInBounds (off + x.2) x.1) cells).size = cells.size := by
 induction vs generalizing k cells with
 | nil => rfl
 | cons v vs ih => rw [List.zipIdx_cons, List.foldl_cons, ih]; simp
inductive PR (e : Env) : List (Nat × AV) → List (Nat × Value) → Prop
 | nil : PR e [] []
 | cons (i : Nat) (v : AV) (u : Value) (l : List (Nat × AV)) (l' : List (Nat × Value)) (h : VR e v u) (ht : PR e l l') : PR e ((i, v) :: l) ((i, u) :: l')
theorem zeR {pa pm : Nat → Option (Nat × Nat)} (hp : ∀ i q, pa i = some q → pm i = some q) {ps : List (Nat × AV)} {us : List (Nat × Value)} (h : PR e ps us) {cs r : List AV} {cells : Array Value} (hc : VRs e cs cells.toList)
  (hv : zjc pa ps cs = some r) : ∃ cells', Instr.fill pm cells us = some cells' ∧ VRs e r cells'.toList ∧ r.length = cs.length := by
 induction h generalizing cs cells with
 | nil => cases hv; exact ⟨cells, rfl, hc, rfl⟩
 | cons i v u l l' hvu _ ih =>
   have hv' : bnd (pa i) (fun q => grd (Nat.beq (len v.cells) q.2) (bnd (zdr cs q.1 v.cells) fun cs => zjc pa l cs)) = some r := hv
   rw [zaa] at hv'
   obtain ⟨⟨off, size⟩, hq, hv'⟩ := hv'
   rw [zac, zae, zaU, zaa] at hv'
   obtain ⟨hsz, cs', hsp, hv'⟩ := hv'
   simp only at hsz hsp
   have hvc := zcU hvu
   have hvl := hvc.length
   have hlen := hc.length
   rw [zlD] at hsp
   by_cases hb : off + v.cells.length ≤ cs.length
   ·rw [if_pos hb] at hsp
    cases hsp
    have hus : u.cells.size = v.cells.length := by rw [hvl]; simp
    have hcs : cells.size = cs.length := by rw [hlen]; simp
    have hfold : u.cells.zipIdx.foldl (fun cs (x : Value × Nat) => cs.setIfInBounds (off + x.2) x.1) cells = (u.cells.toList.zipIdx 0).foldl (fun cs (x : Value × Nat) => cs.setIfInBounds (off + x.2) x.1) cells := by
     rw [← Array.foldl_toList, Array.toList_zipIdx]
    have hnew : VRs e (cs.take off ++ v.cells ++ cs.drop (off + v.cells.length)) ((u.cells.toList.zipIdx 0).foldl (fun cs (x : Value × Nat) => cs.setIfInBounds (off + x.2) x.1) cells).toList := by
     have hlt : (cs.take off ++ v.cells ++ cs.drop (off + v.cells.length)).length = cs.length := by
      simp; omega
     refine VRs.of_get (by rw [hlt]; simp only [Array.length_toList]; rw [zny, hcs]) fun j a b ha hb' => ?_
     rw [Array.getElem?_toList, zpC _ _ _ _ (by rw [Array.length_toList, hus, hcs]; omega)] at hb'
     by_cases h1 : j < off
     ·rw [if_neg (by omega)] at hb'
      rw [List.append_assoc, List.getElem?_append_left (by simp; omega), List.getElem?_take_of_lt h1] at ha
      obtain ⟨u', hu', hr'⟩ := hc.get ha
      rw [Array.getElem?_toList, hb'] at hu'
      cases hu'; exact hr'
     ·by_cases h2 : j < off + v.cells.length
      ·rw [if_pos (by rw [← hvl]; omega)] at hb'
       rw [List.append_assoc, List.getElem?_append_right (by simp; omega), List.getElem?_append_left (by simp; omega)] at ha
       have ho : (cs.take off).length = off := by simp; omega
       rw [ho] at ha
       obtain ⟨u', hu', hr'⟩ := hvc.get ha
       rw [Nat.add_zero, hu'] at hb'
       cases hb'; exact hr'
      ·rw [if_neg (by rw [← hvl]; omega)] at hb'
       rw [List.getElem?_append_right (by simp; omega)] at ha
       have ho : (cs.take off ++ v.cells).length = off + v.cells.length := by simp; omega
       rw [ho, List.getElem?_drop, show off + v.cells.length + (j - (off + v.cells.length)) = j by omega] at ha
       obtain ⟨u', hu', hr'⟩ := hc.get ha
       rw [Array.getElem?_toList, hb'] at hu'
       cases hu'; exact hr'
    obtain ⟨cells', hf, hr, hl⟩ := ih hnew hv'
    refine ⟨cells', ?_, hr, ?_⟩
    ·unfold Instr.fill
     rw [hp _ _ hq]
     simp only []
     rw [if_neg (by simp only [ne_eq, Bool.or_eq_true, decide_eq_true_eq, not_or, Decidable.not_not]; omega)]
     rw [hfold]; exact hf
    ·rw [hl]; simp; omega
   ·rw [if_neg hb] at hsp; cases hsp
theorem zoU {ps : List (Nat × Operand)} {vs : List AV} {f : Operand → Value} (h : VRs e vs (ps.map fun p => f p.2)) : PR e (zipI ps vs) (ps.map fun p => (p.1, f p.2)) := by
 induction ps generalizing vs with
 | nil => exact .nil
 | cons p ps ih =>
   cases h with
   | cons v u l l' h ht => exact .cons _ _ _ _ _ h (ih ht)
theorem zeS {t el z : Nat} (h : zhi P t = some (el, z)) : P.underlying t = some (.slice el) ∧ zaX P el = some z ∧ 0 < z := by
 unfold zhi at h
 rw [zaa] at h
 obtain ⟨d, hd, h⟩ := h
 rw [zaa] at h
 obtain ⟨el', he, h⟩ := h
 rw [zaa] at h
 obtain ⟨z', hz, h⟩ := h
 rw [zac, zau] at h
 obtain ⟨h0, h⟩ := h
 cases h
 rw [zlP he] at hd
 exact ⟨hd, hz, h0⟩
theorem zho {h : AH} (s : Sat e h w.heap) {t : TypeId} {n : Nat} {ps : List (Nat × AV)} {us : Array (Nat × Value)} {v : AV} {h' : AH} (hp : PR e ps us.toList) (hv : zfe P t n ps h = some (v, h')) :
  Runs P (Instr.buildSlice t n us) w fun u' w' => Out e h w v h' u' w' := by
 unfold zfe at hv
 rw [zaa] at hv
 obtain ⟨⟨el, z⟩, he, hv⟩ := hv
 rw [zac, za1, zaa] at hv
 obtain ⟨hsz, zs, hzs, hv⟩ := hv
 rw [zaa] at hv
 obtain ⟨l, hl, hv⟩ := hv
 rw [AH.new_eq] at hv
 cases hv
 simp only at hsz hzs hl
 obtain ⟨hd, hsize, hz0⟩ := zeS he
 obtain ⟨uz, hr, hus, hlz, hvz⟩ := zbH (P := P) (w := w) (e := e) hzs
 obtain ⟨cells, hf, hvc, hlc⟩ := zeR (pm := fun i => some (i * z, z)) (fun i q h => h) hp hvz hl
 obtain ⟨e', s', hloc, hle, st⟩ := zkO s hvc el
 have hlen : l.length = n * z := by rw [hlc, hlz]
 refine ⟨.slice (some ⟨w.heap.size, 0, none⟩) n n, _, ?_, e', s', ?_, st⟩
 ·unfold Instr.buildSlice
  rw [zag hd]
  show Sem.run P (sizeOf el >>= _) w = _
  rw [zab, zbx hsize]
  have hsz' : n * z ≤ 2 ^ 24 := hsz
  simp only []
  rw [if_neg (by omega)]
  by_cases hn : n * z = 0
  ·simp only [hn, if_true]
   have hc0 : cells.size = 0 := by
    have := hvc.length; simp at this; omega
   have hr0 : ∀ f : Nat → Value, (Array.range 0).map f = #[] := fun f => Array.eq_empty_of_size_eq_zero (by simp)
   rw [hn, hr0] at hf
   simp only [hr0]
   rw [zab]
   show Sem.run P (match Instr.fill (fun i => some (i * z, z)) #[] us.toList with | some cells => _ | _ => _) w = _
   rw [hf]; rfl
  ·simp only [hn, if_false]
   show Sem.run P (zeroValue el >>= _) w = _
   rw [zab, hr]
   show Sem.run P (match Instr.fill (fun i => some (i * z, z)) ((Array.range (n * z)).map (uz.cells[· % uz.cells.size]!)) us.toList with | some cells => _ | _ => _) w = _
   rw [hf]; rfl
 ·exact .sl h.next 0 n z n _ hloc hz0 (by simp only; omega) (Nat.le_refl n)
end
end
end Go.Xe
end
section
namespace Go.Xe
noncomputable section
section
variable {P : Program} {e : Env} {w : World}
theorem znz (fs : List Field) {r : List (Nat × Nat)} (h : fs.mapM (fun f => (zaX P f.type).map fun n => (f.offset, n)) = some r) :
  ((fs.mapM fun f => (do pure (f.offset, ← sizeOf f.type) : Sem (Nat × Nat))) : Sem (List (Nat × Nat))).run P w = .ok r w := by
 induction fs generalizing r with
 | nil => cases h; rfl
 | cons f fs ih =>
   rw [List.mapM_cons] at h ⊢
   cases hs : zaX P f.type with
   | none => rw [hs] at h; cases h
   | some n =>
     rw [hs] at h
     cases hr : fs.mapM (fun f => (zaX P f.type).map fun n => (f.offset, n)) with
     | none => rw [hr] at h; cases h
     | some r' =>
       rw [hr] at h
       cases h
       rw [zab]
       have h1 : (do pure (f.offset, ← sizeOf f.type) : Sem (Nat × Nat)).run P w = .ok (f.offset, n) w := by
        rw [zab, zbx hs]; rfl
       rw [h1]
       show Sem.run P (fs.mapM _ >>= _) w = _
       rw [zab, ih hr]; rfl
theorem znA {fs : List Field} (h : zhu P fs = true) : ∃ r, fs.mapM (fun f => (zaX P f.type).map fun n => (f.offset, n)) = some r ∧ ∀ i q, zju P fs i = some q → r[i]? = some q := by
 induction fs with
 | nil => exact ⟨[], rfl, fun i q h => by unfold zju at h; rw [zbf] at h; simp at h⟩
 | cons f fs ih =>
   have h' : ite' (Option.isSome (zaX P f.type)) (zhu P fs) false = true := h
   rw [zai, Bool.and_eq_true] at h'
   obtain ⟨h1, h2⟩ := h'
   obtain ⟨r, hr, hg⟩ := ih h2
   obtain ⟨n, hn⟩ := Option.isSome_iff_exists.1 h1
   refine ⟨(f.offset, n) :: r, ?_, fun i q hq => ?_⟩
   ·rw [List.mapM_cons, hn, hr]; rfl
   ·cases i with
    | zero =>
      have hq' : bnd (some f) (fun f => bnd (zaX P f.type) fun n => some (f.offset, n)) = some q := hq
      rw [zaa] at hq'
      obtain ⟨f', hf, hq'⟩ := hq'
      cases hf
      rw [hn] at hq'
      exact hq'
    | succ i => exact hg i q hq
theorem zkQ {h : AH} (s : Sat e h w.heap) {t : TypeId} {vs : List AV} {us : Option Value} {v : AV} {h' : AH} (hx : (vs = [] ∧ us = none) ∨ ∃ a u, vs = [a] ∧ us = some u ∧ VR e a u) (hv : zks P t vs h = some (v, h')) :
  Runs P (Instr.makeMap t us) w fun u' w' => Out e h w v h' u' w' := by
 unfold zks at hv
 rw [zac, AH.new_eq] at hv
 obtain ⟨hc, hv⟩ := hv
 cases hv
 have hm : EntR (e.at_ h.next ⟨w.heap.size, 0, 0⟩) h.fm (.map [] 0) ⟨w.heap.size, 0, 0⟩ (.map #[] 0) :=
  .map _ _ _ _ ⟨⟨[], .refl _, .nil⟩, fun x hx => by simp at hx, by simp, by simp⟩
 obtain ⟨h1, h2⟩ := s.add (w := w) 0 rfl hm
 have hrun : (Instr.makeMap t us).run P w = .ok (.map (some w.heap.size)) { w with heap := w.heap.push (.map #[] 0) } := by
  rcases hx with ⟨rfl, rfl⟩ | ⟨a, u, rfl, rfl, ha⟩
  ·rfl
  ·have hc' : Option.isSome (bnd (mapA P t) fun _ => intV a fun _ => some ()) = true := hc
   obtain ⟨_, hc'⟩ := Option.isSome_iff_exists.1 hc'
   rw [zaa] at hc'
   obtain ⟨el, hel, hc'⟩ := hc'
   rw [zgz] at hc'
   obtain ⟨k, n, rfl, _⟩ := hc'
   cases zbd ha
   unfold mapA at hel
   rw [zaa] at hel
   obtain ⟨d, hd, hel⟩ := hel
   rw [zaa] at hel
   obtain ⟨ke, hke, _⟩ := hel
   have : ∃ a b, d = .map a b := by cases d <;> simp [mapD] at hke <;> exact ⟨_, _, rfl⟩
   obtain ⟨ka, kb, rfl⟩ := this
   unfold Instr.makeMap
   simp only []
   rw [zag hd]
   rfl
 exact ⟨_, _, hrun, _, h1, .map h.next _ (Env.at_self _ _ _), h2⟩
theorem zet {t : TypeId} {x v : AV} {u : Value} (hx : VR e x u) (hv : zgt P t x = some v) : Runs P (Instr.makeInterface t u) w fun u' w' => VR e v u' ∧ w' = w := by
 unfold zgt at hv
 rw [zaa] at hv
 obtain ⟨d, hd, hv⟩ := hv
 rw [zav] at hv
 rcases hv with ⟨_, hv⟩ | ⟨hn, hv⟩
 ·cases hv
 cases hv
 refine ⟨.iface t u, w, ?_, .ifc _ _ _ hx, rfl⟩
 unfold Instr.makeInterface
 rw [zag hd]
 cases d <;> first | rfl | (simp [zqk] at hn)
theorem zfN {x v : AV} {u : Value} {i : Nat} (hx : VR e x u) (hv : (tupV x fun l => nth l i) = some v) : Runs P (Instr.extract u i) w fun u' w' => VR e v u' ∧ w' = w := by
 rw [zuv] at hv
 obtain ⟨l, rfl, hv⟩ := hv
 rw [zbf] at hv
 obtain ⟨us, rfl, hr⟩ := zvq hx
 obtain ⟨u', hu, hr'⟩ := hr.get hv
 refine ⟨u', w, ?_, hr', rfl⟩
 rw [Array.getElem?_toList] at hu
 show Sem.run P (match us[i]? with | some v => pure v | none => stuck "Extract: no such component") w = _
 rw [hu]; rfl
theorem zih {t : TypeId} {ps : List (Nat × AV)} {us : Array (Nat × Value)} {v : AV} (hp : PR e ps us.toList) (hv : zqq P t ps = some v) : Runs P (Instr.build t us) w fun u' w' => VR e v u' ∧ w' = w := by
 unfold zqq at hv
 rw [zaa] at hv
 obtain ⟨z, hz, hv⟩ := hv
 rw [zdM] at hv
 obtain ⟨zs, rfl, hv⟩ := hv
 rw [zaa] at hv
 obtain ⟨d, hd, hv⟩ := hv
 obtain ⟨uz, hr, hzr⟩ := zdT (P := P) (w := w) (e := e) hz
 obtain ⟨cells, rfl, hc⟩ := zh1 hzr
 have hcl : (Value.agg cells).cells = cells := rfl
 unfold Instr.build
 refine Runs.run_eq (b := (underlying t >>= fun d => match d with
  | .struct fields => do
    let zju ← fields.mapM fun f => do pure (f.offset, ← sizeOf f.type)
    let some cells := Instr.fill (zju[·]?) cells us.toList | stuck "build: no such field, or a part of the wrong size"
    pure (.agg cells)
  | .array _ elem => do
    let size ← sizeOf elem
    let some cells := Instr.fill (fun i => some (i * size, size)) cells us.toList | stuck "build: a part of the wrong size"
    pure (.agg cells)
  | _ => stuck "build: struct or array type expected")) (by rw [zab, hr]; rfl) ?_
 refine Runs.run_eq (zag hd) ?_
 cases d <;> try (simp [ztV] at hv; done)
 case struct fs =>
  have hv' : grd (zhu P fs.toList) (bnd (zjc (zju P fs.toList) ps zs) fun l => some (AV.agg l)) = some v := hv
  rw [zac, zaa] at hv'
  obtain ⟨hfs, l, hl, hv'⟩ := hv'
  cases hv'
  obtain ⟨r, hr1, hr2⟩ := znA hfs
  obtain ⟨cells', hf, hvc, _⟩ := zeR (pm := (r.toArray[·]?)) (fun i q h => by have := hr2 i q h; simpa using this) hp hc hl
  refine ⟨.agg cells', w, ?_, .agg _ _ hvc, rfl⟩
  show Sem.run P (fs.mapM (fun f => (do pure (f.offset, ← sizeOf f.type) : Sem (Nat × Nat))) >>= _) w = _
  have hm : (fs.mapM (fun f => (do pure (f.offset, ← sizeOf f.type) : Sem (Nat × Nat)))).run P w = .ok r.toArray w := by
   rw [Array.mapM_eq_mapM_toList]
   show Sem.run P (Functor.map List.toArray _) w = _
   rw [map_eq_pure_bind, zab, znz _ hr1]
   rfl
  rw [zab, hm]
  show Sem.run P (match Instr.fill (r.toArray[·]?) cells us.toList with | some cells => _ | _ => _) w = _
  rw [hf]; rfl
 case array n el =>
  have hv' : bnd (zaX P el) (fun n => bnd (zjc (zgr n) ps zs) fun l => some (AV.agg l)) = some v := hv
  rw [zaa] at hv'
  obtain ⟨z, hz', hv'⟩ := hv'
  rw [zaa] at hv'
  obtain ⟨l, hl, hv'⟩ := hv'
  cases hv'
  obtain ⟨cells', hf, hvc, _⟩ := zeR (pm := fun i => some (i * z, z)) (fun i q h => h) hp hc hl
  refine ⟨.agg cells', w, ?_, .agg _ _ hvc, rfl⟩
  show Sem.run P (sizeOf el >>= _) w = _
  rw [zab, zbx hz']
  show Sem.run P (match Instr.fill (fun i => some (i * z, z)) cells us.toList with | some cells => _ | _ => _) w = _
  rw [hf]; rfl
theorem zkR {n : Nat} (h : n ≤ 100000) : IntKind.i64.wrap (n : Int) = n := by
 apply zjI
 show Nat.blt n 9223372036854775808 = true
 rw [zau]; omega
theorem zii {h : AH} (s : Sat e h w.heap) {t : TypeId} {l c v : AV} {ul uc : Value} {h' : AH} (hl : VR e l ul) (hc : VR e c uc) (hv : zgs P t l c h = some (v, h')) :
  Runs P (Instr.makeSlice t ul uc) w fun u' w' => Out e h w v h' u' w' := by
 unfold zgs at hv
 rw [zfh] at hv
 obtain ⟨kl, n, rfl, hv⟩ := hv
 rw [zfh] at hv
 obtain ⟨kc, m, rfl, hv⟩ := hv
 rw [zac, zac, za1, za1, zaa] at hv
 obtain ⟨hnm, hm, ⟨el, z⟩, he, hv⟩ := hv
 rw [zaa] at hv
 obtain ⟨_, hsm, hv⟩ := hv
 rw [zaa] at hv
 obtain ⟨zs, hzs, hv⟩ := hv
 rw [AH.new_eq] at hv
 cases hv
 simp only at hsm hzs
 unfold zdK at hsm
 rw [zaa] at hsm
 obtain ⟨i, hi, hsm⟩ := hsm
 rw [zac, za1] at hsm
 have hby : i.bytes * m ≤ 140737488355328 := hsm.1
 cases zbd hl
 cases zbd hc
 obtain ⟨hd, hsize, hz0⟩ := zeS he
 obtain ⟨uz, hr, hus, hlz, hvz⟩ := zbH (P := P) (w := w) (e := e) hzs
 obtain ⟨e', s', hloc, hle, st⟩ := zkO s hvz el
 refine ⟨.slice (some ⟨w.heap.size, 0, none⟩) n m, _, ?_, e', s', ?_, st⟩
 ·unfold Instr.makeSlice
  rw [zag hd]
  show Sem.run P (typeInfo el >>= _) w = _
  rw [zab, zcm hi]
  have hwn : IntKind.i64.wrap (n : Int) = n := zkR (by omega)
  have hwm : IntKind.i64.wrap (m : Int) = m := zkR hm
  simp only [hwn, hwm]
  have hb1 : ¬ ((i.bytes : Int) * (m : Int) > 2 ^ 48) := by
   have h1 : ((i.bytes * m : Nat) : Int) ≤ ((140737488355328 : Nat) : Int) := Int.ofNat_le.2 hby
   rw [Int.natCast_mul] at h1
   omega
  have d1 : decide ((m : Int) < 0) = false := decide_eq_false (by omega)
  have d2 : decide ((i.bytes : Int) * (m : Int) > 2 ^ 48) = false := decide_eq_false hb1
  have d3 : decide ((n : Int) < 0) = false := decide_eq_false (by omega)
  have d4 : decide ((n : Int) > (m : Int)) = false := decide_eq_false (by omega)
  rw [d1, d2, d3, d4]
  rw [if_neg (show ¬ ((false || false || false || false) = true) by decide)]
  have hroom : (askRoom ((m : Int).toNat * i.bytes)).run P w = .ok () w := by
   unfold askRoom
   rw [Int.toNat_natCast, if_neg (by unfold roomBytes; rw [Nat.mul_comm]; omega)]
   rfl
  rw [zab, hroom]
  show Sem.run P (sizeOf el >>= _) w = _
  rw [zab, zbx hsize]
  simp only [Int.toNat_natCast]
  have hr0 : ∀ f : Nat → Value, (Array.range 0).map f = #[] := fun f => Array.eq_empty_of_size_eq_zero (by simp)
  by_cases h0 : m * z = 0
  ·rw [if_pos h0]
   simp only [h0, hr0]
   rfl
  ·rw [if_neg h0, zab, hr]
   rfl
 ·exact .sl h.next 0 n z m _ hloc hz0 (by simp only; omega) hnm
end
end
end Go.Xe
end
section
namespace Go.Xe
noncomputable section
section
variable {P : Program} {e : Env} {w : World}
theorem zea {h : AH} {x y : AV} {q : Bool} (hq : zar h x y = some q) (hs : za2 x = true) : za2 y = true := by
 cases x <;> simp [za2] at hs <;> cases y <;> first | rfl | (simp [zar, eqB, eqI, eqN, eqS, eqSS] at hq)
inductive Fit : TypeDesc → Value → Prop
 | bool (b : Bool) : Fit .bool (.bool b)
 | int (k k' : IntKind) (n : Int) : Fit (.int k) (.int k' n)
 | string (s : ByteArray) : Fit .string (.string s)
theorem zjN {kd : TypeDesc} {a : AV} {u : Value} (h1 : zed kd = true) (h2 : zaq kd a = true) (hv : VR e a u) : Fit kd u ∧ za2 a = true := by
 cases kd <;> simp [zed] at h1 <;> cases a <;> simp [zaq] at h2 <;> cases hv <;> exact ⟨by constructor, rfl⟩
theorem zfm {kd : TypeDesc} {u v : Value} {q : Bool} (hf : Fit kd u) (hc : Cmp u v q) : Instr.sameNow kd u v = some q := by
 cases hc with
 | bool a b => cases hf; rfl
 | int k a b =>
   cases hf
   show (if k = k then some (a == b) else none) = some (a == b)
   rw [if_pos rfl]
 | string a b =>
   cases hf
   show some (a == b) = some (decide (a = b))
   rw [zh9]
theorem zsN {u v : Value} (hc : Cmp u v true) : u = v := by
 generalize hq : true = q at hc
 cases hc with
 | bool a b => rw [eq_of_beq hq.symm]
 | int k a b => rw [eq_of_beq hq.symm]
 | string a b => rw [of_decide_eq_true hq.symm]
theorem zqN {u v : Value} (hc : Cmp u v false) : zkG u v := by
 generalize hq : false = q at hc
 cases hc with
 | bool a b => exact fun h => by subst h; simp at hq
 | int k a b => exact ⟨rfl, fun h => by subst h; simp at hq⟩
 | string a b => exact fun h => by subst h; simp at hq
theorem zqO {u v : Value} (h : zkG u v) : Cmp u v false := by
 cases u <;> cases v <;> try (exact h.elim)
 case bool a b =>
  have : (a == b) = false := by rw [beq_eq_false_iff_ne]; exact h
  rw [← this]; exact .bool a b
 case int k a j b =>
  obtain ⟨rfl, h⟩ := h
  have : (a == b) = false := by rw [beq_eq_false_iff_ne]; exact h
  rw [← this]; exact .int _ a b
 case string a b =>
  have : decide (a = b) = false := decide_eq_false h
  rw [← this]; exact .string a b
theorem zgG {u v : Value} (h : zkG u v) : zkG v u := by
 cases u <;> cases v <;> try (exact h.elim)
 case bool a b => exact fun h' => h h'.symm
 case int k a j b => exact ⟨h.1.symm, fun h' => h.2 h'.symm⟩
 case string a b => exact fun h' => h h'.symm
theorem zlR {u : Value} (h : zkG u u) : False := by
 cases u <;> try (exact h.elim)
 case bool => exact h rfl
 case int => exact h.2 rfl
 case string => exact h rfl
theorem zlS {kd : TypeDesc} {u : Value} {L : List MapEntry} (h : ∀ x ∈ L, Instr.sameNow kd u x.key = some false) (i : Nat) : Instr.findNow kd u L i = some none := by
 induction L generalizing i with
 | nil => rfl
 | cons x L ih =>
   unfold Instr.findNow
   rw [h x List.mem_cons_self]
   exact ih (fun y hy => h y (List.mem_cons_of_mem _ hy)) _
theorem zlT {kd : TypeDesc} {u : Value} {A B : List MapEntry} {x : MapEntry} (h : ∀ y ∈ A, Instr.sameNow kd u y.key = some false) (hx : Instr.sameNow kd u x.key = some true) (i : Nat) :
  Instr.findNow kd u (A ++ x :: B) i = some (some (i + A.length, x.val)) := by
 induction A generalizing i with
 | nil => unfold Instr.findNow; rw [List.nil_append]; simp only [hx]; rfl
 | cons y A ih =>
   rw [List.cons_append]
   unfold Instr.findNow
   rw [h y List.mem_cons_self]
   simp only []
   rw [ih (fun z hz => h z (List.mem_cons_of_mem _ hz))]
   simp only [List.length_cons]
   congr 3
   omega
theorem zjO {h : AH} {k : AV} {es : List ME} {r : Option ME} (hr : findKey h k es = some r) :
  (∃ m pre post, r = some m ∧ es = pre ++ m :: post ∧ zar h k m.k = some true) ∨ (r = none ∧ ∀ m ∈ es, zar h k m.k = some false) := by
 induction es with
 | nil => cases hr; exact .inr ⟨rfl, fun m hm => by cases hm⟩
 | cons m es ih =>
   have hr' : bnd (zar h k m.k) (fun q => ite' q (some (some m)) (findKey h k es)) = some r := hr
   rw [zaa] at hr'
   obtain ⟨q, hq, hr'⟩ := hr'
   cases q with
   | true =>
     cases hr'
     exact .inl ⟨m, [], es, rfl, rfl, hq⟩
   | false =>
     rcases ih hr' with ⟨m', pre, post, rfl, rfl, he⟩ | ⟨rfl, ha⟩
     ·exact .inl ⟨m', m :: pre, post, rfl, rfl, he⟩
     ·refine .inr ⟨rfl, fun x hx => ?_⟩
      rcases List.mem_cons.1 hx with rfl | hx
      ·exact hq
      ·exact ha x hx
theorem MERs.split {p : List ME} {L : List MapEntry} (h : MERs e p L) {a b : List ME} {m : ME} (hp : p = a ++ m :: b) : ∃ A x B, L = A ++ x :: B ∧ MERs e a A ∧ MER e m x ∧ MERs e b B := by
 induction a generalizing p L with
 | nil =>
   subst hp
   cases h with
   | cons _ x _ l' h ht => exact ⟨[], x, l', rfl, .nil, h, ht⟩
 | cons c a ih =>
   subst hp
   cases h with
   | cons _ x _ l' h ht =>
     obtain ⟨A, y, B, rfl, h1, h2, h3⟩ := ih ht rfl
     exact ⟨x :: A, y, B, rfl, .cons _ _ _ _ h h1, h2, h3⟩
theorem MERs.mem {p : List ME} {L : List MapEntry} (h : MERs e p L) {x : MapEntry} (hx : x ∈ L) : ∃ m ∈ p, MER e m x := by
 induction h with
 | nil => cases hx
 | cons m y l l' h _ ih =>
   rcases List.mem_cons.1 hx with rfl | hx
   ·exact ⟨m, List.mem_cons_self, h⟩
   ·obtain ⟨m', hm, hr⟩ := ih hx
    exact ⟨m', List.mem_cons_of_mem _ hm, hr⟩
theorem MERs.append {a b : List ME} {A B : List MapEntry} (h : MERs e a A) (k : MERs e b B) : MERs e (a ++ b) (A ++ B) := by
 induction h with
 | nil => exact k
 | cons m x l l' h _ ih => exact .cons _ _ _ _ h ih
theorem zfO {h : AH} {H : Array Obj} (s : Sat e h H) {kd : TypeDesc} {k : AV} {u : Value} (hd : zed kd = true) (hk : zaq kd k = true) (hv : VR e k u) {es : List ME} {ents : Array MapEntry} {clock : Nat}
  (hm : MapR e es ents clock) (hn : ∀ m ∈ es, zar h k m.k = some false) : Instr.findNow kd u ents.toList 0 = some none ∧ ∀ x ∈ ents.toList, zkG u x.key := by
 obtain ⟨hf, hs⟩ := zjN hd hk hv
 obtain ⟨p, hp, hr⟩ := hm.perm
 have hc : ∀ x ∈ ents.toList, Cmp u x.key false := fun x hx => by
  obtain ⟨m, hmp, hmr⟩ := hr.mem hx
  have hq := hn m (hp.mem_iff.1 hmp)
  exact zaY s hv hmr.k hq hs (zea hq hs)
 exact ⟨zlS (fun x hx => zfm hf (hc x hx)) 0, fun x hx => zqN (hc x hx)⟩
theorem zfP {h : AH} {H : Array Obj} (s : Sat e h H) {kd : TypeDesc} {k : AV} {u : Value} (hd : zed kd = true) (hk : zaq kd k = true) (hv : VR e k u) {es pre post : List ME} {m : ME} {ents : Array MapEntry} {clock : Nat}
  (hm : MapR e es ents clock) (he : es = pre ++ m :: post) (hq : zar h k m.k = some true) :
  ∃ a b A x B, (a ++ m :: b).Perm es ∧ ents.toList = A ++ x :: B ∧ MERs e a A ∧ MER e m x ∧ MERs e b B ∧ x.key = u ∧ Instr.findNow kd u ents.toList 0 = some (some (A.length, x.val)) := by
 obtain ⟨hf, hs⟩ := zjN hd hk hv
 obtain ⟨p, hp, hr⟩ := hm.perm
 have hmp : m ∈ p := hp.mem_iff.2 (by rw [he]; exact List.mem_append_right _ List.mem_cons_self)
 obtain ⟨a, b, rfl⟩ := List.append_of_mem hmp
 obtain ⟨A, x, B, hL, h1, h2, h3⟩ := hr.split rfl
 have hc := zaY s hv h2.k hq hs (zea hq hs)
 have hkey := zsN hc
 have hA : ∀ y ∈ A, zkG u y.key := fun y hy => by
  have := hm.keys
  rw [hL, List.pairwise_append] at this
  rw [hkey]
  exact zgG (this.2.2 y hy x List.mem_cons_self)
 refine ⟨a, b, A, x, B, hp, hL, h1, h2, h3, hkey.symm, ?_⟩
 rw [hL]
 have := zlT (B := B) (fun y hy => zfm hf (zqO (hA y hy))) (zfm hf hc) 0
 rw [Nat.zero_add] at this
 exact this
end
end
end Go.Xe
end
section
namespace Go.Xe
noncomputable section
section
variable {P : Program} {e : Env} {w : World}
theorem zkS {t el : Nat} {k : AV} (h : mapK P t k = some el) : ∃ key kd, P.underlying t = some (.map key el) ∧ P.underlying key = some kd ∧ zed kd = true ∧ zaq kd k = true := by
 unfold mapK at h
 rw [zaa] at h
 obtain ⟨d, hd, h⟩ := h
 rw [zaa] at h
 obtain ⟨⟨key, el'⟩, hke, h⟩ := h
 rw [zaa] at h
 obtain ⟨kd, hkd, h⟩ := h
 rw [zac, zac] at h
 obtain ⟨h1, h2, h⟩ := h
 cases h
 cases d <;> simp [mapD] at hke
 obtain ⟨rfl, rfl⟩ := hke
 exact ⟨_, kd, hd, hkd, h1, h2⟩
theorem zcq {empty : Bool} {n : Nat} {key : TypeId} {kd : TypeDesc} {u : Value} (hk : P.underlying key = some kd) (hf : Fit kd u) : (Instr.checkKey empty (n + 1) key u).run P w = .ok () w := by
 unfold Instr.checkKey
 rw [zag hk]
 cases hf <;> rfl
theorem zbA {key : TypeId} {kd : TypeDesc} {u : Value} {L : List MapEntry} {r : Option (Nat × Value)} (hk : P.underlying key = some kd) (hf : Instr.findNow kd u L 0 = some r) : (Instr.findKey key u L).run P w = .ok r w := by
 unfold Instr.findKey
 rw [zag hk, hf]
 rfl
theorem zg4 {kd : TypeDesc} {u : Value} (hf : Fit kd u) : (Instr.keyThatStays u u).run P w = .ok u w := by
 have : Instr.sameBits 10000 u u = true := by cases hf <;> simp [Instr.sameBits, zh9]
 unfold Instr.keyThatStays
 rw [if_pos this]; rfl
theorem zqP {h : AH} {k v : AV} {st : Nat} {es es' : List ME} (hp : zhJ h k v st es = some es') :
  (∃ pre m post, es = pre ++ m :: post ∧ zar h k m.k = some true ∧ es' = pre ++ ⟨m.k, v, m.s⟩ :: post) ∨ ((∀ m ∈ es, zar h k m.k = some false) ∧ es' = es ++ [⟨k, v, st⟩]) := by
 induction es generalizing es' with
 | nil => cases hp; exact .inr ⟨fun m hm => (by cases hm), rfl⟩
 | cons m es ih =>
   have hp' : bnd (zar h k m.k) (fun q => ite' q (some (⟨m.k, v, m.s⟩ :: es)) (bnd (zhJ h k v st es) fun t => some (m :: t))) = some es' := hp
   rw [zaa] at hp'
   obtain ⟨q, hq, hp'⟩ := hp'
   cases q with
   | true => cases hp'; exact .inl ⟨[], m, es, rfl, hq, rfl⟩
   | false =>
     have hp2 : bnd (zhJ h k v st es) (fun t => some (m :: t)) = some es' := hp'
     rw [zaa] at hp2
     obtain ⟨t, ht, hp2⟩ := hp2
     cases hp2
     rcases ih ht with ⟨pre, m', post, rfl, he, rfl⟩ | ⟨ha, rfl⟩
     ·exact .inl ⟨m :: pre, m', post, rfl, he, rfl⟩
     ·refine .inr ⟨fun x hx => ?_, rfl⟩
      rcases List.mem_cons.1 hx with rfl | hx
      ·exact hq
      ·exact ha x hx
theorem MapR.change {es pre post a b : List ME} {m m' : ME} {A B : List MapEntry} {x x' : MapEntry} {ents ents' : Array MapEntry} {clock : Nat} (h : MapR e es ents clock)
  (he : es = pre ++ m :: post) (hp : (a ++ m :: b).Perm es) (hL : ents.toList = A ++ x :: B) (hL' : ents'.toList = A ++ x' :: B) (h1 : MERs e a A) (h2 : MER e m' x') (h3 : MERs e b B) (hk : x'.key = x.key) (hb : x'.born = x.born) :
  MapR e (pre ++ m' :: post) ents' clock := by
 refine ⟨⟨a ++ m' :: b, ?_, ?_⟩, ?_, ?_, ?_⟩
 ·have : (a ++ b).Perm (pre ++ post) := by
   have h4 : (m :: (a ++ b)).Perm (m :: (pre ++ post)) := (List.perm_middle.symm.trans (he ▸ hp)).trans List.perm_middle
   exact (List.perm_cons m).1 h4
  exact (List.perm_middle.trans ((List.perm_cons m').2 this)).trans List.perm_middle.symm
 ·rw [hL']
  exact h1.append (.cons _ _ _ _ h2 h3)
 ·intro y hy
  rw [hL'] at hy
  have hb' := h.born
  rw [hL] at hb'
  rcases List.mem_append.1 hy with hy | hy
  ·exact hb' y (List.mem_append_left _ hy)
  ·rcases List.mem_cons.1 hy with rfl | hy
   ·rw [hb]; exact hb' x (List.mem_append_right _ List.mem_cons_self)
   ·exact hb' y (List.mem_append_right _ (List.mem_cons_of_mem _ hy))
 ·have hs := h.stamps
  rw [hL, List.pairwise_append, List.pairwise_cons] at hs
  rw [hL', List.pairwise_append, List.pairwise_cons]
  refine ⟨hs.1, ⟨fun y hy => by rw [hb]; exact hs.2.1.1 y hy, hs.2.1.2⟩, fun y hy z hz => ?_⟩
  rcases List.mem_cons.1 hz with rfl | hz
  ·rw [hb]; exact hs.2.2 y hy x List.mem_cons_self
  ·exact hs.2.2 y hy z (List.mem_cons_of_mem _ hz)
 ·have hs := h.keys
  rw [hL, List.pairwise_append, List.pairwise_cons] at hs
  rw [hL', List.pairwise_append, List.pairwise_cons]
  refine ⟨hs.1, ⟨fun y hy => by rw [hk]; exact hs.2.1.1 y hy, hs.2.1.2⟩, fun y hy z hz => ?_⟩
  rcases List.mem_cons.1 hz with rfl | hz
  ·rw [hk]; exact hs.2.2 y hy x List.mem_cons_self
  ·exact hs.2.2 y hy z (List.mem_cons_of_mem _ hz)
theorem MapR.push {es : List ME} {ents : Array MapEntry} {clock : Nat} (h : MapR e es ents clock) {m : ME} {x : MapEntry} (hm : MER e m x) (hb : x.born = clock) (hk : ∀ y ∈ ents.toList, zkG x.key y.key) :
  MapR e (es ++ [m]) (ents.push x) (clock + 1) := by
 obtain ⟨p, hp, hr⟩ := h.perm
 refine ⟨⟨p ++ [m], hp.append_right _, ?_⟩, ?_, ?_, ?_⟩
 ·rw [Array.toList_push]
  exact hr.append (.cons _ _ _ _ hm .nil)
 ·intro y hy
  rw [Array.toList_push] at hy
  rcases List.mem_append.1 hy with hy | hy
  ·exact Nat.lt_succ_of_lt (h.born y hy)
  ·rw [List.mem_singleton.1 hy, hb]; exact Nat.lt_succ_self _
 ·rw [Array.toList_push, List.pairwise_append]
  refine ⟨h.stamps, List.pairwise_singleton _ _, fun y hy z hz => ?_⟩
  rw [List.mem_singleton.1 hz, hb]
  exact Nat.ne_of_lt (h.born y hy)
 ·rw [Array.toList_push, List.pairwise_append]
  refine ⟨h.keys, List.pairwise_singleton _ _, fun y hy z hz => ?_⟩
  rw [List.mem_singleton.1 hz]
  exact zgG (hk y hy)
theorem Sat.mapAt {h : AH} {H : Array Obj} (s : Sat e h H) {b : Nat} {p : List ME × Nat} {L : Loc} (hb : h.map b = some p) (hl : e.loc b = some L) :
  h.get b = some (.map p.1 p.2) ∧ ∃ ents, H[L.blk]? = some (.map ents p.2) ∧ MapR e p.1 ents p.2 := by
 unfold AH.map at hb
 rw [zaa] at hb
 obtain ⟨en, hen, hes⟩ := hb
 cases en <;> simp [mapE] at hes
 subst hes
 obtain ⟨l, o, hl', ho, hr⟩ := s.ents b _ hen
 rw [hl] at hl'; cases hl'
 cases hr with
 | map _ _ _ ents hm => exact ⟨hen, ents, ho, hm⟩
theorem zbI {r : Nat} {ents : Array MapEntry} {clock : Nat} (h : w.heap[r]? = some (.map ents clock)) : (getObj r).run P w = .ok (.map ents clock) w := by
 simp only [getObj, Sem.run, h]
theorem zce {r : Nat} {ents : Array MapEntry} {clock : Nat} (h : w.heap[r]? = some (.map ents clock)) (o : Obj) : (setObj r o).run P w = .ok () { w with heap := w.heap.setIfInBounds r o } := by
 simp only [setObj, Sem.run, h]
theorem zgH {ok : Bool} {v : AV} {u : Value} (hv : VR e v u) (b : Bool) : VR e (zcO ok v b) (if ok then .tuple #[u, .bool b] else u) := by
 unfold zcO
 rw [zaK]
 cases ok with
 | true => exact .tup _ _ (.cons _ _ _ _ hv (.cons _ _ _ _ (.bool b) .nil))
 | false => exact hv
theorem zg5 {h : AH} (s : Sat e h w.heap) {t : TypeId} {ok : Bool} {m k v : AV} {um uk : Value} (hm : VR e m um) (hk : VR e k uk) (hv : znd P t ok m k h = some v) :
  Runs P (Instr.lookup t um uk ok) w fun u' w' => VR e v u' ∧ w' = w := by
 unfold znd at hv
 rw [zaa] at hv
 obtain ⟨el, hel, hv⟩ := hv
 rw [zaa] at hv
 obtain ⟨es, hes, hv⟩ := hv
 rw [zaa] at hv
 obtain ⟨r, hr, hv⟩ := hv
 obtain ⟨key, kd, hd, hkd, hsd, hko⟩ := zkS hel
 obtain ⟨hf, _⟩ := zjN hsd hko hk
 have main : ∀ (ents : Array MapEntry), (∃ clock, MapR e es ents clock) →
   Runs P (do
    Instr.checkKey ents.isEmpty 10000 key uk
    let (v, ok') ← match ← Instr.findKey key uk ents.toList with
     | some (_, v) => pure (v, true)
     | none => pure (← zeroValue el, false)
    pure (if ok then .tuple #[v, .bool ok'] else v)) w fun u' w' => VR e v u' ∧ w' = w := by
  rintro ents ⟨clock, hR⟩
  refine Runs.bind' ⟨(), w, zcq hkd hf, ?_⟩
  rcases zjO hr with ⟨m', pre, post, rfl, rfl, hq⟩ | ⟨rfl, hn⟩
  ·obtain ⟨a, b, A, x, B, hp, hL, h1, h2, h3, hkx, hfn⟩ := zfP s hsd hko hk hR rfl hq
   have hv' : some (zcO ok m'.v true) = some v := hv
   cases hv'
   refine Runs.bind' ⟨_, w, zbA hkd hfn, ?_⟩
   exact ⟨_, w, rfl, zgH h2.v true, rfl⟩
  ·obtain ⟨hfn, _⟩ := zfO s hsd hko hk hR hn
   have hv' : bnd (zfc P el) (fun z => some (zcO ok z false)) = some v := hv
   rw [zaa] at hv'
   obtain ⟨z, hz, hv'⟩ := hv'
   cases hv'
   obtain ⟨uz, hrz, hzr⟩ := zdT (P := P) (w := w) (e := e) hz
   refine Runs.bind' ⟨_, w, zbA hkd hfn, ?_⟩
   refine ⟨if ok then .tuple #[uz, .bool false] else uz, w, ?_, zgH hzr false, rfl⟩
   show Sem.run P (zeroValue el >>= _) w = _
   rw [zab, hrz]; rfl
 unfold Instr.lookup
 refine Runs.run_eq (zag hd) ?_
 cases m <;> try (simp [zee] at hes; done)
 case map b =>
  obtain ⟨L, hL, rfl⟩ := zh2 hm
  have hes' : bnd (h.map b) (fun p => some p.1) = some es := hes
  rw [zaa] at hes'
  obtain ⟨p, hp, hes'⟩ := hes'
  cases hes'
  obtain ⟨hg, ents, hH, hR⟩ := s.mapAt hp hL
  refine Runs.run_eq ?_ (main ents ⟨_, hR⟩)
  show Sem.run P (getObj L.blk >>= _) w = _
  rw [zab, zbI hH]
  rfl
 case mnil =>
  cases hm
  cases hes
  exact main #[] ⟨0, ⟨⟨[], .refl _, .nil⟩, fun x hx => by simp at hx, by simp, by simp⟩⟩
theorem zlU {e' : Env} {h : AH} (hle : e.le e') (hloc : e'.loc = e.loc) : Step e h w e' h.more w :=
 ⟨hle, Nat.le_succ _, Nat.le_refl _, fun X hX hO => ⟨rfl, fun ⟨b, en, l, hb, hl, hX⟩ => hO ⟨b, en, l, hb, by rw [← hloc]; exact hl, hX⟩⟩, rfl, rfl, rfl, fun _ _ h => .inl (hloc ▸ h), fun _ _ h => h⟩
theorem put_step {h : AH} (s : Sat e h w.heap) {kd : TypeDesc} {k v : AV} {uk uv : Value} (hsd : zed kd = true) (hko : zaq kd k = true) (hk : VR e k uk) (hv : VR e v uv) {b : Nat} {L : Loc} (hL : e.loc b = some L)
  {es es' : List ME} {ents : Array MapEntry} {clock : Nat} (hg : h.get b = some (.map es clock)) (hR : MapR e es ents clock) (hp : zhJ h.more k v h.next es = some es') :
  (∃ A x B, ents.toList = A ++ x :: B ∧ x.key = uk ∧ Instr.findNow kd uk ents.toList 0 = some (some (A.length, x.val)) ∧
   ∀ ents' : Array MapEntry, ents'.toList = A ++ { x with key := uk, val := uv } :: B →
     Sat e (h.more.set b (.map es' (ckOf (es, clock) es'))) (w.heap.setIfInBounds L.blk (.map ents' clock)) ∧ Step e h w e (h.more.set b (.map es' (ckOf (es, clock) es'))) { w with heap := w.heap.setIfInBounds L.blk (.map ents' clock) }) ∨
  (Instr.findNow kd uk ents.toList 0 = some none ∧
   Sat (e.stamp h.next clock) (h.more.set b (.map es' (ckOf (es, clock) es'))) (w.heap.setIfInBounds L.blk (.map (ents.push { key := uk, val := uv, born := clock }) (clock + 1))) ∧
   Step e h w (e.stamp h.next clock) (h.more.set b (.map es' (ckOf (es, clock) es'))) { w with heap := w.heap.setIfInBounds L.blk (.map (ents.push { key := uk, val := uv, born := clock }) (clock + 1)) }) := by
 have sm := s.more
 rcases zqP hp with ⟨pre, m, post, rfl, hq, rfl⟩ | ⟨hn, rfl⟩
 ·left
  obtain ⟨a, b', A, x, B, hperm, hLs, h1, h2, h3, hkx, hfn⟩ := zfP sm hsd hko hk hR rfl hq
  refine ⟨A, x, B, hLs, hkx, hfn, fun ents' hL' => ?_⟩
  have hR' : MapR e (pre ++ ⟨m.k, v, m.s⟩ :: post) ents' clock :=
   hR.change rfl hperm hLs hL' h1 ⟨by rw [← hkx]; exact h2.k, hv, h2.s⟩ h3 hkx.symm rfl
  have hg' : h.more.get b = some (.map (pre ++ m :: post) clock) := hg
  have hck : ckOf (pre ++ m :: post, clock) (pre ++ (⟨m.k, v, m.s⟩ : ME) :: post) = clock := by
   unfold ckOf
   rw [zaL, zaU, zaU]
   show clock + ((pre ++ (⟨m.k, v, m.s⟩ : ME) :: post).length - (pre ++ m :: post).length) = clock
   simp
  rw [hck]
  refine ⟨sm.setObj hg' hL (sm.alone hg' hL rfl) (.map _ _ _ _ hR') (fun c hc => by cases hc) (fun h => by cases h), ?_⟩
  exact (zlU (w := w) (h := h) (.refl e) rfl).trans (Step.setObj (w := w) sm _ hg' hL)
 ·right
  obtain ⟨hfn, hkn⟩ := zfO sm hsd hko hk hR hn
  have ss := s.stamp clock
  have hle := Env.stamp_le (v := clock) s.noStp
  have hR1 := hR.mono hle
  have hR' : MapR (e.stamp h.next clock) (es ++ [⟨k, v, h.next⟩]) (ents.push { key := uk, val := uv, born := clock }) (clock + 1) :=
   hR1.push ⟨hk.mono hle, hv.mono hle, if_pos rfl⟩ rfl hkn
  have hg' : h.more.get b = some (.map es clock) := hg
  have hck : ckOf (es, clock) (es ++ [(⟨k, v, h.next⟩ : ME)]) = clock + 1 := by
   unfold ckOf
   rw [zaL, zaU, zaU]
   show clock + ((es ++ [(⟨k, v, h.next⟩ : ME)]).length - es.length) = clock + 1
   simp
  rw [hck]
  have hL' : (e.stamp h.next clock).loc b = some L := hL
  refine ⟨hfn, ss.setObj hg' hL' (ss.alone hg' hL' rfl) (.map _ _ _ _ hR') (fun c hc => by cases hc) (fun h => by cases h), ?_⟩
  exact (zlU (w := w) (h := h) hle rfl).trans (Step.setObj (w := w) ss _ hg' hL')
theorem zij {A B : List MapEntry} {x : MapEntry} {ents : Array MapEntry} (h : ents.toList = A ++ x :: B) (f : MapEntry → MapEntry) : (ents.modify A.length f).toList = A ++ f x :: B := by
 rw [Array.toList_modify, h]
 clear h
 induction A with
 | nil => rfl
 | cons a A ih => rw [List.cons_append, List.length_cons, List.modify_succ_cons, ih]; rfl
theorem zqQ {A B : List MapEntry} {x : MapEntry} {ents : Array MapEntry} (h : ents.toList = A ++ x :: B) : ents[A.length]? = some x := by
 rw [← Array.getElem?_toList, h]
 simp
theorem zg6 {h : AH} (s : Sat e h w.heap) {t : TypeId} {m k v : AV} {um uk uv : Value} {h' : AH} (hm : VR e m um) (hk : VR e k uk) (hv : VR e v uv) (hu : zoD P t m k v h = some h') :
  Runs P (Instr.mapUpdate t um uk uv) w fun _ w' => OutH e h w h' w' := by
 unfold zoD at hu
 rw [zel] at hu
 obtain ⟨b, rfl, hu⟩ := hu
 rw [zaa] at hu
 obtain ⟨el, hel, hu⟩ := hu
 rw [zaa] at hu
 obtain ⟨es, hes, hu⟩ := hu
 rw [AH.skip_eq, zaa] at hu
 obtain ⟨es', hp, hu⟩ := hu
 cases hu
 obtain ⟨key, kd, hd, hkd, hsd, hko⟩ := zkS hel
 obtain ⟨hf, _⟩ := zjN hsd hko hk
 obtain ⟨L, hL, rfl⟩ := zh2 hm
 obtain ⟨hg, ents, hH, hR⟩ := s.mapAt hes hL
 unfold Instr.mapUpdate
 refine Runs.run_eq (zag hd) ?_
 simp only []
 refine Runs.bind' ⟨_, w, zbI hH, ?_⟩
 simp only []
 refine Runs.bind' ⟨(), w, zcq hkd hf, ?_⟩
 rcases put_step s hsd hko hk hv hL hg hR hp with ⟨A, x, B, hLs, hkx, hfn, hput⟩ | ⟨hfn, hs', hst⟩
 ·refine Runs.bind' ⟨_, w, zbA hkd hfn, ?_⟩
  simp only []
  have hold : ((ents[A.length]?).map (·.key)).getD uk = uk := by rw [zqQ hLs]; exact hkx
  rw [hold]
  refine Runs.bind' ⟨_, w, zg4 hf, ?_⟩
  obtain ⟨hs', hst⟩ := hput _ (zij hLs fun e => { e with key := uk, val := uv })
  exact ⟨(), _, zce hH _, e, hs', hst⟩
 ·refine Runs.bind' ⟨_, w, zbA hkd hfn, ?_⟩
  exact ⟨(), _, zce hH _, _, hs', hst⟩
end
end
end Go.Xe
end
section
namespace Go.Xe
noncomputable section
section
variable {P : Program} {e : Env} {w : World}
theorem zsO {α : Type} {a : Array α} {i : Nat} {x : α} (h : a[i]? = some x) : a.setIfInBounds i x = a := by
 apply Array.ext
 ·simp
 ·intro j h1 h2
  rw [Array.getElem_setIfInBounds]
  split
  ·next hij => subst hij; rw [Array.getElem?_eq_getElem h2] at h; exact (Option.some.inj h).symm
  ·rfl
theorem zjk {h : AH} (s : Sat e h w.heap) {t : TypeId} {m k v : AV} {um uk : Value} {h' : AH} (hm : VR e m um) (hk : VR e k uk) (hu : zhK P t m k h = some (v, h')) :
  Runs P (Instr.mapEntry t um uk) w fun u' w' => Out e h w v h' u' w' := by
 unfold zhK at hu
 rw [zel] at hu
 obtain ⟨b, rfl, hu⟩ := hu
 rw [zaa] at hu
 obtain ⟨el, hel, hu⟩ := hu
 rw [zaa] at hu
 obtain ⟨es, hes, hu⟩ := hu
 rw [zaa] at hu
 obtain ⟨r, hr, hu⟩ := hu
 obtain ⟨key, kd, hd, hkd, hsd, hko⟩ := zkS hel
 obtain ⟨hf, _⟩ := zjN hsd hko hk
 obtain ⟨L, hL, rfl⟩ := zh2 hm
 obtain ⟨hg, ents, hH, hR⟩ := s.mapAt hes hL
 unfold Instr.mapEntry
 refine Runs.run_eq (zag hd) ?_
 simp only []
 refine Runs.bind' ⟨_, w, zbI hH, ?_⟩
 simp only []
 refine Runs.bind' ⟨(), w, zcq hkd hf, ?_⟩
 rcases zjO hr with ⟨m', pre, post, rfl, hes1, hq⟩ | ⟨rfl, hn⟩
 ·have hu' : some (AV.tup [m'.v, .stp m'.s], h) = some (v, h') := hu
  cases hu'
  obtain ⟨a, b', A, x, B, hp, hLs, h1, h2, h3, hkx, hfn⟩ := zfP s hsd hko hk hR hes1 hq
  refine Runs.bind' ⟨_, w, zbA hkd hfn, ?_⟩
  simp only []
  have hold : ((ents[A.length]?).map (·.key)).getD uk = uk := by rw [zqQ hLs]; exact hkx
  have hborn : ((ents[A.length]?).map fun x => (x.born : Int)).getD 0 = (x.born : Int) := by rw [zqQ hLs]; rfl
  rw [hold, hborn]
  refine Runs.bind' ⟨_, w, zg4 hf, ?_⟩
  have hsame : (ents.modify A.length fun e => { e with key := uk }) = ents := by
   apply Array.ext'
   rw [zij hLs, hLs, ← hkx]
  simp only []
  rw [hsame]
  refine Runs.bind' ⟨_, _, zce hH _, ?_⟩
  have hw : ({ w with heap := w.heap.setIfInBounds L.blk (.map ents es.2) } : World) = w := by rw [zsO hH]
  simp only []
  rw [hw]
  exact Runs.pure' (.same s (.tup _ _ (.cons _ _ _ _ h2.v (.cons _ _ _ _ (.stp _ _ h2.s) .nil))))
 ·have hu' : bnd (zfc P el) (fun z => h.skip fun s h => bnd (zhJ h k z s es.1) fun es1 => some (AV.tup [z, .stp s], h.set b (.map es1 (ckOf es es1)))) = some (v, h') := hu
  rw [zaa] at hu'
  obtain ⟨z, hz, hu'⟩ := hu'
  rw [AH.skip_eq, zaa] at hu'
  obtain ⟨es', hp, hu'⟩ := hu'
  cases hu'
  obtain ⟨uz, hrz, hzr⟩ := zdT (P := P) (w := w) (e := e) hz
  obtain ⟨hfn, _⟩ := zfO s hsd hko hk hR hn
  refine Runs.bind' ⟨_, w, zbA hkd hfn, ?_⟩
  simp only []
  refine Runs.bind' ⟨_, w, hrz, ?_⟩
  rcases put_step s hsd hko hk hzr hL hg hR hp with ⟨A, x, B, hLs, hkx, hfn', hput⟩ | ⟨_, hs', hst⟩
  ·rw [hfn] at hfn'; cases hfn'
  ·refine Runs.bind' ⟨_, _, zce hH _, ?_⟩
   refine Runs.pure' ⟨_, hs', ?_, hst⟩
   exact .tup _ _ (.cons _ _ _ _ (hzr.mono hst.le) (.cons _ _ _ _ (.stp _ _ (if_pos rfl)) .nil))
theorem znB {v : AV} {st : Nat} {es es' : List ME} (hp : zkn v st es = some es') : ∃ pre m post, es = pre ++ m :: post ∧ m.s = st ∧ es' = pre ++ ⟨m.k, v, m.s⟩ :: post := by
 induction es generalizing es' with
 | nil => cases hp
 | cons m es ih =>
   have hp' : ite' (Nat.beq st m.s) (some (⟨m.k, v, m.s⟩ :: es)) (bnd (zkn v st es) fun t => some (m :: t)) = some es' := hp
   rw [zav] at hp'
   rcases hp' with ⟨hq, hp'⟩ | ⟨_, hp'⟩
   ·cases hp'
    rw [zae] at hq
    exact ⟨[], m, es, rfl, hq.symm, rfl⟩
   ·rw [zaa] at hp'
    obtain ⟨t, ht, hp'⟩ := hp'
    cases hp'
    obtain ⟨pre, m', post, rfl, h1, rfl⟩ := ih ht
    exact ⟨m :: pre, m', post, rfl, h1, rfl⟩
theorem zpD {A B : List MapEntry} {x : MapEntry} {ents : Array MapEntry} (h : ents.toList = A ++ x :: B) (p : MapEntry → Bool) (hA : ∀ y ∈ A, p y = false) (hx : p x = true) : ents.findIdx? p = some A.length := by
 have hc : ents.findIdx? p = ents.toList.findIdx? p := by
  obtain ⟨l⟩ := ents
  simp
 rw [hc, h]
 clear h hc
 induction A with
 | nil => rw [List.nil_append, List.findIdx?_cons, hx]; rfl
 | cons a A ih =>
   rw [List.cons_append, List.findIdx?_cons, hA a List.mem_cons_self, ih (fun y hy => hA y (List.mem_cons_of_mem _ hy))]
   simp
theorem zhp {h : AH} (s : Sat e h w.heap) {t : TypeId} {m k v : AV} {um uk uv : Value} {h' : AH} (hm : VR e m um) (hk : VR e k uk) (hv : VR e v uv) (hu : zfd m k v h = some h') :
  Runs P (Instr.entryStore t um uk uv) w fun _ w' => OutH e h w h' w' := by
 unfold zfd at hu
 rw [zel] at hu
 obtain ⟨b, rfl, hu⟩ := hu
 rw [zuw] at hu
 obtain ⟨st, rfl, hu⟩ := hu
 rw [zaa] at hu
 obtain ⟨es, hes, hu⟩ := hu
 rw [zaa] at hu
 obtain ⟨es', hp, hu⟩ := hu
 cases hu
 obtain ⟨L, hL, rfl⟩ := zh2 hm
 obtain ⟨hg, ents, hH, hR⟩ := s.mapAt hes hL
 cases hk with
 | stp _ n hn =>
   obtain ⟨pre, m', post, hes1, hms, rfl⟩ := znB hp
   obtain ⟨p, hperm, hr⟩ := hR.perm
   have hmp : m' ∈ p := hperm.mem_iff.2 (hes1 ▸ List.mem_append_right _ List.mem_cons_self)
   obtain ⟨a, b', rfl⟩ := List.append_of_mem hmp
   obtain ⟨A, x, B, hLs, h1, h2, h3⟩ := hr.split rfl
   have hxb : x.born = n := by
    have := h2.s
    rw [hms, hn] at this
    exact (Option.some.inj this).symm
   have hA : ∀ y ∈ A, y.born ≠ n := fun y hy => by
    have := hR.stamps
    rw [hLs, List.pairwise_append] at this
    have := this.2.2 y hy x List.mem_cons_self
    rw [hxb] at this; exact this
   have hidx : ents.findIdx? (fun e => (e.born : Int) == (n : Int)) = some A.length :=
    zpD hLs _ (fun y hy => by rw [beq_eq_false_iff_ne]; intro hh; exact hA y hy (by exact_mod_cast hh)) (by rw [hxb]; simp)
   have hR' : MapR e (pre ++ ⟨m'.k, v, m'.s⟩ :: post) (ents.modify A.length fun e => { e with val := uv }) es.2 :=
    hR.change hes1 hperm hLs (zij hLs _) h1 ⟨h2.k, hv, h2.s⟩ h3 rfl rfl
   refine ⟨(), _, ?_, e, s.setObj hg hL (s.alone hg hL rfl) (.map _ _ _ _ hR') (fun c hc => by cases hc) (fun h => by cases h), Step.setObj (w := w) s _ hg hL⟩
   unfold Instr.entryStore
   show Sem.run P (getObj L.blk >>= _) w = _
   rw [zab, zbI hH]
   show Sem.run P (match ents.findIdx? (fun e => (e.born : Int) == (n : Int)) with | some i => _ | none => _) w = _
   rw [hidx]
   exact zce hH _
end
end
end Go.Xe
end
