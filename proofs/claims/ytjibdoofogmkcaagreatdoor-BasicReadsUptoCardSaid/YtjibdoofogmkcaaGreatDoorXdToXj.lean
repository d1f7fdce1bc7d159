/-
  Loads and stores of the executor against the model's; The executor's operations on values and cells against the model's instructions; Elements, strings, slices: the executor against the model; Strings as numbers: equality, order, sums, parts; Equality: the executor against the model. Conditions: none.
-/
import Derived.Test.YtjibdoofogmkcaaGreatDoorXaToXc
import Derived.Laws.Strings
set_option linter.unusedVariables false
set_option linter.unusedSimpArgs false
set_option linter.unusedSectionVars false
section
namespace Go.Xe
noncomputable section
def Runs {α : Type} (P : Program) (s : Sem α) (w : World) (Q : α → World → Prop) : Prop := ∃ a w', s.run P w = .ok a w' ∧ Q a w'
theorem run_bind {α β : Type} (P : Program) (s : Sem α) (f : α → Sem β) (w : World) :
    (s.bind f).run P w = match s.run P w with | .ok a w' => (f a).run P w' | .halt h w' => .halt h w' := by
  show Sem.run P (s >>= f) w = _
  rw [Sem.run_bind]
  cases s.run P w <;> rfl
theorem Runs.bind {α β : Type} {P : Program} {s : Sem α} {f : α → Sem β} {w : World} {Q : β → World → Prop}
    (h : Runs P s w fun a w' => Runs P (f a) w' Q) : Runs P (s.bind f) w Q := by
  obtain ⟨a, w', hs, b, w'', hf, hQ⟩ := h
  exact ⟨b, w'', by rw [run_bind, hs]; exact hf, hQ⟩
theorem Runs.bind' {α β : Type} {P : Program} {s : Sem α} {f : α → Sem β} {w : World} {Q : β → World → Prop}
    (h : Runs P s w fun a w' => Runs P (f a) w' Q) : Runs P (s >>= f) w Q := Runs.bind h
theorem Runs.pure {α : Type} {P : Program} {a : α} {w : World} {Q : α → World → Prop} (h : Q a w) : Runs P (Sem.pure a) w Q := ⟨a, w, rfl, h⟩
theorem Runs.pure' {α : Type} {P : Program} {a : α} {w : World} {Q : α → World → Prop} (h : Q a w) : Runs P (Pure.pure a : Sem α) w Q := ⟨a, w, rfl, h⟩
theorem Runs.mono {α : Type} {P : Program} {s : Sem α} {w : World} {Q Q' : α → World → Prop} (h : Runs P s w Q) (k : ∀ a w', Q a w' → Q' a w') : Runs P s w Q' :=
  let ⟨a, w', hs, hQ⟩ := h; ⟨a, w', hs, k _ _ hQ⟩
theorem Runs.of {α : Type} {P : Program} {s : Sem α} {w w' : World} {a : α} {Q : α → World → Prop} (h : s.run P w = .ok a w') (hQ : Q a w') : Runs P s w Q := ⟨a, w', h, hQ⟩
section
variable {P : Program} {w : World}
theorem runs_info {α : Type} {t : TypeId} {i : TypeInfo} (h : P.info? t = some i) {f : TypeInfo → Sem α} {Q : α → World → Prop} (k : Runs P (f i) w Q) : Runs P (typeInfo t >>= f) w Q := by
  refine Runs.bind' ⟨i, w, ?_, k⟩
  show (match P.info? t with | some i => (Pure.pure i : Sem TypeInfo) | none => stuck "no such type").run P w = _
  rw [h]; rfl
theorem runs_under {α : Type} {t : TypeId} {d : TypeDesc} (h : P.underlying t = some d) {f : TypeDesc → Sem α} {Q : α → World → Prop} (k : Runs P (f d) w Q) : Runs P (underlying t >>= f) w Q := by
  refine Runs.bind' ⟨d, w, ?_, k⟩
  show (match P.underlying t with | some i => (Pure.pure i : Sem TypeDesc) | none => stuck "no such type").run P w = _
  rw [h]; rfl
theorem run_info {t : TypeId} {i : TypeInfo} (h : P.info? t = some i) : (typeInfo t).run P w = .ok i w := by
  show (match P.info? t with | some i => (Pure.pure i : Sem TypeInfo) | none => stuck "no such type").run P w = _
  rw [h]; rfl
theorem run_under {t : TypeId} {d : TypeDesc} (h : P.underlying t = some d) : (underlying t).run P w = .ok d w := by
  show (match P.underlying t with | some i => (Pure.pure i : Sem TypeDesc) | none => stuck "no such type").run P w = _
  rw [h]; rfl
theorem sizeA_eq {t n : Nat} (h : sizeA P t = some n) : ∃ i, P.info? t = some i ∧ i.size = n := by
  unfold sizeA at h; rw [bnd_eq] at h
  obtain ⟨i, hi, hn⟩ := h
  exact ⟨i, hi, Option.some.inj hn⟩
theorem run_size {t n : Nat} (h : sizeA P t = some n) : (sizeOf t).run P w = .ok n w := by
  obtain ⟨i, hi, rfl⟩ := sizeA_eq h
  show ((typeInfo t).bind fun i => Pure.pure i.size).run P w = _
  rw [run_bind, run_info hi]; rfl
theorem runs_size {α : Type} {t n : Nat} (h : sizeA P t = some n) {f : Nat → Sem α} {Q : α → World → Prop} (k : Runs P (f n) w Q) : Runs P (sizeOf t >>= f) w Q :=
  Runs.bind' ⟨n, w, run_size h, k⟩
theorem run_isAgg {t : Nat} {g : Bool} (h : aggA P t = some g) : (isAgg t).run P w = .ok g w := by
  unfold aggA at h; rw [bnd_eq] at h
  obtain ⟨d, hd, hg⟩ := h
  cases hg
  show ((underlying t).bind fun d => match d with | .struct _ => Pure.pure true | .array _ _ => Pure.pure true | _ => Pure.pure false).run P w = _
  rw [run_bind, run_under hd]
  cases d <;> rfl
theorem runs_isAgg {α : Type} {t : Nat} {g : Bool} (h : aggA P t = some g) {f : Bool → Sem α} {Q : α → World → Prop} (k : Runs P (f g) w Q) : Runs P (isAgg t >>= f) w Q :=
  Runs.bind' ⟨g, w, run_isAgg h, k⟩
end
theorem cells_eq {h : AH} {b : Nat} {l : List AV} (hc : h.cells b = some l) : ∃ ty wr fz olds, h.get b = some (.cells l ty wr fz olds) := by
  unfold AH.cells at hc; rw [bnd_eq] at hc
  obtain ⟨en, he, hl⟩ := hc
  cases en <;> simp [cellsE] at hl
  subst hl
  exact ⟨_, _, _, _, he⟩
theorem Sat.row {e : Env} {h : AH} {H : Array Obj} (s : Sat e h H) {b : Nat} {l : List AV} {ty fz : Nat} {wr : Bool} {olds : List Nat} {L : Loc}
    (hb : h.get b = some (.cells l ty wr fz olds)) (hl : e.loc b = some L) :
    ∃ arr T lo hi, H[L.blk]? = some (.cells arr T (lo, hi)) ∧ CellsR e l ty fz L arr T lo hi := by
  obtain ⟨L', o, hl', ho, hr⟩ := s.ents b _ hb
  rw [hl] at hl'; cases hl'
  cases hr with
  | cells _ _ _ _ _ _ arr T lo hi hr => exact ⟨arr, T, lo, hi, ho, hr⟩
theorem readCell_sound {P : Program} {e : Env} {h : AH} {w : World} (s : Sat e h w.heap) {b o : Nat} {v : AV} {L : Loc} (hl : e.loc b = some L) (hr : readCell h b o = some v) :
    ∃ u, (Go.load ⟨L.blk, L.off + o, none⟩).run P w = .ok u w ∧ VR e v u := by
  unfold readCell at hr; rw [bnd_eq] at hr
  obtain ⟨l, hc, hv⟩ := hr
  obtain ⟨ty, wr, fz, olds, hb⟩ := cells_eq hc
  obtain ⟨arr, T, lo, hi, hH, hR⟩ := s.row hb hl
  rw [nth_eq] at hv
  obtain ⟨u, hu, hvr⟩ := hR.vals o v hv
  exact ⟨u, run_load_cell hH hu .pure, hvr⟩
theorem readCells_sound {P : Program} {e : Env} {h : AH} {w : World} (s : Sat e h w.heap) {b o n : Nat} {r : List AV} {L : Loc} (hl : e.loc b = some L) (hr : readCells h b o n = some r) :
    ∃ us : Array Value, (loadCells ⟨L.blk, L.off + o, none⟩ n).run P w = .ok us w ∧ VRs e r us.toList := by
  unfold readCells at hr; rw [bnd_eq] at hr
  obtain ⟨l, hc, hv⟩ := hr
  obtain ⟨ty, wr, fz, olds, hb⟩ := cells_eq hc
  obtain ⟨arr, T, lo, hi, hH, hR⟩ := s.row hb hl
  rw [cut_eq] at hv
  by_cases hlen : o + n ≤ l.length
  · rw [if_pos hlen] at hv
    cases hv
    have h1 := hR.len
    have h2 := hR.room
    refine ⟨arr.extract (L.off + o) (L.off + o + n), ?_, ?_⟩
    · have := run_loadCellsFrom (P := P) hH n 0 #[] (p := L.off + o) (by omega)
      rw [show (loadCells ⟨L.blk, L.off + o, none⟩ n) = loadCellsFrom ⟨L.blk, L.off + o, none⟩ 0 n #[] from rfl, this]
      simp
    · refine VRs.of_get (by simp; omega) fun i v u hi' hu => ?_
      have hin : i < n := by
        have : i < ((l.drop o).take n).length := by
          rcases Nat.lt_or_ge i ((l.drop o).take n).length with h | h
          · exact h
          · rw [List.getElem?_eq_none h] at hi'; cases hi'
        simp at this; omega
      have hv : l[o + i]? = some v := by
        rw [List.getElem?_take, if_pos hin, List.getElem?_drop] at hi'; exact hi'
      obtain ⟨u', hu', hvr⟩ := hR.vals (o + i) v hv
      have : (arr.extract (L.off + o) (L.off + o + n)).toList[i]? = some u' := by
        rw [Array.getElem?_toList, Array.getElem?_extract, if_pos (by omega), show L.off + o + i = L.off + (o + i) by omega]; exact hu'
      rw [this] at hu; cases hu; exact hvr
  · rw [if_neg hlen] at hv; cases hv
theorem allC_iff (l : List AV) : allC l = true ↔ ∀ v ∈ l, cellV v = true := by
  induction l with
  | nil => simp [allC]
  | cons v l ih =>
    show ite' (cellV v) (allC l) false = true ↔ _
    rw [ite'_and, Bool.and_eq_true, ih]; simp
theorem allC_us {e : Env} : {l : List AV} → {us : List Value} → VRs e l us → allC l = true → ∀ u ∈ us, cellU u = true
  | _, _, .nil, _ => by simp
  | _, _, .cons v u l l' h ht, hc => by
    rw [allC_iff] at hc
    intro x hx
    rcases List.mem_cons.1 hx with rfl | hx
    · exact h.cellU (hc v (List.mem_cons_self ..))
    · exact allC_us ht ((allC_iff _).2 fun v hv => hc v (List.mem_cons_of_mem _ hv)) x hx
theorem ble_iff (a b : Nat) : Nat.ble a b = true ↔ a ≤ b := by rw [Nat.ble_eq]
theorem Step.kill {e : Env} {h : AH} {w : World} (l : List Nat) : Step e h w e (AH.kill l h) w :=
  ⟨.refl e, by rw [(kill_rest l h).1]; exact Nat.le_refl _, Nat.le_refl _, fun _ _ hO => ⟨rfl, fun hO' => hO hO'.kill⟩, rfl, rfl, rfl, fun _ _ h => .inl h, fun b _ hg => by rw [kill_get, hg]; split <;> rfl⟩
theorem splice_get {l vs l' : List AV} {o : Nat} (h : splice l o vs = some l') (i : Nat) :
    l'.length = l.length ∧ o + vs.length ≤ l.length ∧ l'[i]? = if o ≤ i ∧ i < o + vs.length then vs[i - o]? else l[i]? := by
  rw [splice_eq] at h
  by_cases hb : o + vs.length ≤ l.length
  · rw [if_pos hb] at h
    cases h
    refine ⟨by simp; omega, hb, ?_⟩
    by_cases h1 : i < o
    · rw [if_neg (by omega), List.append_assoc, List.getElem?_append_left (by simp; omega), List.getElem?_take, if_pos h1]
    · by_cases h2 : i < o + vs.length
      · rw [if_pos (by omega), List.append_assoc, List.getElem?_append_right (by simp; omega), List.getElem?_append_left (by simp; omega)]
        congr 1; simp; omega
      · rw [if_neg (by omega), List.getElem?_append_right (by simp; omega), List.getElem?_drop]
        congr 1; simp; omega
  · rw [if_neg hb] at h; cases h
theorem writeCells_sound {P : Program} {e : Env} {h h' : AH} {w : World} (s : Sat e h w.heap) {b o : Nat} {vs : List AV} {us : List Value} {L : Loc} (hl : e.loc b = some L)
    (hv : VRs e vs us) (hw : writeCells h b o vs = some h') :
    ∃ w', (storeCells ⟨L.blk, L.off + o, none⟩ us).run P w = .ok () w' ∧ Sat e h' w'.heap ∧ Step e h w e h' w' := by
  unfold writeCells at hw; rw [bnd_eq] at hw
  obtain ⟨en, hb, hw⟩ := hw
  cases en <;> try (simp [writeE] at hw; done)
  rename_i l ty wr fz olds
  have hw' : grd wr (grd (Nat.ble fz o) (grd (allC vs) (bnd (splice l o vs) fun l' => some (AH.set (AH.kill olds h) b (.cells l' ty true fz []))))) = some h' := hw
  rw [grd_eq, grd_eq, grd_eq, bnd_eq] at hw'
  obtain ⟨rfl, hfz, hac, l', hsp, hh⟩ := hw'
  cases hh
  obtain ⟨arr, T, lo, hi, hH, hR⟩ := s.row hb hl
  have hlen := (splice_get hsp 0).1
  have hbd := (splice_get hsp 0).2.1
  have h1 := hR.len
  have h2 := hR.room
  have hus := hv.length
  have hfz' : fz ≤ o := (ble_iff _ _).1 hfz
  have hrun := run_storeCells (P := P) us 0 (w := w) (B := L.blk) (p := L.off + o) hH (by omega)
    (fun k hk1 hk2 => by
      have := hR.free (k - L.off) (by omega) (by omega)
      rwa [show L.off + (k - L.off) = k by omega] at this) (allC_us hv hac)
  refine ⟨_, hrun, ?_, ?_⟩
  · have hnb : b ∉ olds := fun hm => by
      have := s.olds b b _ _ L L hb hm hb hl hl rfl
      simp [wrE] at this
    have hkb : (AH.kill olds h).get b = some (.cells l ty true fz olds) := by rw [kill_get, if_neg hnb]; exact hb
    have hal := (s.kill olds).aloneW hkb hl rfl fun c hc => by rw [kill_get]; exact if_pos hc
    refine (s.kill olds).setObj hkb hl hal ?_ (fun c hc => by cases hc) (fun hx => by simp [wrE] at hx) hlen
    rw [kill_fm]
    refine .cells _ _ _ _ _ _ _ _ _ _ ⟨by rw [overC_size]; exact h2, by omega, fun i v hi' => ?_, hR.free, hR.ty⟩
    rw [(splice_get hsp i).2.2] at hi'
    rw [overC_get _ _ _ _ (by omega)]
    by_cases hin : o ≤ i ∧ i < o + vs.length
    · rw [if_pos hin] at hi'
      rw [if_pos (by omega)]
      obtain ⟨u, hu, hvr⟩ := hv.get hi'
      exact ⟨u, by rw [show L.off + i - (L.off + o + 0) = i - o by omega]; exact hu, hvr⟩
    · rw [if_neg hin] at hi'
      rw [if_neg (by omega)]
      exact hR.vals i v hi'
  · refine (Step.kill (w := w) olds).trans ?_
    have hnb : b ∉ olds := fun hm => by
      have := s.olds b b _ _ L L hb hm hb hl hl rfl
      simp [wrE] at this
    have hkb : (AH.kill olds h).get b = some (.cells l ty true fz olds) := by rw [kill_get, if_neg hnb]; exact hb
    exact Step.setObj (s.kill olds) _ hkb hl
end
end Go.Xe
end
section
namespace Go.Xe
noncomputable section
section
variable {α : Type}
theorem ptrV_eq {a : AV} {k : Nat → Nat → Option α} {y : α} : ptrV a k = some y ↔ ∃ b o, a = .ptr b o ∧ k b o = some y := by
  cases a <;> first | (simp [ptrV]; done) | exact ⟨fun h => ⟨_, _, rfl, h⟩, fun ⟨_, _, h, k⟩ => by cases h; exact k⟩
theorem intV_eq {a : AV} {k : Int → Option α} {y : α} : intV a k = some y ↔ ∃ kd i, a = .int kd i ∧ k i = some y := by
  cases a <;> first | (simp [intV]; done) | exact ⟨fun h => ⟨_, _, rfl, h⟩, fun ⟨_, _, h, k⟩ => by cases h; exact k⟩
theorem natI_eq {i : Int} {k : Nat → Option α} {y : α} : natI i k = some y ↔ ∃ n : Nat, i = (n : Int) ∧ k n = some y := by
  cases i with
  | ofNat n => exact ⟨fun h => ⟨n, rfl, h⟩, fun ⟨m, hm, h⟩ => by cases hm; exact h⟩
  | negSucc n =>
    constructor
    · intro h; cases h
    · rintro ⟨m, hm, _⟩; cases hm
theorem natV_eq {a : AV} {k : Nat → Option α} {y : α} : natV a k = some y ↔ ∃ kd, ∃ n : Nat, a = .int kd (n : Int) ∧ k n = some y := by
  unfold natV; rw [intV_eq]
  constructor
  · rintro ⟨kd, i, rfl, h⟩
    rw [natI_eq] at h
    obtain ⟨n, rfl, h⟩ := h
    exact ⟨kd, n, rfl, h⟩
  · rintro ⟨kd, n, rfl, h⟩
    exact ⟨kd, n, rfl, natI_eq.2 ⟨n, rfl, h⟩⟩
theorem aggV_eq {a : AV} {k : List AV → Option α} {y : α} : aggV a k = some y ↔ ∃ l, a = .agg l ∧ k l = some y := by cases a <;> simp [aggV]
theorem tupV_eq {a : AV} {k : List AV → Option α} {y : α} : tupV a k = some y ↔ ∃ l, a = .tup l ∧ k l = some y := by cases a <;> simp [tupV]
theorem strV_eq {a : AV} {k : Nat → Nat → Option α} {y : α} : strV a k = some y ↔ ∃ n c, a = .str n c ∧ k n c = some y := by
  cases a <;> first | (simp [strV]; done) | exact ⟨fun h => ⟨_, _, rfl, h⟩, fun ⟨_, _, h, k⟩ => by cases h; exact k⟩
theorem mapV_eq {a : AV} {k : Nat → Option α} {y : α} : mapV a k = some y ↔ ∃ b, a = .map b ∧ k b = some y := by cases a <;> simp [mapV]
theorem stpV_eq {a : AV} {k : Nat → Option α} {y : α} : stpV a k = some y ↔ ∃ b, a = .stp b ∧ k b = some y := by cases a <;> simp [stpV]
theorem ite'_eq {b : Bool} {x y : Option α} {z : α} : ite' b x y = some z ↔ (b = true ∧ x = some z) ∨ (b = false ∧ y = some z) := by cases b <;> simp
end
theorem vr_ptr {e : Env} {b o : Nat} {u : Value} (h : VR e (.ptr b o) u) : ∃ l, e.loc b = some l ∧ u = .pointer (some ⟨l.blk, l.off + o, none⟩) := by
  cases h with | ptr _ _ l h => exact ⟨l, h, rfl⟩
theorem vr_int {e : Env} {k : IntKind} {n : Int} {u : Value} (h : VR e (.int k n) u) : u = .int k n := by cases h; rfl
theorem vr_str {e : Env} {n c : Nat} {u : Value} (h : VR e (.str n c) u) : u = .string (bytesOf n c) := by cases h; rfl
theorem vr_agg {e : Env} {l : List AV} {u : Value} (h : VR e (.agg l) u) : ∃ us : Array Value, u = .agg us ∧ VRs e l us.toList := by
  cases h with | agg _ l' h => exact ⟨l', rfl, h⟩
theorem vr_tup {e : Env} {l : List AV} {u : Value} (h : VR e (.tup l) u) : ∃ us : Array Value, u = .tuple us ∧ VRs e l us.toList := by
  cases h with | tup _ l' h => exact ⟨l', rfl, h⟩
theorem vr_sl {e : Env} {b o n z : Nat} {u : Value} (h : VR e (.sl b o n z) u) : ∃ l c, e.loc b = some l ∧ 0 < z ∧ o + c * z = l.ext ∧ n ≤ c ∧ u = .slice (some ⟨l.blk, l.off + o, none⟩) n c := by
  cases h with | sl _ _ _ _ c l h h0 h1 h2 => exact ⟨l, c, h, h0, h1, h2, rfl⟩
theorem vr_map {e : Env} {b : Nat} {u : Value} (h : VR e (.map b) u) : ∃ l, e.loc b = some l ∧ u = .map (some l.blk) := by
  cases h with | map _ l h => exact ⟨l, h, rfl⟩
theorem vr_bool {e : Env} {b : Bool} {u : Value} (h : VR e (.bool b) u) : u = .bool b := by cases h; rfl
theorem mkInt_eq (k : IntKind) (n : Int) : mkInt k n = .int k n := by
  unfold mkInt
  cases n with
  | ofNat m => rw [iE_nat, frc_eq]
  | negSucc m => rw [iE_neg, frc_eq]
theorem mkStr_eq (n c : Nat) : mkStr n c = .str n c := by unfold mkStr; rw [frc_eq, frc_eq]
theorem mkBool_eq (b : Bool) : mkBool b = .bool b := by cases b <;> rfl
theorem mkNat_eq (n : Nat) : mkNat n = .int .i64 (n : Int) := by unfold mkNat; rw [frc_eq]; rfl
theorem Addr.add_eq (B o n : Nat) : (⟨B, o, none⟩ : Addr).add n = ⟨B, o + n, none⟩ := by
  unfold Go.Addr.add
  by_cases h : n = 0
  · subst h; rfl
  · rw [if_neg h]
theorem vr_cells {e : Env} {v : AV} {u : Value} (h : VR e v u) (hs : ∀ i, v ≠ .sval i) : VRs e v.cells u.cells.toList := by
  cases h with
  | agg l l' h => exact h
  | sval i v h hc => exact absurd rfl (hs i)
  | _ => first | exact .cons _ _ _ _ (by constructor <;> assumption) .nil | exact .cons _ _ _ _ (by first | exact .bool _ | exact .int _ _ | exact .str _ _ | exact .pnil | exact .gptr _ | exact .sle _ _ | exact .snil | exact .mnil | exact .fnil | exact .inil) .nil
theorem vr_cells' {e : Env} {v : AV} {u : Value} (h : VR e v u) : VRs e v.cells u.cells.toList := by
  cases v with
  | sval i =>
    cases h with
    | sval _ _ h hc =>
      have : u.cells = #[u] := by cases u <;> first | rfl | (simp [Go.Xe.cellU] at hc)
      rw [this]
      exact .cons _ _ _ _ (.sval i u h hc) .nil
  | _ => exact vr_cells h (fun i h => by cases h)
theorem load_sound {P : Program} {e : Env} {h : AH} {w : World} (s : Sat e h w.heap) {t : TypeId} {a v : AV} {ua : Value} (ha : VR e a ua) (hv : load P t a h = some v) :
    Runs P (Instr.loadAt t ua) w fun u w' => VR e v u ∧ w' = w := by
  unfold load at hv
  rw [ptrV_eq] at hv
  obtain ⟨b, o, rfl, hv⟩ := hv
  rw [bnd_eq] at hv
  obtain ⟨g, hg, hv⟩ := hv
  obtain ⟨L, hl, rfl⟩ := vr_ptr ha
  unfold Instr.loadAt
  refine Runs.bind' ⟨⟨L.blk, L.off + o, none⟩, w, rfl, ?_⟩
  unfold loadVar
  refine runs_isAgg hg ?_
  cases g with
  | true =>
    rw [ite'_true, bnd_eq] at hv
    obtain ⟨n, hn, hv⟩ := hv
    rw [bnd_eq] at hv
    obtain ⟨r, hr, hv⟩ := hv
    cases hv
    obtain ⟨us, hus, hvr⟩ := readCells_sound (P := P) s hl hr
    simp only [if_true]
    refine runs_size hn ?_
    refine Runs.bind' ⟨us, w, hus, ?_⟩
    exact Runs.pure' ⟨.agg _ _ hvr, rfl⟩
  | false =>
    rw [ite'_false] at hv
    obtain ⟨u, hu, hvr⟩ := readCell_sound (P := P) s hl hv
    simp only [Bool.false_eq_true, if_false]
    exact ⟨u, w, hu, hvr, rfl⟩
theorem store_sound {P : Program} {e : Env} {h h' : AH} {w : World} (s : Sat e h w.heap) {t : TypeId} {a v : AV} {ua u : Value} (ha : VR e a ua) (hvu : VR e v u) (hs : store P t a v h = some h') :
    Runs P (Instr.storeAt t ua u) w fun _ w' => Sat e h' w'.heap ∧ Step e h w e h' w' := by
  unfold store at hs
  rw [ptrV_eq] at hs
  obtain ⟨b, o, rfl, hs⟩ := hs
  rw [bnd_eq] at hs
  obtain ⟨n, hn, hs⟩ := hs
  rw [grd_eq] at hs
  obtain ⟨hlen, hs⟩ := hs
  obtain ⟨L, hl, rfl⟩ := vr_ptr ha
  have hc := vr_cells' hvu
  obtain ⟨w', hrun, hS, hT⟩ := writeCells_sound (P := P) s hl hc hs
  unfold Instr.storeAt
  refine Runs.bind' ⟨⟨L.blk, L.off + o, none⟩, w, rfl, ?_⟩
  unfold storeVar
  refine runs_size hn ?_
  rw [beq_iff, len_eq] at hlen
  have : u.cells.size = n := by rw [← hlen, hc.length]; simp
  rw [if_neg (fun hne => hne this)]
  exact ⟨(), w', hrun, hS, hT⟩
theorem underField {P : Program} {t f : Nat} {fd : Field} (h : fieldA P t f = some fd) : ∃ fs : Array Field, P.underlying t = some (.struct fs) ∧ fs[f]? = some fd := by
  unfold fieldA at h; rw [bnd_eq] at h
  obtain ⟨d, hd, h⟩ := h
  rw [bnd_eq] at h
  obtain ⟨l, hl, h⟩ := h
  cases d <;> simp [structD] at hl
  subst hl
  rw [nth_eq, Array.getElem?_toList] at h
  exact ⟨_, hd, h⟩
theorem fieldAddr_sound {P : Program} {e : Env} {w : World} {t f : Nat} {a v : AV} {ua : Value} (ha : VR e a ua) (hv : fieldAddr P t f a = some v) :
    Runs P (Instr.fieldAt t ua f) w fun u w' => VR e v u ∧ w' = w := by
  unfold fieldAddr at hv
  rw [ptrV_eq] at hv
  obtain ⟨b, o, rfl, hv⟩ := hv
  rw [bnd_eq] at hv
  obtain ⟨fd, hf, hv⟩ := hv
  rw [bnd_eq] at hv
  obtain ⟨n, hn, hv⟩ := hv
  rw [grd_eq, blt_iff] at hv
  obtain ⟨h0, hv⟩ := hv
  rw [frc_eq] at hv
  cases hv
  obtain ⟨fs, hd, hfd⟩ := underField hf
  obtain ⟨L, hl, rfl⟩ := vr_ptr ha
  unfold Instr.fieldAt
  refine runs_under hd ?_
  simp only [hfd]
  refine Runs.bind' ⟨⟨L.blk, L.off + o, none⟩, w, rfl, ?_⟩
  refine Runs.bind' ?_
  unfold fieldPlace
  refine runs_size hn ?_
  rw [if_neg (by omega)]
  refine Runs.pure' (Runs.pure' ⟨?_, rfl⟩)
  rw [Addr.add_eq, Nat.add_assoc]
  exact .ptr b _ L hl
theorem part_sound {P : Program} {e : Env} {w : World} {t off : Nat} {cs : List AV} {us : Array Value} (hc : VRs e cs us.toList) {v : AV} (hv : partA P t cs off = some v) :
    Runs P (part t us off) w fun u w' => VR e v u ∧ w' = w := by
  unfold partA at hv
  rw [bnd_eq] at hv
  obtain ⟨g, hg, hv⟩ := hv
  unfold part
  refine runs_isAgg hg ?_
  cases g with
  | true =>
    rw [ite'_true, bnd_eq] at hv
    obtain ⟨n, hn, hv⟩ := hv
    rw [bnd_eq] at hv
    obtain ⟨r, hr, hv⟩ := hv
    cases hv
    simp only [if_true]
    refine runs_size hn ?_
    refine Runs.pure' ⟨.agg _ _ ?_, rfl⟩
    rw [cut_eq] at hr
    by_cases hb : off + n ≤ cs.length
    · rw [if_pos hb] at hr; cases hr
      have := (hc.drop off).take n
      rw [Array.toList_extract, List.extract_eq_take_drop]
      rwa [show off + n - off = n by omega]
    · rw [if_neg hb] at hr; cases hr
  | false =>
    rw [ite'_false, nth_eq] at hv
    simp only [Bool.false_eq_true, if_false]
    obtain ⟨u, hu, hvr⟩ := hc.get hv
    rw [Array.getElem?_toList] at hu
    simp only [hu]
    exact Runs.pure' ⟨hvr, rfl⟩
theorem field_sound {P : Program} {e : Env} {w : World} {t f : Nat} {a v : AV} {ua : Value} (ha : VR e a ua) (hv : field P t f a = some v) :
    Runs P (Instr.field t ua f) w fun u w' => VR e v u ∧ w' = w := by
  unfold field at hv
  rw [aggV_eq] at hv
  obtain ⟨l, rfl, hv⟩ := hv
  rw [bnd_eq] at hv
  obtain ⟨fd, hf, hv⟩ := hv
  obtain ⟨fs, hd, hfd⟩ := underField hf
  obtain ⟨us, rfl, hc⟩ := vr_agg ha
  unfold Instr.field
  refine runs_under hd ?_
  simp only [hfd]
  exact Runs.bind' ⟨us, w, rfl, part_sound hc hv⟩
theorem asIntOf_int {α : Type} {P : Program} {w : World} (k : IntKind) (n : Int) {f : IntKind × Int → Sem α} {Q : α → World → Prop} (h : Runs P (f (k, n)) w Q) :
    Runs P (asIntOf (.int k n) >>= f) w Q := Runs.bind' ⟨(k, n), w, rfl, h⟩
end
end Go.Xe
end
section
namespace Go.Xe
noncomputable section
theorem listOf_length (n c : Nat) : (listOf n c).length = n := by simp [listOf]
theorem bytesOf_size (n c : Nat) : (bytesOf n c).size = n := by
  show (listOf n c).toArray.size = n
  simp [listOf_length]
theorem listOf_get {n c i : Nat} (h : i < n) : (listOf n c)[i]? = some (UInt8.ofNat (c / 256 ^ i % 256)) := by
  unfold listOf
  simp [h]
theorem bytesOf_get {n c i : Nat} (h : i < n) : (bytesOf n c)[i]? = some (UInt8.ofNat (c / 256 ^ i % 256)) := by
  have hs := bytesOf_size n c
  have : (bytesOf n c)[i]? = (bytesOf n c).data[i]? := by
    simp only [getElem?_def]
    by_cases h1 : i < (bytesOf n c).size
    · rw [dif_pos h1, dif_pos (show i < (bytesOf n c).data.size from h1)]
      rfl
    · rw [dif_neg h1, dif_neg (show ¬ i < (bytesOf n c).data.size from h1)]
  rw [this]
  show (listOf n c).toArray[i]? = _
  rw [List.getElem?_toArray]; exact listOf_get h
theorem runs_pure {α β : Type} {P : Program} {w : World} {a : α} {f : α → Sem β} {Q : β → World → Prop} (h : Runs P (f a) w Q) : Runs P ((pure a : Sem α) >>= f) w Q :=
  Runs.bind' ⟨a, w, rfl, h⟩
theorem indexAddr_sound {P : Program} {e : Env} {w : World} {t : TypeId} {x ix v : AV} {ux ui : Value} (hx : VR e x ux) (hi : VR e ix ui) (hv : indexAddr P t x ix = some v) :
    Runs P (Instr.indexAt t ux ui) w fun u w' => VR e v u ∧ w' = w := by
  unfold indexAddr at hv
  rw [natV_eq] at hv
  obtain ⟨kd, i, rfl, hv⟩ := hv
  rw [bnd_eq] at hv
  obtain ⟨d, hd, hv⟩ := hv
  cases vr_int hi
  unfold Instr.indexAt
  refine asIntOf_int _ _ ?_
  simp only []
  refine runs_under hd ?_
  cases d <;> try (simp [indexAddrD] at hv; done)
  case array n el =>
    have hv' : ptrV x (fun b o => grd (Nat.blt i n) (bnd (sizeA P el) fun z => some (frc (Nat.add o (Nat.mul i z)) fun o => .ptr b o))) = some v := hv
    rw [ptrV_eq] at hv'
    obtain ⟨b, o, rfl, hv'⟩ := hv'
    rw [grd_eq, blt_iff, bnd_eq] at hv'
    obtain ⟨hin, z, hz, hv'⟩ := hv'
    rw [frc_eq] at hv'; cases hv'
    obtain ⟨L, hl, rfl⟩ := vr_ptr hx
    simp only []
    refine Runs.bind' ⟨⟨L.blk, L.off + o, none⟩, w, rfl, ?_⟩
    refine runs_pure ?_
    simp only []
    refine runs_under hd ?_
    simp only []
    rw [if_pos ⟨Int.natCast_nonneg i, by exact_mod_cast hin⟩]
    refine runs_size hz ?_
    refine Runs.pure' ⟨?_, rfl⟩
    rw [Addr.add_eq, Int.toNat_natCast, Nat.add_assoc]
    exact .ptr b _ L hl
  case slice el =>
    cases x <;> try (simp [indexAddrD] at hv; done)
    rename_i b o l z
    have hv' : grd (Nat.blt i l) (bnd (sizeA P el) fun z' => grd (Nat.beq z z') (some (frc (Nat.add o (Nat.mul i z)) fun o => .ptr b o))) = some v := hv
    rw [grd_eq, blt_iff, bnd_eq] at hv'
    obtain ⟨hin, z', hz, hv'⟩ := hv'
    rw [grd_eq, beq_iff, frc_eq] at hv'
    obtain ⟨rfl, hv'⟩ := hv'
    cases hv'
    obtain ⟨L, c, hl, h0, h1, h2, rfl⟩ := vr_sl hx
    simp only []
    refine runs_pure ?_
    simp only []
    refine runs_under hd ?_
    simp only []
    rw [if_pos ⟨Int.natCast_nonneg i, by exact_mod_cast hin⟩]
    refine runs_size hz ?_
    refine Runs.pure' ⟨?_, rfl⟩
    rw [Addr.add_eq, Int.toNat_natCast, Nat.add_assoc]
    exact .ptr b _ L hl
theorem index_sound {P : Program} {e : Env} {w : World} {t : TypeId} {x ix v : AV} {ux ui : Value} (hx : VR e x ux) (hi : VR e ix ui) (hv : index P t x ix = some v) :
    Runs P (Instr.index t ux ui) w fun u w' => VR e v u ∧ w' = w := by
  unfold index at hv
  rw [natV_eq] at hv
  obtain ⟨kd, i, rfl, hv⟩ := hv
  rw [bnd_eq] at hv
  obtain ⟨d, hd, hv⟩ := hv
  cases vr_int hi
  unfold Instr.index
  refine asIntOf_int _ _ ?_
  simp only []
  refine runs_under hd ?_
  cases d <;> try (simp [indexD] at hv; done)
  case array n el =>
    have hv' : aggV x (fun cs => grd (Nat.blt i n) (bnd (sizeA P el) fun z => partA P el cs (Nat.mul i z))) = some v := hv
    rw [aggV_eq] at hv'
    obtain ⟨l, rfl, hv'⟩ := hv'
    rw [grd_eq, blt_iff, bnd_eq] at hv'
    obtain ⟨hin, z, hz, hv'⟩ := hv'
    obtain ⟨us, rfl, hc⟩ := vr_agg hx
    simp only []
    rw [if_pos ⟨Int.natCast_nonneg i, by exact_mod_cast hin⟩]
    refine runs_size hz ?_
    rw [Int.toNat_natCast]
    exact part_sound hc hv'
  case string =>
    have hv' : strV x (fun n c => grd (Nat.blt i n) (some (byteAt c i))) = some v := hv
    rw [strV_eq] at hv'
    obtain ⟨n, c, rfl, hv'⟩ := hv'
    rw [grd_eq, blt_iff] at hv'
    obtain ⟨hin, hv'⟩ := hv'
    cases hv'
    cases vr_str hx
    simp only [Int.natCast_nonneg, if_true, Int.toNat_natCast, bytesOf_get hin]
    refine Runs.pure' ⟨?_, rfl⟩
    unfold byteAt
    rw [frc_eq]
    have : (UInt8.ofNat (c / 256 ^ i % 256)).toNat = c / 256 ^ i % 256 := by
      simp [UInt8.toNat_ofNat']
    rw [this]
    exact .int _ _
end
end Go.Xe
end
section
namespace Go.Xe
noncomputable section
theorem listOf_zero (c : Nat) : listOf 0 c = [] := rfl
theorem listOf_succ (n c : Nat) : listOf (n + 1) c = UInt8.ofNat (c % 256) :: listOf n (c / 256) := by
  unfold listOf
  rw [List.range_succ_eq_map, List.map_cons, List.map_map]
  congr 1
  · simp
  · apply List.map_congr_left
    intro i _
    simp only [Function.comp]
    rw [Nat.div_div_eq_div_mul, Nat.pow_succ, Nat.mul_comm 256]
theorem codeOf_nil : codeOf [] = 0 := rfl
theorem codeOf_cons (b : UInt8) (l : List UInt8) : codeOf (b :: l) = b.toNat + 256 * codeOf l := rfl
theorem toNat_ofNat256 (c : Nat) : (UInt8.ofNat (c % 256)).toNat = c % 256 := by simp [UInt8.toNat_ofNat']
theorem codeOf_listOf (n c : Nat) : codeOf (listOf n c) = c % 256 ^ n := by
  induction n generalizing c with
  | zero => rw [listOf_zero, codeOf_nil]; simp [Nat.mod_one]
  | succ n ih => rw [listOf_succ, codeOf_cons, ih, toNat_ofNat256, Nat.pow_succ, Nat.mul_comm (256 ^ n), Nat.mod_mul]
theorem listOf_codeOf (l : List UInt8) : listOf l.length (codeOf l) = l := by
  induction l with
  | nil => rfl
  | cons b l ih =>
    rw [List.length_cons, listOf_succ, codeOf_cons]
    have h1 : (b.toNat + 256 * codeOf l) % 256 = b.toNat := by have := b.toNat_lt; omega
    have h2 : (b.toNat + 256 * codeOf l) / 256 = codeOf l := by have := b.toNat_lt; omega
    rw [h1, h2, ih]
    simp
theorem codeOf_lt (l : List UInt8) : codeOf l < 256 ^ l.length := by
  have := codeOf_listOf l.length (codeOf l)
  rw [listOf_codeOf] at this
  rw [this]
  exact Nat.mod_lt _ (Nat.pow_pos (by decide))
theorem codeOf_app (l r : List UInt8) : codeOf (l ++ r) = codeOf l + 256 ^ l.length * codeOf r := by
  induction l with
  | nil => simp [codeOf_nil]
  | cons b l ih => rw [List.cons_append, codeOf_cons, codeOf_cons, ih, List.length_cons, Nat.pow_succ, Nat.mul_comm (256 ^ l.length) 256, Nat.mul_assoc, Nat.mul_add]; omega
theorem listOf_mod (n c : Nat) : listOf n (c % 256 ^ n) = listOf n c := by
  have h := listOf_codeOf (listOf n c)
  rw [listOf_length, codeOf_listOf] at h
  exact h
theorem listOf_inj {n c n' c' : Nat} : listOf n c = listOf n' c' ↔ n = n' ∧ c % 256 ^ n = c' % 256 ^ n' := by
  constructor
  · intro h
    have hn : n = n' := by have := congrArg List.length h; simpa [listOf_length] using this
    subst hn
    exact ⟨rfl, by rw [← codeOf_listOf, ← codeOf_listOf, h]⟩
  · rintro ⟨rfl, h⟩
    rw [← listOf_mod n c, ← listOf_mod n c', h]
theorem bytesOf_inj {n c n' c' : Nat} : bytesOf n c = bytesOf n' c' ↔ n = n' ∧ c % 256 ^ n = c' % 256 ^ n' := by
  rw [← listOf_inj]
  constructor
  · intro h
    have := congrArg (fun b : ByteArray => b.data.toList) h
    simpa [bytesOf] using this
  · intro h; unfold bytesOf; rw [h]
theorem eqStr_iff (n c n' c' : Nat) : eqStr n c n' c' = true ↔ bytesOf n c = bytesOf n' c' := by
  unfold eqStr
  rw [ite'_and, Bool.and_eq_true, beq_iff, beq_iff, bytesOf_inj]
  exact Iff.rfl
theorem eqStr_false (n c n' c' : Nat) : eqStr n c n' c' = false ↔ bytesOf n c ≠ bytesOf n' c' := by
  rw [← Bool.not_eq_true, eqStr_iff]
theorem bytesOf_list (n c : Nat) : (bytesOf n c).data.toList = listOf n c := rfl
theorem bytesOf_of (l : List UInt8) : bytesOf l.length (codeOf l) = ⟨l.toArray⟩ := by unfold bytesOf; rw [listOf_codeOf]
theorem bytesOf_self (s : ByteArray) : bytesOf s.data.toList.length (codeOf s.data.toList) = s := by
  rw [bytesOf_of]
theorem strOf_sound (e : Env) (l : List UInt8) : VR e (strOf l) (.string ⟨l.toArray⟩) := by
  unfold strOf
  rw [mkStr_eq, len_eq, ← bytesOf_of]
  exact .str _ _
theorem bytesOf_app (n c n' c' : Nat) : bytesOf n c ++ bytesOf n' c' = bytesOf (n + n') (c % 256 ^ n + 256 ^ n * c') := by
  have h : listOf n c ++ listOf n' c' = listOf (n + n') (c % 256 ^ n + 256 ^ n * c') := by
    have h1 := listOf_codeOf (listOf n c ++ listOf n' c')
    rw [List.length_append, listOf_length, listOf_length, codeOf_app, codeOf_listOf, codeOf_listOf, listOf_length] at h1
    rw [← h1, listOf_inj]
    refine ⟨rfl, ?_⟩
    rw [Nat.pow_add]
    have hlt : c % 256 ^ n < 256 ^ n := Nat.mod_lt _ (Nat.pow_pos (by decide))
    rw [Nat.mod_mul, Nat.mod_mul]
    rw [Nat.add_mul_mod_self_left, Nat.add_mul_mod_self_left, Nat.mod_mod]
    rw [Nat.add_mul_div_left _ _ (Nat.pow_pos (by decide)), Nat.add_mul_div_left _ _ (Nat.pow_pos (by decide))]
    rw [Nat.div_eq_of_lt hlt, Nat.zero_add, Nat.zero_add, Nat.mod_mod]
  apply ByteArray.ext
  rw [ByteArray.data_append]
  show (listOf n c).toArray ++ (listOf n' c').toArray = (listOf (n + n') _).toArray
  rw [← h]
  simp
theorem listOf_drop (n c l : Nat) (h : l ≤ n) : (listOf n c).drop l = listOf (n - l) (c / 256 ^ l) := by
  induction l generalizing n c with
  | zero => simp
  | succ l ih =>
    cases n with
    | zero => omega
    | succ n =>
      rw [listOf_succ, List.drop_succ_cons, ih n _ (by omega), Nat.div_div_eq_div_mul, Nat.pow_succ, Nat.mul_comm 256]
      congr 1; omega
theorem listOf_take (n c k : Nat) (h : k ≤ n) : (listOf n c).take k = listOf k c := by
  unfold listOf
  rw [← List.map_take, List.take_range, Nat.min_eq_left h]
theorem bytesOf_extract (n c l hh : Nat) (h1 : l ≤ hh) (h2 : hh ≤ n) : (bytesOf n c).extract l hh = bytesOf (hh - l) (c / 256 ^ l % 256 ^ (hh - l)) := by
  apply ByteArray.ext
  rw [ByteArray.data_extract]
  apply Array.ext'
  rw [Array.toList_extract, List.extract_eq_take_drop]
  show ((listOf n c).drop l).take (hh - l) = listOf (hh - l) _
  rw [listOf_drop _ _ _ (by omega), listOf_take _ _ _ (by omega), listOf_mod]
theorem ltStr_zero (n c n' c' : Nat) : ltStr 0 n c n' c' = false := rfl
theorem ltStr_r0 (f n c c' : Nat) : ltStr (f + 1) n c 0 c' = false := rfl
theorem ltStr_l0 (f c n' c' : Nat) : ltStr (f + 1) 0 c (n' + 1) c' = true := rfl
theorem ltStr_ss (f n c n' c' : Nat) : ltStr (f + 1) (n + 1) c (n' + 1) c' =
    ite' (Nat.blt (c % 256) (c' % 256)) true (ite' (Nat.beq (c % 256) (c' % 256)) (ltStr f n (c / 256) n' (c' / 256)) false) := rfl
theorem ltStr_iff (f n c n' c' : Nat) (h : n < f) : ltStr f n c n' c' = Op.bytesLess (listOf n c) (listOf n' c') := by
  induction f generalizing n c n' c' with
  | zero => omega
  | succ f ih =>
    cases n' with
    | zero =>
      rw [ltStr_r0, listOf_zero]
      cases n with
      | zero => rfl
      | succ n => rw [listOf_succ]; rfl
    | succ n' =>
      cases n with
      | zero => rw [ltStr_l0, listOf_zero, listOf_succ]; rfl
      | succ n =>
        rw [ltStr_ss, listOf_succ, listOf_succ, ih _ _ _ _ (by omega)]
        rw [ite'_or, ite'_and]
        show _ = (UInt8.ofNat (c % 256) < UInt8.ofNat (c' % 256) || (UInt8.ofNat (c % 256) == UInt8.ofNat (c' % 256) && _))
        congr 1
        · rw [Bool.eq_iff_iff, blt_iff, decide_eq_true_iff, UInt8.lt_iff_toNat_lt, toNat_ofNat256, toNat_ofNat256]
        · congr 1
          rw [Bool.eq_iff_iff, beq_iff, beq_iff_eq]
          constructor
          · intro h; rw [h]
          · intro h
            have := congrArg UInt8.toNat h
            rwa [toNat_ofNat256, toNat_ofNat256] at this
end
end Go.Xe
end
section
namespace Go.Xe
noncomputable section
theorem bytes_beq' (a b : ByteArray) : (a == b) = true ↔ a = b := by
  obtain ⟨a⟩ := a
  obtain ⟨b⟩ := b
  show (a == b) = true ↔ _
  rw [beq_iff_eq]
  exact ⟨fun h => by rw [h], fun h => by cases h; rfl⟩
theorem bytes_beq (a b : ByteArray) : (a == b) = decide (a = b) := by
  rw [Bool.eq_iff_iff, bytes_beq', decide_eq_true_iff]
theorem bytesL_beq (a b : ByteArray) : (a.toList == b.toList) = decide (a = b) := by
  rw [Bool.eq_iff_iff, decide_eq_true_iff, beq_iff_eq, ByteArray.toList_eq, ByteArray.toList_eq]
  exact ⟨fun h => ByteArray.ext (Array.ext' h), fun h => by rw [h]⟩
theorem kindN_inj {a b : IntKind} (h : kindN a = kindN b) : a = b := by cases a <;> cases b <;> first | rfl | (simp [kindN] at h)
theorem eqKind_iff {a b : IntKind} : eqKind a b = true ↔ a = b := by
  unfold eqKind
  rw [beq_iff]
  exact ⟨kindN_inj, fun h => by rw [h]⟩
theorem eqInt_eq (a b : Int) : eqInt a b = (a == b) := by
  cases a with
  | ofNat m =>
    cases b with
    | ofNat n =>
      show Nat.beq m n = _
      rw [Bool.eq_iff_iff, beq_iff, beq_iff_eq]
      exact ⟨fun h => by rw [h], fun h => Int.ofNat.inj h⟩
    | negSucc n =>
      show false = _
      symm; rw [beq_eq_false_iff_ne]; simp
  | negSucc m =>
    cases b with
    | ofNat n =>
      show false = _
      symm; rw [beq_eq_false_iff_ne]; simp
    | negSucc n =>
      show Nat.beq m n = _
      rw [Bool.eq_iff_iff, beq_iff, beq_iff_eq]
      exact ⟨fun h => by rw [h], fun h => Int.negSucc.inj h⟩
theorem ltInt_iff (a b : Int) : ltInt a b = decide (a < b) := by
  cases a with
  | ofNat m =>
    cases b with
    | ofNat n =>
      show Nat.blt m n = _
      rw [Bool.eq_iff_iff, blt_iff, decide_eq_true_iff]
      simp
    | negSucc n =>
      show false = _
      symm; rw [decide_eq_false_iff_not]
      have := Int.negSucc_lt_zero n
      have h2 : (0 : Int) ≤ Int.ofNat m := Int.natCast_nonneg m
      omega
  | negSucc m =>
    cases b with
    | ofNat n =>
      show true = _
      symm; rw [decide_eq_true_iff]
      have := Int.negSucc_lt_zero m
      have h2 : (0 : Int) ≤ Int.ofNat n := Int.natCast_nonneg n
      omega
    | negSucc n =>
      show Nat.blt n m = _
      rw [Bool.eq_iff_iff, blt_iff, decide_eq_true_iff]
      omega
theorem outside_iff {a : Int} {lo hi : Nat} (h : outside a lo hi = true) : ∀ v : Nat, lo ≤ v → v < hi → a ≠ (v : Int) := by
  intro v h1 h2 he
  subst he
  have : ite' (Nat.blt v lo) true (Nat.ble hi v) = true := h
  rw [ite'_or, Bool.or_eq_true, blt_iff, ble_iff] at this
  omega
theorem farFrom_iff {pn pc n c : Nat} {fam : List ME} (h : farFrom pn pc n c fam = true) :
    ∀ kv ∈ fam, ∀ kn kc, kv.k = .str kn kc → bytesOf pn pc ++ bytesOf kn kc ≠ bytesOf n c := by
  induction fam with
  | nil => simp
  | cons x fam ih =>
    intro kv hkv kn kc hk
    have h' : (match x.k with | .str kn kc => ite' (eqStr (preS pn pc kn kc).1 (preS pn pc kn kc).2 n c) false (farFrom pn pc n c fam) | _ => false) = true := h
    rcases List.mem_cons.1 hkv with rfl | hkv
    · rw [hk] at h'
      simp only [] at h'
      cases he : eqStr (preS pn pc kn kc).1 (preS pn pc kn kc).2 n c with
      | true => rw [he] at h'; simp at h'
      | false =>
        rw [eqStr_false] at he
        rw [bytesOf_app]; exact he
    · cases hx : x.1 <;> rw [hx] at h' <;> try (simp at h'; done)
      simp only [] at h'
      rename_i a b
      cases he : eqStr (preS pn pc a b).1 (preS pn pc a b).2 n c with
      | true => rw [he] at h'; simp at h'
      | false => rw [he, ite'_false] at h'; exact ih h' kv hkv kn kc hk
inductive Cmp : Value → Value → Bool → Prop
  | bool (a b : Bool) : Cmp (.bool a) (.bool b) (a == b)
  | int (k : IntKind) (a b : Int) : Cmp (.int k a) (.int k b) (a == b)
  | string (a b : ByteArray) : Cmp (.string a) (.string b) (decide (a = b))
def simpleV : AV → Bool
  | .bool _ => true
  | .int _ _ => true
  | .num .. => true
  | .str _ _ => true
  | .sstr .. => true
  | _ => false
theorem append_inj_left {a b c : ByteArray} (h : a ++ b = a ++ c) : b = c := by
  have h1 := congrArg (fun x : ByteArray => x.data.toList) h
  simp only [ByteArray.data_append, Array.toList_append, List.append_cancel_left_eq] at h1
  exact ByteArray.ext (Array.ext' h1)
theorem eqScalar_simple {e : Env} {h : AH} {H : Array Obj} (s : Sat e h H) {x y : AV} {ux uy : Value} (hx : VR e x ux) (hy : VR e y uy) {q : Bool} (hq : eqScalar h x y = some q)
    (hs : simpleV x = true) (hs' : simpleV y = true) : Cmp ux uy q := by
  cases x <;> simp [simpleV] at hs
  case bool a =>
    cases y <;> simp [simpleV] at hs' <;> try (simp [eqScalar, eqB] at hq; done)
    rename_i b
    cases vr_bool hx; cases vr_bool hy
    have : some (ite' a b (ite' b false true)) = some q := hq
    cases this
    have : ite' a b (ite' b false true) = (a == b) := by cases a <;> cases b <;> rfl
    rw [this]; exact .bool a b
  case int k a =>
    cases vr_int hx
    cases y <;> simp [simpleV] at hs' <;> try (simp [eqScalar, eqI] at hq; done)
    case int k' b =>
      cases vr_int hy
      have hq' : grd (eqKind k k') (some (eqInt a b)) = some q := hq
      rw [grd_eq, eqKind_iff] at hq'
      obtain ⟨rfl, hq'⟩ := hq'
      cases hq'
      rw [eqInt_eq]; exact .int k a b
    case num g j lo hi =>
      cases hy with
      | num _ _ _ _ v hv h1 h2 =>
        have hq' : grd (eqKind k .i64) (grd (outside a lo hi) (some false)) = some q := hq
        rw [grd_eq, eqKind_iff, grd_eq] at hq'
        obtain ⟨rfl, ho, hq'⟩ := hq'
        cases hq'
        have := outside_iff ho v h1 h2
        rw [show false = (a == (v : Int)) by symm; rw [beq_eq_false_iff_ne]; exact this]
        exact .int _ _ _
  case num g j lo hi =>
    cases hx with
    | num _ _ _ _ v hv h1 h2 =>
      cases y <;> simp [simpleV] at hs' <;> try (simp [eqScalar, eqN] at hq; done)
      case int k a =>
        cases vr_int hy
        have hq' : grd (eqKind k .i64) (grd (outside a lo hi) (some false)) = some q := hq
        rw [grd_eq, eqKind_iff, grd_eq] at hq'
        obtain ⟨rfl, ho, hq'⟩ := hq'
        cases hq'
        have := outside_iff ho v h1 h2
        rw [show false = ((v : Int) == a) by symm; rw [beq_eq_false_iff_ne]; exact fun he => this he.symm]
        exact .int _ _ _
      case num g' j' lo' hi' =>
        cases hy with
        | num _ _ _ _ v' hv' h1' h2' =>
          have hq' : ite' (Nat.beq g g') (some (Nat.beq j j')) (grd (ite' (Nat.ble hi lo') true (Nat.ble hi' lo)) (some false)) = some q := hq
          rw [ite'_eq] at hq'
          rcases hq' with ⟨hg, hq'⟩ | ⟨_, hq'⟩
          · rw [beq_iff] at hg; subst hg
            cases hq'
            have : Nat.beq j j' = ((v : Int) == (v' : Int)) := by
              rw [Bool.eq_iff_iff, beq_iff, beq_iff_eq]
              constructor
              · rintro rfl; rw [hv] at hv'; cases hv'; rfl
              · intro he
                have : v = v' := by exact_mod_cast he
                subst this
                exact s.numI g j j' v hv hv'
            rw [this]; exact .int _ _ _
          · rw [grd_eq, ite'_or, Bool.or_eq_true, ble_iff, ble_iff] at hq'
            obtain ⟨hd, hq'⟩ := hq'
            cases hq'
            rw [show false = ((v : Int) == (v' : Int)) by symm; rw [beq_eq_false_iff_ne]; intro he; have : v = v' := by exact_mod_cast he
                                                          omega]
            exact .int _ _ _
  case str n c =>
    cases vr_str hx
    cases y <;> simp [simpleV] at hs' <;> try (simp [eqScalar, eqS] at hq; done)
    case str n' c' =>
      cases vr_str hy
      have hq' : some (eqStr n c n' c') = some q := hq
      cases hq'
      rw [show eqStr n c n' c' = decide (bytesOf n c = bytesOf n' c') by rw [Bool.eq_iff_iff, eqStr_iff, decide_eq_true_iff]]
      exact .string _ _
    case sstr pn pc i =>
      cases hy with
      | sstr _ _ _ t ht =>
        have hq' : grd (inFam h.fb h.fam i) (grd (farFrom pn pc n c h.fam) (some false)) = some q := hq
        rw [grd_eq, grd_eq] at hq'
        obtain ⟨hi, hf, hq'⟩ := hq'
        cases hq'
        obtain ⟨kv, hkv, kn, kc, hk, rfl, _⟩ := s.fam.key i t hi ht
        have := farFrom_iff hf kv hkv kn kc hk
        rw [show false = decide (bytesOf n c = bytesOf pn pc ++ bytesOf kn kc) by symm; rw [decide_eq_false_iff_not]; exact fun he => this he.symm]
        exact .string _ _
  case sstr pn pc i =>
    cases hx with
    | sstr _ _ _ t ht =>
      cases y <;> simp [simpleV] at hs' <;> try (simp [eqScalar, eqSS] at hq; done)
      case str n c =>
        cases vr_str hy
        have hq' : grd (inFam h.fb h.fam i) (grd (farFrom pn pc n c h.fam) (some false)) = some q := hq
        rw [grd_eq, grd_eq] at hq'
        obtain ⟨hi, hf, hq'⟩ := hq'
        cases hq'
        obtain ⟨kv, hkv, kn, kc, hk, rfl, _⟩ := s.fam.key i t hi ht
        have := farFrom_iff hf kv hkv kn kc hk
        rw [show false = decide (bytesOf pn pc ++ bytesOf kn kc = bytesOf n c) by symm; rw [decide_eq_false_iff_not]; exact this]
        exact .string _ _
      case sstr pn' pc' j =>
        cases hy with
        | sstr _ _ _ t' ht' =>
          have hq' : grd (eqStr pn pc pn' pc') (ite' (Nat.beq i j) (some true) (grd (inFam h.fb h.fam i) (grd (inFam h.fb h.fam j) (some false)))) = some q := hq
          rw [grd_eq, eqStr_iff, ite'_eq] at hq'
          obtain ⟨hp, hq'⟩ := hq'
          rw [hp]
          rcases hq' with ⟨hij, hq'⟩ | ⟨hij, hq'⟩
          · rw [beq_iff] at hij; subst hij
            cases hq'
            rw [ht] at ht'; cases ht'
            rw [show true = decide (bytesOf pn' pc' ++ t = bytesOf pn' pc' ++ t) by simp]
            exact .string _ _
          · rw [grd_eq, grd_eq] at hq'
            obtain ⟨hi, hj, hq'⟩ := hq'
            cases hq'
            have hne : i ≠ j := fun he => by rw [(beq_iff i j).2 he] at hij; cases hij
            rw [show false = decide (bytesOf pn' pc' ++ t = bytesOf pn' pc' ++ t') by
              symm; rw [decide_eq_false_iff_not]
              intro he
              have := append_inj_left he
              subst this
              exact hne (s.fam.inj i j t hi hj ht ht')]
            exact .string _ _
end
end Go.Xe
end
