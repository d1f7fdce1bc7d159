/-
  Loads and stores of the executor against the model's; The executor's operations on values and cells against the model's instructions; Elements, string. Conditions: none.
-/
import Derived.Test.YtppjodfehhlniaaGreatDoorXaToXc
import Derived.Laws.Strings
set_option linter.unusedVariables false
set_option linter.unusedSimpArgs false
set_option linter.unusedSectionVars false
section
namespace Go.Xe
noncomputable section
def Runs {α : Type} (P : Program) (s : Sem α) (w : World) (Q : α → World → Prop) : Prop := ∃ a w', s.run P w = .ok a w' ∧ Q a w'
theorem run_bind {α β : Type} (P : Program) (s : Sem α) (f : α → Sem β) (w : World) :
  (s.bind f).run P w = match s.run P w with | .ok a w' => (f a).run P w' | .halt h w' => .halt h w' := by
 show Sem.run P (s >>= f) w = _
 rw [Sem.run_bind]
 cases s.run P w <;> rfl
theorem Runs.bind {α β : Type} {P : Program} {s : Sem α} {f : α → Sem β} {w : World} {Q : β → World → Prop}
  (h : Runs P s w fun a w' => Runs P (f a) w' Q) : Runs P (s.bind f) w Q := by
 obtain ⟨a, w', hs, b, w'', hf, hQ⟩ := h
 exact ⟨b, w'', by rw [run_bind, hs]; exact hf, hQ⟩
theorem Runs.bind' {α β : Type} {P : Program} {s : Sem α} {f : α → Sem β} {w : World} {Q : β → World → Prop}
  (h : Runs P s w fun a w' => Runs P (f a) w' Q) : Runs P (s >>= f) w Q := Runs.bind h
theorem Runs.pure {α : Type} {P : Program} {a : α} {w : World} {Q : α → World → Prop} (h : Q a w) : Runs P (Sem.pure a) w Q := ⟨a, w, rfl, h⟩
theorem Runs.pure' {α : Type} {P : Program} {a : α} {w : World} {Q : α → World → Prop} (h : Q a w) : Runs P (Pure.pure a : Sem α) w Q := ⟨a, w, rfl, h⟩
theorem Runs.mono {α : Type} {P : Program} {s : Sem α} {w : World} {Q Q' : α → World → Prop} (h : Runs P s w Q) (k : ∀ a w', Q a w' → Q' a w') : Runs P s w Q' :=
 let ⟨a, w', hs, hQ⟩ := h; ⟨a, w', hs, k _ _ hQ⟩
theorem Runs.of {α : Type} {P : Program} {s : Sem α} {w w' : World} {a : α} {Q : α → World → Prop} (h : s.run P w = .ok a w') (hQ : Q a w') : Runs P s w Q := ⟨a, w', h, hQ⟩
section
variable {P : Program} {w : World}
theorem zcK {α : Type} {t : TypeId} {d : TypeDesc} (h : P.underlying t = some d) {f : TypeDesc → Sem α} {Q : α → World → Prop} (k : Runs P (f d) w Q) : Runs P (underlying t >>= f) w Q := by
 refine Runs.bind' ⟨d, w, ?_, k⟩
 show (match P.underlying t with | some i => (Pure.pure i : Sem TypeDesc) | none => stuck "no such type").run P w = _
 rw [h]; rfl
theorem zcm {t : TypeId} {i : TypeInfo} (h : P.info? t = some i) : (typeInfo t).run P w = .ok i w := by
 show (match P.info? t with | some i => (Pure.pure i : Sem TypeInfo) | none => stuck "no such type").run P w = _
 rw [h]; rfl
theorem zej {t : TypeId} {d : TypeDesc} (h : P.underlying t = some d) : (underlying t).run P w = .ok d w := by
 show (match P.underlying t with | some i => (Pure.pure i : Sem TypeDesc) | none => stuck "no such type").run P w = _
 rw [h]; rfl
theorem zkH {t n : Nat} (h : zaX P t = some n) : ∃ i, P.info? t = some i ∧ i.size = n := by
 unfold zaX at h; rw [zaa] at h
 obtain ⟨i, hi, hn⟩ := h
 exact ⟨i, hi, Option.some.inj hn⟩
theorem zbx {t n : Nat} (h : zaX P t = some n) : (sizeOf t).run P w = .ok n w := by
 obtain ⟨i, hi, rfl⟩ := zkH h
 show ((typeInfo t).bind fun i => Pure.pure i.size).run P w = _
 rw [run_bind, zcm hi]; rfl
theorem zcS {α : Type} {t n : Nat} (h : zaX P t = some n) {f : Nat → Sem α} {Q : α → World → Prop} (k : Runs P (f n) w Q) : Runs P (sizeOf t >>= f) w Q :=
 Runs.bind' ⟨n, w, zbx h, k⟩
theorem zqG {t : Nat} {g : Bool} (h : aggA P t = some g) : (isAgg t).run P w = .ok g w := by
 unfold aggA at h; rw [zaa] at h
 obtain ⟨d, hd, hg⟩ := h
 cases hg
 show ((underlying t).bind fun d => match d with | .struct _ => Pure.pure true | .array _ _ => Pure.pure true | _ => Pure.pure false).run P w = _
 rw [run_bind, zej hd]
 cases d <;> rfl
theorem zjE {α : Type} {t : Nat} {g : Bool} (h : aggA P t = some g) {f : Bool → Sem α} {Q : α → World → Prop} (k : Runs P (f g) w Q) : Runs P (isAgg t >>= f) w Q :=
 Runs.bind' ⟨g, w, zqG h, k⟩
end
theorem zeM {h : AH} {b : Nat} {l : List AV} (hc : h.cells b = some l) : ∃ ty wr fz olds, h.get b = some (.cells l ty wr fz olds) := by
 unfold AH.cells at hc; rw [zaa] at hc
 obtain ⟨en, he, hl⟩ := hc
 cases en <;> simp [zjt] at hl
 subst hl
 exact ⟨_, _, _, _, he⟩
theorem Sat.row {e : Env} {h : AH} {H : Array Obj} (s : Sat e h H) {b : Nat} {l : List AV} {ty fz : Nat} {wr : Bool} {olds : List Nat} {L : Loc}
  (hb : h.get b = some (.cells l ty wr fz olds)) (hl : e.loc b = some L) :
  ∃ arr T lo hi, H[L.blk]? = some (.cells arr T (lo, hi)) ∧ CellsR e l ty fz L arr T lo hi := by
 obtain ⟨L', o, hl', ho, hr⟩ := s.ents b _ hb
 rw [hl] at hl'; cases hl'
 cases hr with
 | cells _ _ _ _ _ _ arr T lo hi hr => exact ⟨arr, T, lo, hi, ho, hr⟩
theorem zjf {P : Program} {e : Env} {h : AH} {w : World} (s : Sat e h w.heap) {b o : Nat} {v : AV} {L : Loc} (hl : e.loc b = some L) (hr : zdb h b o = some v) :
  ∃ u, (Go.load ⟨L.blk, L.off + o, none⟩).run P w = .ok u w ∧ VR e v u := by
 unfold zdb at hr; rw [zaa] at hr
 obtain ⟨l, hc, hv⟩ := hr
 obtain ⟨ty, wr, fz, olds, hb⟩ := zeM hc
 obtain ⟨arr, T, lo, hi, hH, hR⟩ := s.row hb hl
 rw [zbf] at hv
 obtain ⟨u, hu, hvr⟩ := hR.vals o v hv
 exact ⟨u, zfJ hH hu .pure, hvr⟩
theorem zbz {P : Program} {e : Env} {h : AH} {w : World} (s : Sat e h w.heap) {b o n : Nat} {r : List AV} {L : Loc} (hl : e.loc b = some L) (hr : zbo h b o n = some r) :
  ∃ us : Array Value, (loadCells ⟨L.blk, L.off + o, none⟩ n).run P w = .ok us w ∧ VRs e r us.toList := by
 unfold zbo at hr; rw [zaa] at hr
 obtain ⟨l, hc, hv⟩ := hr
 obtain ⟨ty, wr, fz, olds, hb⟩ := zeM hc
 obtain ⟨arr, T, lo, hi, hH, hR⟩ := s.row hb hl
 rw [zhW] at hv
 by_cases hlen : o + n ≤ l.length
 ·rw [if_pos hlen] at hv
  cases hv
  have h1 := hR.len
  have h2 := hR.room
  refine ⟨arr.extract (L.off + o) (L.off + o + n), ?_, ?_⟩
  ·have := zbF (P := P) hH n 0 #[] (p := L.off + o) (by omega)
   rw [show (loadCells ⟨L.blk, L.off + o, none⟩ n) = loadCellsFrom ⟨L.blk, L.off + o, none⟩ 0 n #[] from rfl, this]
   simp
  ·refine VRs.of_get (by simp; omega) fun i v u hi' hu => ?_
   have hin : i < n := by
    have : i < ((l.drop o).take n).length := by
     rcases Nat.lt_or_ge i ((l.drop o).take n).length with h | h
     ·exact h
     ·rw [List.getElem?_eq_none h] at hi'; cases hi'
    simp at this; omega
   have hv : l[o + i]? = some v := by
    rw [List.getElem?_take, if_pos hin, List.getElem?_drop] at hi'; exact hi'
   obtain ⟨u', hu', hvr⟩ := hR.vals (o + i) v hv
   have : (arr.extract (L.off + o) (L.off + o + n)).toList[i]? = some u' := by
    rw [Array.getElem?_toList, Array.getElem?_extract, if_pos (by omega), show L.off + o + i = L.off + (o + i) by omega]; exact hu'
   rw [this] at hu; cases hu; exact hvr
 ·rw [if_neg hlen] at hv; cases hv
theorem zoQ (l : List AV) : allC l = true ↔ ∀ v ∈ l, zql v = true := by
 induction l with
 | nil => simp [allC]
 | cons v l ih =>
   show ite' (zql v) (allC l) false = true ↔ _
   rw [zai, Bool.and_eq_true, ih]; simp
theorem zno {e : Env} : {l : List AV} → {us : List Value} → VRs e l us → allC l = true → ∀ u ∈ us, cellU u = true
 | _, _, .nil, _ => by simp
 | _, _, .cons v u l l' h ht, hc => by
   rw [zoQ] at hc
   intro x hx
   rcases List.mem_cons.1 hx with rfl | hx
   ·exact h.cellU (hc v (List.mem_cons_self ..))
   ·exact zno ht ((zoQ _).2 fun v hv => hc v (List.mem_cons_of_mem _ hv)) x hx
theorem za1 (a b : Nat) : Nat.ble a b = true ↔ a ≤ b := by rw [Nat.ble_eq]
theorem Step.kill {e : Env} {h : AH} {w : World} (l : List Nat) : Step e h w e (AH.kill l h) w :=
 ⟨.refl e, by rw [(zby l h).1]; exact Nat.le_refl _, Nat.le_refl _, fun _ _ hO => ⟨rfl, fun hO' => hO hO'.kill⟩, rfl, rfl, rfl, fun _ _ h => .inl h, fun b _ hg => by rw [zcl, hg]; split <;> rfl⟩
theorem zgy {l vs l' : List AV} {o : Nat} (h : zdr l o vs = some l') (i : Nat) :
  l'.length = l.length ∧ o + vs.length ≤ l.length ∧ l'[i]? = if o ≤ i ∧ i < o + vs.length then vs[i - o]? else l[i]? := by
 rw [zlD] at h
 by_cases hb : o + vs.length ≤ l.length
 ·rw [if_pos hb] at h
  cases h
  refine ⟨by simp; omega, hb, ?_⟩
  by_cases h1 : i < o
  ·rw [if_neg (by omega), List.append_assoc, List.getElem?_append_left (by simp; omega), List.getElem?_take, if_pos h1]
  ·by_cases h2 : i < o + vs.length
   ·rw [if_pos (by omega), List.append_assoc, List.getElem?_append_right (by simp; omega), List.getElem?_append_left (by simp; omega)]
    congr 1; simp; omega
   ·rw [if_neg (by omega), List.getElem?_append_right (by simp; omega), List.getElem?_drop]
    congr 1; simp; omega
 ·rw [if_neg hb] at h; cases h
theorem zcw {P : Program} {e : Env} {h h' : AH} {w : World} (s : Sat e h w.heap) {b o : Nat} {vs : List AV} {us : List Value} {L : Loc} (hl : e.loc b = some L)
  (hv : VRs e vs us) (hw : zbe h b o vs = some h') :
  ∃ w', (storeCells ⟨L.blk, L.off + o, none⟩ us).run P w = .ok () w' ∧ Sat e h' w'.heap ∧ Step e h w e h' w' := by
 unfold zbe at hw; rw [zaa] at hw
 obtain ⟨en, hb, hw⟩ := hw
 cases en <;> try (simp [ztR] at hw; done)
 rename_i l ty wr fz olds
 have hw' : grd wr (grd (Nat.ble fz o) (grd (allC vs) (bnd (zdr l o vs) fun l' => some (AH.set (AH.kill olds h) b (.cells l' ty true fz []))))) = some h' := hw
 rw [zac, zac, zac, zaa] at hw'
 obtain ⟨rfl, hfz, hac, l', hsp, hh⟩ := hw'
 cases hh
 obtain ⟨arr, T, lo, hi, hH, hR⟩ := s.row hb hl
 have hlen := (zgy hsp 0).1
 have hbd := (zgy hsp 0).2.1
 have h1 := hR.len
 have h2 := hR.room
 have hus := hv.length
 have hfz' : fz ≤ o := (za1 _ _).1 hfz
 have hrun := zdk (P := P) us 0 (w := w) (B := L.blk) (p := L.off + o) hH (by omega)
  (fun k hk1 hk2 => by
   have := hR.free (k - L.off) (by omega) (by omega)
   rwa [show L.off + (k - L.off) = k by omega] at this) (zno hv hac)
 refine ⟨_, hrun, ?_, ?_⟩
 ·have hnb : b ∉ olds := fun hm => by
   have := s.olds b b _ _ L L hb hm hb hl hl rfl
   simp [wrE] at this
  have hkb : (AH.kill olds h).get b = some (.cells l ty true fz olds) := by rw [zcl, if_neg hnb]; exact hb
  have hal := (s.kill olds).aloneW hkb hl rfl fun c hc => by rw [zcl]; exact if_pos hc
  refine (s.kill olds).setObj hkb hl hal ?_ (fun c hc => by cases hc) (fun hx => by simp [wrE] at hx) hlen
  rw [zqF]
  refine .cells _ _ _ _ _ _ _ _ _ _ ⟨by rw [zgx]; exact h2, by omega, fun i v hi' => ?_, hR.free, hR.ty⟩
  rw [(zgy hsp i).2.2] at hi'
  rw [zh0 _ _ _ _ (by omega)]
  by_cases hin : o ≤ i ∧ i < o + vs.length
  ·rw [if_pos hin] at hi'
   rw [if_pos (by omega)]
   obtain ⟨u, hu, hvr⟩ := hv.get hi'
   exact ⟨u, by rw [show L.off + i - (L.off + o + 0) = i - o by omega]; exact hu, hvr⟩
  ·rw [if_neg hin] at hi'
   rw [if_neg (by omega)]
   exact hR.vals i v hi'
 ·refine (Step.kill (w := w) olds).trans ?_
  have hnb : b ∉ olds := fun hm => by
   have := s.olds b b _ _ L L hb hm hb hl hl rfl
   simp [wrE] at this
  have hkb : (AH.kill olds h).get b = some (.cells l ty true fz olds) := by rw [zcl, if_neg hnb]; exact hb
  exact Step.setObj (s.kill olds) _ hkb hl
end
end Go.Xe
end
section
namespace Go.Xe
noncomputable section
section
variable {α : Type}
theorem zek {a : AV} {k : Nat → Nat → Option α} {y : α} : ptrV a k = some y ↔ ∃ b o, a = .ptr b o ∧ k b o = some y := by
 cases a <;> first | (simp [ptrV]; done) | exact ⟨fun h => ⟨_, _, rfl, h⟩, fun ⟨_, _, h, k⟩ => by cases h; exact k⟩
theorem zgz {a : AV} {k : Int → Option α} {y : α} : intV a k = some y ↔ ∃ kd i, a = .int kd i ∧ k i = some y := by
 cases a <;> first | (simp [intV]; done) | exact ⟨fun h => ⟨_, _, rfl, h⟩, fun ⟨_, _, h, k⟩ => by cases h; exact k⟩
theorem zkI {i : Int} {k : Nat → Option α} {y : α} : natI i k = some y ↔ ∃ n : Nat, i = (n : Int) ∧ k n = some y := by
 cases i with
 | ofNat n => exact ⟨fun h => ⟨n, rfl, h⟩, fun ⟨m, hm, h⟩ => by cases hm; exact h⟩
 | negSucc n =>
   constructor
   ·intro h; cases h
   ·rintro ⟨m, hm, _⟩; cases hm
theorem zfh {a : AV} {k : Nat → Option α} {y : α} : natV a k = some y ↔ ∃ kd, ∃ n : Nat, a = .int kd (n : Int) ∧ k n = some y := by
 unfold natV; rw [zgz]
 constructor
 ·rintro ⟨kd, i, rfl, h⟩
  rw [zkI] at h
  obtain ⟨n, rfl, h⟩ := h
  exact ⟨kd, n, rfl, h⟩
 ·rintro ⟨kd, n, rfl, h⟩
  exact ⟨kd, n, rfl, zkI.2 ⟨n, rfl, h⟩⟩
theorem zdM {a : AV} {k : List AV → Option α} {y : α} : aggV a k = some y ↔ ∃ l, a = .agg l ∧ k l = some y := by cases a <;> simp [aggV]
theorem zuv {a : AV} {k : List AV → Option α} {y : α} : tupV a k = some y ↔ ∃ l, a = .tup l ∧ k l = some y := by cases a <;> simp [tupV]
theorem zfi {a : AV} {k : Nat → Nat → Option α} {y : α} : strV a k = some y ↔ ∃ n c, a = .str n c ∧ k n c = some y := by
 cases a <;> first | (simp [strV]; done) | exact ⟨fun h => ⟨_, _, rfl, h⟩, fun ⟨_, _, h, k⟩ => by cases h; exact k⟩
theorem zel {a : AV} {k : Nat → Option α} {y : α} : mapV a k = some y ↔ ∃ b, a = .map b ∧ k b = some y := by cases a <;> simp [mapV]
theorem zuw {a : AV} {k : Nat → Option α} {y : α} : stpV a k = some y ↔ ∃ b, a = .stp b ∧ k b = some y := by cases a <;> simp [stpV]
theorem zav {b : Bool} {x y : Option α} {z : α} : ite' b x y = some z ↔ (b = true ∧ x = some z) ∨ (b = false ∧ y = some z) := by cases b <;> simp
end
theorem zcT {e : Env} {b o : Nat} {u : Value} (h : VR e (.ptr b o) u) : ∃ l, e.loc b = some l ∧ u = .pointer (some ⟨l.blk, l.off + o, none⟩) := by
 cases h with | ptr _ _ l h => exact ⟨l, h, rfl⟩
theorem zbd {e : Env} {k : IntKind} {n : Int} {u : Value} (h : VR e (.int k n) u) : u = .int k n := by cases h; rfl
theorem zbX {e : Env} {n c : Nat} {u : Value} (h : VR e (.str n c) u) : u = .string (zad n c) := by cases h; rfl
theorem zh1 {e : Env} {l : List AV} {u : Value} (h : VR e (.agg l) u) : ∃ us : Array Value, u = .agg us ∧ VRs e l us.toList := by
 cases h with | agg _ l' h => exact ⟨l', rfl, h⟩
theorem zvq {e : Env} {l : List AV} {u : Value} (h : VR e (.tup l) u) : ∃ us : Array Value, u = .tuple us ∧ VRs e l us.toList := by
 cases h with | tup _ l' h => exact ⟨l', rfl, h⟩
theorem zlE {e : Env} {b o n z : Nat} {u : Value} (h : VR e (.sl b o n z) u) : ∃ l c, e.loc b = some l ∧ 0 < z ∧ o + c * z = l.ext ∧ n ≤ c ∧ u = .slice (some ⟨l.blk, l.off + o, none⟩) n c := by
 cases h with | sl _ _ _ _ c l h h0 h1 h2 => exact ⟨l, c, h, h0, h1, h2, rfl⟩
theorem zh2 {e : Env} {b : Nat} {u : Value} (h : VR e (.map b) u) : ∃ l, e.loc b = some l ∧ u = .map (some l.blk) := by
 cases h with | map _ l h => exact ⟨l, h, rfl⟩
theorem zdN {e : Env} {b : Bool} {u : Value} (h : VR e (.bool b) u) : u = .bool b := by cases h; rfl
theorem za6 (k : IntKind) (n : Int) : zca k n = .int k n := by
 unfold zca
 cases n with
 | ofNat m => rw [iE_nat, zaL]
 | negSucc m => rw [iE_neg, zaL]
theorem zeN (n c : Nat) : zlq n c = .str n c := by unfold zlq; rw [zaL, zaL]
theorem zaV (b : Bool) : zbZ b = .bool b := by cases b <;> rfl
theorem zeO (n : Nat) : zdI n = .int .i64 (n : Int) := by unfold zdI; rw [zaL]; rfl
theorem Addr.add_eq (B o n : Nat) : (⟨B, o, none⟩ : Addr).add n = ⟨B, o + n, none⟩ := by
 unfold Go.Addr.add
 by_cases h : n = 0
 ·subst h; rfl
 ·rw [if_neg h]
theorem zsE {e : Env} {v : AV} {u : Value} (h : VR e v u) (hs : ∀ i, v ≠ .sval i) : VRs e v.cells u.cells.toList := by
 cases h with
 | agg l l' h => exact h
 | sval i v h hc => exact absurd rfl (hs i)
 | _ => first | exact .cons _ _ _ _ (by constructor <;> assumption) .nil | exact .cons _ _ _ _ (by first | exact .bool _ | exact .int _ _ | exact .str _ _ | exact .pnil | exact .gptr _ | exact .sle _ _ | exact .snil | exact .mnil | exact .fnil | exact .inil) .nil
theorem zcU {e : Env} {v : AV} {u : Value} (h : VR e v u) : VRs e v.cells u.cells.toList := by
 cases v with
 | sval i =>
   cases h with
   | sval _ _ h hc =>
     have : u.cells = #[u] := by cases u <;> first | rfl | (simp [Go.Xe.cellU] at hc)
     rw [this]
     exact .cons _ _ _ _ (.sval i u h hc) .nil
 | _ => exact zsE h (fun i h => by cases h)
theorem zgA {P : Program} {e : Env} {h : AH} {w : World} (s : Sat e h w.heap) {t : TypeId} {a v : AV} {ua : Value} (ha : VR e a ua) (hv : load P t a h = some v) :
  Runs P (Instr.loadAt t ua) w fun u w' => VR e v u ∧ w' = w := by
 unfold load at hv
 rw [zek] at hv
 obtain ⟨b, o, rfl, hv⟩ := hv
 rw [zaa] at hv
 obtain ⟨g, hg, hv⟩ := hv
 obtain ⟨L, hl, rfl⟩ := zcT ha
 unfold Instr.loadAt
 refine Runs.bind' ⟨⟨L.blk, L.off + o, none⟩, w, rfl, ?_⟩
 unfold loadVar
 refine zjE hg ?_
 cases g with
 | true =>
   rw [ite'_true, zaa] at hv
   obtain ⟨n, hn, hv⟩ := hv
   rw [zaa] at hv
   obtain ⟨r, hr, hv⟩ := hv
   cases hv
   obtain ⟨us, hus, hvr⟩ := zbz (P := P) s hl hr
   simp only [if_true]
   refine zcS hn ?_
   refine Runs.bind' ⟨us, w, hus, ?_⟩
   exact Runs.pure' ⟨.agg _ _ hvr, rfl⟩
 | false =>
   rw [ite'_false] at hv
   obtain ⟨u, hu, hvr⟩ := zjf (P := P) s hl hv
   simp only [Bool.false_eq_true, if_false]
   exact ⟨u, w, hu, hvr, rfl⟩
theorem znp {P : Program} {e : Env} {h h' : AH} {w : World} (s : Sat e h w.heap) {t : TypeId} {a v : AV} {ua u : Value} (ha : VR e a ua) (hvu : VR e v u) (hs : store P t a v h = some h') :
  Runs P (Instr.storeAt t ua u) w fun _ w' => Sat e h' w'.heap ∧ Step e h w e h' w' := by
 unfold store at hs
 rw [zek] at hs
 obtain ⟨b, o, rfl, hs⟩ := hs
 rw [zaa] at hs
 obtain ⟨n, hn, hs⟩ := hs
 rw [zac] at hs
 obtain ⟨hlen, hs⟩ := hs
 obtain ⟨L, hl, rfl⟩ := zcT ha
 have hc := zcU hvu
 obtain ⟨w', hrun, hS, hT⟩ := zcw (P := P) s hl hc hs
 unfold Instr.storeAt
 refine Runs.bind' ⟨⟨L.blk, L.off + o, none⟩, w, rfl, ?_⟩
 unfold storeVar
 refine zcS hn ?_
 rw [zae, zaU] at hlen
 have : u.cells.size = n := by rw [← hlen, hc.length]; simp
 rw [if_neg (fun hne => hne this)]
 exact ⟨(), w', hrun, hS, hT⟩
theorem zjF {P : Program} {t f : Nat} {fd : Field} (h : zoA P t f = some fd) : ∃ fs : Array Field, P.underlying t = some (.struct fs) ∧ fs[f]? = some fd := by
 unfold zoA at h; rw [zaa] at h
 obtain ⟨d, hd, h⟩ := h
 rw [zaa] at h
 obtain ⟨l, hl, h⟩ := h
 cases d <;> simp [zqj] at hl
 subst hl
 rw [zbf, Array.getElem?_toList] at h
 exact ⟨_, hd, h⟩
theorem zem {P : Program} {e : Env} {w : World} {t f : Nat} {a v : AV} {ua : Value} (ha : VR e a ua) (hv : fieldAddr P t f a = some v) :
  Runs P (Instr.fieldAt t ua f) w fun u w' => VR e v u ∧ w' = w := by
 unfold fieldAddr at hv
 rw [zek] at hv
 obtain ⟨b, o, rfl, hv⟩ := hv
 rw [zaa] at hv
 obtain ⟨fd, hf, hv⟩ := hv
 rw [zaa] at hv
 obtain ⟨n, hn, hv⟩ := hv
 rw [zac, zau] at hv
 obtain ⟨h0, hv⟩ := hv
 rw [zaL] at hv
 cases hv
 obtain ⟨fs, hd, hfd⟩ := zjF hf
 obtain ⟨L, hl, rfl⟩ := zcT ha
 unfold Instr.fieldAt
 refine zcK hd ?_
 simp only [hfd]
 refine Runs.bind' ⟨⟨L.blk, L.off + o, none⟩, w, rfl, ?_⟩
 refine Runs.bind' ?_
 unfold fieldPlace
 refine zcS hn ?_
 rw [if_neg (by omega)]
 refine Runs.pure' (Runs.pure' ⟨?_, rfl⟩)
 rw [Addr.add_eq, Nat.add_assoc]
 exact .ptr b _ L hl
theorem zgB {P : Program} {e : Env} {w : World} {t off : Nat} {cs : List AV} {us : Array Value} (hc : VRs e cs us.toList) {v : AV} (hv : zjb P t cs off = some v) :
  Runs P (part t us off) w fun u w' => VR e v u ∧ w' = w := by
 unfold zjb at hv
 rw [zaa] at hv
 obtain ⟨g, hg, hv⟩ := hv
 unfold part
 refine zjE hg ?_
 cases g with
 | true =>
   rw [ite'_true, zaa] at hv
   obtain ⟨n, hn, hv⟩ := hv
   rw [zaa] at hv
   obtain ⟨r, hr, hv⟩ := hv
   cases hv
   simp only [if_true]
   refine zcS hn ?_
   refine Runs.pure' ⟨.agg _ _ ?_, rfl⟩
   rw [zhW] at hr
   by_cases hb : off + n ≤ cs.length
   ·rw [if_pos hb] at hr; cases hr
    have := (hc.drop off).take n
    rw [Array.toList_extract, List.extract_eq_take_drop]
    rwa [show off + n - off = n by omega]
   ·rw [if_neg hb] at hr; cases hr
 | false =>
   rw [ite'_false, zbf] at hv
   simp only [Bool.false_eq_true, if_false]
   obtain ⟨u, hu, hvr⟩ := hc.get hv
   rw [Array.getElem?_toList] at hu
   simp only [hu]
   exact Runs.pure' ⟨hvr, rfl⟩
theorem zh3 {P : Program} {e : Env} {w : World} {t f : Nat} {a v : AV} {ua : Value} (ha : VR e a ua) (hv : field P t f a = some v) :
  Runs P (Instr.field t ua f) w fun u w' => VR e v u ∧ w' = w := by
 unfold field at hv
 rw [zdM] at hv
 obtain ⟨l, rfl, hv⟩ := hv
 rw [zaa] at hv
 obtain ⟨fd, hf, hv⟩ := hv
 obtain ⟨fs, hd, hfd⟩ := zjF hf
 obtain ⟨us, rfl, hc⟩ := zh1 ha
 unfold Instr.field
 refine zcK hd ?_
 simp only [hfd]
 exact Runs.bind' ⟨us, w, rfl, zgB hc hv⟩
theorem zh4 {α : Type} {P : Program} {w : World} (k : IntKind) (n : Int) {f : IntKind × Int → Sem α} {Q : α → World → Prop} (h : Runs P (f (k, n)) w Q) :
  Runs P (asIntOf (.int k n) >>= f) w Q := Runs.bind' ⟨(k, n), w, rfl, h⟩
end
end Go.Xe
end
section
namespace Go.Xe
noncomputable section
theorem zbG (n c : Nat) : (zaC n c).length = n := by simp [zaC]
theorem zaM (n c : Nat) : (zad n c).size = n := by
 show (zaC n c).toArray.size = n
 simp [zbG]
theorem zpx {n c i : Nat} (h : i < n) : (zaC n c)[i]? = some (UInt8.ofNat (c / 256 ^ i % 256)) := by
 unfold zaC
 simp [h]
theorem znq {n c i : Nat} (h : i < n) : (zad n c)[i]? = some (UInt8.ofNat (c / 256 ^ i % 256)) := by
 have hs := zaM n c
 have : (zad n c)[i]? = (zad n c).data[i]? := by
  simp only [getElem?_def]
  by_cases h1 : i < (zad n c).size
  ·rw [dif_pos h1, dif_pos (show i < (zad n c).data.size from h1)]
   rfl
  ·rw [dif_neg h1, dif_neg (show ¬ i < (zad n c).data.size from h1)]
 rw [this]
 show (zaC n c).toArray[i]? = _
 rw [List.getElem?_toArray]; exact zpx h
theorem zlF {α β : Type} {P : Program} {w : World} {a : α} {f : α → Sem β} {Q : β → World → Prop} (h : Runs P (f a) w Q) : Runs P ((pure a : Sem α) >>= f) w Q :=
 Runs.bind' ⟨a, w, rfl, h⟩
theorem zen {P : Program} {e : Env} {w : World} {t : TypeId} {x ix v : AV} {ux ui : Value} (hx : VR e x ux) (hi : VR e ix ui) (hv : indexAddr P t x ix = some v) :
  Runs P (Instr.indexAt t ux ui) w fun u w' => VR e v u ∧ w' = w := by
 unfold indexAddr at hv
 rw [zfh] at hv
 obtain ⟨kd, i, rfl, hv⟩ := hv
 rw [zaa] at hv
 obtain ⟨d, hd, hv⟩ := hv
 cases zbd hi
 unfold Instr.indexAt
 refine zh4 _ _ ?_
 simp only []
 refine zcK hd ?_
 cases d <;> try (simp [zgm] at hv; done)
 case array n el =>
  have hv' : ptrV x (fun b o => grd (Nat.blt i n) (bnd (zaX P el) fun z => some (frc (Nat.add o (Nat.mul i z)) fun o => .ptr b o))) = some v := hv
  rw [zek] at hv'
  obtain ⟨b, o, rfl, hv'⟩ := hv'
  rw [zac, zau, zaa] at hv'
  obtain ⟨hin, z, hz, hv'⟩ := hv'
  rw [zaL] at hv'; cases hv'
  obtain ⟨L, hl, rfl⟩ := zcT hx
  simp only []
  refine Runs.bind' ⟨⟨L.blk, L.off + o, none⟩, w, rfl, ?_⟩
  refine zlF ?_
  simp only []
  refine zcK hd ?_
  simp only []
  rw [if_pos ⟨Int.natCast_nonneg i, by exact_mod_cast hin⟩]
  refine zcS hz ?_
  refine Runs.pure' ⟨?_, rfl⟩
  rw [Addr.add_eq, Int.toNat_natCast, Nat.add_assoc]
  exact .ptr b _ L hl
 case slice el =>
  cases x <;> try (simp [zgm] at hv; done)
  rename_i b o l z
  have hv' : grd (Nat.blt i l) (bnd (zaX P el) fun z' => grd (Nat.beq z z') (some (frc (Nat.add o (Nat.mul i z)) fun o => .ptr b o))) = some v := hv
  rw [zac, zau, zaa] at hv'
  obtain ⟨hin, z', hz, hv'⟩ := hv'
  rw [zac, zae, zaL] at hv'
  obtain ⟨rfl, hv'⟩ := hv'
  cases hv'
  obtain ⟨L, c, hl, h0, h1, h2, rfl⟩ := zlE hx
  simp only []
  refine zlF ?_
  simp only []
  refine zcK hd ?_
  simp only []
  rw [if_pos ⟨Int.natCast_nonneg i, by exact_mod_cast hin⟩]
  refine zcS hz ?_
  refine Runs.pure' ⟨?_, rfl⟩
  rw [Addr.add_eq, Int.toNat_natCast, Nat.add_assoc]
  exact .ptr b _ L hl
theorem zh5 {P : Program} {e : Env} {w : World} {t : TypeId} {x ix v : AV} {ux ui : Value} (hx : VR e x ux) (hi : VR e ix ui) (hv : index P t x ix = some v) :
  Runs P (Instr.index t ux ui) w fun u w' => VR e v u ∧ w' = w := by
 unfold index at hv
 rw [zfh] at hv
 obtain ⟨kd, i, rfl, hv⟩ := hv
 rw [zaa] at hv
 obtain ⟨d, hd, hv⟩ := hv
 cases zbd hi
 unfold Instr.index
 refine zh4 _ _ ?_
 simp only []
 refine zcK hd ?_
 cases d <;> try (simp [ztS] at hv; done)
 case array n el =>
  have hv' : aggV x (fun cs => grd (Nat.blt i n) (bnd (zaX P el) fun z => zjb P el cs (Nat.mul i z))) = some v := hv
  rw [zdM] at hv'
  obtain ⟨l, rfl, hv'⟩ := hv'
  rw [zac, zau, zaa] at hv'
  obtain ⟨hin, z, hz, hv'⟩ := hv'
  obtain ⟨us, rfl, hc⟩ := zh1 hx
  simp only []
  rw [if_pos ⟨Int.natCast_nonneg i, by exact_mod_cast hin⟩]
  refine zcS hz ?_
  rw [Int.toNat_natCast]
  exact zgB hc hv'
 case string =>
  have hv' : strV x (fun n c => grd (Nat.blt i n) (some (zqm c i))) = some v := hv
  rw [zfi] at hv'
  obtain ⟨n, c, rfl, hv'⟩ := hv'
  rw [zac, zau] at hv'
  obtain ⟨hin, hv'⟩ := hv'
  cases hv'
  cases zbX hx
  simp only [Int.natCast_nonneg, if_true, Int.toNat_natCast, znq hin]
  refine Runs.pure' ⟨?_, rfl⟩
  unfold zqm
  rw [zaL]
  have : (UInt8.ofNat (c / 256 ^ i % 256)).toNat = c / 256 ^ i % 256 := by
   simp [UInt8.toNat_ofNat']
  rw [this]
  exact .int _ _
end
end Go.Xe
end
section
namespace Go.Xe
noncomputable section
theorem zfj (c : Nat) : zaC 0 c = [] := rfl
theorem zbj (n c : Nat) : zaC (n + 1) c = UInt8.ofNat (c % 256) :: zaC n (c / 256) := by
 unfold zaC
 rw [List.range_succ_eq_map, List.map_cons, List.map_map]
 congr 1
 ·simp
 ·apply List.map_congr_left
  intro i _
  simp only [Function.comp]
  rw [Nat.div_div_eq_div_mul, Nat.pow_succ, Nat.mul_comm 256]
theorem zjG : zcp [] = 0 := rfl
theorem zcV (b : UInt8) (l : List UInt8) : zcp (b :: l) = b.toNat + 256 * zcp l := rfl
theorem zbR (c : Nat) : (UInt8.ofNat (c % 256)).toNat = c % 256 := by simp [UInt8.toNat_ofNat']
theorem zb1 (n c : Nat) : zcp (zaC n c) = c % 256 ^ n := by
 induction n generalizing c with
 | zero => rw [zfj, zjG]; simp [Nat.mod_one]
 | succ n ih => rw [zbj, zcV, ih, zbR, Nat.pow_succ, Nat.mul_comm (256 ^ n), Nat.mod_mul]
theorem zdO (l : List UInt8) : zaC l.length (zcp l) = l := by
 induction l with
 | nil => rfl
 | cons b l ih =>
   rw [List.length_cons, zbj, zcV]
   have h1 : (b.toNat + 256 * zcp l) % 256 = b.toNat := by have := b.toNat_lt; omega
   have h2 : (b.toNat + 256 * zcp l) / 256 = zcp l := by have := b.toNat_lt; omega
   rw [h1, h2, ih]
   simp
theorem zpy (l r : List UInt8) : zcp (l ++ r) = zcp l + 256 ^ l.length * zcp r := by
 induction l with
 | nil => simp [zjG]
 | cons b l ih => rw [List.cons_append, zcV, zcV, ih, List.length_cons, Nat.pow_succ, Nat.mul_comm (256 ^ l.length) 256, Nat.mul_assoc, Nat.mul_add]; omega
theorem zeP (n c : Nat) : zaC n (c % 256 ^ n) = zaC n c := by
 have h := zdO (zaC n c)
 rw [zbG, zb1] at h
 exact h
theorem zgC {n c n' c' : Nat} : zaC n c = zaC n' c' ↔ n = n' ∧ c % 256 ^ n = c' % 256 ^ n' := by
 constructor
 ·intro h
  have hn : n = n' := by have := congrArg List.length h; simpa [zbG] using this
  subst hn
  exact ⟨rfl, by rw [← zb1, ← zb1, h]⟩
 ·rintro ⟨rfl, h⟩
  rw [← zeP n c, ← zeP n c', h]
theorem zh6 {n c n' c' : Nat} : zad n c = zad n' c' ↔ n = n' ∧ c % 256 ^ n = c' % 256 ^ n' := by
 rw [← zgC]
 constructor
 ·intro h
  have := congrArg (fun b : ByteArray => b.data.toList) h
  simpa [zad] using this
 ·intro h; unfold zad; rw [h]
theorem zeo (n c n' c' : Nat) : zeY n c n' c' = true ↔ zad n c = zad n' c' := by
 unfold zeY
 rw [zai, Bool.and_eq_true, zae, zae, zh6]
 exact Iff.rfl
theorem znr (n c n' c' : Nat) : zeY n c n' c' = false ↔ zad n c ≠ zad n' c' := by
 rw [← Bool.not_eq_true, zeo]
theorem zjH (l : List UInt8) : zad l.length (zcp l) = ⟨l.toArray⟩ := by unfold zad; rw [zdO]
theorem zg2 (s : ByteArray) : zad s.data.toList.length (zcp s.data.toList) = s := by
 rw [zjH]
theorem zcW (n c n' c' : Nat) : zad n c ++ zad n' c' = zad (n + n') (c % 256 ^ n + 256 ^ n * c') := by
 have h : zaC n c ++ zaC n' c' = zaC (n + n') (c % 256 ^ n + 256 ^ n * c') := by
  have h1 := zdO (zaC n c ++ zaC n' c')
  rw [List.length_append, zbG, zbG, zpy, zb1, zb1, zbG] at h1
  rw [← h1, zgC]
  refine ⟨rfl, ?_⟩
  rw [Nat.pow_add]
  have hlt : c % 256 ^ n < 256 ^ n := Nat.mod_lt _ (Nat.pow_pos (by decide))
  rw [Nat.mod_mul, Nat.mod_mul]
  rw [Nat.add_mul_mod_self_left, Nat.add_mul_mod_self_left, Nat.mod_mod]
  rw [Nat.add_mul_div_left _ _ (Nat.pow_pos (by decide)), Nat.add_mul_div_left _ _ (Nat.pow_pos (by decide))]
  rw [Nat.div_eq_of_lt hlt, Nat.zero_add, Nat.zero_add, Nat.mod_mod]
 apply ByteArray.ext
 rw [ByteArray.data_append]
 show (zaC n c).toArray ++ (zaC n' c').toArray = (zaC (n + n') _).toArray
 rw [← h]
 simp
theorem zns (n c l : Nat) (h : l ≤ n) : (zaC n c).drop l = zaC (n - l) (c / 256 ^ l) := by
 induction l generalizing n c with
 | zero => simp
 | succ l ih =>
   cases n with
   | zero => omega
   | succ n =>
     rw [zbj, List.drop_succ_cons, ih n _ (by omega), Nat.div_div_eq_div_mul, Nat.pow_succ, Nat.mul_comm 256]
     congr 1; omega
theorem zh7 (n c k : Nat) (h : k ≤ n) : (zaC n c).take k = zaC k c := by
 unfold zaC
 rw [← List.map_take, List.take_range, Nat.min_eq_left h]
theorem zep (n c l hh : Nat) (h1 : l ≤ hh) (h2 : hh ≤ n) : (zad n c).extract l hh = zad (hh - l) (c / 256 ^ l % 256 ^ (hh - l)) := by
 apply ByteArray.ext
 rw [ByteArray.data_extract]
 apply Array.ext'
 rw [Array.toList_extract, List.extract_eq_take_drop]
 show ((zaC n c).drop l).take (hh - l) = zaC (hh - l) _
 rw [zns _ _ _ (by omega), zh7 _ _ _ (by omega), zeP]
theorem zsF (f n c c' : Nat) : zhj (f + 1) n c 0 c' = false := rfl
theorem zsG (f c n' c' : Nat) : zhj (f + 1) 0 c (n' + 1) c' = true := rfl
theorem zsH (f n c n' c' : Nat) : zhj (f + 1) (n + 1) c (n' + 1) c' =
  ite' (Nat.blt (c % 256) (c' % 256)) true (ite' (Nat.beq (c % 256) (c' % 256)) (zhj f n (c / 256) n' (c' / 256)) false) := rfl
theorem zh8 (f n c n' c' : Nat) (h : n < f) : zhj f n c n' c' = Op.bytesLess (zaC n c) (zaC n' c') := by
 induction f generalizing n c n' c' with
 | zero => omega
 | succ f ih =>
   cases n' with
   | zero =>
     rw [zsF, zfj]
     cases n with
     | zero => rfl
     | succ n => rw [zbj]; rfl
   | succ n' =>
     cases n with
     | zero => rw [zsG, zfj, zbj]; rfl
     | succ n =>
       rw [zsH, zbj, zbj, ih _ _ _ _ (by omega)]
       rw [zcR, zai]
       show _ = (UInt8.ofNat (c % 256) < UInt8.ofNat (c' % 256) || (UInt8.ofNat (c % 256) == UInt8.ofNat (c' % 256) && _))
       congr 1
       ·rw [Bool.eq_iff_iff, zau, decide_eq_true_iff, UInt8.lt_iff_toNat_lt, zbR, zbR]
       ·congr 1
        rw [Bool.eq_iff_iff, zae, beq_iff_eq]
        constructor
        ·intro h; rw [h]
        ·intro h
         have := congrArg UInt8.toNat h
         rwa [zbR, zbR] at this
end
end Go.Xe
end
section
namespace Go.Xe
noncomputable section
theorem zpz (a b : ByteArray) : (a == b) = true ↔ a = b := by
 obtain ⟨a⟩ := a
 obtain ⟨b⟩ := b
 show (a == b) = true ↔ _
 rw [beq_iff_eq]
 exact ⟨fun h => by rw [h], fun h => by cases h; rfl⟩
theorem zh9 (a b : ByteArray) : (a == b) = decide (a = b) := by
 rw [Bool.eq_iff_iff, zpz, decide_eq_true_iff]
theorem zgD (a b : ByteArray) : (a.toList == b.toList) = decide (a = b) := by
 rw [Bool.eq_iff_iff, decide_eq_true_iff, beq_iff_eq, ByteArray.toList_eq, ByteArray.toList_eq]
 exact ⟨fun h => ByteArray.ext (Array.ext' h), fun h => by rw [h]⟩
theorem zqH {a b : IntKind} (h : kindN a = kindN b) : a = b := by cases a <;> cases b <;> first | rfl | (simp [kindN] at h)
theorem zcd {a b : IntKind} : zcB a b = true ↔ a = b := by
 unfold zcB
 rw [zae]
 exact ⟨zqH, fun h => by rw [h]⟩
theorem zdP (a b : Int) : zgn a b = (a == b) := by
 cases a with
 | ofNat m =>
   cases b with
   | ofNat n =>
     show Nat.beq m n = _
     rw [Bool.eq_iff_iff, zae, beq_iff_eq]
     exact ⟨fun h => by rw [h], fun h => Int.ofNat.inj h⟩
   | negSucc n =>
     show false = _
     symm; rw [beq_eq_false_iff_ne]; simp
 | negSucc m =>
   cases b with
   | ofNat n =>
     show false = _
     symm; rw [beq_eq_false_iff_ne]; simp
   | negSucc n =>
     show Nat.beq m n = _
     rw [Bool.eq_iff_iff, zae, beq_iff_eq]
     exact ⟨fun h => by rw [h], fun h => Int.negSucc.inj h⟩
theorem zdv (a b : Int) : zlr a b = decide (a < b) := by
 cases a with
 | ofNat m =>
   cases b with
   | ofNat n =>
     show Nat.blt m n = _
     rw [Bool.eq_iff_iff, zau, decide_eq_true_iff]
     simp
   | negSucc n =>
     show false = _
     symm; rw [decide_eq_false_iff_not]
     have := Int.negSucc_lt_zero n
     have h2 : (0 : Int) ≤ Int.ofNat m := Int.natCast_nonneg m
     omega
 | negSucc m =>
   cases b with
   | ofNat n =>
     show true = _
     symm; rw [decide_eq_true_iff]
     have := Int.negSucc_lt_zero m
     have h2 : (0 : Int) ≤ Int.ofNat n := Int.natCast_nonneg n
     omega
   | negSucc n =>
     show Nat.blt n m = _
     rw [Bool.eq_iff_iff, zau, decide_eq_true_iff]
     omega
theorem zia {a : Int} {lo hi : Nat} (h : zhG a lo hi = true) : ∀ v : Nat, lo ≤ v → v < hi → a ≠ (v : Int) := by
 intro v h1 h2 he
 subst he
 have : ite' (Nat.blt v lo) true (Nat.ble hi v) = true := h
 rw [zcR, Bool.or_eq_true, zau, za1] at this
 omega
theorem zib {pn pc n c : Nat} {fam : List ME} (h : zgo pn pc n c fam = true) :
  ∀ kv ∈ fam, ∀ kn kc, kv.k = .str kn kc → zad pn pc ++ zad kn kc ≠ zad n c := by
 induction fam with
 | nil => simp
 | cons x fam ih =>
   intro kv hkv kn kc hk
   have h' : (match x.k with | .str kn kc => ite' (zeY (preS pn pc kn kc).1 (preS pn pc kn kc).2 n c) false (zgo pn pc n c fam) | _ => false) = true := h
   rcases List.mem_cons.1 hkv with rfl | hkv
   ·rw [hk] at h'
    simp only [] at h'
    cases he : zeY (preS pn pc kn kc).1 (preS pn pc kn kc).2 n c with
    | true => rw [he] at h'; simp at h'
    | false =>
      rw [znr] at he
      rw [zcW]; exact he
   ·cases hx : x.1 <;> rw [hx] at h' <;> try (simp at h'; done)
    simp only [] at h'
    rename_i a b
    cases he : zeY (preS pn pc a b).1 (preS pn pc a b).2 n c with
    | true => rw [he] at h'; simp at h'
    | false => rw [he, ite'_false] at h'; exact ih h' kv hkv kn kc hk
inductive Cmp : Value → Value → Bool → Prop
 | bool (a b : Bool) : Cmp (.bool a) (.bool b) (a == b)
 | int (k : IntKind) (a b : Int) : Cmp (.int k a) (.int k b) (a == b)
 | string (a b : ByteArray) : Cmp (.string a) (.string b) (decide (a = b))
def za2 : AV → Bool
 | .bool _ => true
 | .int _ _ => true
 | .num .. => true
 | .str _ _ => true
 | .sstr .. => true
 | _ => false
theorem zic {a b c : ByteArray} (h : a ++ b = a ++ c) : b = c := by
 have h1 := congrArg (fun x : ByteArray => x.data.toList) h
 simp only [ByteArray.data_append, Array.toList_append, List.append_cancel_left_eq] at h1
 exact ByteArray.ext (Array.ext' h1)
theorem zaY {e : Env} {h : AH} {H : Array Obj} (s : Sat e h H) {x y : AV} {ux uy : Value} (hx : VR e x ux) (hy : VR e y uy) {q : Bool} (hq : zar h x y = some q)
  (hs : za2 x = true) (hs' : za2 y = true) : Cmp ux uy q := by
 cases x <;> simp [za2] at hs
 case bool a =>
  cases y <;> simp [za2] at hs' <;> try (simp [zar, eqB] at hq; done)
  rename_i b
  cases zdN hx; cases zdN hy
  have : some (ite' a b (ite' b false true)) = some q := hq
  cases this
  have : ite' a b (ite' b false true) = (a == b) := by cases a <;> cases b <;> rfl
  rw [this]; exact .bool a b
 case int k a =>
  cases zbd hx
  cases y <;> simp [za2] at hs' <;> try (simp [zar, eqI] at hq; done)
  case int k' b =>
   cases zbd hy
   have hq' : grd (zcB k k') (some (zgn a b)) = some q := hq
   rw [zac, zcd] at hq'
   obtain ⟨rfl, hq'⟩ := hq'
   cases hq'
   rw [zdP]; exact .int k a b
  case num g j lo hi =>
   cases hy with
   | num _ _ _ _ v hv h1 h2 =>
     have hq' : grd (zcB k .i64) (grd (zhG a lo hi) (some false)) = some q := hq
     rw [zac, zcd, zac] at hq'
     obtain ⟨rfl, ho, hq'⟩ := hq'
     cases hq'
     have := zia ho v h1 h2
     rw [show false = (a == (v : Int)) by symm; rw [beq_eq_false_iff_ne]; exact this]
     exact .int _ _ _
 case num g j lo hi =>
  cases hx with
  | num _ _ _ _ v hv h1 h2 =>
    cases y <;> simp [za2] at hs' <;> try (simp [zar, eqN] at hq; done)
    case int k a =>
     cases zbd hy
     have hq' : grd (zcB k .i64) (grd (zhG a lo hi) (some false)) = some q := hq
     rw [zac, zcd, zac] at hq'
     obtain ⟨rfl, ho, hq'⟩ := hq'
     cases hq'
     have := zia ho v h1 h2
     rw [show false = ((v : Int) == a) by symm; rw [beq_eq_false_iff_ne]; exact fun he => this he.symm]
     exact .int _ _ _
    case num g' j' lo' hi' =>
     cases hy with
     | num _ _ _ _ v' hv' h1' h2' =>
       have hq' : ite' (Nat.beq g g') (some (Nat.beq j j')) (grd (ite' (Nat.ble hi lo') true (Nat.ble hi' lo)) (some false)) = some q := hq
       rw [zav] at hq'
       rcases hq' with ⟨hg, hq'⟩ | ⟨_, hq'⟩
       ·rw [zae] at hg; subst hg
        cases hq'
        have : Nat.beq j j' = ((v : Int) == (v' : Int)) := by
         rw [Bool.eq_iff_iff, zae, beq_iff_eq]
         constructor
         ·rintro rfl; rw [hv] at hv'; cases hv'; rfl
         ·intro he
          have : v = v' := by exact_mod_cast he
          subst this
          exact s.numI g j j' v hv hv'
        rw [this]; exact .int _ _ _
       ·rw [zac, zcR, Bool.or_eq_true, za1, za1] at hq'
        obtain ⟨hd, hq'⟩ := hq'
        cases hq'
        rw [show false = ((v : Int) == (v' : Int)) by symm; rw [beq_eq_false_iff_ne]; intro he; have : v = v' := by exact_mod_cast he
                                                      omega]
        exact .int _ _ _
 case str n c =>
  cases zbX hx
  cases y <;> simp [za2] at hs' <;> try (simp [zar, eqS] at hq; done)
  case str n' c' =>
   cases zbX hy
   have hq' : some (zeY n c n' c') = some q := hq
   cases hq'
   rw [show zeY n c n' c' = decide (zad n c = zad n' c') by rw [Bool.eq_iff_iff, zeo, decide_eq_true_iff]]
   exact .string _ _
  case sstr pn pc i =>
   cases hy with
   | sstr _ _ _ t ht =>
     have hq' : grd (zc8 h.fb h.fam i) (grd (zgo pn pc n c h.fam) (some false)) = some q := hq
     rw [zac, zac] at hq'
     obtain ⟨hi, hf, hq'⟩ := hq'
     cases hq'
     obtain ⟨kv, hkv, kn, kc, hk, rfl, _⟩ := s.fam.key i t hi ht
     have := zib hf kv hkv kn kc hk
     rw [show false = decide (zad n c = zad pn pc ++ zad kn kc) by symm; rw [decide_eq_false_iff_not]; exact fun he => this he.symm]
     exact .string _ _
 case sstr pn pc i =>
  cases hx with
  | sstr _ _ _ t ht =>
    cases y <;> simp [za2] at hs' <;> try (simp [zar, eqSS] at hq; done)
    case str n c =>
     cases zbX hy
     have hq' : grd (zc8 h.fb h.fam i) (grd (zgo pn pc n c h.fam) (some false)) = some q := hq
     rw [zac, zac] at hq'
     obtain ⟨hi, hf, hq'⟩ := hq'
     cases hq'
     obtain ⟨kv, hkv, kn, kc, hk, rfl, _⟩ := s.fam.key i t hi ht
     have := zib hf kv hkv kn kc hk
     rw [show false = decide (zad pn pc ++ zad kn kc = zad n c) by symm; rw [decide_eq_false_iff_not]; exact this]
     exact .string _ _
    case sstr pn' pc' j =>
     cases hy with
     | sstr _ _ _ t' ht' =>
       have hq' : grd (zeY pn pc pn' pc') (ite' (Nat.beq i j) (some true) (grd (zc8 h.fb h.fam i) (grd (zc8 h.fb h.fam j) (some false)))) = some q := hq
       rw [zac, zeo, zav] at hq'
       obtain ⟨hp, hq'⟩ := hq'
       rw [hp]
       rcases hq' with ⟨hij, hq'⟩ | ⟨hij, hq'⟩
       ·rw [zae] at hij; subst hij
        cases hq'
        rw [ht] at ht'; cases ht'
        rw [show true = decide (zad pn' pc' ++ t = zad pn' pc' ++ t) by simp]
        exact .string _ _
       ·rw [zac, zac] at hq'
        obtain ⟨hi, hj, hq'⟩ := hq'
        cases hq'
        have hne : i ≠ j := fun he => by rw [(zae i j).2 he] at hij; cases hij
        rw [show false = decide (zad pn' pc' ++ t = zad pn' pc' ++ t') by
         symm; rw [decide_eq_false_iff_not]
         intro he
         have := zic he
         subst this
         exact hne (s.fam.inj i j t hi hj ht ht')]
        exact .string _ _
end
end Go.Xe
end
section
namespace Go.Xe
noncomputable section
section
variable {P : Program} {e : Env} {h : AH} {w : World}
theorem zfk {t : TypeId} {td : TypeDesc} (ht : P.underlying t = some td) {ux uy : Value} {q : Bool} (hc : Cmp ux uy q) (d : Nat)
  (hk : (∃ a, ux = .bool a) ∧ td = .bool ∨ (∃ k a kk, ux = .int k a ∧ td = .int kk) ∨ (∃ a, ux = .string a) ∧ td = .string) :
  (Op.equalIn (d + 1) t ux uy).run P w = .ok q w := by
 unfold Op.equalIn
 have hb : ∀ {α : Type} (f : TypeDesc → Sem α), (underlying t >>= f).run P w = (f td).run P w := fun f => by
  rw [Sem.run_bind, zej ht]; rfl
 rw [hb]
 cases hc with
 | bool a b => rcases hk with ⟨_, rfl⟩ | ⟨k, c, kk, h, _⟩ | ⟨⟨c, h⟩, _⟩ <;> first | rfl | cases h
 | int k a b =>
   rcases hk with ⟨⟨c, h⟩, _⟩ | ⟨k', c, kk, h, rfl⟩ | ⟨⟨c, h⟩, _⟩
   ·cases h
   ·simp only [if_true]; rfl
   ·cases h
 | string a b =>
   rcases hk with ⟨⟨c, h⟩, _⟩ | ⟨k', c, kk, h, rfl⟩ | ⟨_, rfl⟩
   ·cases h
   ·cases h
   ·simp only []
    rw [zh9]; rfl
theorem zdw {i : Nat} {l : List Nat} : zeZ i l = true ↔ i ∉ l := by
 induction l with
 | nil => simp [zeZ]
 | cons j l ih =>
   show ite' (Nat.beq i j) false (zeZ i l) = true ↔ _
   rw [zaK]
   by_cases hij : i = j
   ·subst hij; rw [if_pos ((zae i i).2 rfl)]; simp
   ·rw [if_neg (fun h => hij ((zae i j).1 h)), ih]; simp [hij]
theorem zqI {en : Ent} {l : List Nat} (hp : ptrE en = some l) : ∃ cs ty wr, en = .cells cs ty wr 0 l ∧ ty ≠ 0 := by
 cases en <;> try (simp [ptrE] at hp; done)
 rename_i cs ty wr fz olds
 have hp' : grd (Nat.blt 0 ty) (grd (Nat.beq fz 0) (some olds)) = some l := hp
 rw [zac, zau, zac, zae] at hp'
 obtain ⟨h1, rfl, h2⟩ := hp'
 cases h2
 exact ⟨cs, ty, wr, rfl, by omega⟩
theorem zlG (s : Sat e h w.heap) {b : Nat} {cs : List AV} {ty : Nat} {wr : Bool} {olds : List Nat} {L : Loc} (hb : h.get b = some (.cells cs ty wr 0 olds)) (hty : ty ≠ 0) (hl : e.loc b = some L) :
  ∃ arr T, w.heap[L.blk]? = some (.cells arr T (0, 0)) := by
 obtain ⟨arr, T, lo, hi, hH, hR⟩ := s.row hb hl
 obtain ⟨_, hz0, hz1, hz2⟩ := hR.ty hty
 have hz : L.off = 0 ∧ ((0 : Nat) = 0 → lo = 0 ∧ hi = 0) := ⟨hz0, fun h => ⟨hz1, hz2 h⟩⟩
 obtain ⟨rfl, rfl⟩ := hz.2 rfl
 exact ⟨arr, T, hH⟩
theorem zcx {α : Type} {B o : Nat} {arr : Array Value} {T : TypeId} (hH : w.heap[B]? = some (.cells arr T (0, 0))) (f : Bool → Sem α) :
  (frozen ⟨B, o, none⟩ >>= f).run P w = (f false).run P w := by
 rw [Sem.run_bind]
 have : (frozen ⟨B, o, none⟩).run P w = .ok false w := by
  show Result.ok (w.frozen? ⟨B, o, none⟩) w = _
  simp [World.frozen?, hH]
 rw [this]; rfl
theorem zb2 {α : Type} {B : Nat} {arr : Array Value} {T : TypeId} {fr : Nat × Nat} (hH : w.heap[B]? = some (.cells arr T fr)) (f : Option (TypeId × Nat) → Sem α) :
  (Go.shape B >>= f).run P w = (f (some (T, arr.size))).run P w := by
 rw [Sem.run_bind]
 have : (Go.shape B).run P w = .ok (some (T, arr.size)) w := by
  show Result.ok (w.shape? B) w = _
  simp [World.shape?, hH]
 rw [this]; rfl
theorem zcX {B o : Nat} {arr : Array Value} {T : TypeId} (hH : w.heap[B]? = some (.cells arr T (0, 0))) : (stringish ⟨B, o, none⟩).run P w = .ok false w := by
 unfold stringish
 rw [zcx hH]
 simp only [Bool.false_eq_true, if_false]
 rw [zb2 hH]
 show Result.ok (w.frozen? ⟨B, arr.size, none⟩) w = _
 simp [World.frozen?, hH]
theorem zd9 {B o : Nat} {arr : Array Value} {T : TypeId} {fr : Nat × Nat} (hH : w.heap[B]? = some (.cells arr T fr)) : (noView ⟨B, o, none⟩).run P w = .ok () w := by
 unfold noView viewAt
 rw [Sem.run_bind, zb2 hH]
 rfl
theorem zjg {B B' o o' : Nat} {arr arr' : Array Value} {T T' : TypeId} (hne : B ≠ B') (hH : w.heap[B]? = some (.cells arr T (0, 0))) (hH' : w.heap[B']? = some (.cells arr' T' (0, 0))) :
  (sameAddr ⟨B, o, none⟩ ⟨B', o', none⟩).run P w = .ok false w := by
 unfold sameAddr
 have hb : ((⟨B, o, none⟩ : Addr).block == (⟨B', o', none⟩ : Addr).block) = false := by
  simp; exact hne
 rw [hb]
 simp only [Bool.false_eq_true, if_false]
 rw [zcx hH]
 simp only [Bool.false_and]
 rw [zcx hH']
 simp only [Bool.false_eq_true, if_false]
 rw [Sem.run_bind, zd9 hH]
 show Sem.run P (noView ⟨B', o', none⟩ >>= _) w = _
 rw [Sem.run_bind, zd9 hH']
 show Sem.run P (mayBeOne ⟨B, o, none⟩ ⟨B', o', none⟩ >>= _) w = _
 have hm : (mayBeOne ⟨B, o, none⟩ ⟨B', o', none⟩).run P w = .ok false w := by
  unfold mayBeOne
  rw [Sem.run_bind, zcX hH]
  show Sem.run P (stringish ⟨B', o', none⟩ >>= _) w = _
  rw [Sem.run_bind, zcX hH']
  show Sem.run P ((Go.shape B >>= fun r => pure (match r with | some (_, 0) => true | _ => false)) >>= _) w = _
  rw [Sem.run_bind, zb2 hH]
  show Sem.run P ((Go.shape B' >>= fun r => pure (match r with | some (_, 0) => true | _ => false)) >>= _) w = _
  rw [Sem.run_bind, zb2 hH']
  rfl
 rw [Sem.run_bind, hm]
 rfl
theorem zkJ {B o o' : Nat} : (sameAddr ⟨B, o, none⟩ ⟨B, o', none⟩).run P w = .ok (Nat.beq o o') w := by
 unfold sameAddr
 have hb : ((⟨B, o, none⟩ : Addr).block == (⟨B, o', none⟩ : Addr).block) = true := by simp
 rw [hb]
 simp only [if_true]
 show Result.ok ((⟨B, o, none⟩ : Addr) == ⟨B, o', none⟩) w = _
 congr 1
 rw [Bool.eq_iff_iff, beq_iff_eq, zae]
 exact ⟨fun h => by injection h, fun h => by rw [h]⟩
theorem zcn {α : Type} {t : TypeId} {td : TypeDesc} (ht : P.underlying t = some td) (f : TypeDesc → Sem α) : (underlying t >>= f).run P w = (f td).run P w := by
 rw [Sem.run_bind, zej ht]; rfl
theorem zhl (s : Sat e h w.heap) {t el z : Nat} (ht : P.underlying t = some (.pointer el)) (hz : zaX P el = some z) (h0 : 0 < z) {x y : AV} {ux uy : Value} (hx : VR e x ux) (hy : VR e y uy)
  (hkx : zaq (.pointer el) x = true) (hky : zaq (.pointer el) y = true) {q : Bool} (hq : zar h x y = some q) (d : Nat) : (Op.equalIn (d + 1) t ux uy).run P w = .ok q w := by
 unfold Op.equalIn
 rw [zcn ht]
 have hsz : ∀ {α : Type} (f : Nat → Sem α), (sizeOf el >>= f).run P w = (f z).run P w := fun f => by rw [Sem.run_bind, zbx hz]; rfl
 cases x <;> simp [zaq] at hkx
 case pnil =>
  cases hx
  cases y <;> simp [zaq] at hky
  case pnil => cases hy; cases hq; rfl
  case ptr b o =>
   obtain ⟨l, _, rfl⟩ := zcT hy
   cases hq; rfl
  case gptr g => cases hy; cases hq; rfl
 case gptr g =>
  cases hx
  cases y <;> simp [zaq] at hky <;> try (simp [zar] at hq; done)
  case pnil => cases hy; cases hq; rfl
 case ptr b o =>
  obtain ⟨l, hl, rfl⟩ := zcT hx
  cases y <;> simp [zaq] at hky <;> try (simp [zar, eqP] at hq; done)
  case pnil => cases hy; cases hq; rfl
  case ptr b' o' =>
   obtain ⟨l', hl', rfl⟩ := zcT hy
   have hq' : ite' (Nat.beq b b') (some (Nat.beq o o')) (bnd (bnd (h.get b) ptrE) fun l => bnd (bnd (h.get b') ptrE) fun l' => grd (zeZ b l') (grd (zeZ b' l) (some false))) = some q := hq
   simp only []
   rw [hsz]
   rw [if_pos (by omega)]
   rw [zav] at hq'
   rcases hq' with ⟨hbb, hq'⟩ | ⟨hbb, hq'⟩
   ·rw [zae] at hbb; subst hbb
    rw [hl] at hl'; cases hl'
    cases hq'
    rw [zkJ]
    congr 1
    rw [Bool.eq_iff_iff, zae, zae]; omega
   ·have hne : b ≠ b' := fun hb => by rw [(zae b b').2 hb] at hbb; cases hbb
    rw [zaa] at hq'
    obtain ⟨o1, ho1, hq'⟩ := hq'
    rw [zaa] at hq'
    obtain ⟨o2, ho2, hq'⟩ := hq'
    rw [zac, zdw, zac, zdw] at hq'
    obtain ⟨hn1, hn2, hq'⟩ := hq'
    cases hq'
    rw [zaa] at ho1 ho2
    obtain ⟨en1, he1, hp1⟩ := ho1
    obtain ⟨en2, he2, hp2⟩ := ho2
    obtain ⟨cs1, ty1, wr1, rfl, hty1⟩ := zqI hp1
    obtain ⟨cs2, ty2, wr2, rfl, hty2⟩ := zqI hp2
    obtain ⟨arr1, T1, hH1⟩ := zlG s he1 hty1 hl
    obtain ⟨arr2, T2, hH2⟩ := zlG s he2 hty2 hl'
    have hblk : l.blk ≠ l'.blk := fun hb => by
     rcases s.sep b b' _ _ l l' he1 he2 hl hl' hne hb with h1 | h1
     ·exact hn2 h1
     ·exact hn1 h1
    exact zjg hblk hH1 hH2
theorem zdQ {t : TypeId} {td : TypeDesc} (ht : P.underlying t = some td) (htd : (∃ a, td = .slice a) ∨ (∃ a b, td = .map a b) ∨ (∃ a b c, td = .func a b c)) {x y : AV} {ux uy : Value} (hx : VR e x ux) (hy : VR e y uy)
  (hkx : zaq td x = true) (hky : zaq td y = true) {q : Bool} (hq : zar h x y = some q) (d : Nat) : (Op.equalIn (d + 1) t ux uy).run P w = .ok q w := by
 unfold Op.equalIn
 rw [zcn ht]
 rcases htd with ⟨a, rfl⟩ | ⟨a, b, rfl⟩ | ⟨a, b, c, rfl⟩ <;> cases x <;> simp [zaq] at hkx <;> cases y <;> simp [zaq] at hky <;>
  first
  | (simp [zar, ztT, zki, zoB, ite'] at hq; done)
  | (cases hx; cases hy; cases hq <;> rfl)
  | (cases hx; cases hy; cases hq)
theorem zab {α β : Type} (s : Sem α) (f : α → Sem β) : (s >>= f).run P w = match s.run P w with | .ok a w' => (f a).run P w' | .halt h w' => .halt h w' := run_bind P s f w
theorem zlH {t off : Nat} {cs : List AV} {us : Array Value} (hc : VRs e cs us.toList) {v : AV} (hv : zjb P t cs off = some v) : ∃ u, (part t us off).run P w = .ok u w ∧ VR e v u := by
 obtain ⟨u, w', hr, hv, rfl⟩ := zgB (P := P) (w := w) hc hv
 exact ⟨u, hr, hv⟩
theorem zqJ {d : Nat} {eq : TypeId → AV → AV → Option Bool} (heq : ∀ {t : TypeId} {x y : AV} {ux uy : Value}, VR e x ux → VR e y uy → ∀ {q : Bool}, eq t x y = some q → (Op.equalIn d t ux uy).run P w = .ok q w)
  {xs ys : List AV} {us vs : Array Value} (hx : VRs e xs us.toList) (hy : VRs e ys vs.toList) :
  ∀ (fs : List Field) {q : Bool}, goF P eq xs ys fs = some q →
    ((forIn fs ((none, ()) : Option Bool × Unit) fun f _ =>
      if f.name ≠ "_" then do
       let a ← part f.type us f.offset
       let b ← part f.type vs f.offset
       let r ← Op.equalIn d f.type a b
       if (!r) = true then pure (ForInStep.done (some false, ())) else pure (ForInStep.yield (none, ()))
      else pure (ForInStep.yield (none, ()))) : Sem (Option Bool × Unit)).run P w = .ok (if q then (none, ()) else (some false, ())) w := by
 intro fs
 induction fs with
 | nil => intro q hq; cases hq; rfl
 | cons f fs ih =>
   intro q hq
   have hq' : ite' (decide (f.name = "_")) none (bnd (zjb P f.type xs f.offset) fun a => bnd (zjb P f.type ys f.offset) fun b => bnd (eq f.type a b) fun q => ite' q (goF P eq xs ys fs) (some false)) = some q := hq
   rw [zav] at hq'
   rcases hq' with ⟨_, hq'⟩ | ⟨hn, hq'⟩
   ·cases hq'
   rw [decide_eq_false_iff_not] at hn
   rw [zaa] at hq'
   obtain ⟨a, ha, hq'⟩ := hq'
   rw [zaa] at hq'
   obtain ⟨b, hb, hq'⟩ := hq'
   rw [zaa] at hq'
   obtain ⟨r, hr, hq'⟩ := hq'
   obtain ⟨ua, hua, hva⟩ := zlH (P := P) (w := w) hx ha
   obtain ⟨ub, hub, hvb⟩ := zlH (P := P) (w := w) hy hb
   have hrr := heq hva hvb hr
   rw [List.forIn_cons]
   rw [if_pos hn]
   have hbody : ((do
      let a ← part f.type us f.offset
      let b ← part f.type vs f.offset
      let r ← Op.equalIn d f.type a b
      if (!r) = true then pure (ForInStep.done (some false, ())) else pure (ForInStep.yield (none, ())) : Sem (ForInStep (Option Bool × Unit)))).run P w
     = .ok (if r then ForInStep.yield (none, ()) else ForInStep.done (some false, ())) w := by
    rw [zab, hua]
    show Sem.run P (part f.type vs f.offset >>= _) w = _
    rw [zab, hub]
    show Sem.run P (Op.equalIn d f.type ua ub >>= _) w = _
    rw [zab, hrr]
    cases r <;> rfl
   rw [zab, hbody]
   rw [zav] at hq'
   rcases hq' with ⟨rfl, hq'⟩ | ⟨rfl, hq'⟩
   ·exact ih hq'
   ·cases hq'; rfl
theorem zlI (s : Sat e h w.heap) : ∀ (d : Nat) {t : TypeId} {x y : AV} {ux uy : Value}, VR e x ux → VR e y uy → ∀ {q : Bool}, zcC P h d t x y = some q → ∀ D, d ≤ D → (Op.equalIn D t ux uy).run P w = .ok q w := by
 intro d
 induction d with
 | zero => intro t x y ux uy _ _ q hq; cases hq
 | succ d ih =>
   intro t x y ux uy hx hy q hq D hD
   obtain ⟨D, rfl⟩ : ∃ D', D = D' + 1 := ⟨D - 1, by omega⟩
   have hq' : bnd (P.underlying t) (fun td => zhH P h (zcC P h d) t x y td) = some q := hq
   rw [zaa] at hq'
   obtain ⟨td, ht, hq'⟩ := hq'
   have plain : ∀ (hk : grd (zaq td x) (grd (zaq td y) (zar h x y)) = some q), zaq td x = true ∧ zaq td y = true ∧ zar h x y = some q := fun hk => by
    rw [zac, zac] at hk; exact hk
   cases td
   case struct fs =>
    have hs : aggV x (fun xs => aggV y fun ys => ite' (P.stoodInHeld t) none (goF P (zcC P h d) xs ys fs.toList)) = some q := hq'
    rw [zdM] at hs
    obtain ⟨xs, rfl, hs⟩ := hs
    rw [zdM] at hs
    obtain ⟨ys, rfl, hs⟩ := hs
    rw [zav] at hs
    rcases hs with ⟨_, hs⟩ | ⟨hst, hs⟩
    ·cases hs
    obtain ⟨us, rfl, hcx⟩ := zh1 hx
    obtain ⟨vs, rfl, hcy⟩ := zh1 hy
    unfold Op.equalIn
    rw [zcn ht]
    simp only []
    have hp : ∀ {α : Type} (f : Program → Sem α), (program >>= f).run P w = (f P).run P w := fun f => by rw [zab]; rfl
    rw [hp, hst]
    simp only [Bool.false_eq_true, if_false]
    have := zqJ (P := P) (w := w) (d := D) (fun hx hy _ hq => ih hx hy hq D (by omega)) hcx hcy fs.toList hs
    rw [zab]
    rw [← Array.forIn_toList, this]
    cases q <;> rfl
   case interface ms =>
    have hs : zcb P (zcC P h d) x y = some q := hq'
    unfold Op.equalIn
    rw [zcn ht]
    cases x <;> try (simp [zcb] at hs; done)
    case inil =>
     cases hx
     cases y <;> try (simp [zcb] at hs; done)
     case inil => cases hy; cases hs; rfl
     case ifc ty vy => cases hy; cases hs; rfl
    case ifc tx vx =>
     cases hx with
     | ifc _ _ ux hvx =>
       cases y <;> try (simp [zcb] at hs; done)
       case inil => cases hy; cases hs; rfl
       case ifc ty vy =>
        cases hy with
        | ifc _ _ uy hvy =>
          have hs' : ite' (Nat.beq tx ty) (bnd (P.info? tx) fun i => grd i.comparable (zcC P h d tx vx vy)) (some false) = some q := hs
          rw [zav] at hs'
          rcases hs' with ⟨hb, hs'⟩ | ⟨hb, hs'⟩
          ·rw [zae] at hb; subst hb
           rw [zaa] at hs'
           obtain ⟨i, hi, hs'⟩ := hs'
           rw [zac] at hs'
           simp only [ne_eq, not_true_eq_false, if_false]
           rw [zab, zcm hi]
           simp only [hs'.1, Bool.not_true, Bool.false_eq_true, if_false]
           exact ih hvx hvy hs'.2 D (by omega)
          ·cases hs'
           have hne : tx ≠ ty := fun he => by rw [(zae tx ty).2 he] at hb; cases hb
           simp only [ne_eq, hne, not_false_eq_true, if_true]
           rfl
   case pointer el =>
    have hs : bnd (zaX P el) (fun z => grd (Nat.blt 0 z) (grd (zaq (.pointer el) x) (grd (zaq (.pointer el) y) (zar h x y)))) = some q := hq'
    rw [zaa] at hs
    obtain ⟨z, hz, hs⟩ := hs
    rw [zac, zau] at hs
    obtain ⟨h1, h2, h3⟩ := plain hs.2
    exact zhl s ht hz hs.1 hx hy h1 h2 h3 D
   case slice a =>
    obtain ⟨h1, h2, h3⟩ := plain hq'
    exact zdQ ht (.inl ⟨a, rfl⟩) hx hy h1 h2 h3 D
   case map a b =>
    obtain ⟨h1, h2, h3⟩ := plain hq'
    exact zdQ ht (.inr (.inl ⟨a, b, rfl⟩)) hx hy h1 h2 h3 D
   case func a b c =>
    obtain ⟨h1, h2, h3⟩ := plain hq'
    exact zdQ ht (.inr (.inr ⟨a, b, c, rfl⟩)) hx hy h1 h2 h3 D
   case bool =>
    obtain ⟨h1, h2, h3⟩ := plain hq'
    have hsx : za2 x = true := by cases x <;> simp [zaq] at h1 <;> rfl
    have hsy : za2 y = true := by cases y <;> simp [zaq] at h2 <;> rfl
    refine zfk ht (zaY s hx hy h3 hsx hsy) D (.inl ⟨?_, rfl⟩)
    cases x <;> simp [zaq] at h1
    exact ⟨_, zdN hx⟩
   case int k =>
    obtain ⟨h1, h2, h3⟩ := plain hq'
    have hsx : za2 x = true := by cases x <;> simp [zaq] at h1 <;> rfl
    have hsy : za2 y = true := by cases y <;> simp [zaq] at h2 <;> rfl
    refine zfk ht (zaY s hx hy h3 hsx hsy) D (.inr (.inl ?_))
    cases x <;> simp [zaq] at h1
    ·exact ⟨_, _, _, zbd hx, rfl⟩
    ·cases hx; exact ⟨_, _, _, rfl, rfl⟩
   case string =>
    obtain ⟨h1, h2, h3⟩ := plain hq'
    have hsx : za2 x = true := by cases x <;> simp [zaq] at h1 <;> rfl
    have hsy : za2 y = true := by cases y <;> simp [zaq] at h2 <;> rfl
    refine zfk ht (zaY s hx hy h3 hsx hsy) D (.inr (.inr ⟨?_, rfl⟩))
    cases x <;> simp [zaq] at h1
    ·exact ⟨_, zbX hx⟩
    ·cases hx; exact ⟨_, rfl⟩
   all_goals
    have := (plain hq').1
    simp [zaq] at this
end
end
end Go.Xe
end
