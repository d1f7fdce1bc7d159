/-
  Equality by type: the executor against the model's comparison; Arithmetic and comparisons: the executor against the model; The two-place and the one-place operators, whole. Conditions: none.
-/
import Derived.Test.YtjibdoofogmkcaaGreatDoorXdToXj
set_option linter.unusedVariables false
set_option linter.unusedSimpArgs false
set_option linter.unusedSectionVars false
section
namespace Go.Xe
noncomputable section
section
variable {P : Program} {e : Env} {h : AH} {w : World}
theorem cmp_equalIn {t : TypeId} {td : TypeDesc} (ht : P.underlying t = some td) {ux uy : Value} {q : Bool} (hc : Cmp ux uy q) (d : Nat)
    (hk : (∃ a, ux = .bool a) ∧ td = .bool ∨ (∃ k a kk, ux = .int k a ∧ td = .int kk) ∨ (∃ a, ux = .string a) ∧ td = .string) :
    (Op.equalIn (d + 1) t ux uy).run P w = .ok q w := by
  unfold Op.equalIn
  have hb : ∀ {α : Type} (f : TypeDesc → Sem α), (underlying t >>= f).run P w = (f td).run P w := fun f => by
    rw [Sem.run_bind, run_under ht]; rfl
  rw [hb]
  cases hc with
  | bool a b => rcases hk with ⟨_, rfl⟩ | ⟨k, c, kk, h, _⟩ | ⟨⟨c, h⟩, _⟩ <;> first | rfl | cases h
  | int k a b =>
    rcases hk with ⟨⟨c, h⟩, _⟩ | ⟨k', c, kk, h, rfl⟩ | ⟨⟨c, h⟩, _⟩
    · cases h
    · simp only [if_true]; rfl
    · cases h
  | string a b =>
    rcases hk with ⟨⟨c, h⟩, _⟩ | ⟨k', c, kk, h, rfl⟩ | ⟨_, rfl⟩
    · cases h
    · cases h
    · simp only []
      rw [bytes_beq]; rfl
theorem notIn_iff {i : Nat} {l : List Nat} : notIn i l = true ↔ i ∉ l := by
  induction l with
  | nil => simp [notIn]
  | cons j l ih =>
    show ite' (Nat.beq i j) false (notIn i l) = true ↔ _
    rw [ite'_if]
    by_cases hij : i = j
    · subst hij; rw [if_pos ((beq_iff i i).2 rfl)]; simp
    · rw [if_neg (fun h => hij ((beq_iff i j).1 h)), ih]; simp [hij]
theorem ptrE_eq {en : Ent} {l : List Nat} (hp : ptrE en = some l) : ∃ cs ty wr, en = .cells cs ty wr 0 l ∧ ty ≠ 0 := by
  cases en <;> try (simp [ptrE] at hp; done)
  rename_i cs ty wr fz olds
  have hp' : grd (Nat.blt 0 ty) (grd (Nat.beq fz 0) (some olds)) = some l := hp
  rw [grd_eq, blt_iff, grd_eq, beq_iff] at hp'
  obtain ⟨h1, rfl, h2⟩ := hp'
  cases h2
  exact ⟨cs, ty, wr, rfl, by omega⟩
theorem plain_row (s : Sat e h w.heap) {b : Nat} {cs : List AV} {ty : Nat} {wr : Bool} {olds : List Nat} {L : Loc} (hb : h.get b = some (.cells cs ty wr 0 olds)) (hty : ty ≠ 0) (hl : e.loc b = some L) :
    ∃ arr T, w.heap[L.blk]? = some (.cells arr T (0, 0)) := by
  obtain ⟨arr, T, lo, hi, hH, hR⟩ := s.row hb hl
  obtain ⟨_, hz0, hz1, hz2⟩ := hR.ty hty
  have hz : L.off = 0 ∧ ((0 : Nat) = 0 → lo = 0 ∧ hi = 0) := ⟨hz0, fun h => ⟨hz1, hz2 h⟩⟩
  obtain ⟨rfl, rfl⟩ := hz.2 rfl
  exact ⟨arr, T, hH⟩
theorem run_frozen_plain {α : Type} {B o : Nat} {arr : Array Value} {T : TypeId} (hH : w.heap[B]? = some (.cells arr T (0, 0))) (f : Bool → Sem α) :
    (frozen ⟨B, o, none⟩ >>= f).run P w = (f false).run P w := by
  rw [Sem.run_bind]
  have : (frozen ⟨B, o, none⟩).run P w = .ok false w := by
    show Result.ok (w.frozen? ⟨B, o, none⟩) w = _
    simp [World.frozen?, hH]
  rw [this]; rfl
theorem run_shape_cells {α : Type} {B : Nat} {arr : Array Value} {T : TypeId} {fr : Nat × Nat} (hH : w.heap[B]? = some (.cells arr T fr)) (f : Option (TypeId × Nat) → Sem α) :
    (Go.shape B >>= f).run P w = (f (some (T, arr.size))).run P w := by
  rw [Sem.run_bind]
  have : (Go.shape B).run P w = .ok (some (T, arr.size)) w := by
    show Result.ok (w.shape? B) w = _
    simp [World.shape?, hH]
  rw [this]; rfl
theorem run_stringish_plain {B o : Nat} {arr : Array Value} {T : TypeId} (hH : w.heap[B]? = some (.cells arr T (0, 0))) : (stringish ⟨B, o, none⟩).run P w = .ok false w := by
  unfold stringish
  rw [run_frozen_plain hH]
  simp only [Bool.false_eq_true, if_false]
  rw [run_shape_cells hH]
  show Result.ok (w.frozen? ⟨B, arr.size, none⟩) w = _
  simp [World.frozen?, hH]
theorem run_noView_cells {B o : Nat} {arr : Array Value} {T : TypeId} {fr : Nat × Nat} (hH : w.heap[B]? = some (.cells arr T fr)) : (noView ⟨B, o, none⟩).run P w = .ok () w := by
  unfold noView viewAt
  rw [Sem.run_bind, run_shape_cells hH]
  rfl
theorem sameAddr_plain {B B' o o' : Nat} {arr arr' : Array Value} {T T' : TypeId} (hne : B ≠ B') (hH : w.heap[B]? = some (.cells arr T (0, 0))) (hH' : w.heap[B']? = some (.cells arr' T' (0, 0))) :
    (sameAddr ⟨B, o, none⟩ ⟨B', o', none⟩).run P w = .ok false w := by
  unfold sameAddr
  have hb : ((⟨B, o, none⟩ : Addr).block == (⟨B', o', none⟩ : Addr).block) = false := by
    simp; exact hne
  rw [hb]
  simp only [Bool.false_eq_true, if_false]
  rw [run_frozen_plain hH]
  simp only [Bool.false_and]
  rw [run_frozen_plain hH']
  simp only [Bool.false_eq_true, if_false]
  rw [Sem.run_bind, run_noView_cells hH]
  show Sem.run P (noView ⟨B', o', none⟩ >>= _) w = _
  rw [Sem.run_bind, run_noView_cells hH']
  show Sem.run P (mayBeOne ⟨B, o, none⟩ ⟨B', o', none⟩ >>= _) w = _
  have hm : (mayBeOne ⟨B, o, none⟩ ⟨B', o', none⟩).run P w = .ok false w := by
    unfold mayBeOne
    rw [Sem.run_bind, run_stringish_plain hH]
    show Sem.run P (stringish ⟨B', o', none⟩ >>= _) w = _
    rw [Sem.run_bind, run_stringish_plain hH']
    show Sem.run P ((Go.shape B >>= fun r => pure (match r with | some (_, 0) => true | _ => false)) >>= _) w = _
    rw [Sem.run_bind, run_shape_cells hH]
    show Sem.run P ((Go.shape B' >>= fun r => pure (match r with | some (_, 0) => true | _ => false)) >>= _) w = _
    rw [Sem.run_bind, run_shape_cells hH']
    rfl
  rw [Sem.run_bind, hm]
  rfl
theorem sameAddr_same {B o o' : Nat} : (sameAddr ⟨B, o, none⟩ ⟨B, o', none⟩).run P w = .ok (Nat.beq o o') w := by
  unfold sameAddr
  have hb : ((⟨B, o, none⟩ : Addr).block == (⟨B, o', none⟩ : Addr).block) = true := by simp
  rw [hb]
  simp only [if_true]
  show Result.ok ((⟨B, o, none⟩ : Addr) == ⟨B, o', none⟩) w = _
  congr 1
  rw [Bool.eq_iff_iff, beq_iff_eq, beq_iff]
  exact ⟨fun h => by injection h, fun h => by rw [h]⟩
theorem runs_of_eq {α : Type} {s : Sem α} {a : α} (h : s.run P w = .ok a w) : Runs P s w fun r w' => r = a ∧ w' = w := ⟨a, w, h, rfl, rfl⟩
theorem run_under_bind {α : Type} {t : TypeId} {td : TypeDesc} (ht : P.underlying t = some td) (f : TypeDesc → Sem α) : (underlying t >>= f).run P w = (f td).run P w := by
  rw [Sem.run_bind, run_under ht]; rfl
theorem eqScalar_pointer (s : Sat e h w.heap) {t el z : Nat} (ht : P.underlying t = some (.pointer el)) (hz : sizeA P el = some z) (h0 : 0 < z) {x y : AV} {ux uy : Value} (hx : VR e x ux) (hy : VR e y uy)
    (hkx : kindOk (.pointer el) x = true) (hky : kindOk (.pointer el) y = true) {q : Bool} (hq : eqScalar h x y = some q) (d : Nat) : (Op.equalIn (d + 1) t ux uy).run P w = .ok q w := by
  unfold Op.equalIn
  rw [run_under_bind ht]
  have hsz : ∀ {α : Type} (f : Nat → Sem α), (sizeOf el >>= f).run P w = (f z).run P w := fun f => by rw [Sem.run_bind, run_size hz]; rfl
  cases x <;> simp [kindOk] at hkx
  case pnil =>
    cases hx
    cases y <;> simp [kindOk] at hky
    case pnil => cases hy; cases hq; rfl
    case ptr b o =>
      obtain ⟨l, _, rfl⟩ := vr_ptr hy
      cases hq; rfl
    case gptr g => cases hy; cases hq; rfl
  case gptr g =>
    cases hx
    cases y <;> simp [kindOk] at hky <;> try (simp [eqScalar] at hq; done)
    case pnil => cases hy; cases hq; rfl
  case ptr b o =>
    obtain ⟨l, hl, rfl⟩ := vr_ptr hx
    cases y <;> simp [kindOk] at hky <;> try (simp [eqScalar, eqP] at hq; done)
    case pnil => cases hy; cases hq; rfl
    case ptr b' o' =>
      obtain ⟨l', hl', rfl⟩ := vr_ptr hy
      have hq' : ite' (Nat.beq b b') (some (Nat.beq o o')) (bnd (bnd (h.get b) ptrE) fun l => bnd (bnd (h.get b') ptrE) fun l' => grd (notIn b l') (grd (notIn b' l) (some false))) = some q := hq
      simp only []
      rw [hsz]
      rw [if_pos (by omega)]
      rw [ite'_eq] at hq'
      rcases hq' with ⟨hbb, hq'⟩ | ⟨hbb, hq'⟩
      · rw [beq_iff] at hbb; subst hbb
        rw [hl] at hl'; cases hl'
        cases hq'
        rw [sameAddr_same]
        congr 1
        rw [Bool.eq_iff_iff, beq_iff, beq_iff]; omega
      · have hne : b ≠ b' := fun hb => by rw [(beq_iff b b').2 hb] at hbb; cases hbb
        rw [bnd_eq] at hq'
        obtain ⟨o1, ho1, hq'⟩ := hq'
        rw [bnd_eq] at hq'
        obtain ⟨o2, ho2, hq'⟩ := hq'
        rw [grd_eq, notIn_iff, grd_eq, notIn_iff] at hq'
        obtain ⟨hn1, hn2, hq'⟩ := hq'
        cases hq'
        rw [bnd_eq] at ho1 ho2
        obtain ⟨en1, he1, hp1⟩ := ho1
        obtain ⟨en2, he2, hp2⟩ := ho2
        obtain ⟨cs1, ty1, wr1, rfl, hty1⟩ := ptrE_eq hp1
        obtain ⟨cs2, ty2, wr2, rfl, hty2⟩ := ptrE_eq hp2
        obtain ⟨arr1, T1, hH1⟩ := plain_row s he1 hty1 hl
        obtain ⟨arr2, T2, hH2⟩ := plain_row s he2 hty2 hl'
        have hblk : l.blk ≠ l'.blk := fun hb => by
          rcases s.sep b b' _ _ l l' he1 he2 hl hl' hne hb with h1 | h1
          · exact hn2 h1
          · exact hn1 h1
        exact sameAddr_plain hblk hH1 hH2
theorem eqScalar_nils {t : TypeId} {td : TypeDesc} (ht : P.underlying t = some td) (htd : (∃ a, td = .slice a) ∨ (∃ a b, td = .map a b) ∨ (∃ a b c, td = .func a b c)) {x y : AV} {ux uy : Value} (hx : VR e x ux) (hy : VR e y uy)
    (hkx : kindOk td x = true) (hky : kindOk td y = true) {q : Bool} (hq : eqScalar h x y = some q) (d : Nat) : (Op.equalIn (d + 1) t ux uy).run P w = .ok q w := by
  unfold Op.equalIn
  rw [run_under_bind ht]
  rcases htd with ⟨a, rfl⟩ | ⟨a, b, rfl⟩ | ⟨a, b, c, rfl⟩ <;> cases x <;> simp [kindOk] at hkx <;> cases y <;> simp [kindOk] at hky <;>
    first
    | (simp [eqScalar, eqNils, nilKind, isNilV, ite'] at hq; done)
    | (cases hx; cases hy; cases hq <;> rfl)
    | (cases hx; cases hy; cases hq)
theorem runM_bind {α β : Type} (s : Sem α) (f : α → Sem β) : (s >>= f).run P w = match s.run P w with | .ok a w' => (f a).run P w' | .halt h w' => .halt h w' := run_bind P s f w
theorem runs_part {t off : Nat} {cs : List AV} {us : Array Value} (hc : VRs e cs us.toList) {v : AV} (hv : partA P t cs off = some v) : ∃ u, (part t us off).run P w = .ok u w ∧ VR e v u := by
  obtain ⟨u, w', hr, hv, rfl⟩ := part_sound (P := P) (w := w) hc hv
  exact ⟨u, hr, hv⟩
theorem goF_sound {d : Nat} {eq : TypeId → AV → AV → Option Bool} (heq : ∀ {t : TypeId} {x y : AV} {ux uy : Value}, VR e x ux → VR e y uy → ∀ {q : Bool}, eq t x y = some q → (Op.equalIn d t ux uy).run P w = .ok q w)
    {xs ys : List AV} {us vs : Array Value} (hx : VRs e xs us.toList) (hy : VRs e ys vs.toList) :
    ∀ (fs : List Field) {q : Bool}, goF P eq xs ys fs = some q →
      ((forIn fs ((none, ()) : Option Bool × Unit) fun f _ =>
        if f.name ≠ "_" then do
          let a ← part f.type us f.offset
          let b ← part f.type vs f.offset
          let r ← Op.equalIn d f.type a b
          if (!r) = true then pure (ForInStep.done (some false, ())) else pure (ForInStep.yield (none, ()))
        else pure (ForInStep.yield (none, ()))) : Sem (Option Bool × Unit)).run P w = .ok (if q then (none, ()) else (some false, ())) w := by
  intro fs
  induction fs with
  | nil => intro q hq; cases hq; rfl
  | cons f fs ih =>
    intro q hq
    have hq' : ite' (decide (f.name = "_")) none (bnd (partA P f.type xs f.offset) fun a => bnd (partA P f.type ys f.offset) fun b => bnd (eq f.type a b) fun q => ite' q (goF P eq xs ys fs) (some false)) = some q := hq
    rw [ite'_eq] at hq'
    rcases hq' with ⟨_, hq'⟩ | ⟨hn, hq'⟩
    · cases hq'
    rw [decide_eq_false_iff_not] at hn
    rw [bnd_eq] at hq'
    obtain ⟨a, ha, hq'⟩ := hq'
    rw [bnd_eq] at hq'
    obtain ⟨b, hb, hq'⟩ := hq'
    rw [bnd_eq] at hq'
    obtain ⟨r, hr, hq'⟩ := hq'
    obtain ⟨ua, hua, hva⟩ := runs_part (P := P) (w := w) hx ha
    obtain ⟨ub, hub, hvb⟩ := runs_part (P := P) (w := w) hy hb
    have hrr := heq hva hvb hr
    rw [List.forIn_cons]
    rw [if_pos hn]
    have hbody : ((do
          let a ← part f.type us f.offset
          let b ← part f.type vs f.offset
          let r ← Op.equalIn d f.type a b
          if (!r) = true then pure (ForInStep.done (some false, ())) else pure (ForInStep.yield (none, ())) : Sem (ForInStep (Option Bool × Unit)))).run P w
        = .ok (if r then ForInStep.yield (none, ()) else ForInStep.done (some false, ())) w := by
      rw [runM_bind, hua]
      show Sem.run P (part f.type vs f.offset >>= _) w = _
      rw [runM_bind, hub]
      show Sem.run P (Op.equalIn d f.type ua ub >>= _) w = _
      rw [runM_bind, hrr]
      cases r <;> rfl
    rw [runM_bind, hbody]
    rw [ite'_eq] at hq'
    rcases hq' with ⟨rfl, hq'⟩ | ⟨rfl, hq'⟩
    · exact ih hq'
    · cases hq'; rfl
theorem equalA_sound (s : Sat e h w.heap) : ∀ (d : Nat) {t : TypeId} {x y : AV} {ux uy : Value}, VR e x ux → VR e y uy → ∀ {q : Bool}, equalA P h d t x y = some q → ∀ D, d ≤ D → (Op.equalIn D t ux uy).run P w = .ok q w := by
  intro d
  induction d with
  | zero => intro t x y ux uy _ _ q hq; cases hq
  | succ d ih =>
    intro t x y ux uy hx hy q hq D hD
    obtain ⟨D, rfl⟩ : ∃ D', D = D' + 1 := ⟨D - 1, by omega⟩
    have hq' : bnd (P.underlying t) (fun td => equalD P h (equalA P h d) t x y td) = some q := hq
    rw [bnd_eq] at hq'
    obtain ⟨td, ht, hq'⟩ := hq'
    have plain : ∀ (hk : grd (kindOk td x) (grd (kindOk td y) (eqScalar h x y)) = some q), kindOk td x = true ∧ kindOk td y = true ∧ eqScalar h x y = some q := fun hk => by
      rw [grd_eq, grd_eq] at hk; exact hk
    cases td
    case struct fs =>
      have hs : aggV x (fun xs => aggV y fun ys => ite' (P.stoodInHeld t) none (goF P (equalA P h d) xs ys fs.toList)) = some q := hq'
      rw [aggV_eq] at hs
      obtain ⟨xs, rfl, hs⟩ := hs
      rw [aggV_eq] at hs
      obtain ⟨ys, rfl, hs⟩ := hs
      rw [ite'_eq] at hs
      rcases hs with ⟨_, hs⟩ | ⟨hst, hs⟩
      · cases hs
      obtain ⟨us, rfl, hcx⟩ := vr_agg hx
      obtain ⟨vs, rfl, hcy⟩ := vr_agg hy
      unfold Op.equalIn
      rw [run_under_bind ht]
      simp only []
      have hp : ∀ {α : Type} (f : Program → Sem α), (program >>= f).run P w = (f P).run P w := fun f => by rw [runM_bind]; rfl
      rw [hp, hst]
      simp only [Bool.false_eq_true, if_false]
      have := goF_sound (P := P) (w := w) (d := D) (fun hx hy _ hq => ih hx hy hq D (by omega)) hcx hcy fs.toList hs
      rw [runM_bind]
      rw [← Array.forIn_toList, this]
      cases q <;> rfl
    case interface ms =>
      have hs : eqIface P (equalA P h d) x y = some q := hq'
      unfold Op.equalIn
      rw [run_under_bind ht]
      cases x <;> try (simp [eqIface] at hs; done)
      case inil =>
        cases hx
        cases y <;> try (simp [eqIface] at hs; done)
        case inil => cases hy; cases hs; rfl
        case ifc ty vy => cases hy; cases hs; rfl
      case ifc tx vx =>
        cases hx with
        | ifc _ _ ux hvx =>
          cases y <;> try (simp [eqIface] at hs; done)
          case inil => cases hy; cases hs; rfl
          case ifc ty vy =>
            cases hy with
            | ifc _ _ uy hvy =>
              have hs' : ite' (Nat.beq tx ty) (bnd (P.info? tx) fun i => grd i.comparable (equalA P h d tx vx vy)) (some false) = some q := hs
              rw [ite'_eq] at hs'
              rcases hs' with ⟨hb, hs'⟩ | ⟨hb, hs'⟩
              · rw [beq_iff] at hb; subst hb
                rw [bnd_eq] at hs'
                obtain ⟨i, hi, hs'⟩ := hs'
                rw [grd_eq] at hs'
                simp only [ne_eq, not_true_eq_false, if_false]
                rw [runM_bind, run_info hi]
                simp only [hs'.1, Bool.not_true, Bool.false_eq_true, if_false]
                exact ih hvx hvy hs'.2 D (by omega)
              · cases hs'
                have hne : tx ≠ ty := fun he => by rw [(beq_iff tx ty).2 he] at hb; cases hb
                simp only [ne_eq, hne, not_false_eq_true, if_true]
                rfl
    case pointer el =>
      have hs : bnd (sizeA P el) (fun z => grd (Nat.blt 0 z) (grd (kindOk (.pointer el) x) (grd (kindOk (.pointer el) y) (eqScalar h x y)))) = some q := hq'
      rw [bnd_eq] at hs
      obtain ⟨z, hz, hs⟩ := hs
      rw [grd_eq, blt_iff] at hs
      obtain ⟨h1, h2, h3⟩ := plain hs.2
      exact eqScalar_pointer s ht hz hs.1 hx hy h1 h2 h3 D
    case slice a =>
      obtain ⟨h1, h2, h3⟩ := plain hq'
      exact eqScalar_nils ht (.inl ⟨a, rfl⟩) hx hy h1 h2 h3 D
    case map a b =>
      obtain ⟨h1, h2, h3⟩ := plain hq'
      exact eqScalar_nils ht (.inr (.inl ⟨a, b, rfl⟩)) hx hy h1 h2 h3 D
    case func a b c =>
      obtain ⟨h1, h2, h3⟩ := plain hq'
      exact eqScalar_nils ht (.inr (.inr ⟨a, b, c, rfl⟩)) hx hy h1 h2 h3 D
    case bool =>
      obtain ⟨h1, h2, h3⟩ := plain hq'
      have hsx : simpleV x = true := by cases x <;> simp [kindOk] at h1 <;> rfl
      have hsy : simpleV y = true := by cases y <;> simp [kindOk] at h2 <;> rfl
      refine cmp_equalIn ht (eqScalar_simple s hx hy h3 hsx hsy) D (.inl ⟨?_, rfl⟩)
      cases x <;> simp [kindOk] at h1
      exact ⟨_, vr_bool hx⟩
    case int k =>
      obtain ⟨h1, h2, h3⟩ := plain hq'
      have hsx : simpleV x = true := by cases x <;> simp [kindOk] at h1 <;> rfl
      have hsy : simpleV y = true := by cases y <;> simp [kindOk] at h2 <;> rfl
      refine cmp_equalIn ht (eqScalar_simple s hx hy h3 hsx hsy) D (.inr (.inl ?_))
      cases x <;> simp [kindOk] at h1
      · exact ⟨_, _, _, vr_int hx, rfl⟩
      · cases hx; exact ⟨_, _, _, rfl, rfl⟩
    case string =>
      obtain ⟨h1, h2, h3⟩ := plain hq'
      have hsx : simpleV x = true := by cases x <;> simp [kindOk] at h1 <;> rfl
      have hsy : simpleV y = true := by cases y <;> simp [kindOk] at h2 <;> rfl
      refine cmp_equalIn ht (eqScalar_simple s hx hy h3 hsx hsy) D (.inr (.inr ⟨?_, rfl⟩))
      cases x <;> simp [kindOk] at h1
      · exact ⟨_, vr_str hx⟩
      · cases hx; exact ⟨_, rfl⟩
    all_goals
      have := (plain hq').1
      simp [kindOk] at this
end
end
end Go.Xe
end
section
namespace Go.Xe
noncomputable section
theorem wrap_small {k : IntKind} {n : Int} (h : smallInt k n = true) : k.wrap n = n := by
  cases k <;> simp [smallInt] at h
  case i64 =>
    have hr : -9223372036854775808 ≤ n ∧ n < 9223372036854775808 := by
      cases n with
      | ofNat m => rw [iE_nat, blt_iff] at h; simp; omega
      | negSucc m => rw [iE_neg, blt_iff] at h; rw [Int.negSucc_eq]; omega
    have hw : IntKind.i64.wrap n = (if n % 18446744073709551616 ≥ 9223372036854775808 then n % 18446744073709551616 - 18446744073709551616 else n % 18446744073709551616) := by
      unfold IntKind.wrap
      simp [IntKind.bits, IntKind.signed]
    rw [hw]
    split <;> omega
  case u8 =>
    have hr : 0 ≤ n ∧ n < 256 := by
      cases n with
      | ofNat m => rw [iE_nat, blt_iff] at h; simp; omega
      | negSucc m => simp at h
    have hw : IntKind.u8.wrap n = n % 256 := by
      unfold IntKind.wrap
      simp [IntKind.bits, IntKind.signed]
    rw [hw]; omega
theorem wrapF_eq (k : IntKind) (n : Int) : wrapF k n = k.wrap n := by
  unfold wrapF
  rw [ite'_if]
  by_cases h : smallInt k n = true
  · rw [if_pos h, wrap_small h]
  · rw [if_neg h]
section
variable {P : Program} {e : Env} {w : World}
theorem binInt_sound {op : BinOp} {k : IntKind} {m n : Int} {v : AV} (hop : isShift op = false) (hv : binInt op k m n = some v) (t : TypeId) :
    Runs P (binOp op t (.int k m) (.int k n)) w fun u w' => VR e v u ∧ w' = w := by
  have key : ∀ {s : Sem Value} {u : Value}, s.run P w = .ok u w → VR e v u → Runs P s w fun u w' => VR e v u ∧ w' = w := fun h1 h2 => ⟨_, w, h1, h2, rfl⟩
  have hk : ¬ (k ≠ k) := fun h => h rfl
  cases op <;> simp [isShift] at hop
  case add =>
    cases hv
    rw [mkInt_eq, wrapF_eq]
    refine ⟨.int k (k.wrap (m + n)), w, ?_, .int _ _, rfl⟩
    show Sem.run P (if k ≠ k then _ else _) w = _; rw [if_neg hk]; rfl
  case sub =>
    cases hv
    rw [mkInt_eq, wrapF_eq]
    refine ⟨.int k (k.wrap (m - n)), w, ?_, .int _ _, rfl⟩
    show Sem.run P (if k ≠ k then _ else _) w = _; rw [if_neg hk]; rfl
  case mul =>
    cases hv
    rw [mkInt_eq, wrapF_eq]
    refine ⟨.int k (k.wrap (m * n)), w, ?_, .int _ _, rfl⟩
    show Sem.run P (if k ≠ k then _ else _) w = _; rw [if_neg hk]; rfl
  case quo =>
    have hv' : ite' (eqInt n 0) none (some (mkInt k (wrapF k (m.tdiv n)))) = some v := hv
    rw [ite'_eq] at hv'
    rcases hv' with ⟨_, hv'⟩ | ⟨hn, hv'⟩
    · cases hv'
    cases hv'
    rw [eqInt_eq, beq_eq_false_iff_ne] at hn
    rw [mkInt_eq, wrapF_eq]
    refine ⟨.int k (k.wrap (m.tdiv n)), w, ?_, .int _ _, rfl⟩
    show Sem.run P (if k ≠ k then _ else _) w = _; rw [if_neg hk]; show Sem.run P (if n = 0 then _ else _) w = _; rw [if_neg hn]; rfl
  case rem =>
    have hv' : ite' (eqInt n 0) none (some (mkInt k (m.tmod n))) = some v := hv
    rw [ite'_eq] at hv'
    rcases hv' with ⟨_, hv'⟩ | ⟨hn, hv'⟩
    · cases hv'
    cases hv'
    rw [eqInt_eq, beq_eq_false_iff_ne] at hn
    rw [mkInt_eq]
    refine ⟨.int k (m.tmod n), w, ?_, .int _ _, rfl⟩
    show Sem.run P (if k ≠ k then _ else _) w = _; rw [if_neg hk]; show Sem.run P (if n = 0 then _ else _) w = _; rw [if_neg hn]; rfl
  case and =>
    have hv' : some (mkInt k (k.wrap (BitVec.ofInt k.bits m &&& BitVec.ofInt k.bits n).toNat)) = some v := hv
    cases hv'
    rw [mkInt_eq]
    refine ⟨_, w, ?_, .int _ _, rfl⟩
    show Sem.run P (if k ≠ k then _ else _) w = _; rw [if_neg hk]; rfl
  case or =>
    have hv' : some (mkInt k (k.wrap (BitVec.ofInt k.bits m ||| BitVec.ofInt k.bits n).toNat)) = some v := hv
    cases hv'
    rw [mkInt_eq]
    refine ⟨_, w, ?_, .int _ _, rfl⟩
    show Sem.run P (if k ≠ k then _ else _) w = _; rw [if_neg hk]; rfl
  case xor =>
    have hv' : some (mkInt k (k.wrap (BitVec.ofInt k.bits m ^^^ BitVec.ofInt k.bits n).toNat)) = some v := hv
    cases hv'
    rw [mkInt_eq]
    refine ⟨_, w, ?_, .int _ _, rfl⟩
    show Sem.run P (if k ≠ k then _ else _) w = _; rw [if_neg hk]; rfl
  case andNot =>
    have hv' : some (mkInt k (k.wrap (BitVec.ofInt k.bits m &&& ~~~(BitVec.ofInt k.bits n)).toNat)) = some v := hv
    cases hv'
    rw [mkInt_eq]
    refine ⟨_, w, ?_, .int _ _, rfl⟩
    show Sem.run P (if k ≠ k then _ else _) w = _; rw [if_neg hk]; rfl
  case eql =>
    cases hv
    rw [mkBool_eq, eqInt_eq]
    refine ⟨.bool (m == n), w, ?_, .bool _, rfl⟩
    show Sem.run P (if k ≠ k then _ else _) w = _; rw [if_neg hk]; rfl
  case neq =>
    cases hv
    rw [mkBool_eq, eqInt_eq, ite'_ft]
    refine ⟨.bool (m != n), w, ?_, .bool _, rfl⟩
    show Sem.run P (if k ≠ k then _ else _) w = _; rw [if_neg hk]; rfl
  case lss =>
    cases hv
    rw [mkBool_eq, ltInt_iff]
    refine ⟨_, w, ?_, .bool _, rfl⟩
    show Sem.run P (if k ≠ k then _ else _) w = _; rw [if_neg hk]; rfl
  case leq =>
    cases hv
    rw [mkBool_eq]
    have : leInt m n = decide (m ≤ n) := by
      unfold leInt; rw [ite'_ft, ltInt_iff, Bool.eq_iff_iff]; simp
    rw [this]
    refine ⟨_, w, ?_, .bool _, rfl⟩
    show Sem.run P (if k ≠ k then _ else _) w = _; rw [if_neg hk]; rfl
  case gtr =>
    cases hv
    rw [mkBool_eq, ltInt_iff]
    refine ⟨_, w, ?_, .bool _, rfl⟩
    show Sem.run P (if k ≠ k then _ else _) w = _; rw [if_neg hk]; rfl
  case geq =>
    cases hv
    rw [mkBool_eq]
    have : leInt n m = decide (m ≥ n) := by
      unfold leInt; rw [ite'_ft, ltInt_iff, Bool.eq_iff_iff]; simp
    rw [this]
    refine ⟨_, w, ?_, .bool _, rfl⟩
    show Sem.run P (if k ≠ k then _ else _) w = _; rw [if_neg hk]; rfl
theorem shiftA_sound {op : BinOp} {k k' : IntKind} {m : Int} {n : Nat} {v : AV} (hv : shiftA op k m n = some v) (t : TypeId) :
    Runs P (binOp op t (.int k m) (.int k' (n : Int))) w fun u w' => VR e v u ∧ w' = w := by
  have hn : ¬ ((n : Int) < 0) := by omega
  cases op <;> try (simp [shiftA] at hv; done)
  case shl =>
    cases hv
    rw [mkInt_eq]
    refine ⟨.int k (k.wrap (m * 2 ^ (min n k.bits))), w, ?_, .int _ _, rfl⟩
    show Sem.run P (Op.shift .shl k m k' (n : Int)) w = _
    unfold Op.shift; rw [if_neg hn]; rfl
  case shr =>
    cases hv
    rw [mkInt_eq]
    refine ⟨.int k (m.fdiv (2 ^ (min n k.bits))), w, ?_, .int _ _, rfl⟩
    show Sem.run P (Op.shift .shr k m k' (n : Int)) w = _
    unfold Op.shift; rw [if_neg hn]; rfl
theorem less_other : ∀ (a b : List UInt8), Op.bytesLess b a = !(Op.bytesLess a b || a == b)
  | [], [] => rfl
  | [], _ :: _ => rfl
  | _ :: _, [] => rfl
  | x :: a, y :: b => by
    have ih := less_other a b
    show (y < x || (y == x && Op.bytesLess b a)) = !((x < y || (x == y && Op.bytesLess a b)) || (x :: a == y :: b))
    have hc : (x :: a == y :: b) = (x == y && a == b) := rfl
    rw [hc, ih]
    by_cases h1 : x = y
    · subst h1
      have : ¬ (x < x) := UInt8.lt_irrefl x
      simp [this]
    · have h2 : (x == y) = false := by rw [beq_eq_false_iff_ne]; exact h1
      have h3 : (y == x) = false := by rw [beq_eq_false_iff_ne]; exact fun h => h1 h.symm
      rw [h2, h3]
      simp only [Bool.false_and, Bool.or_false]
      by_cases h4 : x < y
      · have : ¬ (y < x) := fun h => by rw [UInt8.lt_iff_toNat_lt] at h h4; omega
        simp [h4, this]
      · have : y < x := by
          rw [UInt8.lt_iff_toNat_lt] at h4 ⊢
          have : x.toNat ≠ y.toNat := fun h => h1 (UInt8.toNat_inj.1 h)
          omega
        simp [h4, this]
theorem i64max : IntKind.i64.max = 9223372036854775807 := by decide
theorem binStr_sound {op : BinOp} {n c n' c' : Nat} {v : AV} (hv : binStr op n c n' c' = some v) (t : TypeId) :
    Runs P (binOp op t (.string (bytesOf n c)) (.string (bytesOf n' c'))) w fun u w' => VR e v u ∧ w' = w := by
  have hb : ∀ op, binOp op t (.string (bytesOf n c)) (.string (bytesOf n' c')) = Op.stringOp op (bytesOf n c) (bytesOf n' c') := fun op => by cases op <;> rfl
  rw [hb]
  have e1 : ((bytesOf n c).toList == (bytesOf n' c').toList) = eqStr n c n' c' := by
    rw [bytesL_beq, Bool.eq_iff_iff, decide_eq_true_iff, eqStr_iff]
  have e2 : Op.bytesLess (bytesOf n c).toList (bytesOf n' c').toList = ltStr (Nat.succ n) n c n' c' := by
    rw [ltStr_iff _ _ _ _ _ (Nat.lt_succ_self n), ByteArray.toList_eq, ByteArray.toList_eq]; rfl
  have e3 : ltStr (Nat.succ n') n' c' n c = !(ltStr (Nat.succ n) n c n' c' || eqStr n c n' c') := by
    rw [ltStr_iff _ _ _ _ _ (Nat.lt_succ_self n), ltStr_iff _ _ _ _ _ (Nat.lt_succ_self n'), less_other]
    congr 2
    rw [Bool.eq_iff_iff, beq_iff_eq, eqStr_iff, bytesOf_inj, listOf_inj]
  cases op <;> try (simp [binStr] at hv; done)
  case add =>
    have hv' : grd (Nat.ble (n + n') 1000000000) (some (mkStr (n + n') (c % 256 ^ n + 256 ^ n * c'))) = some v := hv
    rw [grd_eq, ble_iff] at hv'
    obtain ⟨hle, hv'⟩ := hv'
    cases hv'
    rw [mkStr_eq]
    refine ⟨.string (bytesOf n c ++ bytesOf n' c'), w, ?_, ?_, rfl⟩
    · simp only [Op.stringOp, bytesOf_size]
      rw [if_neg]
      · rfl
      · rw [i64max]; omega
    · rw [bytesOf_app]; exact .str _ _
  case eql =>
    cases hv
    rw [mkBool_eq, ← e1]
    exact ⟨_, w, rfl, .bool _, rfl⟩
  case neq =>
    cases hv
    rw [mkBool_eq, ite'_ft, ← e1]
    exact ⟨_, w, rfl, .bool _, rfl⟩
  case lss =>
    cases hv
    rw [mkBool_eq, ← e2]
    exact ⟨_, w, rfl, .bool _, rfl⟩
  case leq =>
    cases hv
    rw [mkBool_eq, ite'_ft, e3, Bool.not_not, ← e2, ← e1]
    exact ⟨_, w, rfl, .bool _, rfl⟩
  case gtr =>
    cases hv
    rw [mkBool_eq, e3, ← e2, ← e1]
    exact ⟨_, w, rfl, .bool _, rfl⟩
  case geq =>
    cases hv
    rw [mkBool_eq, ite'_ft, ← e2]
    exact ⟨_, w, rfl, .bool _, rfl⟩
theorem eqGuard_plain {op : BinOp} {t : TypeId} {x y : Operand} {ua ub : Value} (h1 : ¬ (ua = .nilIface ∧ ub = .nilIface)) (h2 : ¬ ((∃ l, ua = .agg l) ∧ ∃ l, ub = .agg l)) :
    (eqGuard op t x y ua ub).run P w = .ok () w := by
  by_cases hop : op = .eql ∨ op = .neq
  · rcases hop with rfl | rfl <;> cases ua <;> cases ub <;> first | rfl | exact absurd ⟨rfl, rfl⟩ h1 | exact absurd ⟨⟨_, rfl⟩, ⟨_, rfl⟩⟩ h2
  · cases op <;> first | rfl | exact absurd (Or.inl rfl) hop | exact absurd (Or.inr rfl) hop
theorem isConstO_eq (x : Operand) : (match x with | .const _ => true | _ => false) = isConstO x := by cases x <;> rfl
theorem emptyIface_eq {d : TypeDesc} (h : emptyIface d = true) : ∃ ms : Array (String × TypeId), d = .interface ms ∧ ms.isEmpty = true := by
  cases d <;> simp [emptyIface] at h
  rename_i ms
  refine ⟨ms, rfl, ?_⟩
  rw [isNil_iff] at h
  simpa using h
def ByEqual (t : TypeId) (ua ub : Value) : Prop :=
  binOp .eql t ua ub = (do let r ← Op.equal t ua ub; pure (.bool r)) ∧ binOp .neq t ua ub = (do let r ← Op.equal t ua ub; pure (.bool (!r)))
theorem byEqual_of {h : AH} {t : TypeId} {d : Nat} {a b : AV} {ua ub : Value} (ha : VR e a ua) (hb : VR e b ub) {q : Bool} (hq : equalA P h (d + 1) t a b = some q) :
    (simpleV a = true ∧ simpleV b = true) ∨ ByEqual t ua ub := by
  have hq' : bnd (P.underlying t) (fun td => equalD P h (equalA P h d) t a b td) = some q := hq
  rw [bnd_eq] at hq'
  obtain ⟨td, ht, hq'⟩ := hq'
  have plain : ∀ (hk : grd (kindOk td a) (grd (kindOk td b) (eqScalar h a b)) = some q), kindOk td a = true ∧ kindOk td b = true := fun hk => by
    rw [grd_eq, grd_eq] at hk; exact ⟨hk.1, hk.2.1⟩
  cases td
  case struct fs =>
    have hs : aggV a (fun xs => aggV b fun ys => ite' (P.stoodInHeld t) none (goF P (equalA P h d) xs ys fs.toList)) = some q := hq'
    rw [aggV_eq] at hs
    obtain ⟨xs, rfl, hs⟩ := hs
    rw [aggV_eq] at hs
    obtain ⟨ys, rfl, _⟩ := hs
    obtain ⟨us, rfl, _⟩ := vr_agg ha
    obtain ⟨vs, rfl, _⟩ := vr_agg hb
    exact .inr ⟨rfl, rfl⟩
  case interface ms =>
    have hs : eqIface P (equalA P h d) a b = some q := hq'
    cases a <;> try (simp [eqIface] at hs; done)
    case inil =>
      cases ha
      cases b <;> try (simp [eqIface] at hs; done)
      case inil => cases hb; exact .inr ⟨rfl, rfl⟩
      case ifc => cases hb; exact .inr ⟨rfl, rfl⟩
    case ifc =>
      cases ha
      cases b <;> try (simp [eqIface] at hs; done)
      case inil => cases hb; exact .inr ⟨rfl, rfl⟩
      case ifc => cases hb; exact .inr ⟨rfl, rfl⟩
  case pointer el =>
    have hs : bnd (sizeA P el) (fun z => grd (Nat.blt 0 z) (grd (kindOk (.pointer el) a) (grd (kindOk (.pointer el) b) (eqScalar h a b)))) = some q := hq'
    rw [bnd_eq] at hs
    obtain ⟨z, hz, hs⟩ := hs
    rw [grd_eq] at hs
    obtain ⟨h1, h2⟩ := plain hs.2
    cases a <;> simp [kindOk] at h1 <;> cases b <;> simp [kindOk] at h2 <;> cases ha <;> cases hb <;> exact .inr ⟨rfl, rfl⟩
  case slice =>
    obtain ⟨h1, h2⟩ := plain hq'
    cases a <;> simp [kindOk] at h1 <;> cases b <;> simp [kindOk] at h2 <;> cases ha <;> cases hb <;> exact .inr ⟨rfl, rfl⟩
  case map =>
    obtain ⟨h1, h2⟩ := plain hq'
    cases a <;> simp [kindOk] at h1 <;> cases b <;> simp [kindOk] at h2 <;> cases ha <;> cases hb <;> exact .inr ⟨rfl, rfl⟩
  case func =>
    obtain ⟨h1, h2⟩ := plain hq'
    cases a <;> simp [kindOk] at h1 <;> cases b <;> simp [kindOk] at h2 <;> cases ha <;> cases hb <;> exact .inr ⟨rfl, rfl⟩
  case bool =>
    obtain ⟨h1, h2⟩ := plain hq'
    cases a <;> simp [kindOk] at h1 <;> cases b <;> simp [kindOk] at h2 <;> cases ha <;> cases hb <;> exact .inr ⟨rfl, rfl⟩
  case int =>
    obtain ⟨h1, h2⟩ := plain hq'
    cases a <;> simp [kindOk] at h1 <;> cases b <;> simp [kindOk] at h2 <;> exact .inl ⟨rfl, rfl⟩
  case string =>
    obtain ⟨h1, h2⟩ := plain hq'
    cases a <;> simp [kindOk] at h1 <;> cases b <;> simp [kindOk] at h2 <;> exact .inl ⟨rfl, rfl⟩
  all_goals
    have := (plain hq').1
    simp [kindOk] at this
theorem eqOp_eq {op : BinOp} {q : Bool} {v : AV} (h : eqOp op q = some v) : (op = .eql ∧ v = .bool q) ∨ (op = .neq ∧ v = .bool (!q)) := by
  cases op <;> try (simp [eqOp] at h; done)
  case eql => left; cases h; exact ⟨rfl, mkBool_eq q⟩
  case neq => right; cases h; exact ⟨rfl, by rw [ite'_ft, mkBool_eq]⟩
theorem binEq_val {h : AH} (s : Sat e h w.heap) {op : BinOp} {t : TypeId} {a b v : AV} {ua ub : Value} (ha : VR e a ua) (hb : VR e b ub) {d : Nat} (hd : d + 1 ≤ Op.maxDepth) {q : Bool}
    (hq : equalA P h (d + 1) t a b = some q) (hop : eqOp op q = some v) : Runs P (binOp op t ua ub) w fun u w' => VR e v u ∧ w' = w := by
  have heq := equalA_sound (P := P) (w := w) s (d + 1) ha hb hq Op.maxDepth hd
  have heq' : (Op.equal t ua ub).run P w = .ok q w := heq
  rcases byEqual_of ha hb hq with ⟨h1, h2⟩ | ⟨h1, h2⟩
  · have hq' : bnd (P.underlying t) (fun td => equalD P h (equalA P h d) t a b td) = some q := hq
    rw [bnd_eq] at hq'
    obtain ⟨td, ht, hq'⟩ := hq'
    have hc : Cmp ua ub q := by
      have hs : ∃ r : Option Bool, eqScalar h a b = r := ⟨_, rfl⟩
      cases td
      case interface => cases a <;> simp [simpleV] at h1 <;> (simp [equalD, eqIface] at hq')
      case struct => cases a <;> simp [simpleV] at h1 <;> (simp [equalD, aggV] at hq')
      case pointer el =>
        have hs : bnd (sizeA P el) (fun z => grd (Nat.blt 0 z) (grd (kindOk (.pointer el) a) (grd (kindOk (.pointer el) b) (eqScalar h a b)))) = some q := hq'
        rw [bnd_eq] at hs
        obtain ⟨z, hz, hs⟩ := hs
        rw [grd_eq, grd_eq, grd_eq] at hs
        exact eqScalar_simple s ha hb hs.2.2.2 h1 h2
      all_goals
        have hs : grd _ (grd _ (eqScalar h a b)) = some q := hq'
        rw [grd_eq, grd_eq] at hs
        exact eqScalar_simple s ha hb hs.2.2 h1 h2
    cases hc with
    | bool x y =>
      rcases eqOp_eq hop with ⟨rfl, rfl⟩ | ⟨rfl, rfl⟩
      · refine ⟨.bool (x == y), w, ?_, .bool _, rfl⟩
        show Sem.run P (Op.equal t (.bool x) (.bool y) >>= fun r => pure (Value.bool r)) w = _
        rw [runM_bind, heq']; rfl
      · refine ⟨.bool (!(x == y)), w, ?_, .bool _, rfl⟩
        show Sem.run P (Op.equal t (.bool x) (.bool y) >>= fun r => pure (Value.bool (!r))) w = _
        rw [runM_bind, heq']; rfl
    | int k x y =>
      have hk : ¬ (k ≠ k) := fun h => h rfl
      rcases eqOp_eq hop with ⟨rfl, rfl⟩ | ⟨rfl, rfl⟩
      · refine ⟨.bool (x == y), w, ?_, .bool _, rfl⟩
        show Sem.run P (if k ≠ k then _ else _) w = _; rw [if_neg hk]; rfl
      · refine ⟨.bool (!(x == y)), w, ?_, .bool _, rfl⟩
        show Sem.run P (if k ≠ k then _ else _) w = _; rw [if_neg hk]; rfl
    | string x y =>
      rcases eqOp_eq hop with ⟨rfl, rfl⟩ | ⟨rfl, rfl⟩
      · refine ⟨.bool (x.toList == y.toList), w, rfl, ?_, rfl⟩
        rw [bytesL_beq]; exact .bool _
      · refine ⟨.bool (!(x.toList == y.toList)), w, rfl, ?_, rfl⟩
        rw [bytesL_beq]; exact .bool _
  · rcases eqOp_eq hop with ⟨rfl, rfl⟩ | ⟨rfl, rfl⟩
    · rw [h1]
      refine Runs.bind' ⟨q, w, heq', Runs.pure' ⟨.bool _, rfl⟩⟩
    · rw [h2]
      refine Runs.bind' ⟨q, w, heq', Runs.pure' ⟨.bool _, rfl⟩⟩
end
end
end Go.Xe
end
section
namespace Go.Xe
noncomputable section
section
variable {P : Program} {e : Env} {w : World}
theorem equalA_shape {h : AH} {d : Nat} {t : TypeId} {a b : AV} {q : Bool} (hq : equalA P h (d + 1) t a b = some q) : (∀ i, a ≠ .sval i) ∧ ∀ i, b ≠ .sval i := by
  have hq' : bnd (P.underlying t) (fun td => equalD P h (equalA P h d) t a b td) = some q := hq
  rw [bnd_eq] at hq'
  obtain ⟨td, ht, hq'⟩ := hq'
  have plain : ∀ (hk : grd (kindOk td a) (grd (kindOk td b) (eqScalar h a b)) = some q), (∀ i, a ≠ .sval i) ∧ ∀ i, b ≠ .sval i := fun hk => by
    rw [grd_eq, grd_eq] at hk
    obtain ⟨h1, h2, _⟩ := hk
    constructor <;> rintro i rfl
    · cases td <;> simp [kindOk] at h1
    · cases td <;> simp [kindOk] at h2
  cases td
  case struct fs =>
    have hs : aggV a (fun xs => aggV b fun ys => ite' (P.stoodInHeld t) none (goF P (equalA P h d) xs ys fs.toList)) = some q := hq'
    rw [aggV_eq] at hs
    obtain ⟨xs, rfl, hs⟩ := hs
    rw [aggV_eq] at hs
    obtain ⟨ys, rfl, _⟩ := hs
    exact ⟨(fun _ h => by cases h), (fun _ h => by cases h)⟩
  case interface ms =>
    have hs : eqIface P (equalA P h d) a b = some q := hq'
    cases a <;> try (simp [eqIface] at hs; done)
    all_goals (cases b <;> try (simp [eqIface] at hs; done))
    all_goals exact ⟨(fun _ h => by cases h), (fun _ h => by cases h)⟩
  case pointer el =>
    have hs : bnd (sizeA P el) (fun z => grd (Nat.blt 0 z) (grd (kindOk (.pointer el) a) (grd (kindOk (.pointer el) b) (eqScalar h a b)))) = some q := hq'
    rw [bnd_eq] at hs
    obtain ⟨z, hz, hs⟩ := hs
    rw [grd_eq] at hs
    exact plain hs.2
  all_goals exact plain hq'
theorem vr_nilIface {a : AV} (ha : VR e a .nilIface) (hn : ∀ i, a ≠ .sval i) : a = .inil := by
  cases ha with
  | inil => rfl
  | sval i v h hc => exact absurd rfl (hn i)
theorem vr_aggIs {a : AV} {l : Array Value} (ha : VR e a (.agg l)) (hn : ∀ i, a ≠ .sval i) : ∃ x, a = .agg x := by
  cases ha with
  | agg x => exact ⟨x, rfl⟩
  | sval i v h hc => exact absurd rfl (hn i)
theorem guard_sound {op : BinOp} {t : TypeId} {x y : Operand} {a b : AV} {ua ub : Value} (ha : VR e a ua) (hb : VR e b ub) (na : ∀ i, a ≠ .sval i) (nb : ∀ i, b ≠ .sval i)
    (hg : guardA P t (ite' (isConstO x) true (isConstO y)) a b = true) : (eqGuard op t x y ua ub).run P w = .ok () w := by
  by_cases h1 : ua = .nilIface ∧ ub = .nilIface
  · obtain ⟨rfl, rfl⟩ := h1
    obtain rfl := vr_nilIface ha na
    obtain rfl := vr_nilIface hb nb
    have hg' : ite' (ite' (isConstO x) true (isConstO y)) true (oE false emptyIface (P.underlying t)) = true := hg
    rw [ite'_or, ite'_or] at hg'
    have hcst : (isConstO x || isConstO y) = true → (eqGuard op t x y .nilIface .nilIface).run P w = .ok () w := fun hc => by
      cases op <;> try rfl
      all_goals
        cases x <;> simp [isConstO] at hc <;> first | rfl | (cases y <;> simp at hc <;> rfl)
    cases hc : (isConstO x || isConstO y) with
    | true => exact hcst hc
    | false =>
      rw [hc, Bool.false_or] at hg'
      cases hu : P.underlying t with
      | none => rw [hu] at hg'; cases hg'
      | some d =>
        rw [hu] at hg'
        obtain ⟨ms, rfl, he⟩ := emptyIface_eq hg'
        have hgi : (Op.eqGuardIn Op.maxDepth t .nilIface .nilIface).run P w = .ok false w := by
          rw [show Op.maxDepth = 9999 + 1 from rfl]
          show Sem.run P ((underlying t).bind _) w = _
          rw [run_bind, run_under hu]
          show Sem.run P (pure !ms.isEmpty) w = _
          rw [he]; rfl
        have ht : (do if ← Op.eqGuardIn Op.maxDepth t .nilIface .nilIface then unsupported (.noEntry "binop/eql: two nil values of an interface type with methods, neither of them the literal nil") : Sem Unit).run P w = .ok () w := by
          rw [runM_bind, hgi]; rfl
        cases op <;> try rfl
        all_goals
          cases x <;> simp [isConstO] at hc <;> first | exact ht | (cases y <;> simp at hc <;> exact ht)
  · by_cases h2 : (∃ l, ua = .agg l) ∧ ∃ l, ub = .agg l
    · obtain ⟨⟨l, rfl⟩, ⟨l', rfl⟩⟩ := h2
      obtain ⟨xs, rfl⟩ := vr_aggIs ha na
      obtain ⟨ys, rfl⟩ := vr_aggIs hb nb
      have hg' : ite' (P.eqGuardType P.depth t) false true = true := hg
      rw [ite'_ft] at hg'
      have hm : P.eqGuardType P.depth t = false := by simpa using hg'
      cases op <;> simp [eqGuard, run_program, hm]
    · exact eqGuard_plain h1 h2
theorem under_iff {i : Int} {lo : Nat} (h : under i lo = true) : i < (lo : Int) := by
  cases i with
  | ofNat n => have h' : Nat.blt n lo = true := h; rw [blt_iff] at h'; simp; omega
  | negSucc n => rw [Int.negSucc_eq]; omega
theorem fits_iff {m : Nat} {fam : List ME} (h : fits m fam = true) : ∀ kv ∈ fam, ∀ kn kc, kv.k = .str kn kc → m + kn ≤ 1000000000 := by
  induction fam with
  | nil => simp
  | cons x fam ih =>
    intro kv hkv kn kc hk
    have h' : (match x.k with | .str n _ => ite' (Nat.ble (Nat.add m n) 1000000000) (fits m fam) false | _ => false) = true := h
    rcases List.mem_cons.1 hkv with rfl | hkv
    · rw [hk] at h'
      simp only [] at h'
      rw [ite'_and] at h'
      have := (Bool.and_eq_true_iff.1 h').1
      rw [ble_iff] at this
      exact this
    · cases hx : x.1 <;> rw [hx] at h' <;> simp only [] at h' <;> try (cases h'; done)
      rw [ite'_and] at h'
      exact ih (Bool.and_eq_true_iff.1 h').2 kv hkv kn kc hk
theorem binEq_sound {h : AH} (s : Sat e h w.heap) {op : BinOp} {t : TypeId} {x y : Operand} {a b v : AV} {ua ub : Value} (ha : VR e a ua) (hb : VR e b ub)
    (hv : binEq P op t (ite' (isConstO x) true (isConstO y)) a b h = some v) :
    Runs P (do eqGuard op t x y ua ub; binOp op t ua ub) w fun u w' => VR e v u ∧ w' = w := by
  unfold binEq at hv
  rw [grd_eq, bnd_eq] at hv
  obtain ⟨hg, q, hq, hop⟩ := hv
  obtain ⟨na, nb⟩ := equalA_shape (d := 39) hq
  exact Runs.bind' ⟨(), w, guard_sound ha hb na nb hg, binEq_val s ha hb (d := 39) (by decide) hq hop⟩
theorem binA_sound {h : AH} (s : Sat e h w.heap) {op : BinOp} {t : TypeId} {x y : Operand} {a b v : AV} {ua ub : Value} (ha : VR e a ua) (hb : VR e b ub)
    (hv : binA P op t (ite' (isConstO x) true (isConstO y)) a b h = some v) :
    Runs P (do eqGuard op t x y ua ub; binOp op t ua ub) w fun u w' => VR e v u ∧ w' = w := by
  have plain : ∀ {Q : Value → World → Prop}, ¬ (ua = .nilIface ∧ ub = .nilIface) → ¬ ((∃ l, ua = .agg l) ∧ ∃ l, ub = .agg l) → Runs P (binOp op t ua ub) w Q →
      Runs P (do eqGuard op t x y ua ub; binOp op t ua ub) w Q := fun h1 h2 k => Runs.bind' ⟨(), w, eqGuard_plain h1 h2, k⟩
  cases a <;> try (exact binEq_sound s ha hb hv)
  case int k m =>
    cases b <;> try (exact binEq_sound s ha hb hv)
    case int k' n =>
      cases vr_int ha
      cases vr_int hb
      have hv' : ite' (isShift op) (natI n fun n => shiftA op k m n) (grd (eqKind k k') (binInt op k m n)) = some v := hv
      refine plain (by rintro ⟨h, _⟩; cases h) (by rintro ⟨⟨_, h⟩, _⟩; cases h) ?_
      rw [ite'_eq] at hv'
      rcases hv' with ⟨_, hv'⟩ | ⟨hn, hv'⟩
      · rw [natI_eq] at hv'
        obtain ⟨n, rfl, hv'⟩ := hv'
        exact shiftA_sound hv' t
      · rw [grd_eq, eqKind_iff] at hv'
        obtain ⟨rfl, hv'⟩ := hv'
        exact binInt_sound hn hv' t
  case str n c =>
    cases b <;> try (simp [binA] at hv; done)
    case str n' c' =>
      cases vr_str ha
      cases vr_str hb
      exact plain (by rintro ⟨h, _⟩; cases h) (by rintro ⟨⟨_, h⟩, _⟩; cases h) (binStr_sound hv t)
    case sstr pn pc i =>
      have hv' : ite' (isAdd op) (grd (inFam h.fb h.fam i) (grd (fits (Nat.add n pn) h.fam) (some (frc (preS n c pn pc).1 fun n' => frc (preS n c pn pc).2 fun c' => .sstr n' c' i))))
        (binEq P op t (ite' (isConstO x) true (isConstO y)) (.str n c) (.sstr pn pc i) h) = some v := hv
      rw [ite'_eq] at hv'
      rcases hv' with ⟨hop, hv'⟩ | ⟨_, hv'⟩
      · cases op <;> simp [isAdd] at hop
        rw [grd_eq, grd_eq] at hv'
        obtain ⟨hi, hf, hv'⟩ := hv'
        cases hv'
        cases vr_str ha
        cases hb with
        | sstr _ _ _ s' hs' =>
          obtain ⟨kv, hkv, kn, kc, hk, rfl, _⟩ := s.fam.key i s' hi hs'
          have hlen := fits_iff hf kv hkv kn kc hk
          refine plain (by rintro ⟨h, _⟩; cases h) (by rintro ⟨⟨_, h⟩, _⟩; cases h) ?_
          refine ⟨.string (bytesOf n c ++ (bytesOf pn pc ++ bytesOf kn kc)), w, ?_, ?_, rfl⟩
          · show Sem.run P (Op.stringOp .add (bytesOf n c) (bytesOf pn pc ++ bytesOf kn kc)) w = _
            simp only [Op.stringOp, ByteArray.size_append, bytesOf_size]
            rw [if_neg]
            · rfl
            · rw [i64max]
              have : n + pn + kn ≤ 1000000000 := hlen
              omega
          · rw [frc_eq, frc_eq, ← ByteArray.append_assoc, bytesOf_app]
            exact .sstr _ _ _ _ hs'
      · exact binEq_sound s ha hb hv'
  case num g j lo hi =>
    cases b <;> try (exact binEq_sound s ha hb hv)
    case int k n =>
      have hv' : ite' (isGtr op) (grd (eqKind k .i64) (grd (under n lo) (some (.bool true)))) (binEq P op t (ite' (isConstO x) true (isConstO y)) (.num g j lo hi) (.int k n) h) = some v := hv
      rw [ite'_eq] at hv'
      rcases hv' with ⟨hop, hv'⟩ | ⟨_, hv'⟩
      · cases op <;> simp [isGtr] at hop
        rw [grd_eq, grd_eq, eqKind_iff] at hv'
        obtain ⟨rfl, hu, hv'⟩ := hv'
        cases hv'
        cases vr_int hb
        cases ha with
        | num _ _ _ _ m hm h1 h2 =>
          refine plain (by rintro ⟨h, _⟩; cases h) (by rintro ⟨⟨_, h⟩, _⟩; cases h) ?_
          have hlt : n < (m : Int) := by
            have := under_iff hu
            omega
          refine ⟨.bool (decide ((m : Int) > n)), w, rfl, ?_, rfl⟩
          rw [decide_eq_true hlt]; exact .bool _
      · exact binEq_sound s ha hb hv'
theorem unA_sound {op : UnOp} {a v : AV} {ua : Value} (ha : VR e a ua) (hv : unA op a = some v) : Runs P (Op.unary op ua) w fun u w' => VR e v u ∧ w' = w := by
  cases op <;> try (simp [unA] at hv; done)
  case neg =>
    cases a <;> try (simp [unA] at hv; done)
    case int k n =>
      cases vr_int ha
      cases hv
      rw [mkInt_eq, wrapF_eq]
      exact ⟨.int k (k.wrap (0 - n)), w, rfl, .int _ _, rfl⟩
  case not =>
    cases a <;> try (simp [unA] at hv; done)
    case bool b =>
      cases vr_bool ha
      cases hv
      rw [mkBool_eq, ite'_ft]
      exact ⟨.bool (!b), w, rfl, .bool _, rfl⟩
  case xor =>
    cases a <;> try (simp [unA] at hv; done)
    case int k n =>
      cases vr_int ha
      have hv' : bnd (intBits .xor k (if k.signed then -1 else k.max) n) (fun n => some (mkInt k n)) = some v := hv
      rw [bnd_eq] at hv'
      obtain ⟨m, hm, hv'⟩ := hv'
      cases hv'
      cases hm
      rw [mkInt_eq]
      exact ⟨_, w, rfl, .int _ _, rfl⟩
end
end
end Go.Xe
end
