/-
  Iterators: range, next, entry; Iterators: next, entry; Iterators: one step; Iterators: next and entry; entry; assertions of types; functions that are . Conditions: none.
-/
import Derived.Test.YtfkeeieoapimlaaGreatDoorXtToYb
set_option linter.unusedVariables false
set_option linter.unusedSimpArgs false
set_option linter.unusedSectionVars false
section
namespace Go.Xe
noncomputable section
section
variable {P : Program} {e : Env} {w : World}
theorem nodup_sub {α : Type} [DecidableEq α] : ∀ {l l' : List α}, l.Nodup → (∀ x ∈ l, x ∈ l') → l.length ≤ l'.length
 | [], _, _, _ => Nat.zero_le _
 | x :: l, l', hn, hs => by
   rw [List.nodup_cons] at hn
   have hx : x ∈ l' := hs x List.mem_cons_self
   have h := nodup_sub (l' := l'.erase x) hn.2 fun y hy => by
    have hyx : y ≠ x := fun h => hn.1 (h ▸ hy)
    exact (List.mem_erase_of_ne hyx).2 (hs y (List.mem_cons_of_mem _ hy))
   rw [List.length_erase_of_mem hx] at h
   have : 0 < l'.length := List.length_pos_of_mem hx
   simp only [List.length_cons]
   omega
theorem nodup_all {α : Type} [DecidableEq α] {l l' : List α} (hn : l.Nodup) (hs : ∀ x ∈ l, x ∈ l') (hlen : l'.length ≤ l.length) (hn' : l'.Nodup) : ∀ y ∈ l', y ∈ l := by
 intro y hy
 apply Classical.byContradiction
 intro hc
 have h := nodup_sub (l := y :: l) (l' := l') (List.nodup_cons.2 ⟨hc, hn⟩) fun z hz => by
  rcases List.mem_cons.1 hz with rfl | hz
  ·exact hy
  ·exact hs z hz
 simp only [List.length_cons] at h
 omega
theorem sameI_eq {a b : AV} (h : sameI a b = true) : a = b := by
 cases a <;> try (simp [sameI] at h; done)
 case int k m =>
  cases b <;> try (simp [sameI] at h; done)
  rename_i k' n
  have h' : ite' (zck k k') (zdA m n) false = true := h
  rw [zaj, Bool.and_eq_true] at h'
  rw [zcs] at h'
  rw [zbY.1 h'.1, eq_of_beq h'.2]
 case ptr i o =>
  cases b <;> try (simp [sameI] at h; done)
  rename_i i' o'
  have h' : ite' (Nat.beq i i') (Nat.beq o o') false = true := h
  rw [zaj, Bool.and_eq_true, zah, zah] at h'
  rw [h'.1, h'.2]
theorem sameIs_eq {xs ys : List AV} (h : zfX xs ys = true) : xs = ys := by
 induction xs generalizing ys with
 | nil => exact ((zaD ys).1 h).symm
 | cons x xs ih =>
   cases ys with
   | nil => cases h
   | cons y ys =>
     have h' : ite' (sameI x y) (zfX xs ys) false = true := h
     rw [zaj, Bool.and_eq_true] at h'
     rw [sameI_eq h'.1, ih h'.2]
theorem sameI_int {a b : AV} (h : sameI a b = true) : intA a = true := by cases a <;> first | rfl | (simp [sameI] at h)
theorem sameIs_ints {xs ys : List AV} (h : zfX xs ys = true) : intsA xs = true := by
 induction xs generalizing ys with
 | nil => rfl
 | cons x xs ih =>
   cases ys with
   | nil => cases h
   | cons y ys =>
     have h' : ite' (sameI x y) (zfX xs ys) false = true := h
     rw [zaj, Bool.and_eq_true] at h'
     show ite' (intA x) (intsA xs) false = true
     rw [zaj, Bool.and_eq_true]
     exact ⟨sameI_int h'.1, ih h'.2⟩
theorem sameF_eq {a b : AV} (h : sameF a b = true) : a = b ∧ famV a = true := by
 cases a <;> try (simp [sameF] at h; done)
 rename_i f x y
 cases f <;> try (simp [sameF] at h; done)
 rename_i f
 cases b <;> try (simp [sameF] at h; done)
 rename_i g x' y'
 cases g <;> try (simp [sameF] at h; done)
 rename_i g
 have h' : ite' (Nat.beq f g) (ite' (zfX x x') (zfX y y') false) false = true := h
 rw [zaj, Bool.and_eq_true, zaj, Bool.and_eq_true, zah] at h'
 obtain ⟨rfl, h1, h2⟩ := h'
 refine ⟨by rw [sameIs_eq h1, sameIs_eq h2], ?_⟩
 show ite' (intsA x) (intsA y) false = true
 rw [zaj, Bool.and_eq_true]
 exact ⟨sameIs_ints h1, sameIs_ints h2⟩
theorem sameK_eq {a b : AV} (h : sameK a b = true) : a = b ∧ famK a = true := by
 cases a <;> try (simp [sameK] at h; done)
 rename_i n c
 cases b <;> try (simp [sameK] at h; done)
 rename_i n' c'
 have h' : ite' (Nat.beq n n') (Nat.beq c c') false = true := h
 rw [zaj, Bool.and_eq_true, zah, zah] at h'
 exact ⟨by rw [h'.1, h'.2], rfl⟩
theorem sameEs_eq {xs ys : List ME} (h : sameEs xs ys = true) : xs = ys ∧ ∀ x ∈ xs, famK x.k = true ∧ famV x.v = true := by
 induction xs generalizing ys with
 | nil => exact ⟨((zaD ys).1 h).symm, fun x hx => by cases hx⟩
 | cons x xs ih =>
   cases ys with
   | nil => cases h
   | cons y ys =>
     have h' : ite' (Nat.beq x.s y.s) (ite' (sameK x.k y.k) (ite' (sameF x.v y.v) (sameEs xs ys) false) false) false = true := h
     rw [zaj, Bool.and_eq_true, zaj, Bool.and_eq_true, zaj, Bool.and_eq_true, zah] at h'
     obtain ⟨h1, h2, h3, h4⟩ := h'
     obtain ⟨hk, hk'⟩ := sameK_eq h2
     obtain ⟨hv, hv'⟩ := sameF_eq h3
     obtain ⟨rfl, ha⟩ := ih h4
     refine ⟨?_, fun z hz => ?_⟩
     ·cases x; cases y
      simp only at h1 hk hv
      rw [h1, hk, hv]
     ·rcases List.mem_cons.1 hz with rfl | hz
      ·exact ⟨hk', hv'⟩
      ·exact ha z hz
theorem zdR {xs ys : List ME} (h : sameSt xs ys = true) : xs.map (·.s) = ys.map (·.s) := by
 induction xs generalizing ys with
 | nil => rw [(zaD ys).1 h]
 | cons x xs ih =>
   cases ys with
   | nil => cases h
   | cons y ys =>
     have h' : ite' (Nat.beq x.s y.s) (sameSt xs ys) false = true := h
     rw [zaj, Bool.and_eq_true, zah] at h'
     rw [List.map_cons, List.map_cons, h'.1, ih h'.2]
theorem vr_int1 {a : AV} (h : intA a = true) {u u' : Value} (h1 : VR e a u) (h2 : VR e a u') : u = u' := by
 cases a <;> try (simp [intA] at h; done)
 case int k n => rw [vr_int h1, vr_int h2]
 case ptr b o =>
  obtain ⟨l, hl, rfl⟩ := zcG h1
  obtain ⟨l', hl', rfl⟩ := zcG h2
  rw [hl] at hl'; cases hl'; rfl
theorem vr_ints {l : List AV} (h : intsA l = true) {us us' : List Value} (h1 : VRs e l us) (h2 : VRs e l us') : us = us' := by
 induction l generalizing us us' with
 | nil => cases h1; cases h2; rfl
 | cons x l ih =>
   have h' : ite' (intA x) (intsA l) false = true := h
   rw [zaj, Bool.and_eq_true] at h'
   cases h1 with
   | cons _ u _ l1 a1 t1 =>
     cases h2 with
     | cons _ u2 _ l2 a2 t2 =>
       rw [vr_int1 h'.1 a1 a2, ih h'.2 t1 t2]
theorem vr_fam {a : AV} (h : famV a = true) {u u' : Value} (h1 : VR e a u) (h2 : VR e a u') : u = u' ∧ cellU u = true := by
 cases a <;> try (simp [famV] at h; done)
 rename_i f x y
 cases f <;> try (simp [famV] at h; done)
 have h' : ite' (intsA x) (intsA y) false = true := h
 rw [zaj, Bool.and_eq_true] at h'
 cases h1 with
 | func _ f1 _ _ x1 y1 a1 b1 c1 =>
   cases h2 with
   | func _ f2 _ _ x2 y2 a2 b2 c2 =>
     cases a1
     cases a2
     have hx := vr_ints h'.1 b1 b2
     have hy := vr_ints h'.2 c1 c2
     have hx' : x1 = x2 := Array.ext' hx
     have hy' : y1 = y2 := Array.ext' hy
     rw [hx', hy']
     exact ⟨rfl, rfl⟩
theorem Step.same_t {h h2 : AH} (ht : h2.t = h.t) (hn : h.next ≤ h2.next) : Step e h w e h2 w := by
 refine ⟨.refl e, hn, Nat.le_refl _, fun X hX hO => ⟨rfl, fun ⟨b, en, l, hb, hl, hX'⟩ => hO ⟨b, en, l, ?_, hl, hX'⟩⟩, rfl, rfl, rfl, fun _ _ h => .inl h, fun b _ hg => by unfold AH.get at hg ⊢; rw [ht]; exact hg⟩
 unfold AH.get at hb ⊢
 rw [ht] at hb; exact hb
theorem EntR.other {fm fm' : Nat × List ME} {en : Ent} {l : Loc} {o : Obj} (h : EntR e fm en l o) (hf : famE en = 0 ∨ famE en ≠ fm'.1) : EntR e fm' en l o := by
 cases h with
 | cells _ _ _ _ _ _ _ _ _ _ h => exact .cells _ _ _ _ _ _ _ _ _ _ h
 | map _ _ _ _ h => exact .map _ _ _ _ h
 | siter _ _ _ _ h0 => exact .siter _ _ _ _ h0
 | miter _ _ _ fam _ _ _ _ _ _ _ h h0' =>
   refine .miter _ _ _ _ _ _ _ _ _ _ _ ⟨h.map, h.size, h.le, h.nodup, h.st, h.plain, fun h0 h1 => ?_⟩ h0'
   have hf : fam = 0 ∨ fam ≠ fm'.1 := hf
   rcases hf with hf | hf
   ·exact absurd hf h0
   ·exact absurd h1 hf
 | loop _ _ _ _ _ _ ht hd hb => exact .loop _ _ _ _ _ _ ht hd hb
 | dfr0 => exact .dfr0 _
 | dfr _ _ _ h => exact .dfr _ _ _ h
theorem Sat.family {h : AH} {H : Array Obj} (s : Sat e h H) (fb k : Nat) (fam : List ME) (hno : ∀ i, zb9 fb fam i = true → e.key i = none) (hk : fb + fam.length ≤ h.next + k)
  (hent : ∀ b en l o, h.get b = some en → e.loc b = some l → H[l.blk]? = some o → EntR e h.fm en l o → EntR e (fb, fam) en l o) : Sat e ⟨h.next + k, h.t, fb, fam⟩ H := by
 refine ⟨fun b en hb => ?_, fun b l hb => ⟨Nat.lt_of_lt_of_le (s.locs b l hb).1 (Nat.le_add_right _ _), (s.locs b l hb).2⟩, fun g j v hv => Nat.lt_of_lt_of_le (s.nums g j v hv) (Nat.le_add_right _ _), s.numI,
  fun i v hv => Nat.lt_of_lt_of_le (s.stps i v hv) (Nat.le_add_right _ _), fun i v hv => Nat.lt_of_lt_of_le (s.keys i v hv) (Nat.le_add_right _ _), fun i v hv => Nat.lt_of_lt_of_le (s.vals i v hv) (Nat.le_add_right _ _),
  s.sep, s.olds, fun b c en hb hc => Nat.lt_of_lt_of_le (s.oldsLt b c en hb hc) (Nat.le_add_right _ _), ?_, s.ends, s.its, hk, s.glob.less fun X ⟨b, en, l, hb, hl, hX⟩ => ⟨b, en, l, hb, hl, hX⟩⟩
 ·obtain ⟨l, o, hl, ho, hr⟩ := s.ents b en hb
  exact ⟨l, o, hl, ho, hent b en l o hb hl ho hr⟩
 ·refine ⟨fun i s hi hs => ?_, fun i j s hi _ hs _ => ?_⟩
  ·rw [hno i hi] at hs; cases hs
  ·rw [hno i hi] at hs; cases hs
theorem inFam_iff {fb : Nat} {fam : List ME} {i : Nat} : zb9 fb fam i = true ↔ fb ≤ i ∧ i < fb + fam.length := by
 unfold zb9
 rw [zaj, Bool.and_eq_true, zaV, zat, zaH]
 exact Iff.rfl
theorem iter_new {h : AH} (s : Sat e h w.heap) {en : Ent} {o : Obj} (ho : za5 en = []) (hr : EntR e h.fm en ⟨w.heap.size, 0, 0⟩ o) (hf : famE en = 0 ∨ famE en = h.next + 1) :
  Sat (e.at_ h.next ⟨w.heap.size, 0, 0⟩) (h.add en) (w.heap.push o) ∧ Step e h w (e.at_ h.next ⟨w.heap.size, 0, 0⟩) (h.add en) { w with heap := w.heap.push o } :=
 s.add (w := w) 0 ho (hr.mono (Env.at_le s.fresh) rfl rfl) hf
theorem MapR.stamped {es : List ME} {ents : Array MapEntry} {clock : Nat} (h : MapR e es ents clock) : ∀ x ∈ es, ∃ v, e.stp x.s = some v ∧ v < clock := by
 intro x hx
 obtain ⟨p, hp, hm⟩ := h.perm
 obtain ⟨a, b, rfl⟩ := List.append_of_mem (hp.mem_iff.2 hx)
 obtain ⟨A, y, B, hL, _, h2, _⟩ := hm.split rfl
 exact ⟨y.born, h2.s, h.born y (by rw [hL]; exact List.mem_append_right _ List.mem_cons_self)⟩
theorem range_sound {h : AH} (s : Sat e h w.heap) {t : TypeId} {d : TypeDesc} {x v : AV} {u : Value} {h' : AH} (hd : P.underlying t = some d) (hx : VR e x u) (hv : rangeD x h d = some (v, h')) :
  Runs P (Instr.range t u) w fun u' w' => Out e h w v h' u' w' := by
 have hend : ∀ (o : Obj) (en : Ent), (Instr.range t u).run P w = .ok (.pointer (some ⟨w.heap.size, 0, none⟩)) { w with heap := w.heap.push o } → za5 en = [] →
   EntR e h.fm en ⟨w.heap.size, 0, 0⟩ o → famE en = 0 → v = .ptr h.next 0 → h' = h.add en →
   Runs P (Instr.range t u) w fun u' w' => Out e h w v h' u' w' := fun o en hrun ho hr hf hvv hh => by
  obtain ⟨s3, st3⟩ := iter_new s ho hr (.inl hf)
  subst hvv hh
  exact ⟨_, _, hrun, _, s3, .ptr h.next 0 _ (Env.at_self _ _ _), st3⟩
 cases d <;> try (simp [rangeD] at hv; done)
 case string =>
  have hv' : strV x (fun n c => h.new (.siter n c 0) fun b h => some (AV.ptr b 0, h)) = some (v, h') := hv
  rw [zex] at hv'
  obtain ⟨n, c, rfl, hv'⟩ := hv'
  rw [AH.new_eq] at hv'
  cases hv'
  cases zbm hx
  refine hend (.stringIter (zae n c) 0) (.siter n c 0) ?_ rfl (.siter _ _ _ _ rfl) rfl rfl rfl
  unfold Instr.range
  rw [zai hd]; rfl
 case map kt et =>
  have hv' : mapV x (fun m => bnd (h.map m) fun p => zgB m h p) = some (v, h') := hv
  rw [zdI] at hv'
  obtain ⟨m, rfl, hv'⟩ := hv'
  rw [zab] at hv'
  obtain ⟨p, hp, hv'⟩ := hv'
  obtain ⟨L, hL, rfl⟩ := zeZ hx
  obtain ⟨hg, ents, hH, hR⟩ := s.mapAt hp hL
  have hrun : (Instr.range t (.map (some L.blk))).run P w = .ok (.pointer (some ⟨w.heap.size, 0, none⟩)) { w with heap := w.heap.push (.mapIter (some L.blk) p.2 #[] p.2) } := by
   unfold Instr.range
   rw [zai hd]
   show Sem.run P (getObj L.blk >>= _) w = _
   rw [zac, zbs hH]
   rfl
  unfold zgB at hv'
  rw [zav] at hv'
  rcases hv' with ⟨htwo, hv'⟩ | ⟨htwo, hv'⟩
  ·rw [zaf, zaf, zaG] at hv'
   obtain ⟨hfam, hnil, hv'⟩ := hv'
   cases hv'
   have h0 : h.fam = [] := (zaD _).1 hnil
   have hroom := s.room
   rw [h0] at hroom
   have hr0 : EntR e h.fm (.miter m 0 (len p.1) (Nat.succ h.next) p.2 []) ⟨w.heap.size, 0, 0⟩ (.mapIter (some L.blk) p.2 #[] p.2) :=
    .miter _ _ _ _ _ _ _ _ _ _ _ ⟨⟨L, hL, rfl⟩, rfl, Nat.zero_le _, List.nodup_nil, rfl, fun h => absurd h (Nat.succ_ne_zero _), fun _ h1 => by
     have h1' : Nat.succ h.next = h.fb := h1
     simp at hroom; omega⟩ rfl
   obtain ⟨s3, st3⟩ := iter_new s (en := .miter m 0 (len p.1) (Nat.succ h.next) p.2 []) rfl hr0 (.inr rfl)
   have hle : e.le (e.at_ h.next ⟨w.heap.size, 0, 0⟩) := Env.at_le s.fresh
   have hsl := zaH p.1
   have s4 := s3.family (h.next + 1) p.1.length p.1 (fun i hi => by
     rw [inFam_iff] at hi
     cases hk : e.key i with
     | none => exact hk
     | some v => have := s.keys i v hk; omega) (by show h.next + 1 + p.1.length ≤ Nat.succ h.next + p.1.length; omega) (fun b en l o hb hl ho hr => by
     rw [AH.get_add] at hb
     by_cases hbn : b = h.next
     ·rw [if_pos hbn] at hb
      cases hb
      subst hbn
      rw [Env.at_self] at hl
      cases hl
      have ho' : (w.heap.push (Obj.mapIter (some L.blk) p.2 #[] p.2))[w.heap.size]? = some o := ho
      simp at ho'
      subst ho'
      refine .miter _ _ _ _ _ _ _ _ _ _ _ ⟨⟨L, hle.loc _ _ hL, rfl⟩, rfl, Nat.zero_le _, List.nodup_nil, rfl, fun h => absurd h (Nat.succ_ne_zero _), fun _ _ => ⟨hsl.symm, fun x hx => ?_, fun k v hk => by simp at hk, fun k _ => ⟨?_, ?_⟩⟩⟩ rfl
      ·obtain ⟨v, hv, hlt⟩ := hR.stamped x hx
       exact ⟨v, hv, hlt, hlt⟩
      ·cases hk : e.key (h.next + 1 + k) with
       | none => exact hk
       | some v => have := s.keys _ v hk; omega
      ·cases hk : e.val (h.next + 1 + k) with
       | none => exact hk
       | some v => have := s.vals _ v hk; omega
     ·rw [if_neg hbn] at hb
      refine hr.other ?_
      rcases s.its b en hb with h0 | h1
      ·exact .inl h0
      ·right
       have := s.get_lt hb
       show famE en ≠ h.next + 1
       omega)
   refine ⟨_, _, hrun, _, ?_, .ptr h.next 0 _ (Env.at_self _ _ _), st3.trans (Step.same_t (h2 := ⟨Nat.add (Nat.succ h.next) (len p.1), _, _, _⟩) rfl (Nat.le_add_right _ _))⟩
   rw [zaH] at s4 ⊢
   exact s4
  ·rw [AH.new_eq] at hv'
   cases hv'
   have hn1 : p.1.length ≤ 1 := by
    have h2 : ¬ (Nat.blt 1 (len p.1) = true) := by
     have : two p.1 = Nat.blt 1 (len p.1) := rfl
     rw [← this, htwo]; simp
    rw [zat, zaH] at h2; omega
   refine hend _ (.miter m 0 (len p.1) 0 p.2 p.1) hrun rfl (.miter _ _ _ _ _ _ _ _ _ _ _ ⟨⟨L, hL, rfl⟩, rfl, Nat.zero_le _, List.nodup_nil, rfl, fun _ => ⟨(zaH _).symm, by rw [zaH]; exact hn1, fun x hx => let ⟨v, hv, hl⟩ := hR.stamped x hx; ⟨v, hv, hl, hl⟩, fun k v hk => by simp at hk⟩, fun h0 => absurd rfl h0⟩ rfl) rfl rfl rfl
end
end
end Go.Xe
end
section
namespace Go.Xe
noncomputable section
section
variable {P : Program} {e : Env} {w : World}
theorem filter_none {α : Type} {p : α → Bool} {a : Array α} (h : ∀ x ∈ a.toList, p x = false) : a.filter p = #[] := by
 apply Array.ext'
 rw [Array.toList_filter]
 exact List.filter_eq_nil_iff.2 fun x hx => by rw [h x hx]; simp
theorem filter_all {α : Type} {p : α → Bool} {a : Array α} (h : ∀ x ∈ a.toList, p x = true) : a.filter p = a := by
 apply Array.ext'
 rw [Array.toList_filter]
 exact List.filter_eq_self.2 h
theorem run_mapNext {r m since last : Nat} {seen : Array Nat} {ents : Array MapEntry} {clock : Nat} {ty : TypeId} (hr : w.heap[r]? = some (.mapIter (some m) since seen last)) (hm : w.heap[m]? = some (.map ents clock))
  (hb : ∀ x ∈ ents.toList, x.born < since) (hs : ∀ x ∈ ents.toList, x.born < last) :
  ((∀ x ∈ ents.toList, seen.contains x.born = true) ∧ (Instr.next (.pointer (some ⟨r, 0, none⟩)) false ty).run P w = .ok (.tuple #[.bool false]) w) ∨
  (∃ x ∈ ents.toList, seen.contains x.born = false ∧ ∃ d, (Instr.next (.pointer (some ⟨r, 0, none⟩)) false ty).run P w =
   .ok (.tuple #[.bool true, x.key, x.val]) { w with drawn := d, heap := w.heap.setIfInBounds r (.mapIter (some m) since (seen.push x.born) clock) }) := by
 have hun : ¬ ((!seen.isEmpty && !ents.isEmpty && ents.all (fun x => decide (x.born ≥ last))) = true) := by
  intro h
  rw [Bool.and_eq_true, Bool.and_eq_true] at h
  obtain ⟨⟨_, h1⟩, h2⟩ := h
  cases hl : ents.toList with
  | nil =>
    have : ents = #[] := Array.toList_eq_nil_iff.1 hl
    subst this; simp at h1
  | cons x l =>
    have hx : x ∈ ents.toList := by rw [hl]; exact List.mem_cons_self
    rw [Array.all_eq_true'] at h2
    have := of_decide_eq_true (h2 x (Array.mem_toList_iff.1 hx))
    have := hs x hx
    omega
 have hnew : (ents.filter fun x => !seen.contains x.born).filter (fun x => decide (x.born ≥ since)) = #[] := by
  refine filter_none fun x hx => ?_
  rw [Array.toList_filter, List.mem_filter] at hx
  have := hb x hx.1
  exact decide_eq_false (by omega)
 have hold : (ents.filter fun x => !seen.contains x.born).filter (fun x => decide (x.born < since)) = ents.filter fun x => !seen.contains x.born := by
  refine filter_all fun x hx => ?_
  rw [Array.toList_filter, List.mem_filter] at hx
  exact decide_eq_true (hb x hx.1)
 obtain ⟨left, hleft⟩ : ∃ left, left = ents.filter fun x => !seen.contains x.born := ⟨_, rfl⟩
 have hunf : (Instr.next (.pointer (some ⟨r, 0, none⟩)) false ty).run P w = (do
   let candidates := (if left.isEmpty then #[none] else #[]) ++ left.map some
   match candidates[← choose (.mapNext candidates.size)]? with
   | some (some e) =>
     setObj r (.mapIter (some m) since (seen.push e.born) clock)
     pure (.tuple #[.bool true, e.key, e.val])
   | some none => pure (.tuple #[.bool false])
   | none => stuck "Next: no such candidate" : Sem Value).run P w := by
  unfold Instr.next
  have hget : (getObj r).run P w = .ok (.mapIter (some m) since seen last) w := by simp only [getObj, Sem.run, hr]
  show Sem.run P (getObj r >>= _) w = _
  rw [zac, hget]
  show Sem.run P (getObj m >>= _) w = _
  rw [zac, zbs hm]
  show Sem.run P (if (!seen.isEmpty && !ents.isEmpty && ents.all (fun x => decide (x.born ≥ last))) = true then _ else _) w = _
  rw [if_neg hun]
  show Sem.run P (do
   let candidates := (if ((ents.filter fun x => !seen.contains x.born).filter (fun x => decide (x.born < since))).isEmpty then #[none] else #[]) ++
    ((ents.filter fun x => !seen.contains x.born).filter (fun x => decide (x.born < since)) ++ (ents.filter fun x => !seen.contains x.born).filter (fun x => decide (x.born ≥ since))).map some
   match candidates[← choose (.mapNext candidates.size)]? with
   | some (some e) =>
     setObj r (.mapIter (some m) since (seen.push e.born) clock)
     pure (.tuple #[.bool true, e.key, e.val])
   | some none => pure (.tuple #[.bool false])
   | none => stuck "Next: no such candidate" : Sem Value) w = _
  rw [hnew, hold, ← hleft, Array.append_empty]
 rw [hunf]
 by_cases he : left.isEmpty = true
 ·left
  have h0 : left = #[] := by simpa using he
  constructor
  ·intro x hx
   have : x ∉ (ents.filter fun x => !seen.contains x.born).toList := by rw [← hleft, h0]; simp
   rw [Array.toList_filter, List.mem_filter] at this
   cases hc : seen.contains x.born with
   | true => rfl
   | false => exact absurd ⟨hx, by rw [hc]; rfl⟩ this
  ·subst h0
   have hc : ((if (#[] : Array MapEntry).isEmpty = true then #[none] else #[]) ++ (#[] : Array MapEntry).map some) = #[none] := by simp
   show Sem.run P (choose (.mapNext ((if (#[] : Array MapEntry).isEmpty = true then #[none] else #[]) ++ (#[] : Array MapEntry).map some).size) >>= _) w = _
   rw [zac, hc]
   have h1 : (choose (.mapNext (#[none] : Array (Option MapEntry)).size)).run P w = .ok 0 w := rfl
   rw [h1]
   rfl
 ·right
  have hf : left.isEmpty = false := by simpa using he
  have hpos : 0 < left.size := by
   rcases Nat.eq_zero_or_pos left.size with h | h
   ·exact absurd (by simpa using h) he
   ·exact h
  have hcand : (if left.isEmpty = true then #[none] else #[]) ++ left.map some = left.map some := by
   rw [hf]; simp
  obtain ⟨i, d, hi, hch⟩ : ∃ i d, i < left.size ∧ (choose (.mapNext left.size)).run P w = .ok i { w with drawn := d } := by
   by_cases h1 : (Question.mapNext left.size).forced = true
   ·exact ⟨0, w.drawn, hpos, by simp only [choose, Sem.run, h1, if_true]⟩
   ·refine ⟨(Question.mapNext left.size).cut (w.tape w.drawn (.mapNext left.size)), w.drawn + 1, Nat.mod_lt _ hpos, ?_⟩
    simp only [choose, Sem.run, h1]
    rfl
  have hx : left[i] ∈ (ents.filter fun x => !seen.contains x.born).toList := by
   rw [← hleft]; exact Array.getElem_mem_toList hi
  rw [Array.toList_filter, List.mem_filter] at hx
  refine ⟨left[i], hx.1, by simpa using hx.2, d, ?_⟩
  show Sem.run P (choose (.mapNext ((if left.isEmpty = true then #[none] else #[]) ++ left.map some).size) >>= _) w = _
  rw [zac, hcand, Array.size_map, hch]
  have hg : (left.map some)[i]? = some (some left[i]) := by
   rw [Array.getElem?_map, Array.getElem?_eq_getElem hi]; rfl
  show Sem.run P (match (left.map some)[i]? with | some (some e) => _ | some none => _ | none => _) _ = _
  rw [hg]
  show Sem.run P (setObj r (.mapIter (some m) since (seen.push left[i].born) clock) >>= _) _ = _
  rw [zac]
  have hset : (setObj r (.mapIter (some m) since (seen.push left[i].born) clock)).run P { w with drawn := d } = .ok () { w with drawn := d, heap := w.heap.setIfInBounds r (.mapIter (some m) since (seen.push left[i].born) clock) } := by
   simp only [setObj, Sem.run, hr]
  rw [hset]
  rfl
theorem MapR.at_stamp {es : List ME} {ents : Array MapEntry} {clock : Nat} (h : MapR e es ents clock) {x : ME} (hx : x ∈ es) : ∃ y ∈ ents.toList, MER e x y := by
 obtain ⟨p, hp, hm⟩ := h.perm
 obtain ⟨a, b, rfl⟩ := List.append_of_mem (hp.mem_iff.2 hx)
 obtain ⟨A, y, B, hL, _, h2, _⟩ := hm.split rfl
 exact ⟨y, by rw [hL]; exact List.mem_append_right _ List.mem_cons_self, h2⟩
theorem MapR.of_ent {es : List ME} {ents : Array MapEntry} {clock : Nat} (h : MapR e es ents clock) {y : MapEntry} (hy : y ∈ ents.toList) : ∃ x ∈ es, MER e x y := by
 obtain ⟨p, hp, hm⟩ := h.perm
 obtain ⟨x, hx, hr⟩ := hm.mem hy
 exact ⟨x, hp.mem_iff.1 hx, hr⟩
theorem MapR.length {es : List ME} {ents : Array MapEntry} {clock : Nat} (h : MapR e es ents clock) : ents.toList.length = es.length := by
 obtain ⟨p, hp, hm⟩ := h.perm
 rw [← hm.length, hp.length_eq]
theorem zeC {α : Type} {R : α → α → Prop} (hsym : ∀ x y, R x y → R y x) : ∀ {l : List α}, l.Pairwise R → ∀ {x y : α}, x ∈ l → y ∈ l → ¬ R x y → x = y
 | [], _, _, _, hx, _, _ => by cases hx
 | a :: l, h, x, y, hx, hy, hn => by
   rw [List.pairwise_cons] at h
   rcases List.mem_cons.1 hx with hxa | hx
   ·rcases List.mem_cons.1 hy with hya | hy
    ·rw [hxa, hya]
    ·exact absurd (hxa ▸ h.1 y hy) hn
   ·rcases List.mem_cons.1 hy with hya | hy
    ·exact absurd (hya ▸ hsym _ _ (h.1 x hx)) hn
    ·exact zeC hsym h.2 hx hy hn
theorem MapR.born_inj {es : List ME} {ents : Array MapEntry} {clock : Nat} (h : MapR e es ents clock) {x y : MapEntry} (hx : x ∈ ents.toList) (hy : y ∈ ents.toList) (hb : x.born = y.born) : x = y :=
 zeC (fun _ _ h => Ne.symm h) h.stamps hx hy fun h => h hb
theorem MapR.key_inj {es : List ME} {ents : Array MapEntry} {clock : Nat} (h : MapR e es ents clock) {x y : MapEntry} (hx : x ∈ ents.toList) (hy : y ∈ ents.toList) (hb : x.key = y.key) : x = y :=
 zeC (fun _ _ h => zfN h) h.keys hx hy fun h => keyNe_irrefl (hb ▸ h)
theorem MapR.borns {es : List ME} {ents : Array MapEntry} {clock : Nat} (h : MapR e es ents clock) : (ents.toList.map (·.born)).Nodup := by
 have := h.stamps
 unfold List.Nodup
 rw [List.pairwise_map]; exact this
theorem zdS {a : Array Nat} {v : Nat} : a.contains v = true ↔ v ∈ a.toList := by
 rw [Array.contains_iff_mem, Array.mem_toList_iff]
theorem zcZ {a : Array Nat} {v : Nat} : a.contains v = false ↔ v ∉ a.toList := by
 rw [← zdS]; cases a.contains v <;> simp
structure Stand (e : Env) (ss : List ME) (ents : Array MapEntry) (since stepped : Nat) (seen : Array Nat) (n : Nat) : Prop where
 born : ∀ x ∈ ents.toList, x.born < since
 born2 : ∀ x ∈ ents.toList, x.born < stepped
 all : ∀ x ∈ ss, ∃ y ∈ ents.toList, e.stp x.s = some y.born
 len : ents.toList.length = n
 sub : ∀ v ∈ seen.toList, v ∈ ents.toList.map (·.born)
theorem stand {p es : List ME} {ents : Array MapEntry} {clock since stepped n : Nat} {seen : Array Nat} (hR : MapR e p ents clock) (hs : p.map (·.s) = es.map (·.s)) (hn : es.length = n)
  (h1 : ∀ x ∈ es, ∃ v, e.stp x.s = some v ∧ v < since ∧ v < stepped) (h2 : ∀ (k : Nat) v, seen[k]? = some v → ∃ x ∈ es, e.stp x.s = some v) : Stand e es ents since stepped seen n := by
 have hb : ∀ y ∈ ents.toList, y.born < since ∧ y.born < stepped := fun y hy => by
  obtain ⟨x, hx, hr⟩ := hR.of_ent hy
  have : x.s ∈ es.map (·.s) := by rw [← hs]; exact List.mem_map_of_mem hx
  obtain ⟨z, hz, hzs⟩ := List.mem_map.1 this
  obtain ⟨v, hv, hlt⟩ := h1 z hz
  rw [hzs, hr.s] at hv
  cases hv; exact hlt
 refine ⟨fun y hy => (hb y hy).1, fun y hy => (hb y hy).2, fun x hx => ?_, ?_, fun v hv => ?_⟩
 ·have : x.s ∈ p.map (·.s) := by rw [hs]; exact List.mem_map_of_mem hx
  obtain ⟨z, hz, hzs⟩ := List.mem_map.1 this
  obtain ⟨y, hy, hr⟩ := hR.at_stamp hz
  exact ⟨y, hy, by rw [← hzs]; exact hr.s⟩
 ·rw [hR.length, ← hn]
  have := congrArg List.length hs
  simpa using this
 ·obtain ⟨k, hk⟩ := List.getElem?_of_mem hv
  rw [Array.getElem?_toList] at hk
  obtain ⟨x, hx, hxs⟩ := h2 k v hk
  have : x.s ∈ p.map (·.s) := by rw [hs]; exact List.mem_map_of_mem hx
  obtain ⟨z, hz, hzs⟩ := List.mem_map.1 this
  obtain ⟨y, hy, hr⟩ := hR.at_stamp hz
  have hb := hr.s
  rw [hzs, hxs] at hb
  cases hb
  exact List.mem_map_of_mem hy
theorem Stand.done {ss : List ME} {ents : Array MapEntry} {since stepped n : Nat} {seen : Array Nat} (h : Stand e ss ents since stepped seen n) (hb : (ents.toList.map (·.born)).Nodup) (hd : seen.toList.Nodup) (hs : seen.size = n) :
  ∀ x ∈ ents.toList, seen.contains x.born = true := fun x hx =>
 zdS.2 (nodup_all hd h.sub (by rw [List.length_map, h.len, Array.length_toList, hs]; exact Nat.le_refl _) hb _ (List.mem_map_of_mem hx))
theorem Stand.more {ss : List ME} {ents : Array MapEntry} {since stepped n : Nat} {seen : Array Nat} (h : Stand e ss ents since stepped seen n) (hb : (ents.toList.map (·.born)).Nodup) (hs : seen.size < n)
  (ha : ∀ x ∈ ents.toList, seen.contains x.born = true) : False := by
 have := nodup_sub hb fun v hv => by
  obtain ⟨x, hx, rfl⟩ := List.mem_map.1 hv
  exact zdS.1 (ha x hx)
 rw [List.length_map, h.len, Array.length_toList] at this
 omega
end
end
end Go.Xe
end
section
namespace Go.Xe
noncomputable section
section
variable {P : Program} {e : Env} {w : World}
theorem decode_ascii {s : ByteArray} {i : Nat} (h : (s.get! i).toNat < 128) : Utf8.decode s i = ((s.get! i).toNat, 1) := by
 unfold Utf8.decode
 simp only [Nat.add_zero]
 rw [if_pos h]
theorem bytesOf_at {n c p : Nat} (h : p < n) : ((zae n c).get! p).toNat = c / 256 ^ p % 256 := by
 have h1 : (zae n c).get! p = UInt8.ofNat (c / 256 ^ p % 256) := by
  show ((zay n c).toArray)[p]! = _
  rw [getElem!_def]
  have : (zay n c).toArray[p]? = some (UInt8.ofNat (c / 256 ^ p % 256)) := by
   rw [List.getElem?_toArray]
   unfold zay
   rw [List.getElem?_map, List.getElem?_range h]
   rfl
  rw [this]
 rw [h1]
 simp
def Env.draw (e : Env) (i : Nat) (s : ByteArray) (u : Value) : Env := { e with key := fun k => if k = i then some s else e.key k, val := fun k => if k = i then some u else e.val k }
theorem Env.draw_le {e : Env} {i : Nat} {s : ByteArray} {u : Value} (hk : e.key i = none) (hv : e.val i = none) : e.le (e.draw i s u) := by
 refine ⟨fun _ _ h => h, fun _ _ _ h => h, fun _ _ h => h, fun k v h => ?_, fun k v h => ?_, rfl⟩
 ·show (if k = i then some s else e.key k) = some v
  by_cases hki : k = i
  ·subst hki; rw [hk] at h; cases h
  ·rw [if_neg hki]; exact h
 ·show (if k = i then some u else e.val k) = some v
  by_cases hki : k = i
  ·subst hki; rw [hv] at h; cases h
  ·rw [if_neg hki]; exact h
theorem EntR.draw {e e' : Env} (he : e.le e') {fm : Nat × List ME} {en : Ent} {l : Loc} {o : Obj} (h : EntR e fm en l o) (hf : famE en = 0 ∨ famE en ≠ fm.1) : EntR e' fm en l o := by
 cases h with
 | cells _ _ _ _ _ _ _ _ _ _ h => exact .cells _ _ _ _ _ _ _ _ _ _ (h.mono he)
 | map _ _ _ _ h => exact .map _ _ _ _ (h.mono he)
 | siter _ _ _ _ h0 => exact .siter _ _ _ _ h0
 | miter _ _ _ fam _ _ _ _ _ _ _ h h0 =>
   have hf : fam = 0 ∨ fam ≠ fm.1 := hf
   refine .miter _ _ _ _ _ _ _ _ _ _ _ ⟨let ⟨l, a, b⟩ := h.map; ⟨l, he.loc _ _ a, b⟩, h.size, h.le, h.nodup, h.st, fun h0 => ?_, fun h0 h1 => ?_⟩ h0
   ·obtain ⟨a, b, c, d⟩ := h.plain h0
    refine ⟨a, b, fun x hx => ?_, fun k v hv => ?_⟩
    ·obtain ⟨v, hv, hl⟩ := c x hx; exact ⟨v, he.stp _ _ hv, hl⟩
    ·obtain ⟨x, hx, hs⟩ := d k v hv; exact ⟨x, hx, he.stp _ _ hs⟩
   ·rcases hf with hf | hf
    ·exact absurd hf h0
    ·exact absurd h1 hf
 | loop _ _ _ _ _ _ ht hd hb => exact .loop _ _ _ _ _ _ (ht.mono he) (he.loc _ _ hd) hb
 | dfr0 => exact .dfr0 _
 | dfr _ _ _ h => exact .dfr _ _ _ (h.mono he)
theorem iter_set {h : AH} (s : Sat e h w.heap) {b : Nat} {en en' : Ent} {L : Loc} {o' : Obj} {d : Nat} (hb : h.get b = some en) (hL : e.loc b = some L) (hn : cellsE en = none) (hr : EntR e h.fm en' L o') (ho : za5 en' = [])
  (hw : wrE en' = wrE en) (hlen : lenE en' = lenE en) (hf : famE en' = famE en) :
  let w' : World := { w with drawn := d, heap := w.heap.setIfInBounds L.blk o' }
  Sat e (h.set b en') w'.heap ∧ Step e h w e (h.set b en') w' := by
 intro w'
 refine ⟨s.setObj hb hL (s.alone hb hL hn) hr (fun c hc => by rw [ho] at hc; cases hc) (fun hx => hw.trans hx) hlen hf, ?_⟩
 exact (Step.setObj s o' hb hL).drawn d
theorem zfP {x : ME} {y : MapEntry} (hk : famK x.k = true) (hr : VR e x.k y.key) : ∃ n c, x.k = .str n c ∧ y.key = .string (zae n c) := by
 cases hx : x.k <;> rw [hx] at hk hr <;> try (simp [famK] at hk; done)
 rename_i n c
 exact ⟨n, c, rfl, zbm hr⟩
theorem Sat.draw {h : AH} (s : Sat e h w.heap) {b m j n fam lc : Nat} {ss : List ME} {L : Loc} {mb since stepped : Nat} {seen : Array Nat} {ents : Array MapEntry} {clock d : Nat}
  (hb : h.get b = some (.miter m j n fam lc ss)) (hL : e.loc b = some L) (hI : IterR e h.fm m j n fam lc ss mb since stepped seen) (h0 : L.off = 0) (hfam : fam ≠ 0) (hfb : fam = h.fb) (hR : MapR e h.fam ents clock) (hfv : ∀ x ∈ h.fam, famK x.k = true ∧ famV x.v = true)
  {y : MapEntry} (hy : y ∈ ents.toList) (hns : seen.contains y.born = false) (hj : j < n) :
  ∃ t, y.key = .string t ∧ cellU y.val = true ∧
  let e' := e.draw (h.fb + j) t y.val
  let w' : World := { w with drawn := d, heap := w.heap.setIfInBounds L.blk (.mapIter (some mb) since (seen.push y.born) clock) }
  Sat e' (h.set b (.miter m (j + 1) n fam clock ss)) w'.heap ∧ Step e h w e' (h.set b (.miter m (j + 1) n fam clock ss)) w' ∧ e'.key (h.fb + j) = some t ∧ e'.val (h.fb + j) = some y.val := by
 obtain ⟨hfn, hst, hsn, hno⟩ := hI.famly hfam hfb
 obtain ⟨x, hx, hr⟩ := hR.of_ent hy
 obtain ⟨hkx, hvx⟩ := hfv x hx
 obtain ⟨kn, kc, hxk, hyk⟩ := zfP hkx hr.k
 obtain ⟨_, hcu⟩ := vr_fam hvx hr.v hr.v
 obtain ⟨hk0, hv0⟩ := hno j (Nat.le_refl j)
 have hle : e.le (e.draw (h.fb + j) (zae kn kc) y.val) := Env.draw_le hk0 hv0
 have hkey : (e.draw (h.fb + j) (zae kn kc) y.val).key (h.fb + j) = some (zae kn kc) := if_pos rfl
 have hval : (e.draw (h.fb + j) (zae kn kc) y.val).val (h.fb + j) = some y.val := if_pos rfl
 have hfl : h.fam.length = n := hfn
 have hroom := s.room
 have hBlt := (s.locs b L hL).2
 have hal := s.alone hb hL rfl
 have g : ∀ c en, (h.set b (.miter m (j + 1) n fam clock ss)).get c = some en → ∃ en1, h.get c = some en1 ∧ za5 en1 = za5 en ∧ wrE en1 = wrE en ∧ lenE en1 = lenE en ∧ famE en1 = famE en := fun c en hc => by
  rw [AH.get_set] at hc
  by_cases hcb : c = b
  ·subst hcb; rw [if_pos rfl] at hc; cases hc
   exact ⟨_, hb, rfl, rfl, rfl, rfl⟩
  ·rw [if_neg hcb] at hc; exact ⟨en, hc, rfl, rfl, rfl, rfl⟩
 refine ⟨zae kn kc, hyk, hcu, ?_, ?_, hkey, hval⟩
 ·refine ⟨fun c en hc => ?_, fun c l hc => ⟨(s.locs c l hc).1, by simpa using (s.locs c l hc).2⟩, s.nums, s.numI, s.stps, fun i v hi => ?_, fun i v hi => ?_, fun c c' en en' l1 l2 hc hc' hl1 hl2 hne hblk => ?_, fun c c' en en' l1 l2 hc hm hc' hl1 hl2 hblk => ?_, fun c c' en hc hm => ?_, ?_, fun c c' en en' l1 l2 hc hm hc' hl1 hl2 hblk => ?_, fun c en hc => ?_, s.room, s.glob.of fun X hX hO => ⟨by rw [Array.getElem?_setIfInBounds_ne (fun hx => hO ⟨b, _, L, hb, hL, hx⟩)], fun ⟨c, en, l2, hc, hl2, hX2⟩ => by obtain ⟨en1, h1, _⟩ := g c en hc; exact hO ⟨c, en1, l2, h1, hl2, hX2⟩⟩⟩
  ·rw [AH.get_set] at hc
   by_cases hcb : c = b
   ·subst hcb
    rw [if_pos rfl] at hc; cases hc
    refine ⟨L, .mapIter (some mb) since (seen.push y.born) clock, hL, by simp [hBlt], .miter _ _ _ _ _ _ _ _ _ _ _ ⟨let ⟨l, a, b⟩ := hI.map; ⟨l, a, b⟩, by simp [hI.size], hj, ?_, rfl, fun h0 => absurd h0 hfam, fun _ _ => ⟨hfn, fun z hz => ?_, fun k v hv => ?_, fun k hk => ?_⟩⟩ h0⟩
    ·rw [Array.toList_push, List.nodup_append]
     refine ⟨hI.nodup, by simp, fun a ha b hb => ?_⟩
     rw [List.mem_singleton.1 hb]
     rintro rfl
     exact zcZ.1 hns ha
    ·obtain ⟨v, hv, hlt, _⟩ := hst z hz
     obtain ⟨y', hy', hr'⟩ := hR.at_stamp hz
     have hb' := hr'.s
     rw [hv] at hb'
     cases hb'
     exact ⟨_, hv, hlt, hR.born y' hy'⟩
    ·rw [Array.getElem?_push] at hv
     by_cases hks : k = seen.size
     ·rw [if_pos hks] at hv; cases hv
      rw [hks, hI.size]
      exact ⟨x, hx, hr.s, zae kn kc, y.val, hkey, hval, hyk ▸ (hr.k.mono hle), hr.v.mono hle⟩
     ·rw [if_neg hks] at hv
      obtain ⟨z, hz, q1, t, u, q2, q3, q4, q5⟩ := hsn k v hv
      exact ⟨z, hz, q1, t, u, hle.key _ _ q2, hle.val _ _ q3, q4.mono hle, q5.mono hle⟩
    ·have := hno k (by omega)
     constructor
     ·show (if h.fb + k = h.fb + j then _ else e.key (h.fb + k)) = none
      rw [if_neg (by omega)]; exact this.1
     ·show (if h.fb + k = h.fb + j then _ else e.val (h.fb + k)) = none
      rw [if_neg (by omega)]; exact this.2
   ·rw [if_neg hcb] at hc
    obtain ⟨l, o, hl, ho, hr'⟩ := s.ents c en hc
    refine ⟨l, o, hl, ?_, hr'.draw hle ?_⟩
    ·show (w.heap.setIfInBounds _ _)[l.blk]? = _
     rw [Array.getElem?_setIfInBounds_ne (fun hx => hcb (hal c en l hc hl hx.symm))]; exact ho
    ·rcases s.its c en hc with q | q
     ·exact .inl q
     ·right
      have q2 := s.its b _ hb
      have q3 : famE (.miter m j n fam lc ss) = fam := rfl
      rw [q3] at q2
      have q4 : h.fm.1 = h.fb := rfl
      rw [q4, q]
      omega
  ·have hi' : (if i = h.fb + j then some (zae kn kc) else e.key i) = some v := hi
   by_cases hij : i = h.fb + j
   ·show i < h.next; omega
   ·rw [if_neg hij] at hi'; exact s.keys i v hi'
  ·have hi' : (if i = h.fb + j then some y.val else e.val i) = some v := hi
   by_cases hij : i = h.fb + j
   ·show i < h.next; omega
   ·rw [if_neg hij] at hi'; exact s.vals i v hi'
  ·obtain ⟨en1, q1, q2, _⟩ := g c en hc
   obtain ⟨en2, q3, q4, _⟩ := g c' en' hc'
   rw [← q2, ← q4]
   exact s.sep c c' en1 en2 l1 l2 q1 q3 hl1 hl2 hne hblk
  ·obtain ⟨en1, q1, q2, _⟩ := g c en hc
   obtain ⟨en2, q3, _, q4, _⟩ := g c' en' hc'
   rw [← q4]
   exact s.olds c c' en1 en2 l1 l2 q1 (q2 ▸ hm) q3 hl1 hl2 hblk
  ·obtain ⟨en1, q1, q2, _⟩ := g c en hc
   exact s.oldsLt c c' en1 q1 (q2 ▸ hm)
  ·have hkeyE : ∀ i t, zb9 h.fb h.fam i = true → (e.draw (h.fb + j) (zae kn kc) y.val).key i = some t → i ≠ h.fb + j → e.key i = some t := fun i t _ hi hne => by
    have hi' : (if i = h.fb + j then some (zae kn kc) else e.key i) = some t := hi
    rw [if_neg hne] at hi'; exact hi'
   have hdiff : ∀ i t, zb9 h.fb h.fam i = true → e.key i = some t → t ≠ zae kn kc := fun i t hi ht heq => by
    rw [inFam_iff] at hi
    obtain ⟨k, rfl⟩ : ∃ k, i = h.fb + k := ⟨i - h.fb, by omega⟩
    have hkj : k < j := by
     rcases Nat.lt_or_ge k j with hh | hh
     ·exact hh
     ·have := (hno k hh).1
      have q : e.key (h.fb + k) = none := this
      rw [q] at ht; cases ht
    have hks : k < seen.size := by rw [hI.size]; exact hkj
    obtain ⟨z, hz, q1, t', u', q2, _, q3, _⟩ := hsn k seen[k] (Array.getElem?_eq_getElem hks)
    have q2' : e.key (h.fb + k) = some t' := q2
    rw [ht] at q2'; cases q2'
    obtain ⟨y', hy', hr'⟩ := hR.at_stamp hz
    obtain ⟨_, hvz⟩ := hfv z hz
    obtain ⟨n', c', hzk, hyk'⟩ := zfP (hfv z hz).1 hr'.k
    have hzt : Value.string t = y'.key := by
     rw [hzk] at q3
     rw [hyk']
     exact zbm q3
    have hyy : y' = y := hR.key_inj hy' hy (by rw [← hzt, heq, hyk])
    have hb' := hr'.s
    rw [q1] at hb'
    have hbb : seen[k] = y.born := by rw [← hyy]; exact Option.some.inj hb'
    exact zcZ.1 hns (by rw [← hbb]; exact Array.getElem_mem_toList hks)
   refine ⟨fun i t hi ht => ?_, fun i i' t hi hi' ht ht' => ?_⟩
   ·by_cases hij : i = h.fb + j
    ·subst hij
     rw [hkey] at ht; cases ht
     exact ⟨x, hx, kn, kc, hxk, rfl, y.val, hval, hr.v.mono hle⟩
    ·obtain ⟨kv, hkv, n1, c1, a, b, u, hu, hv⟩ := s.fam.key i t hi (hkeyE i t hi ht hij)
     exact ⟨kv, hkv, n1, c1, a, b, u, hle.val _ _ hu, hv.mono hle⟩
   ·by_cases hij : i = h.fb + j
    ·by_cases hij' : i' = h.fb + j
     ·rw [hij, hij']
     ·subst hij
      rw [hkey] at ht; cases ht
      exact absurd rfl (hdiff i' _ hi' (hkeyE i' _ hi' ht' hij'))
    ·by_cases hij' : i' = h.fb + j
     ·subst hij'
      rw [hkey] at ht'; cases ht'
      exact absurd rfl (hdiff i _ hi (hkeyE i _ hi ht hij))
     ·exact s.fam.inj i i' t hi hi' (hkeyE i t hi ht hij) (hkeyE i' t hi' ht' hij')
  ·obtain ⟨en1, q1, q2, _, q5, _⟩ := g c en hc
   obtain ⟨en2, q3, _, _, q6, _⟩ := g c' en' hc'
   rw [← q5, ← q6]
   exact s.ends c c' en1 en2 l1 l2 q1 (q2 ▸ hm) q3 hl1 hl2 hblk
  ·obtain ⟨en1, q1, _, _, _, q5⟩ := g c en hc
   rw [← q5]; exact s.its c en1 q1
 ·refine ⟨hle, Nat.le_refl _, by simp, fun X hX hO => ⟨?_, fun ⟨c, en2, l2, hc, hl2, hX2⟩ => ?_⟩, rfl, rfl, rfl, fun _ _ h => .inl h, fun c _ hg => (AH.get_set h b _ c).trans ((if_neg fun hx => by rw [hx, hb] at hg; cases hg).trans hg)⟩
  ·show (w.heap.setIfInBounds L.blk _)[X]? = _
   rw [Array.getElem?_setIfInBounds_ne (fun hx => hO ⟨b, _, L, hb, hL, hx⟩)]
  ·obtain ⟨en1, q1, _⟩ := g c en2 hc
   exact hO ⟨c, en1, l2, q1, hl2, hX2⟩
end
end
end Go.Xe
end
section
namespace Go.Xe
noncomputable section
section
variable {P : Program} {e : Env} {w : World}
theorem iterV_eq {α : Type} {a : AV} {k : Nat → Option α} {y : α} : iterV a k = some y ↔ ∃ b, a = .ptr b 0 ∧ k b = some y := by
 unfold iterV
 rw [zdH]
 constructor
 ·rintro ⟨b, o, rfl, h⟩
  rw [zaf, zah] at h
  obtain ⟨rfl, h⟩ := h
  exact ⟨b, rfl, h⟩
 ·rintro ⟨b, rfl, h⟩
  exact ⟨b, 0, rfl, by rw [zaf]; exact ⟨rfl, h⟩⟩
theorem pairs_vr {a b : AV} {u v : Value} (q : Bool) (ha : VR e a u) (hb : VR e b v) : VR e (.tup [.bool q, a, b]) (.tuple #[.bool q, u, v]) :=
 .tup _ _ (.cons _ _ _ _ (.bool q) (.cons _ _ _ _ ha (.cons _ _ _ _ hb .nil)))
theorem over_vr : VR e overA (.tuple #[.bool false]) := .tup _ _ (.cons _ _ _ _ (.bool false) .nil)
theorem sstr0_vr {i : Nat} {t : ByteArray} (h : e.key i = some t) : VR e (.sstr 0 0 i) (.string t) := by
 have h1 : VR e (.sstr 0 0 i) (.string (zae 0 0 ++ t)) := .sstr 0 0 i t h
 have h2 : zae 0 0 ++ t = t := by
  apply ByteArray.ext
  rw [ByteArray.data_append]
  have : (zae 0 0).data = #[] := rfl
  rw [this, Array.empty_append]
 rw [h2] at h1; exact h1
theorem plain_one {p : List ME} {ents : Array MapEntry} {clock : Nat} {x0 : ME} (hR : MapR e p ents clock) (hp : p = [x0]) : ∃ y0, ents.toList = [y0] ∧ MER e x0 y0 := by
 have hl := hR.length
 rw [hp] at hl
 obtain ⟨y0, hy0⟩ := List.length_eq_one_iff.1 hl
 obtain ⟨y, hy, hr⟩ := hR.at_stamp (x := x0) (by rw [hp]; exact List.mem_cons_self)
 rw [hy0] at hy
 rw [List.mem_singleton.1 hy] at hr
 exact ⟨y0, hy0, hr⟩
theorem next_sound {h : AH} (s : Sat e h w.heap) {str : Bool} {ty : TypeId} {it v : AV} {u : Value} {h' : AH} (hx : VR e it u) (hv : (iterV it fun b => bnd (h.get b) fun en => nextE b str h en) = some (v, h')) :
  Runs P (Instr.next u str ty) w fun u' w' => Out e h w v h' u' w' := by
 rw [iterV_eq] at hv
 obtain ⟨b, rfl, hv⟩ := hv
 rw [zab] at hv
 obtain ⟨en, hb, hv⟩ := hv
 obtain ⟨L, hL, rfl⟩ := zcG hx
 obtain ⟨L', o, hL', ho, hr⟩ := s.ents b en hb
 rw [hL] at hL'; cases hL'
 cases en <;> try (simp [nextE] at hv; done)
 case siter n c p =>
  have hv' : grd str (ite' (Nat.blt p n)
   (bnd (decodeStr n c p) fun r => some (AV.tup [.bool true, zde p, .int .i32 (.ofNat r.1)], h.set b (.siter n c (Nat.add p r.2)))) (some (overA, h))) = some (v, h') := hv
  rw [zaf] at hv'
  obtain ⟨rfl, hv'⟩ := hv'
  cases hr with
  | siter _ _ _ _ h0 =>
    have hget : (getObj L.blk).run P w = .ok (.stringIter (zae n c) p) w := by simp only [getObj, Sem.run, ho]
    rw [h0]
    rw [zav] at hv'
    rcases hv' with ⟨hp, hv'⟩ | ⟨hp, hv'⟩
    ·rw [zat] at hp
     rw [zab] at hv'
     obtain ⟨r, hd, hv'⟩ := hv'
     cases hv'
     unfold decodeStr at hd
     rw [zaG, zaf, zat] at hd
     obtain ⟨hb128, hd⟩ := hd
     cases hd
     have hbyte := bytesOf_at (c := c) hp
     have hdec := decode_ascii (s := zae n c) (i := p) (by rw [hbyte]; exact hb128)
     rw [hbyte] at hdec
     obtain ⟨s2, st2⟩ := iter_set s (en' := .siter n c (p + 1)) (o' := .stringIter (zae n c) (p + 1)) (d := w.drawn) hb hL rfl (.siter _ _ _ _ h0) rfl rfl rfl rfl
     refine ⟨.tuple #[.bool true, goInt p, .int .i32 ((c / 256 ^ p % 256 : Nat) : Int)], _, ?_, e, s2, ?_, st2⟩
     ·unfold Instr.next
      show Sem.run P (getObj L.blk >>= _) w = _
      rw [zac, hget]
      show Sem.run P (if p < (zae n c).size then _ else _) w = _
      rw [if_pos (by rw [zaI]; exact hp)]
      show Sem.run P (setObj L.blk (.stringIter (zae n c) (p + (Utf8.decode (zae n c) p).2)) >>= fun _ => pure (Value.tuple #[.bool true, goInt p, .int .i32 ((Utf8.decode (zae n c) p).1 : Int)])) w = _
      rw [hdec, zac]
      have hset : (setObj L.blk (.stringIter (zae n c) (p + 1))).run P w = .ok () { w with heap := w.heap.setIfInBounds L.blk (.stringIter (zae n c) (p + 1)) } := by simp only [setObj, Sem.run, ho]
      rw [hset]
      rfl
     ·rw [zd9]
      exact pairs_vr true (.int _ _) (.int _ _)
    ·cases hv'
     have hp' : ¬ p < n := fun h => by rw [(zat _ _).2 h] at hp; cases hp
     refine ⟨.tuple #[.bool false], w, ?_, .same s over_vr⟩
     unfold Instr.next
     show Sem.run P (getObj L.blk >>= _) w = _
     rw [zac, hget]
     show Sem.run P (if p < (zae n c).size then _ else _) w = _
     rw [if_neg (by rw [zaI]; exact hp')]
     rfl
 case miter m j n fam lc ss =>
  cases hr with
  | miter _ _ _ _ _ _ _ mb since stepped seen hI h0 =>
    have hv' : ite' str none (bnd (h.map m) fun p =>
     ite' (Nat.beq fam 0)
      (grd (sameSt p.1 ss) (ite' (Nat.blt j n)
       (bnd (nth p.1 0) fun e => some (AV.tup [.bool true, e.k, e.v], h.set b (.miter m (Nat.succ j) n fam p.2 ss)))
       (some (overA, h))))
      (grd (Nat.beq fam h.fb) (grd (sameEs p.1 h.fam) (ite' (Nat.blt j n)
       (frc (Nat.add h.fb j) fun i => some (AV.tup [.bool true, .sstr 0 0 i, .sval i], h.set b (.miter m (Nat.succ j) n fam p.2 ss)))
       (some (overA, h)))))) = some (v, h') := hv
    rw [zav] at hv'
    rcases hv' with ⟨_, hv'⟩ | ⟨rfl, hv'⟩
    ·cases hv'
    rw [zab] at hv'
    obtain ⟨p, hp, hv'⟩ := hv'
    obtain ⟨Lm, hLm, rfl⟩ := hI.map
    obtain ⟨hgm, ents, hH, hR⟩ := s.mapAt hp hLm
    rw [h0]
    rw [zav] at hv'
    rcases hv' with ⟨hf0, hv'⟩ | ⟨hf0, hv'⟩
    ·
     rw [zah] at hf0
     subst hf0
     rw [zaf] at hv'
     obtain ⟨hss, hv'⟩ := hv'
     obtain ⟨hn, hn1, hst, hsn⟩ := hI.plain rfl
     have hS := stand (seen := seen) hR (zdR hss) hn hst hsn
     rcases run_mapNext (P := P) (ty := ty) ho hH hS.born hS.born2 with ⟨hall, hrun⟩ | ⟨y, hy, hyn, d, hrun⟩
     ·rw [zav] at hv'
      rcases hv' with ⟨hj, _⟩ | ⟨_, hv'⟩
      ·rw [zat] at hj
       exact (hS.more hR.borns (by rw [hI.size]; exact hj) hall).elim
      ·cases hv'
       exact ⟨_, w, hrun, .same s over_vr⟩
     ·rw [zav] at hv'
      rcases hv' with ⟨hj, hv'⟩ | ⟨hj, _⟩
      ·rw [zat] at hj
       rw [zab] at hv'
       obtain ⟨x0, hx0, hv'⟩ := hv'
       cases hv'
       rw [za3] at hx0
       have hpl : p.1.length = 1 := by
        have := congrArg List.length (zdR hss)
        simp at this; omega
       have hp1 : p.1 = [x0] := by
        obtain ⟨z, hz⟩ := List.length_eq_one_iff.1 hpl
        rw [hz] at hx0 ⊢
        simp at hx0; rw [hx0]
       obtain ⟨y0, hy0, hr0⟩ := plain_one hR hp1
       rw [hy0] at hy
       obtain rfl := List.mem_singleton.1 hy
       have hborn : ∀ x ∈ ss, e.stp x.s = some y.born := fun x hx => by
        have hm : x.s ∈ p.1.map (·.s) := by rw [zdR hss]; exact List.mem_map_of_mem hx
        rw [hp1] at hm
        have : x.s = x0.s := by simpa using hm
        rw [this]; exact hr0.s
       have hI' : IterR e h.fm m (j + 1) n 0 p.2 ss Lm.blk since p.2 (seen.push y.born) := by
        refine ⟨hI.map, by simp [hI.size], hj, ?_, rfl, fun _ => ⟨hn, hn1, fun x hx => ?_, fun k v hk => ?_⟩, fun h => absurd rfl h⟩
        ·rw [Array.toList_push, List.nodup_append]
         refine ⟨hI.nodup, by simp, fun a ha b hb => ?_⟩
         rw [List.mem_singleton.1 hb]
         rintro rfl
         exact zcZ.1 hyn ha
        ·obtain ⟨v, hv, hlt, _⟩ := hst x hx
         obtain ⟨y', hy', hs'⟩ := hS.all x hx
         rw [hv] at hs'
         cases hs'
         exact ⟨_, hv, hlt, hR.born y' hy'⟩
        ·rw [Array.getElem?_push] at hk
         split at hk
         ·cases hk
          have hlen : 0 < ss.length := by omega
          exact ⟨ss[0], List.getElem_mem hlen, hborn _ (List.getElem_mem hlen)⟩
         ·exact hsn k v hk
       obtain ⟨s2, st2⟩ := iter_set s (en' := .miter m (j + 1) n 0 p.2 ss) (o' := .mapIter (some Lm.blk) since (seen.push y.born) p.2) (d := d) hb hL rfl (.miter _ _ _ _ _ _ _ _ _ _ _ hI' h0) rfl rfl rfl rfl
       exact ⟨_, _, hrun, e, s2, pairs_vr true hr0.k hr0.v, st2⟩
      ·have hj' : ¬ j < n := fun h => by rw [(zat _ _).2 h] at hj; cases hj
       have hjn : j = n := by have := hI.le; omega
       have := hS.done hR.borns hI.nodup (by rw [hI.size, hjn]) y hy
       rw [hyn] at this; cases this
    ·
     have hfam : fam ≠ 0 := fun h => by subst h; simp at hf0
     rw [zaf, zaf, zah] at hv'
     obtain ⟨hfb, hes, hv'⟩ := hv'
     obtain ⟨hpf, hfv⟩ := sameEs_eq hes
     obtain ⟨hfn, hst, hsn, hno⟩ := hI.famly hfam hfb
     have hR' : MapR e h.fam ents p.2 := hpf ▸ hR
     have hfn' : h.fam.length = n := hfn
     have hS := stand (seen := seen) (n := n) hR' rfl hfn' hst (fun k v hk => by
      obtain ⟨x, hx, q, _⟩ := hsn k v hk; exact ⟨x, hx, q⟩)
     rcases run_mapNext (P := P) (ty := ty) ho hH hS.born hS.born2 with ⟨hall, hrun⟩ | ⟨y, hy, hyn, d, hrun⟩
     ·rw [zav] at hv'
      rcases hv' with ⟨hj, _⟩ | ⟨_, hv'⟩
      ·rw [zat] at hj
       exact (hS.more hR.borns (by rw [hI.size]; exact hj) hall).elim
      ·cases hv'
       exact ⟨_, w, hrun, .same s over_vr⟩
     ·rw [zav] at hv'
      rcases hv' with ⟨hj, hv'⟩ | ⟨hj, _⟩
      ·rw [zat] at hj
       rw [zaG] at hv'
       cases hv'
       obtain ⟨t, hyk, hcu, s2, st2, hk2, hv2⟩ := s.draw (d := d) hb hL hI h0 hfam hfb hR' (fun x hx => hfv x (hpf ▸ hx)) hy hyn hj
       refine ⟨_, _, hrun, _, s2, ?_, st2⟩
       rw [hyk]
       exact pairs_vr true (sstr0_vr hk2) (.sval _ _ hv2 hcu)
      ·have hj' : ¬ j < n := fun h => by rw [(zat _ _).2 h] at hj; cases hj
       have hjn : j = n := by have := hI.le; omega
       have := hS.done hR.borns hI.nodup (by rw [hI.size, hjn]) y hy
       rw [hyn] at this; cases this
end
end
end Go.Xe
end
section
namespace Go.Xe
noncomputable section
section
variable {P : Program} {e : Env} {w : World}
theorem find_born {es : List ME} {ents : Array MapEntry} {clock : Nat} (hR : MapR e es ents clock) {y : MapEntry} (hy : y ∈ ents.toList) : ents.find? (fun x => x.born == y.born) = some y := by
 rw [← Array.find?_toList]
 have : ∀ {l : List MapEntry}, y ∈ l → (∀ x ∈ l, x.born = y.born → x = y) → l.find? (fun x => x.born == y.born) = some y := by
  intro l
  induction l with
  | nil => intro h; cases h
  | cons a l ih =>
    intro hm ha
    rw [List.find?_cons]
    by_cases hb : a.born = y.born
    ·have := ha a List.mem_cons_self hb
     subst this
     simp
    ·have : (a.born == y.born) = false := beq_eq_false_iff_ne.2 hb
     rw [this]
     refine ih ?_ fun x hx => ha x (List.mem_cons_of_mem _ hx)
     rcases List.mem_cons.1 hm with rfl | h
     ·exact absurd rfl hb
     ·exact h
 exact this hy fun x hx hb => hR.born_inj hx hy hb
theorem pair_vr {a b : AV} {u v : Value} (ha : VR e a u) (hb : VR e b v) : VR e (.tup [a, b]) (.tuple #[u, v]) := .tup _ _ (.cons _ _ _ _ ha (.cons _ _ _ _ hb .nil))
theorem run_entry {r m since : Nat} {seen : Array Nat} {es : List ME} {ents : Array MapEntry} {clock : Nat} (hr : w.heap[r]? = some (.mapIter (some m) since seen clock)) (hm : w.heap[m]? = some (.map ents clock))
  (hR : MapR e es ents clock) {y : MapEntry} (hy : y ∈ ents.toList) (hs : seen.back? = some y.born) : (Instr.entry (.pointer (some ⟨r, 0, none⟩))).run P w = .ok (.tuple #[y.key, y.val]) w := by
 have hget : (getObj r).run P w = .ok (.mapIter (some m) since seen clock) w := by simp only [getObj, Sem.run, hr]
 unfold Instr.entry
 show Sem.run P (getObj r >>= _) w = _
 rw [zac, hget]
 simp only [hs]
 show Sem.run P (getObj m >>= _) w = _
 rw [zac, zbs hm]
 show Sem.run P (if (clock != clock) = true then _ else _) w = _
 rw [if_neg (by simp)]
 show Sem.run P (match ents.find? (fun x => x.born == y.born) with | some e => _ | none => _) w = _
 rw [find_born hR hy]
 rfl
theorem entry_sound {h : AH} (s : Sat e h w.heap) {it v : AV} {u : Value} (hx : VR e it u) (hv : (iterV it fun b => bnd (h.get b) fun en => entryE h en) = some v) :
  Runs P (Instr.entry u) w fun u' w' => VR e v u' ∧ w' = w := by
 rw [iterV_eq] at hv
 obtain ⟨b, rfl, hv⟩ := hv
 rw [zab] at hv
 obtain ⟨en, hb, hv⟩ := hv
 obtain ⟨L, hL, rfl⟩ := zcG hx
 obtain ⟨L', o, hL', ho, hr⟩ := s.ents b en hb
 rw [hL] at hL'; cases hL'
 cases en <;> try (simp [entryE] at hv; done)
 case miter m j n fam lc ss =>
  cases hr with
  | miter _ _ _ _ _ _ _ mb since stepped seen hI h0 =>
    have hv' : bnd (h.map m) (fun p => grd (Nat.beq lc p.2)
     (ite' (Nat.beq fam 0)
      (grd (sameSt p.1 ss) (grd (Nat.beq j 1) (bnd (nth p.1 0) fun e => some (AV.tup [e.k, e.v]))))
      (grd (Nat.beq fam h.fb) (grd (sameEs p.1 h.fam) (grd (Nat.blt 0 j) (frc (Nat.add h.fb (Nat.pred j)) fun i => some (AV.tup [.sstr 0 0 i, .sval i]))))))) = some v := hv
    rw [zab] at hv'
    obtain ⟨p, hp, hv'⟩ := hv'
    rw [zaf, zah] at hv'
    obtain ⟨rfl, hv'⟩ := hv'
    obtain ⟨Lm, hLm, rfl⟩ := hI.map
    obtain ⟨hgm, ents, hH, hR⟩ := s.mapAt hp hLm
    rw [h0]
    have hst' := hI.st
    subst hst'
    have hlast : ∀ k, j = k + 1 → ∃ y, seen.back? = some y ∧ seen[k]? = some y := fun k hk => by
     have hsz := hI.size
     have : seen.back? = seen[seen.size - 1]? := rfl
     rw [this, hsz, hk, Nat.add_sub_cancel]
     exact ⟨seen[k], Array.getElem?_eq_getElem (by omega), Array.getElem?_eq_getElem (by omega)⟩
    rw [zav] at hv'
    rcases hv' with ⟨hf0, hv'⟩ | ⟨hf0, hv'⟩
    ·rw [zah] at hf0
     subst hf0
     rw [zaf, zaf, zah, zab] at hv'
     obtain ⟨hss, rfl, x0, hx0, hv'⟩ := hv'
     cases hv'
     obtain ⟨hn, hn1, hst, hsn⟩ := hI.plain rfl
     rw [za3] at hx0
     have hle := hI.le
     have hpl : p.1.length = 1 := by
      have := congrArg List.length (zdR hss)
      simp at this; omega
     have hp1 : p.1 = [x0] := by
      obtain ⟨z, hz⟩ := List.length_eq_one_iff.1 hpl
      rw [hz] at hx0 ⊢
      simp at hx0; rw [hx0]
     obtain ⟨y0, hy0, hr0⟩ := plain_one hR hp1
     obtain ⟨v, hback, hk⟩ := hlast 0 rfl
     obtain ⟨x, hx, hxs⟩ := hsn 0 v hk
     have hm : x.s ∈ p.1.map (·.s) := by rw [zdR hss]; exact List.mem_map_of_mem hx
     rw [hp1] at hm
     have hxx : x.s = x0.s := by simpa using hm
     rw [hxx, hr0.s] at hxs
     cases hxs
     exact ⟨_, w, run_entry ho hH hR (y := y0) (by rw [hy0]; exact List.mem_cons_self) hback, pair_vr hr0.k hr0.v, rfl⟩
    ·have hfam : fam ≠ 0 := fun h => by subst h; simp at hf0
     rw [zaf, zaf, zaf, zah, zat, zaG] at hv'
     obtain ⟨hfb, hes, hj, hv'⟩ := hv'
     cases hv'
     obtain ⟨hpf, hfv⟩ := sameEs_eq hes
     obtain ⟨hfn, hst, hsn, hno⟩ := hI.famly hfam hfb
     obtain ⟨k, rfl⟩ : ∃ k, j = k + 1 := ⟨j - 1, by omega⟩
     obtain ⟨v, hback, hk⟩ := hlast k rfl
     obtain ⟨x, hx, hxs, t, u, hkey, hval, hxk, hxv⟩ := hsn k v hk
     have hx' : x ∈ p.1 := by rw [hpf]; exact hx
     obtain ⟨y, hy, hr'⟩ := hR.at_stamp hx'
     have hb' := hr'.s
     rw [hxs] at hb'
     cases hb'
     obtain ⟨n', c', hzk, hyk⟩ := zfP (hfv x hx').1 hr'.k
     have hyt : y.key = .string t := by
      rw [hzk] at hxk
      rw [hyk]; exact (zbm hxk).symm
     obtain ⟨hyv, hcu⟩ := vr_fam (hfv x hx').2 hr'.v hxv
     refine ⟨_, w, run_entry ho hH hR hy hback, ?_, rfl⟩
     rw [hyt]
     exact pair_vr (sstr0_vr hkey) (.sval _ _ (by rw [hyv]; exact hval) hcu)
theorem zcU {t xt : TypeId} {ok : Bool} {v : AV} (hv : zeV P t ok = some v) (st dy : Option TypeId) (ms : String) :
  Runs P (do if ok then pure (Value.tuple #[← zeroValue t, .bool false]) else runtimePanic (.typeAssertion st dy t ms) : Sem Value) w fun u w' => VR e v u ∧ w' = w := by
 unfold zeV at hv
 rw [zaf, zab] at hv
 obtain ⟨rfl, z, hz, hv⟩ := hv
 cases hv
 obtain ⟨uz, hr, hzr⟩ := zdm (P := P) (w := w) (e := e) hz
 refine ⟨.tuple #[uz, .bool false], w, ?_, pair_vr hzr (.bool false), rfl⟩
 rw [if_pos rfl]
 show Sem.run P (zeroValue t >>= _) w = _
 rw [zac, hr]; rfl
theorem zdv {t xt : TypeId} {d : TypeDesc} {ok : Bool} {x v : AV} {u : Value} (hd : P.underlying t = some d) (hx : VR e x u) (hv : assertD P t ok x d = some v) :
  Runs P (Instr.typeAssert u xt t ok) w fun u' w' => VR e v u' ∧ w' = w := by
 unfold Instr.typeAssert
 refine Runs.run_eq (zai hd) ?_
 have holds : ∀ {a : AV} {ua : Value}, VR e a ua → v = zbW ok a true → Runs P (pure (if ok then .tuple #[ua, .bool true] else ua) : Sem Value) w fun u' w' => VR e v u' ∧ w' = w := fun ha hvv => by
  subst hvv
  exact Runs.pure' ⟨zfO ha true, rfl⟩
 by_cases hi : ∃ ms, d = .interface ms
 ·obtain ⟨ms, rfl⟩ := hi
  cases x <;> try (simp [assertD] at hv; done)
  case ifc t' a =>
   have hv' : bnd (P.info? t') (fun i => ite' (isNone (Instr.missingMethod ms i.methods)) (some (zbW ok (.ifc t' a) true)) (zeV P t ok)) = some v := hv
   rw [zab] at hv'
   obtain ⟨i, hinf, hv'⟩ := hv'
   cases hx with
   | ifc _ _ ua ha =>
     refine Runs.bind' ⟨i, w, zb6 hinf, ?_⟩
     rw [zav] at hv'
     rcases hv' with ⟨hm, hv'⟩ | ⟨hm, hv'⟩
     ·cases hv'
      cases hmm : Instr.missingMethod ms i.methods with
      | none => simp only [hmm]; exact holds (.ifc _ _ _ ha) rfl
      | some m => rw [hmm] at hm; cases hm
     ·cases hmm : Instr.missingMethod ms i.methods with
      | none => rw [hmm] at hm; cases hm
      | some m => simp only [hmm]; exact zcU (xt := xt) hv' none (some t') m
  case inil =>
   cases hx
   exact zcU (xt := xt) hv none none ""
 ·cases x <;> try (cases d <;> simp [assertD] at hv; done)
  case ifc t' a =>
   have hv' : ite' (Nat.beq t t') (some (zbW ok a true)) (zeV P t ok) = some v := by
    cases d <;> first | exact hv | exact absurd ⟨_, rfl⟩ hi
   cases hx with
   | ifc _ _ ua ha =>
     refine Runs.run_eq (b := if t' = t then pure (if ok then .tuple #[ua, .bool true] else ua) else (do if ok then pure (Value.tuple #[← zeroValue t, .bool false]) else runtimePanic (.typeAssertion (some xt) (some t') t "")))
      (by cases d <;> first | rfl | exact absurd ⟨_, rfl⟩ hi) ?_
     rw [zav, zah] at hv'
     rcases hv' with ⟨rfl, hv'⟩ | ⟨hne, hv'⟩
     ·cases hv'
      rw [if_pos rfl]
      exact holds ha rfl
     ·have : t' ≠ t := fun h => by subst h; rw [(zah _ _).2 rfl] at hne; cases hne
      rw [if_neg this]
      exact zcU (xt := xt) hv' (some xt) (some t') ""
  case inil =>
   cases hx
   have hv' : zeV P t ok = some v := by
    cases d <;> first | exact hv | exact absurd ⟨_, rfl⟩ hi
   refine Runs.run_eq (b := (do if ok then pure (Value.tuple #[← zeroValue t, .bool false]) else runtimePanic (.typeAssertion (some xt) none t "")))
     (by cases d <;> first | rfl | exact absurd ⟨_, rfl⟩ hi) ?_
   exact zcU (xt := xt) hv' (some xt) none ""
end
end
end Go.Xe
end
section
namespace Go.Xe
noncomputable section
structure POk (P : Program) : Prop where
 num : ∀ (f : Nat) (fn : Func), P.funcs[f]? = some fn → (fn.name == "runtime.NumGoroutine") = false
def OutO (e : Env) (h : AH) (w : World) (o : O) (n : Next) (w' : World) : Prop := match o with
 | .val v h' => ∃ e' u, n = .value u ∧ Sat e' h' w'.heap ∧ VR e' v u ∧ Step e h w e' h' w'
 | .skip h' => ∃ e', n = .skip ∧ Sat e' h' w'.heap ∧ Step e h w e' h' w'
 | .enter f args h' => h' = h ∧ w' = w ∧ ∃ us, n = .enter f us ∧ VRs e args us.toList
 | .round l tm nt asg body h' => h' = h ∧ w' = w ∧ ∃ L fn tmps, n = .round L.blk fn tmps asg body ∧ e.loc l = some L ∧ TR e tm nt tmps
 | .dfr d h' => h' = h ∧ w' = w ∧ ∃ d', n = .defer d' ∧ DR e d d'
 | .no => False
section
variable {P : Program} {e : Env} {w : World}
theorem OutO.val_ {h h' : AH} {v : AV} {u : Value} {w' : World} (x : Out e h w v h' u w') : OutO e h w (.val v h') (.value u) w' :=
 let ⟨e', s, hv, st⟩ := x; ⟨e', u, rfl, s, hv, st⟩
theorem OutO.skip_ {h h' : AH} {w' : World} (x : OutH e h w h' w') : OutO e h w (.skip h') .skip w' :=
 let ⟨e', s, st⟩ := x; ⟨e', rfl, s, st⟩
theorem callF_sound (ok : POk P) {h : AH} (s : Sat e h w.heap) {f : Nat} {args : List AV} {us : Array Value} {o : O} (ha : VRs e args us.toList) (hv : callF P f args h = o) (hn : o ≠ .no) :
  Runs P (callFunc f us) w fun n w' => OutO e h w o n w' := by
 unfold callF at hv
 cases hf : P.funcs[f]? with
 | none => rw [hf] at hv; exact absurd hv.symm hn
 | some fn =>
   rw [hf, oE_some] at hv
   cases hb : fn.body with
   | none =>
     rw [hb, oE_none] at hv
     unfold ofVH at hv
     cases hx : externA fn.name fn.origin args h with
     | none => rw [hx] at hv; exact absurd hv.symm hn
     | some p =>
       rw [hx, oE_some] at hv
       subst hv
       obtain ⟨v, h'⟩ := p
       exact (extern_sound s hf hb ha hx).mono fun n w' ⟨u, hu, ho⟩ => by subst hu; exact .val_ ho
   | some c =>
     rw [hb, oE_some] at hv
     subst hv
     refine ⟨.enter f us, w, ?_, rfl, rfl, us, rfl, ha⟩
     unfold callFunc
     show Sem.run P (match P.funcs[f]? with | none => _ | some fn => _) w = _
     rw [hf]
     show Sem.run P (if (fn.name == "runtime.NumGoroutine") = true then _ else if fn.body.isNone = true then _ else _) w = _
     rw [if_neg (by rw [ok.num f fn hf]; simp), if_neg (by rw [hb]; simp)]
     rfl
theorem methodA_sound {t f : Nat} {name : String} {v : Value} (hm : zgy P t name = some f) : ∀ k, (method (k + 1) t v name).run P w = .ok (f, v) w := by
 intro k
 unfold zgy at hm
 rw [zab] at hm
 obtain ⟨i, hi, hm⟩ := hm
 rw [zab] at hm
 obtain ⟨m, hfind, hm⟩ := hm
 rw [zaf, zaD, zab] at hm
 obtain ⟨hp, ⟨f', pr⟩, hfp, hm⟩ := hm
 rw [zaf] at hm
 obtain ⟨hrec, hm⟩ := hm
 cases hm
 have hfind' : i.methods.find? (·.name == name) = some m := by rw [← Array.find?_toList]; exact hfind
 unfold method
 show Sem.run P (typeInfo t >>= _) w = _
 rw [zac, zb6 hi]
 simp only [hfind', hp]
 show Sem.run P ((pure (t, Place.val v) : Sem (TypeId × Place)) >>= _) w = _
 rw [zac]
 have h1 : Sem.run P (pure (t, Place.val v) : Sem (TypeId × Place)) w = .ok (t, .val v) w := rfl
 rw [h1]
 simp only [hfp]
 unfold receiverOk at hrec
 cases hd : P.underlying t with
 | none => rw [hd] at hrec; cases hrec
 | some d =>
   rw [hd] at hrec
   have hrec' : ite' pr (zby d) (ite' (zby d) false true) = true := hrec
   have hrun : ∀ nm, (receiverAt t (.val v) pr nm).run P w = .ok v w := fun nm => by
    unfold receiverAt
    rw [zai hd]
    cases pr with
    | true =>
      have h2 : zby d = true := hrec'
      cases d <;> first | rfl | (simp [zby] at h2)
    | false =>
      have h2 : zby d = false := by
       have : ite' (zby d) false true = true := hrec'
       cases hq : zby d
       ·rfl
       ·rw [hq] at this; cases this
      cases d <;> first | rfl | (simp [zby] at h2)
   show Sem.run P (receiverAt t (.val v) pr _ >>= _) w = _
   rw [zac, hrun]
   rfl
theorem ze7 (ok : POk P) {h : AH} (s : Sat e h w.heap) {name : String} {args : List AV} {us : Array Value} {o : O} (ha : VRs e args us.toList) (hv : zgz P name args h = o) (hn : o ≠ .no) :
  Runs P (do
   let some recv := us[0]? | stuck "call: a method without a receiver"
   callMethod recv name (us.extract 1 us.size)) w fun n w' => OutO e h w o n w' := by
 cases args with
 | nil => exact absurd hv.symm hn
 | cons r as =>
   cases r <;> try (exact absurd hv.symm hn)
   rename_i t v
   have hv2 : ofO (bnd (zgy P t name) fun f => some (callF P f (v :: as) h)) = o := hv
   cases hm : zgy P t name with
   | none => rw [hm] at hv2; exact absurd hv2.symm hn
   | some f =>
     rw [hm] at hv2
     have hv3 : callF P f (v :: as) h = o := hv2
     obtain ⟨us⟩ := us
     cases ha with
     | cons _ ur _ ut hr ht =>
       cases hr with
       | ifc _ _ uv hvr =>
         have hex : (⟨Value.iface t uv :: ut⟩ : Array Value).extract 1 (⟨Value.iface t uv :: ut⟩ : Array Value).size = ⟨ut⟩ := by
          apply Array.ext'
          simp
         refine Runs.run_eq (b := callFunc f (#[uv] ++ ⟨ut⟩)) ?_ (callF_sound ok s (us := #[uv] ++ ⟨ut⟩) ?_ hv3 hn)
         ·show Sem.run P (callMethod (.iface t uv) name ((⟨Value.iface t uv :: ut⟩ : Array Value).extract 1 (⟨Value.iface t uv :: ut⟩ : Array Value).size)) w = _
          rw [hex]
          unfold callMethod
          show Sem.run P (method (P.types.size + Made.depth) t uv name >>= fun x => callFunc x.1 (#[x.2] ++ ⟨ut⟩)) w = _
          have hfu : P.types.size + Made.depth = (P.types.size + 99) + 1 := rfl
          rw [zac, hfu, methodA_sound hm]
         ·have : (#[uv] ++ (⟨ut⟩ : Array Value)).toList = uv :: ut := by simp
          rw [this]
          exact .cons _ _ _ _ hvr ht
theorem putParams_sound {nt : Nat} {ps : List Nat} {args : List AV} {tm tm' : Tr AV} {a : Array Value} {us : List Value} (ht : TR e tm nt a) (ha : VRs e args us) (hp : zdC nt ps args tm = some tm') :
  ps.length = us.length ∧ TR e tm' nt ((ps.zip us).foldl (fun tmps (x : Nat × Value) => tmps.setIfInBounds x.1 x.2) a) := by
 induction ps generalizing args tm us a with
 | nil =>
   have hp' : grd (zaY args) (some tm) = some tm' := hp
   rw [zaf, zaD] at hp'
   obtain ⟨rfl, hp'⟩ := hp'
   cases hp'
   cases ha
   exact ⟨rfl, ht⟩
 | cons p ps ih =>
   cases args with
   | nil => cases hp
   | cons x args =>
     have hp' : grd (Nat.blt p nt) (zdC nt ps args (Tr.put (some x) (Nat.succ p) tm p)) = some tm' := hp
     rw [zaf, zat] at hp'
     obtain ⟨hlt, hp'⟩ := hp'
     cases ha with
     | cons _ u _ us' hx ht' =>
       obtain ⟨h1, h2⟩ := ih (ht.put hlt hx) ht' hp'
       exact ⟨by simp [h1], h2⟩
theorem yield_sound {h : AH} (s : Sat e h w.heap) {l : Nat} {L : Loc} {args : List AV} {us : Array Value} {o : O} {en : Ent} (hl : e.loc l = some L) (hb : h.get l = some en) (ha : VRs e args us.toList) (hv : yieldE l args h en = o) (hn : o ≠ .no) :
  Runs P (Instr.yield L.blk us) w fun n w' => OutO e h w o n w' := by
 cases en <;> try (exact absurd hv.symm hn)
 rename_i st pend tm nt ps asg body d
 have hv' : ofO (bnd (zdC nt ps args tm) fun tm => some (.round l tm nt asg body h)) = o := hv
 cases hp : zdC nt ps args tm with
 | none => rw [hp] at hv'; exact absurd hv'.symm hn
 | some tm' =>
   rw [hp] at hv'
   have hv2 : O.round l tm' nt asg body h = o := hv'
   subst hv2
   obtain ⟨L', ob, hL', ho, hr⟩ := s.ents l _ hb
   rw [hl] at hL'; cases hL'
   cases hr with
   | loop R tm nt d _ ld ht hd hbl =>
     obtain ⟨hlen, htr⟩ := putParams_sound ht ha hp
     have hsz : us.size = R.params.size := by simpa using hlen.symm
     refine ⟨.round L.blk R.fn ((R.params.zip us).foldl (fun tmps (x : Nat × Value) => tmps.setIfInBounds x.1 x.2) R.tmps) R.assign R.body, w, ?_, rfl, rfl, L, R.fn, _, rfl, hl, ?_⟩
     ·unfold Instr.yield
      have hget : (getObj L.blk).run P w = .ok (.loop R) w := by simp only [getObj, Sem.run, ho]
      have hgl : (Instr.getLoop L.blk).run P w = .ok R w := by
       unfold Instr.getLoop
       rw [zac, hget]; rfl
      rw [zac, hgl]
      show Sem.run P (if us.size ≠ R.params.size then _ else _) w = _
      rw [if_neg (by simp [hsz])]
      rfl
     ·have : (R.params.zip us).foldl (fun tmps (x : Nat × Value) => tmps.setIfInBounds x.1 x.2) R.tmps = (R.params.toList.zip us.toList).foldl (fun tmps (x : Nat × Value) => tmps.setIfInBounds x.1 x.2) R.tmps := by
       rw [← Array.foldl_toList, Array.toList_zip]
      rw [this]; exact htr
theorem zen (ok : POk P) {h : AH} (s : Sat e h w.heap) {fn fn' : Fn} {capt args : List AV} {ucapt us : Array Value} {o : O} (hf : FnR e fn fn') (hc : VRs e capt ucapt.toList) (ha : VRs e args us.toList) (hv : zd6 P capt args h fn = o) (hn : o ≠ .no) :
  Runs P (invoke (.fn fn' ucapt) us) w fun n w' => OutO e h w o n w' := by
 cases hf with
 | yield l L hl =>
   have hv' : ofO (bnd (h.get l) fun en => some (yieldE l args h en)) = o := hv
   cases hb : h.get l with
   | none => rw [hb] at hv'; exact absurd hv'.symm hn
   | some en =>
     rw [hb] at hv'
     exact yield_sound s hl hb ha hv' hn
 | same _ hy =>
   cases fn <;> try (exact absurd hv.symm hn)
   case func f =>
    have hv' : callF P f (app args capt) h = o := hv
    rw [zcn] at hv'
    exact callF_sound ok s (us := us ++ ucapt) (by rw [Array.toList_append]; exact ha.app hc) hv' hn
   case method name =>
    have hv' : zgz P name args h = o := hv
    exact ze7 ok s ha hv' hn
   case yield => simp [zeS] at hy
end
end
end Go.Xe
end
