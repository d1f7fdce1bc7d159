/-
  Iterators: one step; Iterators: next and entry; entry; assertions of types; functions that are made; Calls: what is called, and with what. Conditions: none.
-/
import Derived.Test.YtjibdoofogmkcaaGreatDoorYaToYd
set_option linter.unusedVariables false
set_option linter.unusedSimpArgs false
set_option linter.unusedSectionVars false
section
namespace Go.Xe
noncomputable section
section
variable {P : Program} {e : Env} {w : World}
theorem decode_ascii {s : ByteArray} {i : Nat} (h : (s.get! i).toNat < 128) : Utf8.decode s i = ((s.get! i).toNat, 1) := by
  unfold Utf8.decode
  simp only [Nat.add_zero]
  rw [if_pos h]
theorem bytesOf_at {n c p : Nat} (h : p < n) : ((bytesOf n c).get! p).toNat = c / 256 ^ p % 256 := by
  have h1 : (bytesOf n c).get! p = UInt8.ofNat (c / 256 ^ p % 256) := by
    show ((listOf n c).toArray)[p]! = _
    rw [getElem!_def]
    have : (listOf n c).toArray[p]? = some (UInt8.ofNat (c / 256 ^ p % 256)) := by
      rw [List.getElem?_toArray]
      unfold listOf
      rw [List.getElem?_map, List.getElem?_range h]
      rfl
    rw [this]
  rw [h1]
  simp
def Env.draw (e : Env) (i : Nat) (s : ByteArray) (u : Value) : Env := { e with key := fun k => if k = i then some s else e.key k, val := fun k => if k = i then some u else e.val k }
theorem Env.draw_le {e : Env} {i : Nat} {s : ByteArray} {u : Value} (hk : e.key i = none) (hv : e.val i = none) : e.le (e.draw i s u) := by
  refine ⟨fun _ _ h => h, fun _ _ _ h => h, fun _ _ h => h, fun k v h => ?_, fun k v h => ?_⟩
  · show (if k = i then some s else e.key k) = some v
    by_cases hki : k = i
    · subst hki; rw [hk] at h; cases h
    · rw [if_neg hki]; exact h
  · show (if k = i then some u else e.val k) = some v
    by_cases hki : k = i
    · subst hki; rw [hv] at h; cases h
    · rw [if_neg hki]; exact h
theorem EntR.draw {e e' : Env} (he : e.le e') {fm : Nat × List ME} {en : Ent} {l : Loc} {o : Obj} (h : EntR e fm en l o) (hf : famE en = 0 ∨ famE en ≠ fm.1) : EntR e' fm en l o := by
  cases h with
  | cells _ _ _ _ _ _ _ _ _ _ h => exact .cells _ _ _ _ _ _ _ _ _ _ (h.mono he)
  | map _ _ _ _ h => exact .map _ _ _ _ (h.mono he)
  | siter _ _ _ _ h0 => exact .siter _ _ _ _ h0
  | miter _ _ _ fam _ _ _ _ _ _ _ h h0 =>
    have hf : fam = 0 ∨ fam ≠ fm.1 := hf
    refine .miter _ _ _ _ _ _ _ _ _ _ _ ⟨let ⟨l, a, b⟩ := h.map; ⟨l, he.loc _ _ a, b⟩, h.size, h.le, h.nodup, h.st, fun h0 => ?_, fun h0 h1 => ?_⟩ h0
    · obtain ⟨a, b, c, d⟩ := h.plain h0
      refine ⟨a, b, fun x hx => ?_, fun k v hv => ?_⟩
      · obtain ⟨v, hv, hl⟩ := c x hx; exact ⟨v, he.stp _ _ hv, hl⟩
      · obtain ⟨x, hx, hs⟩ := d k v hv; exact ⟨x, hx, he.stp _ _ hs⟩
    · rcases hf with hf | hf
      · exact absurd hf h0
      · exact absurd h1 hf
  | loop _ _ _ _ _ _ ht hd hb => exact .loop _ _ _ _ _ _ (ht.mono he) (he.loc _ _ hd) hb
  | dfr0 => exact .dfr0 _
  | dfr _ _ _ h => exact .dfr _ _ _ (h.mono he)
theorem iter_set {h : AH} (s : Sat e h w.heap) {b : Nat} {en en' : Ent} {L : Loc} {o' : Obj} {d : Nat} (hb : h.get b = some en) (hL : e.loc b = some L) (hn : cellsE en = none) (hr : EntR e h.fm en' L o') (ho : oldsE en' = [])
    (hw : wrE en' = wrE en) (hlen : lenE en' = lenE en) (hf : famE en' = famE en) :
    let w' : World := { w with drawn := d, heap := w.heap.setIfInBounds L.blk o' }
    Sat e (h.set b en') w'.heap ∧ Step e h w e (h.set b en') w' := by
  intro w'
  refine ⟨s.setObj hb hL (s.alone hb hL hn) hr (fun c hc => by rw [ho] at hc; cases hc) (fun hx => hw.trans hx) hlen hf, ?_⟩
  exact (Step.setObj s o' hb hL).drawn d
theorem key_string {x : ME} {y : MapEntry} (hk : famK x.k = true) (hr : VR e x.k y.key) : ∃ n c, x.k = .str n c ∧ y.key = .string (bytesOf n c) := by
  cases hx : x.k <;> rw [hx] at hk hr <;> try (simp [famK] at hk; done)
  rename_i n c
  exact ⟨n, c, rfl, vr_str hr⟩
theorem Sat.draw {h : AH} (s : Sat e h w.heap) {b m j n fam lc : Nat} {ss : List ME} {L : Loc} {mb since stepped : Nat} {seen : Array Nat} {ents : Array MapEntry} {clock d : Nat}
    (hb : h.get b = some (.miter m j n fam lc ss)) (hL : e.loc b = some L) (hI : IterR e h.fm m j n fam lc ss mb since stepped seen) (h0 : L.off = 0) (hfam : fam ≠ 0) (hfb : fam = h.fb) (hR : MapR e h.fam ents clock) (hfv : ∀ x ∈ h.fam, famK x.k = true ∧ famV x.v = true)
    {y : MapEntry} (hy : y ∈ ents.toList) (hns : seen.contains y.born = false) (hj : j < n) :
    ∃ t, y.key = .string t ∧ cellU y.val = true ∧
    let e' := e.draw (h.fb + j) t y.val
    let w' : World := { w with drawn := d, heap := w.heap.setIfInBounds L.blk (.mapIter (some mb) since (seen.push y.born) clock) }
    Sat e' (h.set b (.miter m (j + 1) n fam clock ss)) w'.heap ∧ Step e h w e' (h.set b (.miter m (j + 1) n fam clock ss)) w' ∧ e'.key (h.fb + j) = some t ∧ e'.val (h.fb + j) = some y.val := by
  obtain ⟨hfn, hst, hsn, hno⟩ := hI.famly hfam hfb
  obtain ⟨x, hx, hr⟩ := hR.of_ent hy
  obtain ⟨hkx, hvx⟩ := hfv x hx
  obtain ⟨kn, kc, hxk, hyk⟩ := key_string hkx hr.k
  obtain ⟨_, hcu⟩ := vr_fam hvx hr.v hr.v
  obtain ⟨hk0, hv0⟩ := hno j (Nat.le_refl j)
  have hle : e.le (e.draw (h.fb + j) (bytesOf kn kc) y.val) := Env.draw_le hk0 hv0
  have hkey : (e.draw (h.fb + j) (bytesOf kn kc) y.val).key (h.fb + j) = some (bytesOf kn kc) := if_pos rfl
  have hval : (e.draw (h.fb + j) (bytesOf kn kc) y.val).val (h.fb + j) = some y.val := if_pos rfl
  have hfl : h.fam.length = n := hfn
  have hroom := s.room
  have hBlt := (s.locs b L hL).2
  have hal := s.alone hb hL rfl
  have g : ∀ c en, (h.set b (.miter m (j + 1) n fam clock ss)).get c = some en → ∃ en1, h.get c = some en1 ∧ oldsE en1 = oldsE en ∧ wrE en1 = wrE en ∧ lenE en1 = lenE en ∧ famE en1 = famE en := fun c en hc => by
    rw [AH.get_set] at hc
    by_cases hcb : c = b
    · subst hcb; rw [if_pos rfl] at hc; cases hc
      exact ⟨_, hb, rfl, rfl, rfl, rfl⟩
    · rw [if_neg hcb] at hc; exact ⟨en, hc, rfl, rfl, rfl, rfl⟩
  refine ⟨bytesOf kn kc, hyk, hcu, ?_, ?_, hkey, hval⟩
  · refine ⟨fun c en hc => ?_, fun c l hc => ⟨(s.locs c l hc).1, by simpa using (s.locs c l hc).2⟩, s.nums, s.numI, s.stps, fun i v hi => ?_, fun i v hi => ?_, fun c c' en en' l1 l2 hc hc' hl1 hl2 hne hblk => ?_, fun c c' en en' l1 l2 hc hm hc' hl1 hl2 hblk => ?_, fun c c' en hc hm => ?_, ?_, fun c c' en en' l1 l2 hc hm hc' hl1 hl2 hblk => ?_, fun c en hc => ?_, s.room⟩
    · rw [AH.get_set] at hc
      by_cases hcb : c = b
      · subst hcb
        rw [if_pos rfl] at hc; cases hc
        refine ⟨L, .mapIter (some mb) since (seen.push y.born) clock, hL, by simp [hBlt], .miter _ _ _ _ _ _ _ _ _ _ _ ⟨let ⟨l, a, b⟩ := hI.map; ⟨l, a, b⟩, by simp [hI.size], hj, ?_, rfl, fun h0 => absurd h0 hfam, fun _ _ => ⟨hfn, fun z hz => ?_, fun k v hv => ?_, fun k hk => ?_⟩⟩ h0⟩
        · rw [Array.toList_push, List.nodup_append]
          refine ⟨hI.nodup, by simp, fun a ha b hb => ?_⟩
          rw [List.mem_singleton.1 hb]
          rintro rfl
          exact contains_false.1 hns ha
        · obtain ⟨v, hv, hlt, _⟩ := hst z hz
          obtain ⟨y', hy', hr'⟩ := hR.at_stamp hz
          have hb' := hr'.s
          rw [hv] at hb'
          cases hb'
          exact ⟨_, hv, hlt, hR.born y' hy'⟩
        · rw [Array.getElem?_push] at hv
          by_cases hks : k = seen.size
          · rw [if_pos hks] at hv; cases hv
            rw [hks, hI.size]
            exact ⟨x, hx, hr.s, bytesOf kn kc, y.val, hkey, hval, hyk ▸ (hr.k.mono hle), hr.v.mono hle⟩
          · rw [if_neg hks] at hv
            obtain ⟨z, hz, q1, t, u, q2, q3, q4, q5⟩ := hsn k v hv
            exact ⟨z, hz, q1, t, u, hle.key _ _ q2, hle.val _ _ q3, q4.mono hle, q5.mono hle⟩
        · have := hno k (by omega)
          constructor
          · show (if h.fb + k = h.fb + j then _ else e.key (h.fb + k)) = none
            rw [if_neg (by omega)]; exact this.1
          · show (if h.fb + k = h.fb + j then _ else e.val (h.fb + k)) = none
            rw [if_neg (by omega)]; exact this.2
      · rw [if_neg hcb] at hc
        obtain ⟨l, o, hl, ho, hr'⟩ := s.ents c en hc
        refine ⟨l, o, hl, ?_, hr'.draw hle ?_⟩
        · show (w.heap.setIfInBounds _ _)[l.blk]? = _
          rw [Array.getElem?_setIfInBounds_ne (fun hx => hcb (hal c en l hc hl hx.symm))]; exact ho
        · rcases s.its c en hc with q | q
          · exact .inl q
          · right
            have q2 := s.its b _ hb
            have q3 : famE (.miter m j n fam lc ss) = fam := rfl
            rw [q3] at q2
            have q4 : h.fm.1 = h.fb := rfl
            rw [q4, q]
            omega
    · have hi' : (if i = h.fb + j then some (bytesOf kn kc) else e.key i) = some v := hi
      by_cases hij : i = h.fb + j
      · show i < h.next; omega
      · rw [if_neg hij] at hi'; exact s.keys i v hi'
    · have hi' : (if i = h.fb + j then some y.val else e.val i) = some v := hi
      by_cases hij : i = h.fb + j
      · show i < h.next; omega
      · rw [if_neg hij] at hi'; exact s.vals i v hi'
    · obtain ⟨en1, q1, q2, _⟩ := g c en hc
      obtain ⟨en2, q3, q4, _⟩ := g c' en' hc'
      rw [← q2, ← q4]
      exact s.sep c c' en1 en2 l1 l2 q1 q3 hl1 hl2 hne hblk
    · obtain ⟨en1, q1, q2, _⟩ := g c en hc
      obtain ⟨en2, q3, _, q4, _⟩ := g c' en' hc'
      rw [← q4]
      exact s.olds c c' en1 en2 l1 l2 q1 (q2 ▸ hm) q3 hl1 hl2 hblk
    · obtain ⟨en1, q1, q2, _⟩ := g c en hc
      exact s.oldsLt c c' en1 q1 (q2 ▸ hm)
    · have hkeyE : ∀ i t, inFam h.fb h.fam i = true → (e.draw (h.fb + j) (bytesOf kn kc) y.val).key i = some t → i ≠ h.fb + j → e.key i = some t := fun i t _ hi hne => by
        have hi' : (if i = h.fb + j then some (bytesOf kn kc) else e.key i) = some t := hi
        rw [if_neg hne] at hi'; exact hi'
      have hdiff : ∀ i t, inFam h.fb h.fam i = true → e.key i = some t → t ≠ bytesOf kn kc := fun i t hi ht heq => by
        rw [inFam_iff] at hi
        obtain ⟨k, rfl⟩ : ∃ k, i = h.fb + k := ⟨i - h.fb, by omega⟩
        have hkj : k < j := by
          rcases Nat.lt_or_ge k j with hh | hh
          · exact hh
          · have := (hno k hh).1
            have q : e.key (h.fb + k) = none := this
            rw [q] at ht; cases ht
        have hks : k < seen.size := by rw [hI.size]; exact hkj
        obtain ⟨z, hz, q1, t', u', q2, _, q3, _⟩ := hsn k seen[k] (Array.getElem?_eq_getElem hks)
        have q2' : e.key (h.fb + k) = some t' := q2
        rw [ht] at q2'; cases q2'
        obtain ⟨y', hy', hr'⟩ := hR.at_stamp hz
        obtain ⟨_, hvz⟩ := hfv z hz
        obtain ⟨n', c', hzk, hyk'⟩ := key_string (hfv z hz).1 hr'.k
        have hzt : Value.string t = y'.key := by
          rw [hzk] at q3
          rw [hyk']
          exact vr_str q3
        have hyy : y' = y := hR.key_inj hy' hy (by rw [← hzt, heq, hyk])
        have hb' := hr'.s
        rw [q1] at hb'
        have hbb : seen[k] = y.born := by rw [← hyy]; exact Option.some.inj hb'
        exact contains_false.1 hns (by rw [← hbb]; exact Array.getElem_mem_toList hks)
      refine ⟨fun i t hi ht => ?_, fun i i' t hi hi' ht ht' => ?_⟩
      · by_cases hij : i = h.fb + j
        · subst hij
          rw [hkey] at ht; cases ht
          exact ⟨x, hx, kn, kc, hxk, rfl, y.val, hval, hr.v.mono hle⟩
        · obtain ⟨kv, hkv, n1, c1, a, b, u, hu, hv⟩ := s.fam.key i t hi (hkeyE i t hi ht hij)
          exact ⟨kv, hkv, n1, c1, a, b, u, hle.val _ _ hu, hv.mono hle⟩
      · by_cases hij : i = h.fb + j
        · by_cases hij' : i' = h.fb + j
          · rw [hij, hij']
          · subst hij
            rw [hkey] at ht; cases ht
            exact absurd rfl (hdiff i' _ hi' (hkeyE i' _ hi' ht' hij'))
        · by_cases hij' : i' = h.fb + j
          · subst hij'
            rw [hkey] at ht'; cases ht'
            exact absurd rfl (hdiff i _ hi (hkeyE i _ hi ht hij))
          · exact s.fam.inj i i' t hi hi' (hkeyE i t hi ht hij) (hkeyE i' t hi' ht' hij')
    · obtain ⟨en1, q1, q2, _, q5, _⟩ := g c en hc
      obtain ⟨en2, q3, _, _, q6, _⟩ := g c' en' hc'
      rw [← q5, ← q6]
      exact s.ends c c' en1 en2 l1 l2 q1 (q2 ▸ hm) q3 hl1 hl2 hblk
    · obtain ⟨en1, q1, _, _, _, q5⟩ := g c en hc
      rw [← q5]; exact s.its c en1 q1
  · refine ⟨hle, Nat.le_refl _, by simp, fun X hX hO => ⟨?_, fun ⟨c, en2, l2, hc, hl2, hX2⟩ => ?_⟩, rfl, rfl, rfl, fun _ _ h => .inl h, fun c _ hg => (AH.get_set h b _ c).trans ((if_neg fun hx => by rw [hx, hb] at hg; cases hg).trans hg)⟩
    · show (w.heap.setIfInBounds L.blk _)[X]? = _
      rw [Array.getElem?_setIfInBounds_ne (fun hx => hO ⟨b, _, L, hb, hL, hx⟩)]
    · obtain ⟨en1, q1, _⟩ := g c en2 hc
      exact hO ⟨c, en1, l2, q1, hl2, hX2⟩
end
end
end Go.Xe
end
section
namespace Go.Xe
noncomputable section
section
variable {P : Program} {e : Env} {w : World}
theorem iterV_eq {α : Type} {a : AV} {k : Nat → Option α} {y : α} : iterV a k = some y ↔ ∃ b, a = .ptr b 0 ∧ k b = some y := by
  unfold iterV
  rw [ptrV_eq]
  constructor
  · rintro ⟨b, o, rfl, h⟩
    rw [grd_eq, beq_iff] at h
    obtain ⟨rfl, h⟩ := h
    exact ⟨b, rfl, h⟩
  · rintro ⟨b, rfl, h⟩
    exact ⟨b, 0, rfl, by rw [grd_eq]; exact ⟨rfl, h⟩⟩
theorem pairs_vr {a b : AV} {u v : Value} (q : Bool) (ha : VR e a u) (hb : VR e b v) : VR e (.tup [.bool q, a, b]) (.tuple #[.bool q, u, v]) :=
  .tup _ _ (.cons _ _ _ _ (.bool q) (.cons _ _ _ _ ha (.cons _ _ _ _ hb .nil)))
theorem over_vr : VR e overA (.tuple #[.bool false]) := .tup _ _ (.cons _ _ _ _ (.bool false) .nil)
theorem sstr0_vr {i : Nat} {t : ByteArray} (h : e.key i = some t) : VR e (.sstr 0 0 i) (.string t) := by
  have h1 : VR e (.sstr 0 0 i) (.string (bytesOf 0 0 ++ t)) := .sstr 0 0 i t h
  have h2 : bytesOf 0 0 ++ t = t := by
    apply ByteArray.ext
    rw [ByteArray.data_append]
    have : (bytesOf 0 0).data = #[] := rfl
    rw [this, Array.empty_append]
  rw [h2] at h1; exact h1
theorem plain_one {p : List ME} {ents : Array MapEntry} {clock : Nat} {x0 : ME} (hR : MapR e p ents clock) (hp : p = [x0]) : ∃ y0, ents.toList = [y0] ∧ MER e x0 y0 := by
  have hl := hR.length
  rw [hp] at hl
  obtain ⟨y0, hy0⟩ := List.length_eq_one_iff.1 hl
  obtain ⟨y, hy, hr⟩ := hR.at_stamp (x := x0) (by rw [hp]; exact List.mem_cons_self)
  rw [hy0] at hy
  rw [List.mem_singleton.1 hy] at hr
  exact ⟨y0, hy0, hr⟩
theorem next_sound {h : AH} (s : Sat e h w.heap) {str : Bool} {ty : TypeId} {it v : AV} {u : Value} {h' : AH} (hx : VR e it u) (hv : (iterV it fun b => bnd (h.get b) fun en => nextE b str h en) = some (v, h')) :
    Runs P (Instr.next u str ty) w fun u' w' => Out e h w v h' u' w' := by
  rw [iterV_eq] at hv
  obtain ⟨b, rfl, hv⟩ := hv
  rw [bnd_eq] at hv
  obtain ⟨en, hb, hv⟩ := hv
  obtain ⟨L, hL, rfl⟩ := vr_ptr hx
  obtain ⟨L', o, hL', ho, hr⟩ := s.ents b en hb
  rw [hL] at hL'; cases hL'
  cases en <;> try (simp [nextE] at hv; done)
  case siter n c p =>
    have hv' : grd str (ite' (Nat.blt p n)
      (bnd (decodeStr n c p) fun r => some (AV.tup [.bool true, mkNat p, .int .i32 (.ofNat r.1)], h.set b (.siter n c (Nat.add p r.2)))) (some (overA, h))) = some (v, h') := hv
    rw [grd_eq] at hv'
    obtain ⟨rfl, hv'⟩ := hv'
    cases hr with
    | siter _ _ _ _ h0 =>
      have hget : (getObj L.blk).run P w = .ok (.stringIter (bytesOf n c) p) w := by simp only [getObj, Sem.run, ho]
      rw [h0]
      rw [ite'_eq] at hv'
      rcases hv' with ⟨hp, hv'⟩ | ⟨hp, hv'⟩
      · rw [blt_iff] at hp
        rw [bnd_eq] at hv'
        obtain ⟨r, hd, hv'⟩ := hv'
        cases hv'
        unfold decodeStr at hd
        rw [frc_eq, grd_eq, blt_iff] at hd
        obtain ⟨hb128, hd⟩ := hd
        cases hd
        have hbyte := bytesOf_at (c := c) hp
        have hdec := decode_ascii (s := bytesOf n c) (i := p) (by rw [hbyte]; exact hb128)
        rw [hbyte] at hdec
        obtain ⟨s2, st2⟩ := iter_set s (en' := .siter n c (p + 1)) (o' := .stringIter (bytesOf n c) (p + 1)) (d := w.drawn) hb hL rfl (.siter _ _ _ _ h0) rfl rfl rfl rfl
        refine ⟨.tuple #[.bool true, goInt p, .int .i32 ((c / 256 ^ p % 256 : Nat) : Int)], _, ?_, e, s2, ?_, st2⟩
        · unfold Instr.next
          show Sem.run P (getObj L.blk >>= _) w = _
          rw [runM_bind, hget]
          show Sem.run P (if p < (bytesOf n c).size then _ else _) w = _
          rw [if_pos (by rw [bytesOf_size]; exact hp)]
          show Sem.run P (setObj L.blk (.stringIter (bytesOf n c) (p + (Utf8.decode (bytesOf n c) p).2)) >>= fun _ => pure (Value.tuple #[.bool true, goInt p, .int .i32 ((Utf8.decode (bytesOf n c) p).1 : Int)])) w = _
          rw [hdec, runM_bind]
          have hset : (setObj L.blk (.stringIter (bytesOf n c) (p + 1))).run P w = .ok () { w with heap := w.heap.setIfInBounds L.blk (.stringIter (bytesOf n c) (p + 1)) } := by simp only [setObj, Sem.run, ho]
          rw [hset]
          rfl
        · rw [mkNat_eq]
          exact pairs_vr true (.int _ _) (.int _ _)
      · cases hv'
        have hp' : ¬ p < n := fun h => by rw [(blt_iff _ _).2 h] at hp; cases hp
        refine ⟨.tuple #[.bool false], w, ?_, .same s over_vr⟩
        unfold Instr.next
        show Sem.run P (getObj L.blk >>= _) w = _
        rw [runM_bind, hget]
        show Sem.run P (if p < (bytesOf n c).size then _ else _) w = _
        rw [if_neg (by rw [bytesOf_size]; exact hp')]
        rfl
  case miter m j n fam lc ss =>
    cases hr with
    | miter _ _ _ _ _ _ _ mb since stepped seen hI h0 =>
      have hv' : ite' str none (bnd (h.map m) fun p =>
        ite' (Nat.beq fam 0)
          (grd (sameSt p.1 ss) (ite' (Nat.blt j n)
            (bnd (nth p.1 0) fun e => some (AV.tup [.bool true, e.k, e.v], h.set b (.miter m (Nat.succ j) n fam p.2 ss)))
            (some (overA, h))))
          (grd (Nat.beq fam h.fb) (grd (sameEs p.1 h.fam) (ite' (Nat.blt j n)
            (frc (Nat.add h.fb j) fun i => some (AV.tup [.bool true, .sstr 0 0 i, .sval i], h.set b (.miter m (Nat.succ j) n fam p.2 ss)))
            (some (overA, h)))))) = some (v, h') := hv
      rw [ite'_eq] at hv'
      rcases hv' with ⟨_, hv'⟩ | ⟨rfl, hv'⟩
      · cases hv'
      rw [bnd_eq] at hv'
      obtain ⟨p, hp, hv'⟩ := hv'
      obtain ⟨Lm, hLm, rfl⟩ := hI.map
      obtain ⟨hgm, ents, hH, hR⟩ := s.mapAt hp hLm
      rw [h0]
      rw [ite'_eq] at hv'
      rcases hv' with ⟨hf0, hv'⟩ | ⟨hf0, hv'⟩
      ·
        rw [beq_iff] at hf0
        subst hf0
        rw [grd_eq] at hv'
        obtain ⟨hss, hv'⟩ := hv'
        obtain ⟨hn, hn1, hst, hsn⟩ := hI.plain rfl
        have hS := stand (seen := seen) hR (sameSt_eq hss) hn hst hsn
        rcases run_mapNext (P := P) (ty := ty) ho hH hS.born hS.born2 with ⟨hall, hrun⟩ | ⟨y, hy, hyn, d, hrun⟩
        · rw [ite'_eq] at hv'
          rcases hv' with ⟨hj, _⟩ | ⟨_, hv'⟩
          · rw [blt_iff] at hj
            exact (hS.more hR.borns (by rw [hI.size]; exact hj) hall).elim
          · cases hv'
            exact ⟨_, w, hrun, .same s over_vr⟩
        · rw [ite'_eq] at hv'
          rcases hv' with ⟨hj, hv'⟩ | ⟨hj, _⟩
          · rw [blt_iff] at hj
            rw [bnd_eq] at hv'
            obtain ⟨x0, hx0, hv'⟩ := hv'
            cases hv'
            rw [nth_eq] at hx0
            have hpl : p.1.length = 1 := by
              have := congrArg List.length (sameSt_eq hss)
              simp at this; omega
            have hp1 : p.1 = [x0] := by
              obtain ⟨z, hz⟩ := List.length_eq_one_iff.1 hpl
              rw [hz] at hx0 ⊢
              simp at hx0; rw [hx0]
            obtain ⟨y0, hy0, hr0⟩ := plain_one hR hp1
            rw [hy0] at hy
            obtain rfl := List.mem_singleton.1 hy
            have hborn : ∀ x ∈ ss, e.stp x.s = some y.born := fun x hx => by
              have hm : x.s ∈ p.1.map (·.s) := by rw [sameSt_eq hss]; exact List.mem_map_of_mem hx
              rw [hp1] at hm
              have : x.s = x0.s := by simpa using hm
              rw [this]; exact hr0.s
            have hI' : IterR e h.fm m (j + 1) n 0 p.2 ss Lm.blk since p.2 (seen.push y.born) := by
              refine ⟨hI.map, by simp [hI.size], hj, ?_, rfl, fun _ => ⟨hn, hn1, fun x hx => ?_, fun k v hk => ?_⟩, fun h => absurd rfl h⟩
              · rw [Array.toList_push, List.nodup_append]
                refine ⟨hI.nodup, by simp, fun a ha b hb => ?_⟩
                rw [List.mem_singleton.1 hb]
                rintro rfl
                exact contains_false.1 hyn ha
              · obtain ⟨v, hv, hlt, _⟩ := hst x hx
                obtain ⟨y', hy', hs'⟩ := hS.all x hx
                rw [hv] at hs'
                cases hs'
                exact ⟨_, hv, hlt, hR.born y' hy'⟩
              · rw [Array.getElem?_push] at hk
                split at hk
                · cases hk
                  have hlen : 0 < ss.length := by omega
                  exact ⟨ss[0], List.getElem_mem hlen, hborn _ (List.getElem_mem hlen)⟩
                · exact hsn k v hk
            obtain ⟨s2, st2⟩ := iter_set s (en' := .miter m (j + 1) n 0 p.2 ss) (o' := .mapIter (some Lm.blk) since (seen.push y.born) p.2) (d := d) hb hL rfl (.miter _ _ _ _ _ _ _ _ _ _ _ hI' h0) rfl rfl rfl rfl
            exact ⟨_, _, hrun, e, s2, pairs_vr true hr0.k hr0.v, st2⟩
          · have hj' : ¬ j < n := fun h => by rw [(blt_iff _ _).2 h] at hj; cases hj
            have hjn : j = n := by have := hI.le; omega
            have := hS.done hR.borns hI.nodup (by rw [hI.size, hjn]) y hy
            rw [hyn] at this; cases this
      ·
        have hfam : fam ≠ 0 := fun h => by subst h; simp at hf0
        rw [grd_eq, grd_eq, beq_iff] at hv'
        obtain ⟨hfb, hes, hv'⟩ := hv'
        obtain ⟨hpf, hfv⟩ := sameEs_eq hes
        obtain ⟨hfn, hst, hsn, hno⟩ := hI.famly hfam hfb
        have hR' : MapR e h.fam ents p.2 := hpf ▸ hR
        have hfn' : h.fam.length = n := hfn
        have hS := stand (seen := seen) (n := n) hR' rfl hfn' hst (fun k v hk => by
          obtain ⟨x, hx, q, _⟩ := hsn k v hk; exact ⟨x, hx, q⟩)
        rcases run_mapNext (P := P) (ty := ty) ho hH hS.born hS.born2 with ⟨hall, hrun⟩ | ⟨y, hy, hyn, d, hrun⟩
        · rw [ite'_eq] at hv'
          rcases hv' with ⟨hj, _⟩ | ⟨_, hv'⟩
          · rw [blt_iff] at hj
            exact (hS.more hR.borns (by rw [hI.size]; exact hj) hall).elim
          · cases hv'
            exact ⟨_, w, hrun, .same s over_vr⟩
        · rw [ite'_eq] at hv'
          rcases hv' with ⟨hj, hv'⟩ | ⟨hj, _⟩
          · rw [blt_iff] at hj
            rw [frc_eq] at hv'
            cases hv'
            obtain ⟨t, hyk, hcu, s2, st2, hk2, hv2⟩ := s.draw (d := d) hb hL hI h0 hfam hfb hR' (fun x hx => hfv x (hpf ▸ hx)) hy hyn hj
            refine ⟨_, _, hrun, _, s2, ?_, st2⟩
            rw [hyk]
            exact pairs_vr true (sstr0_vr hk2) (.sval _ _ hv2 hcu)
          · have hj' : ¬ j < n := fun h => by rw [(blt_iff _ _).2 h] at hj; cases hj
            have hjn : j = n := by have := hI.le; omega
            have := hS.done hR.borns hI.nodup (by rw [hI.size, hjn]) y hy
            rw [hyn] at this; cases this
end
end
end Go.Xe
end
section
namespace Go.Xe
noncomputable section
section
variable {P : Program} {e : Env} {w : World}
theorem find_born {es : List ME} {ents : Array MapEntry} {clock : Nat} (hR : MapR e es ents clock) {y : MapEntry} (hy : y ∈ ents.toList) : ents.find? (fun x => x.born == y.born) = some y := by
  rw [← Array.find?_toList]
  have : ∀ {l : List MapEntry}, y ∈ l → (∀ x ∈ l, x.born = y.born → x = y) → l.find? (fun x => x.born == y.born) = some y := by
    intro l
    induction l with
    | nil => intro h; cases h
    | cons a l ih =>
      intro hm ha
      rw [List.find?_cons]
      by_cases hb : a.born = y.born
      · have := ha a List.mem_cons_self hb
        subst this
        simp
      · have : (a.born == y.born) = false := beq_eq_false_iff_ne.2 hb
        rw [this]
        refine ih ?_ fun x hx => ha x (List.mem_cons_of_mem _ hx)
        rcases List.mem_cons.1 hm with rfl | h
        · exact absurd rfl hb
        · exact h
  exact this hy fun x hx hb => hR.born_inj hx hy hb
theorem pair_vr {a b : AV} {u v : Value} (ha : VR e a u) (hb : VR e b v) : VR e (.tup [a, b]) (.tuple #[u, v]) := .tup _ _ (.cons _ _ _ _ ha (.cons _ _ _ _ hb .nil))
theorem run_entry {r m since : Nat} {seen : Array Nat} {es : List ME} {ents : Array MapEntry} {clock : Nat} (hr : w.heap[r]? = some (.mapIter (some m) since seen clock)) (hm : w.heap[m]? = some (.map ents clock))
    (hR : MapR e es ents clock) {y : MapEntry} (hy : y ∈ ents.toList) (hs : seen.back? = some y.born) : (Instr.entry (.pointer (some ⟨r, 0, none⟩))).run P w = .ok (.tuple #[y.key, y.val]) w := by
  have hget : (getObj r).run P w = .ok (.mapIter (some m) since seen clock) w := by simp only [getObj, Sem.run, hr]
  unfold Instr.entry
  show Sem.run P (getObj r >>= _) w = _
  rw [runM_bind, hget]
  simp only [hs]
  show Sem.run P (getObj m >>= _) w = _
  rw [runM_bind, run_getMap hm]
  show Sem.run P (if (clock != clock) = true then _ else _) w = _
  rw [if_neg (by simp)]
  show Sem.run P (match ents.find? (fun x => x.born == y.born) with | some e => _ | none => _) w = _
  rw [find_born hR hy]
  rfl
theorem entry_sound {h : AH} (s : Sat e h w.heap) {it v : AV} {u : Value} (hx : VR e it u) (hv : (iterV it fun b => bnd (h.get b) fun en => entryE h en) = some v) :
    Runs P (Instr.entry u) w fun u' w' => VR e v u' ∧ w' = w := by
  rw [iterV_eq] at hv
  obtain ⟨b, rfl, hv⟩ := hv
  rw [bnd_eq] at hv
  obtain ⟨en, hb, hv⟩ := hv
  obtain ⟨L, hL, rfl⟩ := vr_ptr hx
  obtain ⟨L', o, hL', ho, hr⟩ := s.ents b en hb
  rw [hL] at hL'; cases hL'
  cases en <;> try (simp [entryE] at hv; done)
  case miter m j n fam lc ss =>
    cases hr with
    | miter _ _ _ _ _ _ _ mb since stepped seen hI h0 =>
      have hv' : bnd (h.map m) (fun p => grd (Nat.beq lc p.2)
        (ite' (Nat.beq fam 0)
          (grd (sameSt p.1 ss) (grd (Nat.beq j 1) (bnd (nth p.1 0) fun e => some (AV.tup [e.k, e.v]))))
          (grd (Nat.beq fam h.fb) (grd (sameEs p.1 h.fam) (grd (Nat.blt 0 j) (frc (Nat.add h.fb (Nat.pred j)) fun i => some (AV.tup [.sstr 0 0 i, .sval i]))))))) = some v := hv
      rw [bnd_eq] at hv'
      obtain ⟨p, hp, hv'⟩ := hv'
      rw [grd_eq, beq_iff] at hv'
      obtain ⟨rfl, hv'⟩ := hv'
      obtain ⟨Lm, hLm, rfl⟩ := hI.map
      obtain ⟨hgm, ents, hH, hR⟩ := s.mapAt hp hLm
      rw [h0]
      have hst' := hI.st
      subst hst'
      have hlast : ∀ k, j = k + 1 → ∃ y, seen.back? = some y ∧ seen[k]? = some y := fun k hk => by
        have hsz := hI.size
        have : seen.back? = seen[seen.size - 1]? := rfl
        rw [this, hsz, hk, Nat.add_sub_cancel]
        exact ⟨seen[k], Array.getElem?_eq_getElem (by omega), Array.getElem?_eq_getElem (by omega)⟩
      rw [ite'_eq] at hv'
      rcases hv' with ⟨hf0, hv'⟩ | ⟨hf0, hv'⟩
      · rw [beq_iff] at hf0
        subst hf0
        rw [grd_eq, grd_eq, beq_iff, bnd_eq] at hv'
        obtain ⟨hss, rfl, x0, hx0, hv'⟩ := hv'
        cases hv'
        obtain ⟨hn, hn1, hst, hsn⟩ := hI.plain rfl
        rw [nth_eq] at hx0
        have hle := hI.le
        have hpl : p.1.length = 1 := by
          have := congrArg List.length (sameSt_eq hss)
          simp at this; omega
        have hp1 : p.1 = [x0] := by
          obtain ⟨z, hz⟩ := List.length_eq_one_iff.1 hpl
          rw [hz] at hx0 ⊢
          simp at hx0; rw [hx0]
        obtain ⟨y0, hy0, hr0⟩ := plain_one hR hp1
        obtain ⟨v, hback, hk⟩ := hlast 0 rfl
        obtain ⟨x, hx, hxs⟩ := hsn 0 v hk
        have hm : x.s ∈ p.1.map (·.s) := by rw [sameSt_eq hss]; exact List.mem_map_of_mem hx
        rw [hp1] at hm
        have hxx : x.s = x0.s := by simpa using hm
        rw [hxx, hr0.s] at hxs
        cases hxs
        exact ⟨_, w, run_entry ho hH hR (y := y0) (by rw [hy0]; exact List.mem_cons_self) hback, pair_vr hr0.k hr0.v, rfl⟩
      · have hfam : fam ≠ 0 := fun h => by subst h; simp at hf0
        rw [grd_eq, grd_eq, grd_eq, beq_iff, blt_iff, frc_eq] at hv'
        obtain ⟨hfb, hes, hj, hv'⟩ := hv'
        cases hv'
        obtain ⟨hpf, hfv⟩ := sameEs_eq hes
        obtain ⟨hfn, hst, hsn, hno⟩ := hI.famly hfam hfb
        obtain ⟨k, rfl⟩ : ∃ k, j = k + 1 := ⟨j - 1, by omega⟩
        obtain ⟨v, hback, hk⟩ := hlast k rfl
        obtain ⟨x, hx, hxs, t, u, hkey, hval, hxk, hxv⟩ := hsn k v hk
        have hx' : x ∈ p.1 := by rw [hpf]; exact hx
        obtain ⟨y, hy, hr'⟩ := hR.at_stamp hx'
        have hb' := hr'.s
        rw [hxs] at hb'
        cases hb'
        obtain ⟨n', c', hzk, hyk⟩ := key_string (hfv x hx').1 hr'.k
        have hyt : y.key = .string t := by
          rw [hzk] at hxk
          rw [hyk]; exact (vr_str hxk).symm
        obtain ⟨hyv, hcu⟩ := vr_fam (hfv x hx').2 hr'.v hxv
        refine ⟨_, w, run_entry ho hH hR hy hback, ?_, rfl⟩
        rw [hyt]
        exact pair_vr (sstr0_vr hkey) (.sval _ _ (by rw [hyv]; exact hval) hcu)
theorem failsA_sound {t xt : TypeId} {ok : Bool} {v : AV} (hv : failsA P t ok = some v) (st dy : Option TypeId) (ms : String) :
    Runs P (do if ok then pure (Value.tuple #[← zeroValue t, .bool false]) else runtimePanic (.typeAssertion st dy t ms) : Sem Value) w fun u w' => VR e v u ∧ w' = w := by
  unfold failsA at hv
  rw [grd_eq, bnd_eq] at hv
  obtain ⟨rfl, z, hz, hv⟩ := hv
  cases hv
  obtain ⟨uz, hr, hzr⟩ := run_zero (P := P) (w := w) (e := e) hz
  refine ⟨.tuple #[uz, .bool false], w, ?_, pair_vr hzr (.bool false), rfl⟩
  rw [if_pos rfl]
  show Sem.run P (zeroValue t >>= _) w = _
  rw [runM_bind, hr]; rfl
theorem typeAssert_sound {t xt : TypeId} {d : TypeDesc} {ok : Bool} {x v : AV} {u : Value} (hd : P.underlying t = some d) (hx : VR e x u) (hv : assertD P t ok x d = some v) :
    Runs P (Instr.typeAssert u xt t ok) w fun u' w' => VR e v u' ∧ w' = w := by
  unfold Instr.typeAssert
  refine Runs.run_eq (runs_under' hd) ?_
  have holds : ∀ {a : AV} {ua : Value}, VR e a ua → v = commaOk ok a true → Runs P (pure (if ok then .tuple #[ua, .bool true] else ua) : Sem Value) w fun u' w' => VR e v u' ∧ w' = w := fun ha hvv => by
    subst hvv
    exact Runs.pure' ⟨commaOk_vr ha true, rfl⟩
  by_cases hi : ∃ ms, d = .interface ms
  · obtain ⟨ms, rfl⟩ := hi
    cases x <;> try (simp [assertD] at hv; done)
    case ifc t' a =>
      have hv' : bnd (P.info? t') (fun i => ite' (isNone (Instr.missingMethod ms i.methods)) (some (commaOk ok (.ifc t' a) true)) (failsA P t ok)) = some v := hv
      rw [bnd_eq] at hv'
      obtain ⟨i, hinf, hv'⟩ := hv'
      cases hx with
      | ifc _ _ ua ha =>
        refine Runs.bind' ⟨i, w, run_info hinf, ?_⟩
        rw [ite'_eq] at hv'
        rcases hv' with ⟨hm, hv'⟩ | ⟨hm, hv'⟩
        · cases hv'
          cases hmm : Instr.missingMethod ms i.methods with
          | none => simp only [hmm]; exact holds (.ifc _ _ _ ha) rfl
          | some m => rw [hmm] at hm; cases hm
        · cases hmm : Instr.missingMethod ms i.methods with
          | none => rw [hmm] at hm; cases hm
          | some m => simp only [hmm]; exact failsA_sound (xt := xt) hv' none (some t') m
    case inil =>
      cases hx
      exact failsA_sound (xt := xt) hv none none ""
  · cases x <;> try (cases d <;> simp [assertD] at hv; done)
    case ifc t' a =>
      have hv' : ite' (Nat.beq t t') (some (commaOk ok a true)) (failsA P t ok) = some v := by
        cases d <;> first | exact hv | exact absurd ⟨_, rfl⟩ hi
      cases hx with
      | ifc _ _ ua ha =>
        refine Runs.run_eq (b := if t' = t then pure (if ok then .tuple #[ua, .bool true] else ua) else (do if ok then pure (Value.tuple #[← zeroValue t, .bool false]) else runtimePanic (.typeAssertion (some xt) (some t') t "")))
          (by cases d <;> first | rfl | exact absurd ⟨_, rfl⟩ hi) ?_
        rw [ite'_eq, beq_iff] at hv'
        rcases hv' with ⟨rfl, hv'⟩ | ⟨hne, hv'⟩
        · cases hv'
          rw [if_pos rfl]
          exact holds ha rfl
        · have : t' ≠ t := fun h => by subst h; rw [(beq_iff _ _).2 rfl] at hne; cases hne
          rw [if_neg this]
          exact failsA_sound (xt := xt) hv' (some xt) (some t') ""
    case inil =>
      cases hx
      have hv' : failsA P t ok = some v := by
        cases d <;> first | exact hv | exact absurd ⟨_, rfl⟩ hi
      refine Runs.run_eq (b := (do if ok then pure (Value.tuple #[← zeroValue t, .bool false]) else runtimePanic (.typeAssertion (some xt) none t "")))
          (by cases d <;> first | rfl | exact absurd ⟨_, rfl⟩ hi) ?_
      exact failsA_sound (xt := xt) hv' (some xt) none ""
end
end
end Go.Xe
end
section
namespace Go.Xe
noncomputable section
structure POk (P : Program) : Prop where
  num : ∀ (f : Nat) (fn : Func), P.funcs[f]? = some fn → (fn.name == "runtime.NumGoroutine") = false
def OutO (e : Env) (h : AH) (w : World) (o : O) (n : Next) (w' : World) : Prop := match o with
  | .val v h' => ∃ e' u, n = .value u ∧ Sat e' h' w'.heap ∧ VR e' v u ∧ Step e h w e' h' w'
  | .skip h' => ∃ e', n = .skip ∧ Sat e' h' w'.heap ∧ Step e h w e' h' w'
  | .enter f args h' => h' = h ∧ w' = w ∧ ∃ us, n = .enter f us ∧ VRs e args us.toList
  | .round l tm nt asg body h' => h' = h ∧ w' = w ∧ ∃ L fn tmps, n = .round L.blk fn tmps asg body ∧ e.loc l = some L ∧ TR e tm nt tmps
  | .dfr d h' => h' = h ∧ w' = w ∧ ∃ d', n = .defer d' ∧ DR e d d'
  | .no => False
section
variable {P : Program} {e : Env} {w : World}
theorem OutO.val_ {h h' : AH} {v : AV} {u : Value} {w' : World} (x : Out e h w v h' u w') : OutO e h w (.val v h') (.value u) w' :=
  let ⟨e', s, hv, st⟩ := x; ⟨e', u, rfl, s, hv, st⟩
theorem OutO.skip_ {h h' : AH} {w' : World} (x : OutH e h w h' w') : OutO e h w (.skip h') .skip w' :=
  let ⟨e', s, st⟩ := x; ⟨e', rfl, s, st⟩
theorem callF_sound (ok : POk P) {h : AH} (s : Sat e h w.heap) {f : Nat} {args : List AV} {us : Array Value} {o : O} (ha : VRs e args us.toList) (hv : callF P f args h = o) (hn : o ≠ .no) :
    Runs P (callFunc f us) w fun n w' => OutO e h w o n w' := by
  unfold callF at hv
  cases hf : P.funcs[f]? with
  | none => rw [hf] at hv; exact absurd hv.symm hn
  | some fn =>
    rw [hf, oE_some] at hv
    cases hb : fn.body with
    | none =>
      rw [hb, oE_none] at hv
      unfold ofVH at hv
      cases hx : externA fn.name fn.origin args h with
      | none => rw [hx] at hv; exact absurd hv.symm hn
      | some p =>
        rw [hx, oE_some] at hv
        subst hv
        obtain ⟨v, h'⟩ := p
        exact (extern_sound s hf hb ha hx).mono fun n w' ⟨u, hu, ho⟩ => by subst hu; exact .val_ ho
    | some c =>
      rw [hb, oE_some] at hv
      subst hv
      refine ⟨.enter f us, w, ?_, rfl, rfl, us, rfl, ha⟩
      unfold callFunc
      show Sem.run P (match P.funcs[f]? with | none => _ | some fn => _) w = _
      rw [hf]
      show Sem.run P (if (fn.name == "runtime.NumGoroutine") = true then _ else if fn.body.isNone = true then _ else _) w = _
      rw [if_neg (by rw [ok.num f fn hf]; simp), if_neg (by rw [hb]; simp)]
      rfl
theorem methodA_sound {t f : Nat} {name : String} {v : Value} (hm : methodA P t name = some f) : ∀ k, (method (k + 1) t v name).run P w = .ok (f, v) w := by
  intro k
  unfold methodA at hm
  rw [bnd_eq] at hm
  obtain ⟨i, hi, hm⟩ := hm
  rw [bnd_eq] at hm
  obtain ⟨m, hfind, hm⟩ := hm
  rw [grd_eq, isNil_iff, bnd_eq] at hm
  obtain ⟨hp, ⟨f', pr⟩, hfp, hm⟩ := hm
  rw [grd_eq] at hm
  obtain ⟨hrec, hm⟩ := hm
  cases hm
  have hfind' : i.methods.find? (·.name == name) = some m := by rw [← Array.find?_toList]; exact hfind
  unfold method
  show Sem.run P (typeInfo t >>= _) w = _
  rw [runM_bind, run_info hi]
  simp only [hfind', hp]
  show Sem.run P ((pure (t, Place.val v) : Sem (TypeId × Place)) >>= _) w = _
  rw [runM_bind]
  have h1 : Sem.run P (pure (t, Place.val v) : Sem (TypeId × Place)) w = .ok (t, .val v) w := rfl
  rw [h1]
  simp only [hfp]
  unfold receiverOk at hrec
  cases hd : P.underlying t with
  | none => rw [hd] at hrec; cases hrec
  | some d =>
    rw [hd] at hrec
    have hrec' : ite' pr (isPointer d) (ite' (isPointer d) false true) = true := hrec
    have hrun : ∀ nm, (receiverAt t (.val v) pr nm).run P w = .ok v w := fun nm => by
      unfold receiverAt
      rw [runs_under' hd]
      cases pr with
      | true =>
        have h2 : isPointer d = true := hrec'
        cases d <;> first | rfl | (simp [isPointer] at h2)
      | false =>
        have h2 : isPointer d = false := by
          have : ite' (isPointer d) false true = true := hrec'
          cases hq : isPointer d
          · rfl
          · rw [hq] at this; cases this
        cases d <;> first | rfl | (simp [isPointer] at h2)
    show Sem.run P (receiverAt t (.val v) pr _ >>= _) w = _
    rw [runM_bind, hrun]
    rfl
theorem invokeM_sound (ok : POk P) {h : AH} (s : Sat e h w.heap) {name : String} {args : List AV} {us : Array Value} {o : O} (ha : VRs e args us.toList) (hv : invokeM P name args h = o) (hn : o ≠ .no) :
    Runs P (do
      let some recv := us[0]? | stuck "call: a method without a receiver"
      callMethod recv name (us.extract 1 us.size)) w fun n w' => OutO e h w o n w' := by
  cases args with
  | nil => exact absurd hv.symm hn
  | cons r as =>
    cases r <;> try (exact absurd hv.symm hn)
    rename_i t v
    have hv2 : ofO (bnd (methodA P t name) fun f => some (callF P f (v :: as) h)) = o := hv
    cases hm : methodA P t name with
    | none => rw [hm] at hv2; exact absurd hv2.symm hn
    | some f =>
      rw [hm] at hv2
      have hv3 : callF P f (v :: as) h = o := hv2
      obtain ⟨us⟩ := us
      cases ha with
      | cons _ ur _ ut hr ht =>
        cases hr with
        | ifc _ _ uv hvr =>
          have hex : (⟨Value.iface t uv :: ut⟩ : Array Value).extract 1 (⟨Value.iface t uv :: ut⟩ : Array Value).size = ⟨ut⟩ := by
            apply Array.ext'
            simp
          refine Runs.run_eq (b := callFunc f (#[uv] ++ ⟨ut⟩)) ?_ (callF_sound ok s (us := #[uv] ++ ⟨ut⟩) ?_ hv3 hn)
          · show Sem.run P (callMethod (.iface t uv) name ((⟨Value.iface t uv :: ut⟩ : Array Value).extract 1 (⟨Value.iface t uv :: ut⟩ : Array Value).size)) w = _
            rw [hex]
            unfold callMethod
            show Sem.run P (method (P.types.size + Made.depth) t uv name >>= fun x => callFunc x.1 (#[x.2] ++ ⟨ut⟩)) w = _
            have hfu : P.types.size + Made.depth = (P.types.size + 99) + 1 := rfl
            rw [runM_bind, hfu, methodA_sound hm]
          · have : (#[uv] ++ (⟨ut⟩ : Array Value)).toList = uv :: ut := by simp
            rw [this]
            exact .cons _ _ _ _ hvr ht
theorem putParams_sound {nt : Nat} {ps : List Nat} {args : List AV} {tm tm' : Tr AV} {a : Array Value} {us : List Value} (ht : TR e tm nt a) (ha : VRs e args us) (hp : putParams nt ps args tm = some tm') :
    ps.length = us.length ∧ TR e tm' nt ((ps.zip us).foldl (fun tmps (x : Nat × Value) => tmps.setIfInBounds x.1 x.2) a) := by
  induction ps generalizing args tm us a with
  | nil =>
    have hp' : grd (isNil args) (some tm) = some tm' := hp
    rw [grd_eq, isNil_iff] at hp'
    obtain ⟨rfl, hp'⟩ := hp'
    cases hp'
    cases ha
    exact ⟨rfl, ht⟩
  | cons p ps ih =>
    cases args with
    | nil => cases hp
    | cons x args =>
      have hp' : grd (Nat.blt p nt) (putParams nt ps args (Tr.put (some x) (Nat.succ p) tm p)) = some tm' := hp
      rw [grd_eq, blt_iff] at hp'
      obtain ⟨hlt, hp'⟩ := hp'
      cases ha with
      | cons _ u _ us' hx ht' =>
        obtain ⟨h1, h2⟩ := ih (ht.put hlt hx) ht' hp'
        exact ⟨by simp [h1], h2⟩
theorem yield_sound {h : AH} (s : Sat e h w.heap) {l : Nat} {L : Loc} {args : List AV} {us : Array Value} {o : O} {en : Ent} (hl : e.loc l = some L) (hb : h.get l = some en) (ha : VRs e args us.toList) (hv : yieldE l args h en = o) (hn : o ≠ .no) :
    Runs P (Instr.yield L.blk us) w fun n w' => OutO e h w o n w' := by
  cases en <;> try (exact absurd hv.symm hn)
  rename_i st pend tm nt ps asg body d
  have hv' : ofO (bnd (putParams nt ps args tm) fun tm => some (.round l tm nt asg body h)) = o := hv
  cases hp : putParams nt ps args tm with
  | none => rw [hp] at hv'; exact absurd hv'.symm hn
  | some tm' =>
    rw [hp] at hv'
    have hv2 : O.round l tm' nt asg body h = o := hv'
    subst hv2
    obtain ⟨L', ob, hL', ho, hr⟩ := s.ents l _ hb
    rw [hl] at hL'; cases hL'
    cases hr with
    | loop R tm nt d _ ld ht hd hbl =>
      obtain ⟨hlen, htr⟩ := putParams_sound ht ha hp
      have hsz : us.size = R.params.size := by simpa using hlen.symm
      refine ⟨.round L.blk R.fn ((R.params.zip us).foldl (fun tmps (x : Nat × Value) => tmps.setIfInBounds x.1 x.2) R.tmps) R.assign R.body, w, ?_, rfl, rfl, L, R.fn, _, rfl, hl, ?_⟩
      · unfold Instr.yield
        have hget : (getObj L.blk).run P w = .ok (.loop R) w := by simp only [getObj, Sem.run, ho]
        have hgl : (Instr.getLoop L.blk).run P w = .ok R w := by
          unfold Instr.getLoop
          rw [runM_bind, hget]; rfl
        rw [runM_bind, hgl]
        show Sem.run P (if us.size ≠ R.params.size then _ else _) w = _
        rw [if_neg (by simp [hsz])]
        rfl
      · have : (R.params.zip us).foldl (fun tmps (x : Nat × Value) => tmps.setIfInBounds x.1 x.2) R.tmps = (R.params.toList.zip us.toList).foldl (fun tmps (x : Nat × Value) => tmps.setIfInBounds x.1 x.2) R.tmps := by
          rw [← Array.foldl_toList, Array.toList_zip]
        rw [this]; exact htr
theorem invokeFn_sound (ok : POk P) {h : AH} (s : Sat e h w.heap) {fn fn' : Fn} {capt args : List AV} {ucapt us : Array Value} {o : O} (hf : FnR e fn fn') (hc : VRs e capt ucapt.toList) (ha : VRs e args us.toList) (hv : invokeFn P capt args h fn = o) (hn : o ≠ .no) :
    Runs P (invoke (.fn fn' ucapt) us) w fun n w' => OutO e h w o n w' := by
  cases hf with
  | yield l L hl =>
    have hv' : ofO (bnd (h.get l) fun en => some (yieldE l args h en)) = o := hv
    cases hb : h.get l with
    | none => rw [hb] at hv'; exact absurd hv'.symm hn
    | some en =>
      rw [hb] at hv'
      exact yield_sound s hl hb ha hv' hn
  | same _ hy =>
    cases fn <;> try (exact absurd hv.symm hn)
    case func f =>
      have hv' : callF P f (app args capt) h = o := hv
      rw [app_eq] at hv'
      exact callF_sound ok s (us := us ++ ucapt) (by rw [Array.toList_append]; exact ha.app hc) hv' hn
    case method name =>
      have hv' : invokeM P name args h = o := hv
      exact invokeM_sound ok s ha hv' hn
    case yield => simp [notYield] at hy
end
end
end Go.Xe
end
