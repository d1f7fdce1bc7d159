/-
  Iterators: next and entry; entry; assertions of types; functions that are made; Calls: what is called, and with what; One operation of the executor ag. Conditions: none.
-/
import Derived.Test.YtppjodfehhlniaaGreatDoorYaToYe
set_option linter.unusedVariables false
set_option linter.unusedSimpArgs false
set_option linter.unusedSectionVars false
section
namespace Go.Xe
noncomputable section
section
variable {P : Program} {e : Env} {w : World}
theorem zoY {α : Type} {a : AV} {k : Nat → Option α} {y : α} : zpq a k = some y ↔ ∃ b, a = .ptr b 0 ∧ k b = some y := by
 unfold zpq
 rw [zek]
 constructor
 ·rintro ⟨b, o, rfl, h⟩
  rw [zac, zae] at h
  obtain ⟨rfl, h⟩ := h
  exact ⟨b, rfl, h⟩
 ·rintro ⟨b, rfl, h⟩
  exact ⟨b, 0, rfl, by rw [zac]; exact ⟨rfl, h⟩⟩
theorem zkU {a b : AV} {u v : Value} (q : Bool) (ha : VR e a u) (hb : VR e b v) : VR e (.tup [.bool q, a, b]) (.tuple #[.bool q, u, v]) :=
 .tup _ _ (.cons _ _ _ _ (.bool q) (.cons _ _ _ _ ha (.cons _ _ _ _ hb .nil)))
theorem znE : VR e znh (.tuple #[.bool false]) := .tup _ _ (.cons _ _ _ _ (.bool false) .nil)
theorem zoZ {i : Nat} {t : ByteArray} (h : e.key i = some t) : VR e (.sstr 0 0 i) (.string t) := by
 have h1 : VR e (.sstr 0 0 i) (.string (zad 0 0 ++ t)) := .sstr 0 0 i t h
 have h2 : zad 0 0 ++ t = t := by
  apply ByteArray.ext
  rw [ByteArray.data_append]
  have : (zad 0 0).data = #[] := rfl
  rw [this, Array.empty_append]
 rw [h2] at h1; exact h1
theorem zl6 {p : List ME} {ents : Array MapEntry} {clock : Nat} {x0 : ME} (hR : MapR e p ents clock) (hp : p = [x0]) : ∃ y0, ents.toList = [y0] ∧ MER e x0 y0 := by
 have hl := hR.length
 rw [hp] at hl
 obtain ⟨y0, hy0⟩ := List.length_eq_one_iff.1 hl
 obtain ⟨y, hy, hr⟩ := hR.at_stamp (x := x0) (by rw [hp]; exact List.mem_cons_self)
 rw [hy0] at hy
 rw [List.mem_singleton.1 hy] at hr
 exact ⟨y0, hy0, hr⟩
theorem zpK {h : AH} (s : Sat e h w.heap) {str : Bool} {ty : TypeId} {it v : AV} {u : Value} {h' : AH} (hx : VR e it u) (hv : (zpq it fun b => bnd (h.get b) fun en => zum b str h en) = some (v, h')) :
  Runs P (Instr.next u str ty) w fun u' w' => Out e h w v h' u' w' := by
 rw [zoY] at hv
 obtain ⟨b, rfl, hv⟩ := hv
 rw [zaa] at hv
 obtain ⟨en, hb, hv⟩ := hv
 obtain ⟨L, hL, rfl⟩ := zcT hx
 obtain ⟨L', o, hL', ho, hr⟩ := s.ents b en hb
 rw [hL] at hL'; cases hL'
 cases en <;> try (simp [zum] at hv; done)
 case siter n c p =>
  have hv' : grd str (ite' (Nat.blt p n)
   (bnd (zhP n c p) fun r => some (AV.tup [.bool true, zdI p, .int .i32 (.ofNat r.1)], h.set b (.siter n c (Nat.add p r.2)))) (some (znh, h))) = some (v, h') := hv
  rw [zac] at hv'
  obtain ⟨rfl, hv'⟩ := hv'
  cases hr with
  | siter _ _ _ _ h0 =>
    have hget : (getObj L.blk).run P w = .ok (.stringIter (zad n c) p) w := by simp only [getObj, Sem.run, ho]
    rw [h0]
    rw [zav] at hv'
    rcases hv' with ⟨hp, hv'⟩ | ⟨hp, hv'⟩
    ·rw [zau] at hp
     rw [zaa] at hv'
     obtain ⟨r, hd, hv'⟩ := hv'
     cases hv'
     unfold zhP at hd
     rw [zaL, zac, zau] at hd
     obtain ⟨hb128, hd⟩ := hd
     cases hd
     have hbyte := zpJ (c := c) hp
     have hdec := zl5 (s := zad n c) (i := p) (by rw [hbyte]; exact hb128)
     rw [hbyte] at hdec
     obtain ⟨s2, st2⟩ := zoX s (en' := .siter n c (p + 1)) (o' := .stringIter (zad n c) (p + 1)) (d := w.drawn) hb hL rfl (.siter _ _ _ _ h0) rfl rfl rfl rfl
     refine ⟨.tuple #[.bool true, goInt p, .int .i32 ((c / 256 ^ p % 256 : Nat) : Int)], _, ?_, e, s2, ?_, st2⟩
     ·unfold Instr.next
      show Sem.run P (getObj L.blk >>= _) w = _
      rw [zab, hget]
      show Sem.run P (if p < (zad n c).size then _ else _) w = _
      rw [if_pos (by rw [zaM]; exact hp)]
      show Sem.run P (setObj L.blk (.stringIter (zad n c) (p + (Utf8.decode (zad n c) p).2)) >>= fun _ => pure (Value.tuple #[.bool true, goInt p, .int .i32 ((Utf8.decode (zad n c) p).1 : Int)])) w = _
      rw [hdec, zab]
      have hset : (setObj L.blk (.stringIter (zad n c) (p + 1))).run P w = .ok () { w with heap := w.heap.setIfInBounds L.blk (.stringIter (zad n c) (p + 1)) } := by simp only [setObj, Sem.run, ho]
      rw [hset]
      rfl
     ·rw [zeO]
      exact zkU true (.int _ _) (.int _ _)
    ·cases hv'
     have hp' : ¬ p < n := fun h => by rw [(zau _ _).2 h] at hp; cases hp
     refine ⟨.tuple #[.bool false], w, ?_, .same s znE⟩
     unfold Instr.next
     show Sem.run P (getObj L.blk >>= _) w = _
     rw [zab, hget]
     show Sem.run P (if p < (zad n c).size then _ else _) w = _
     rw [if_neg (by rw [zaM]; exact hp')]
     rfl
 case miter m j n fam lc ss =>
  cases hr with
  | miter _ _ _ _ _ _ _ mb since stepped seen hI h0 =>
    have hv' : ite' str none (bnd (h.map m) fun p =>
     ite' (Nat.beq fam 0)
      (grd (zjx p.1 ss) (ite' (Nat.blt j n)
       (bnd (nth p.1 0) fun e => some (AV.tup [.bool true, e.k, e.v], h.set b (.miter m (Nat.succ j) n fam p.2 ss)))
       (some (znh, h))))
      (grd (Nat.beq fam h.fb) (grd (zjy p.1 h.fam) (ite' (Nat.blt j n)
       (frc (Nat.add h.fb j) fun i => some (AV.tup [.bool true, .sstr 0 0 i, .sval i], h.set b (.miter m (Nat.succ j) n fam p.2 ss)))
       (some (znh, h)))))) = some (v, h') := hv
    rw [zav] at hv'
    rcases hv' with ⟨_, hv'⟩ | ⟨rfl, hv'⟩
    ·cases hv'
    rw [zaa] at hv'
    obtain ⟨p, hp, hv'⟩ := hv'
    obtain ⟨Lm, hLm, rfl⟩ := hI.map
    obtain ⟨hgm, ents, hH, hR⟩ := s.mapAt hp hLm
    rw [h0]
    rw [zav] at hv'
    rcases hv' with ⟨hf0, hv'⟩ | ⟨hf0, hv'⟩
    ·
     rw [zae] at hf0
     subst hf0
     rw [zac] at hv'
     obtain ⟨hss, hv'⟩ := hv'
     obtain ⟨hn, hn1, hst, hsn⟩ := hI.plain rfl
     have hS := zvr (seen := seen) hR (zeu hss) hn hst hsn
     rcases zir (P := P) (ty := ty) ho hH hS.born hS.born2 with ⟨hall, hrun⟩ | ⟨y, hy, hyn, d, hrun⟩
     ·rw [zav] at hv'
      rcases hv' with ⟨hj, _⟩ | ⟨_, hv'⟩
      ·rw [zau] at hj
       exact (hS.more hR.borns (by rw [hI.size]; exact hj) hall).elim
      ·cases hv'
       exact ⟨_, w, hrun, .same s znE⟩
     ·rw [zav] at hv'
      rcases hv' with ⟨hj, hv'⟩ | ⟨hj, _⟩
      ·rw [zau] at hj
       rw [zaa] at hv'
       obtain ⟨x0, hx0, hv'⟩ := hv'
       cases hv'
       rw [zbf] at hx0
       have hpl : p.1.length = 1 := by
        have := congrArg List.length (zeu hss)
        simp at this; omega
       have hp1 : p.1 = [x0] := by
        obtain ⟨z, hz⟩ := List.length_eq_one_iff.1 hpl
        rw [hz] at hx0 ⊢
        simp at hx0; rw [hx0]
       obtain ⟨y0, hy0, hr0⟩ := zl6 hR hp1
       rw [hy0] at hy
       obtain rfl := List.mem_singleton.1 hy
       have hborn : ∀ x ∈ ss, e.stp x.s = some y.born := fun x hx => by
        have hm : x.s ∈ p.1.map (·.s) := by rw [zeu hss]; exact List.mem_map_of_mem hx
        rw [hp1] at hm
        have : x.s = x0.s := by simpa using hm
        rw [this]; exact hr0.s
       have hI' : IterR e h.fm m (j + 1) n 0 p.2 ss Lm.blk since p.2 (seen.push y.born) := by
        refine ⟨hI.map, by simp [hI.size], hj, ?_, rfl, fun _ => ⟨hn, hn1, fun x hx => ?_, fun k v hk => ?_⟩, fun h => absurd rfl h⟩
        ·rw [Array.toList_push, List.nodup_append]
         refine ⟨hI.nodup, by simp, fun a ha b hb => ?_⟩
         rw [List.mem_singleton.1 hb]
         rintro rfl
         exact zdl.1 hyn ha
        ·obtain ⟨v, hv, hlt, _⟩ := hst x hx
         obtain ⟨y', hy', hs'⟩ := hS.all x hx
         rw [hv] at hs'
         cases hs'
         exact ⟨_, hv, hlt, hR.born y' hy'⟩
        ·rw [Array.getElem?_push] at hk
         split at hk
         ·cases hk
          have hlen : 0 < ss.length := by omega
          exact ⟨ss[0], List.getElem_mem hlen, hborn _ (List.getElem_mem hlen)⟩
         ·exact hsn k v hk
       obtain ⟨s2, st2⟩ := zoX s (en' := .miter m (j + 1) n 0 p.2 ss) (o' := .mapIter (some Lm.blk) since (seen.push y.born) p.2) (d := d) hb hL rfl (.miter _ _ _ _ _ _ _ _ _ _ _ hI' h0) rfl rfl rfl rfl
       exact ⟨_, _, hrun, e, s2, zkU true hr0.k hr0.v, st2⟩
      ·have hj' : ¬ j < n := fun h => by rw [(zau _ _).2 h] at hj; cases hj
       have hjn : j = n := by have := hI.le; omega
       have := hS.done hR.borns hI.nodup (by rw [hI.size, hjn]) y hy
       rw [hyn] at this; cases this
    ·
     have hfam : fam ≠ 0 := fun h => by subst h; simp at hf0
     rw [zac, zac, zae] at hv'
     obtain ⟨hfb, hes, hv'⟩ := hv'
     obtain ⟨hpf, hfv⟩ := zl3 hes
     obtain ⟨hfn, hst, hsn, hno⟩ := hI.famly hfam hfb
     have hR' : MapR e h.fam ents p.2 := hpf ▸ hR
     have hfn' : h.fam.length = n := hfn
     have hS := zvr (seen := seen) (n := n) hR' rfl hfn' hst (fun k v hk => by
      obtain ⟨x, hx, q, _⟩ := hsn k v hk; exact ⟨x, hx, q⟩)
     rcases zir (P := P) (ty := ty) ho hH hS.born hS.born2 with ⟨hall, hrun⟩ | ⟨y, hy, hyn, d, hrun⟩
     ·rw [zav] at hv'
      rcases hv' with ⟨hj, _⟩ | ⟨_, hv'⟩
      ·rw [zau] at hj
       exact (hS.more hR.borns (by rw [hI.size]; exact hj) hall).elim
      ·cases hv'
       exact ⟨_, w, hrun, .same s znE⟩
     ·rw [zav] at hv'
      rcases hv' with ⟨hj, hv'⟩ | ⟨hj, _⟩
      ·rw [zau] at hj
       rw [zaL] at hv'
       cases hv'
       obtain ⟨t, hyk, hcu, s2, st2, hk2, hv2⟩ := s.draw (d := d) hb hL hI h0 hfam hfb hR' (fun x hx => hfv x (hpf ▸ hx)) hy hyn hj
       refine ⟨_, _, hrun, _, s2, ?_, st2⟩
       rw [hyk]
       exact zkU true (zoZ hk2) (.sval _ _ hv2 hcu)
      ·have hj' : ¬ j < n := fun h => by rw [(zau _ _).2 h] at hj; cases hj
       have hjn : j = n := by have := hI.le; omega
       have := hS.done hR.borns hI.nodup (by rw [hI.size, hjn]) y hy
       rw [hyn] at this; cases this
end
end
end Go.Xe
end
section
namespace Go.Xe
noncomputable section
section
variable {P : Program} {e : Env} {w : World}
theorem zq3 {es : List ME} {ents : Array MapEntry} {clock : Nat} (hR : MapR e es ents clock) {y : MapEntry} (hy : y ∈ ents.toList) : ents.find? (fun x => x.born == y.born) = some y := by
 rw [← Array.find?_toList]
 have : ∀ {l : List MapEntry}, y ∈ l → (∀ x ∈ l, x.born = y.born → x = y) → l.find? (fun x => x.born == y.born) = some y := by
  intro l
  induction l with
  | nil => intro h; cases h
  | cons a l ih =>
    intro hm ha
    rw [List.find?_cons]
    by_cases hb : a.born = y.born
    ·have := ha a List.mem_cons_self hb
     subst this
     simp
    ·have : (a.born == y.born) = false := beq_eq_false_iff_ne.2 hb
     rw [this]
     refine ih ?_ fun x hx => ha x (List.mem_cons_of_mem _ hx)
     rcases List.mem_cons.1 hm with rfl | h
     ·exact absurd rfl hb
     ·exact h
 exact this hy fun x hx hb => hR.born_inj hx hy hb
theorem znF {a b : AV} {u v : Value} (ha : VR e a u) (hb : VR e b v) : VR e (.tup [a, b]) (.tuple #[u, v]) := .tup _ _ (.cons _ _ _ _ ha (.cons _ _ _ _ hb .nil))
theorem zl7 {r m since : Nat} {seen : Array Nat} {es : List ME} {ents : Array MapEntry} {clock : Nat} (hr : w.heap[r]? = some (.mapIter (some m) since seen clock)) (hm : w.heap[m]? = some (.map ents clock))
  (hR : MapR e es ents clock) {y : MapEntry} (hy : y ∈ ents.toList) (hs : seen.back? = some y.born) : (Instr.entry (.pointer (some ⟨r, 0, none⟩))).run P w = .ok (.tuple #[y.key, y.val]) w := by
 have hget : (getObj r).run P w = .ok (.mapIter (some m) since seen clock) w := by simp only [getObj, Sem.run, hr]
 unfold Instr.entry
 show Sem.run P (getObj r >>= _) w = _
 rw [zab, hget]
 simp only [hs]
 show Sem.run P (getObj m >>= _) w = _
 rw [zab, zbI hm]
 show Sem.run P (if (clock != clock) = true then _ else _) w = _
 rw [if_neg (by simp)]
 show Sem.run P (match ents.find? (fun x => x.born == y.born) with | some e => _ | none => _) w = _
 rw [zq3 hR hy]
 rfl
theorem znG {h : AH} (s : Sat e h w.heap) {it v : AV} {u : Value} (hx : VR e it u) (hv : (zpq it fun b => bnd (h.get b) fun en => zqu h en) = some v) :
  Runs P (Instr.entry u) w fun u' w' => VR e v u' ∧ w' = w := by
 rw [zoY] at hv
 obtain ⟨b, rfl, hv⟩ := hv
 rw [zaa] at hv
 obtain ⟨en, hb, hv⟩ := hv
 obtain ⟨L, hL, rfl⟩ := zcT hx
 obtain ⟨L', o, hL', ho, hr⟩ := s.ents b en hb
 rw [hL] at hL'; cases hL'
 cases en <;> try (simp [zqu] at hv; done)
 case miter m j n fam lc ss =>
  cases hr with
  | miter _ _ _ _ _ _ _ mb since stepped seen hI h0 =>
    have hv' : bnd (h.map m) (fun p => grd (Nat.beq lc p.2)
     (ite' (Nat.beq fam 0)
      (grd (zjx p.1 ss) (grd (Nat.beq j 1) (bnd (nth p.1 0) fun e => some (AV.tup [e.k, e.v]))))
      (grd (Nat.beq fam h.fb) (grd (zjy p.1 h.fam) (grd (Nat.blt 0 j) (frc (Nat.add h.fb (Nat.pred j)) fun i => some (AV.tup [.sstr 0 0 i, .sval i]))))))) = some v := hv
    rw [zaa] at hv'
    obtain ⟨p, hp, hv'⟩ := hv'
    rw [zac, zae] at hv'
    obtain ⟨rfl, hv'⟩ := hv'
    obtain ⟨Lm, hLm, rfl⟩ := hI.map
    obtain ⟨hgm, ents, hH, hR⟩ := s.mapAt hp hLm
    rw [h0]
    have hst' := hI.st
    subst hst'
    have hlast : ∀ k, j = k + 1 → ∃ y, seen.back? = some y ∧ seen[k]? = some y := fun k hk => by
     have hsz := hI.size
     have : seen.back? = seen[seen.size - 1]? := rfl
     rw [this, hsz, hk, Nat.add_sub_cancel]
     exact ⟨seen[k], Array.getElem?_eq_getElem (by omega), Array.getElem?_eq_getElem (by omega)⟩
    rw [zav] at hv'
    rcases hv' with ⟨hf0, hv'⟩ | ⟨hf0, hv'⟩
    ·rw [zae] at hf0
     subst hf0
     rw [zac, zac, zae, zaa] at hv'
     obtain ⟨hss, rfl, x0, hx0, hv'⟩ := hv'
     cases hv'
     obtain ⟨hn, hn1, hst, hsn⟩ := hI.plain rfl
     rw [zbf] at hx0
     have hle := hI.le
     have hpl : p.1.length = 1 := by
      have := congrArg List.length (zeu hss)
      simp at this; omega
     have hp1 : p.1 = [x0] := by
      obtain ⟨z, hz⟩ := List.length_eq_one_iff.1 hpl
      rw [hz] at hx0 ⊢
      simp at hx0; rw [hx0]
     obtain ⟨y0, hy0, hr0⟩ := zl6 hR hp1
     obtain ⟨v, hback, hk⟩ := hlast 0 rfl
     obtain ⟨x, hx, hxs⟩ := hsn 0 v hk
     have hm : x.s ∈ p.1.map (·.s) := by rw [zeu hss]; exact List.mem_map_of_mem hx
     rw [hp1] at hm
     have hxx : x.s = x0.s := by simpa using hm
     rw [hxx, hr0.s] at hxs
     cases hxs
     exact ⟨_, w, zl7 ho hH hR (y := y0) (by rw [hy0]; exact List.mem_cons_self) hback, znF hr0.k hr0.v, rfl⟩
    ·have hfam : fam ≠ 0 := fun h => by subst h; simp at hf0
     rw [zac, zac, zac, zae, zau, zaL] at hv'
     obtain ⟨hfb, hes, hj, hv'⟩ := hv'
     cases hv'
     obtain ⟨hpf, hfv⟩ := zl3 hes
     obtain ⟨hfn, hst, hsn, hno⟩ := hI.famly hfam hfb
     obtain ⟨k, rfl⟩ : ∃ k, j = k + 1 := ⟨j - 1, by omega⟩
     obtain ⟨v, hback, hk⟩ := hlast k rfl
     obtain ⟨x, hx, hxs, t, u, hkey, hval, hxk, hxv⟩ := hsn k v hk
     have hx' : x ∈ p.1 := by rw [hpf]; exact hx
     obtain ⟨y, hy, hr'⟩ := hR.at_stamp hx'
     have hb' := hr'.s
     rw [hxs] at hb'
     cases hb'
     obtain ⟨n', c', hzk, hyk⟩ := zgI (hfv x hx').1 hr'.k
     have hyt : y.key = .string t := by
      rw [hzk] at hxk
      rw [hyk]; exact (zbX hxk).symm
     obtain ⟨hyv, hcu⟩ := zt4 (hfv x hx').2 hr'.v hxv
     refine ⟨_, w, zl7 ho hH hR hy hback, ?_, rfl⟩
     rw [hyt]
     exact znF (zoZ hkey) (.sval _ _ (by rw [hyv]; exact hval) hcu)
theorem zdf {t xt : TypeId} {ok : Bool} {v : AV} (hv : zfG P t ok = some v) (st dy : Option TypeId) (ms : String) :
  Runs P (do if ok then pure (Value.tuple #[← zeroValue t, .bool false]) else runtimePanic (.typeAssertion st dy t ms) : Sem Value) w fun u w' => VR e v u ∧ w' = w := by
 unfold zfG at hv
 rw [zac, zaa] at hv
 obtain ⟨rfl, z, hz, hv⟩ := hv
 cases hv
 obtain ⟨uz, hr, hzr⟩ := zdT (P := P) (w := w) (e := e) hz
 refine ⟨.tuple #[uz, .bool false], w, ?_, znF hzr (.bool false), rfl⟩
 rw [if_pos rfl]
 show Sem.run P (zeroValue t >>= _) w = _
 rw [zab, hr]; rfl
theorem zeb {t xt : TypeId} {d : TypeDesc} {ok : Bool} {x v : AV} {u : Value} (hd : P.underlying t = some d) (hx : VR e x u) (hv : zkv P t ok x d = some v) :
  Runs P (Instr.typeAssert u xt t ok) w fun u' w' => VR e v u' ∧ w' = w := by
 unfold Instr.typeAssert
 refine Runs.run_eq (zag hd) ?_
 have zlw : ∀ {a : AV} {ua : Value}, VR e a ua → v = zcO ok a true → Runs P (pure (if ok then .tuple #[ua, .bool true] else ua) : Sem Value) w fun u' w' => VR e v u' ∧ w' = w := fun ha hvv => by
  subst hvv
  exact Runs.pure' ⟨zgH ha true, rfl⟩
 by_cases hi : ∃ ms, d = .interface ms
 ·obtain ⟨ms, rfl⟩ := hi
  cases x <;> try (simp [zkv] at hv; done)
  case ifc t' a =>
   have hv' : bnd (P.info? t') (fun i => ite' (isNone (Instr.missingMethod ms i.methods)) (some (zcO ok (.ifc t' a) true)) (zfG P t ok)) = some v := hv
   rw [zaa] at hv'
   obtain ⟨i, hinf, hv'⟩ := hv'
   cases hx with
   | ifc _ _ ua ha =>
     refine Runs.bind' ⟨i, w, zcm hinf, ?_⟩
     rw [zav] at hv'
     rcases hv' with ⟨hm, hv'⟩ | ⟨hm, hv'⟩
     ·cases hv'
      cases hmm : Instr.missingMethod ms i.methods with
      | none => simp only [hmm]; exact zlw (.ifc _ _ _ ha) rfl
      | some m => rw [hmm] at hm; cases hm
     ·cases hmm : Instr.missingMethod ms i.methods with
      | none => rw [hmm] at hm; cases hm
      | some m => simp only [hmm]; exact zdf (xt := xt) hv' none (some t') m
  case inil =>
   cases hx
   exact zdf (xt := xt) hv none none ""
 ·cases x <;> try (cases d <;> simp [zkv] at hv; done)
  case ifc t' a =>
   have hv' : ite' (Nat.beq t t') (some (zcO ok a true)) (zfG P t ok) = some v := by
    cases d <;> first | exact hv | exact absurd ⟨_, rfl⟩ hi
   cases hx with
   | ifc _ _ ua ha =>
     refine Runs.run_eq (b := if t' = t then pure (if ok then .tuple #[ua, .bool true] else ua) else (do if ok then pure (Value.tuple #[← zeroValue t, .bool false]) else runtimePanic (.typeAssertion (some xt) (some t') t "")))
      (by cases d <;> first | rfl | exact absurd ⟨_, rfl⟩ hi) ?_
     rw [zav, zae] at hv'
     rcases hv' with ⟨rfl, hv'⟩ | ⟨hne, hv'⟩
     ·cases hv'
      rw [if_pos rfl]
      exact zlw ha rfl
     ·have : t' ≠ t := fun h => by subst h; rw [(zae _ _).2 rfl] at hne; cases hne
      rw [if_neg this]
      exact zdf (xt := xt) hv' (some xt) (some t') ""
  case inil =>
   cases hx
   have hv' : zfG P t ok = some v := by
    cases d <;> first | exact hv | exact absurd ⟨_, rfl⟩ hi
   refine Runs.run_eq (b := (do if ok then pure (Value.tuple #[← zeroValue t, .bool false]) else runtimePanic (.typeAssertion (some xt) none t "")))
     (by cases d <;> first | rfl | exact absurd ⟨_, rfl⟩ hi) ?_
   exact zdf (xt := xt) hv' (some xt) none ""
end
end
end Go.Xe
end
section
namespace Go.Xe
noncomputable section
structure POk (P : Program) : Prop where
 num : ∀ (f : Nat) (fn : Func), P.funcs[f]? = some fn → (fn.name == "runtime.NumGoroutine") = false
def OutO (e : Env) (h : AH) (w : World) (o : O) (n : Next) (w' : World) : Prop := match o with
 | .val v h' => ∃ e' u, n = .value u ∧ Sat e' h' w'.heap ∧ VR e' v u ∧ Step e h w e' h' w'
 | .skip h' => ∃ e', n = .skip ∧ Sat e' h' w'.heap ∧ Step e h w e' h' w'
 | .enter f args h' => h' = h ∧ w' = w ∧ ∃ us, n = .enter f us ∧ VRs e args us.toList
 | .round l tm nt asg body h' => h' = h ∧ w' = w ∧ ∃ L fn tmps, n = .round L.blk fn tmps asg body ∧ e.loc l = some L ∧ TR e tm nt tmps
 | .dfr d h' => h' = h ∧ w' = w ∧ ∃ d', n = .defer d' ∧ DR e d d'
 | .no => False
section
variable {P : Program} {e : Env} {w : World}
theorem OutO.val_ {h h' : AH} {v : AV} {u : Value} {w' : World} (x : Out e h w v h' u w') : OutO e h w (.val v h') (.value u) w' :=
 let ⟨e', s, hv, st⟩ := x; ⟨e', u, rfl, s, hv, st⟩
theorem OutO.skip_ {h h' : AH} {w' : World} (x : OutH e h w h' w') : OutO e h w (.skip h') .skip w' :=
 let ⟨e', s, st⟩ := x; ⟨e', rfl, s, st⟩
theorem zis (ok : POk P) {h : AH} (s : Sat e h w.heap) {f : Nat} {args : List AV} {us : Array Value} {o : O} (ha : VRs e args us.toList) (hv : znf P f args h = o) (hn : o ≠ .no) :
  Runs P (callFunc f us) w fun n w' => OutO e h w o n w' := by
 unfold znf at hv
 cases hf : P.funcs[f]? with
 | none => rw [hf] at hv; exact absurd hv.symm hn
 | some fn =>
   rw [hf, oE_some] at hv
   cases hb : fn.body with
   | none =>
     rw [hb, oE_none] at hv
     unfold ofVH at hv
     cases hx : zkr fn.name fn.origin args h with
     | none => rw [hx] at hv; exact absurd hv.symm hn
     | some p =>
       rw [hx, oE_some] at hv
       subst hv
       obtain ⟨v, h'⟩ := p
       exact (zl1 s hf hb ha hx).mono fun n w' ⟨u, hu, ho⟩ => by subst hu; exact .val_ ho
   | some c =>
     rw [hb, oE_some] at hv
     subst hv
     refine ⟨.enter f us, w, ?_, rfl, rfl, us, rfl, ha⟩
     unfold callFunc
     show Sem.run P (match P.funcs[f]? with | none => _ | some fn => _) w = _
     rw [hf]
     show Sem.run P (if (fn.name == "runtime.NumGoroutine") = true then _ else if fn.body.isNone = true then _ else _) w = _
     rw [if_neg (by rw [ok.num f fn hf]; simp), if_neg (by rw [hb]; simp)]
     rfl
theorem zkV {t f : Nat} {name : String} {v : Value} (hm : zhL P t name = some f) : ∀ k, (method (k + 1) t v name).run P w = .ok (f, v) w := by
 intro k
 unfold zhL at hm
 rw [zaa] at hm
 obtain ⟨i, hi, hm⟩ := hm
 rw [zaa] at hm
 obtain ⟨m, hfind, hm⟩ := hm
 rw [zac, zaG, zaa] at hm
 obtain ⟨hp, ⟨f', pr⟩, hfp, hm⟩ := hm
 rw [zac] at hm
 obtain ⟨hrec, hm⟩ := hm
 cases hm
 have hfind' : i.methods.find? (·.name == name) = some m := by rw [← Array.find?_toList]; exact hfind
 unfold method
 show Sem.run P (typeInfo t >>= _) w = _
 rw [zab, zcm hi]
 simp only [hfind', hp]
 show Sem.run P ((pure (t, Place.val v) : Sem (TypeId × Place)) >>= _) w = _
 rw [zab]
 have h1 : Sem.run P (pure (t, Place.val v) : Sem (TypeId × Place)) w = .ok (t, .val v) w := rfl
 rw [h1]
 simp only [hfp]
 unfold zjw at hrec
 cases hd : P.underlying t with
 | none => rw [hd] at hrec; cases hrec
 | some d =>
   rw [hd] at hrec
   have hrec' : ite' pr (zbO d) (ite' (zbO d) false true) = true := hrec
   have hrun : ∀ nm, (receiverAt t (.val v) pr nm).run P w = .ok v w := fun nm => by
    unfold receiverAt
    rw [zag hd]
    cases pr with
    | true =>
      have h2 : zbO d = true := hrec'
      cases d <;> first | rfl | (simp [zbO] at h2)
    | false =>
      have h2 : zbO d = false := by
       have : ite' (zbO d) false true = true := hrec'
       cases hq : zbO d
       ·rfl
       ·rw [hq] at this; cases this
      cases d <;> first | rfl | (simp [zbO] at h2)
   show Sem.run P (receiverAt t (.val v) pr _ >>= _) w = _
   rw [zab, hrun]
   rfl
theorem zfS (ok : POk P) {h : AH} (s : Sat e h w.heap) {name : String} {args : List AV} {us : Array Value} {o : O} (ha : VRs e args us.toList) (hv : zhM P name args h = o) (hn : o ≠ .no) :
  Runs P (do
   let some recv := us[0]? | stuck "call: a method without a receiver"
   callMethod recv name (us.extract 1 us.size)) w fun n w' => OutO e h w o n w' := by
 cases args with
 | nil => exact absurd hv.symm hn
 | cons r as =>
   cases r <;> try (exact absurd hv.symm hn)
   rename_i t v
   have hv2 : ofO (bnd (zhL P t name) fun f => some (znf P f (v :: as) h)) = o := hv
   cases hm : zhL P t name with
   | none => rw [hm] at hv2; exact absurd hv2.symm hn
   | some f =>
     rw [hm] at hv2
     have hv3 : znf P f (v :: as) h = o := hv2
     obtain ⟨us⟩ := us
     cases ha with
     | cons _ ur _ ut hr ht =>
       cases hr with
       | ifc _ _ uv hvr =>
         have hex : (⟨Value.iface t uv :: ut⟩ : Array Value).extract 1 (⟨Value.iface t uv :: ut⟩ : Array Value).size = ⟨ut⟩ := by
          apply Array.ext'
          simp
         refine Runs.run_eq (b := callFunc f (#[uv] ++ ⟨ut⟩)) ?_ (zis ok s (us := #[uv] ++ ⟨ut⟩) ?_ hv3 hn)
         ·show Sem.run P (callMethod (.iface t uv) name ((⟨Value.iface t uv :: ut⟩ : Array Value).extract 1 (⟨Value.iface t uv :: ut⟩ : Array Value).size)) w = _
          rw [hex]
          unfold callMethod
          show Sem.run P (method (P.types.size + Made.depth) t uv name >>= fun x => callFunc x.1 (#[x.2] ++ ⟨ut⟩)) w = _
          have hfu : P.types.size + Made.depth = (P.types.size + 99) + 1 := rfl
          rw [zab, hfu, zkV hm]
         ·have : (#[uv] ++ (⟨ut⟩ : Array Value)).toList = uv :: ut := by simp
          rw [this]
          exact .cons _ _ _ _ hvr ht
theorem zit {nt : Nat} {ps : List Nat} {args : List AV} {tm tm' : Tr AV} {a : Array Value} {us : List Value} (ht : TR e tm nt a) (ha : VRs e args us) (hp : zef nt ps args tm = some tm') :
  ps.length = us.length ∧ TR e tm' nt ((ps.zip us).foldl (fun tmps (x : Nat × Value) => tmps.setIfInBounds x.1 x.2) a) := by
 induction ps generalizing args tm us a with
 | nil =>
   have hp' : grd (za5 args) (some tm) = some tm' := hp
   rw [zac, zaG] at hp'
   obtain ⟨rfl, hp'⟩ := hp'
   cases hp'
   cases ha
   exact ⟨rfl, ht⟩
 | cons p ps ih =>
   cases args with
   | nil => cases hp
   | cons x args =>
     have hp' : grd (Nat.blt p nt) (zef nt ps args (Tr.put (some x) (Nat.succ p) tm p)) = some tm' := hp
     rw [zac, zau] at hp'
     obtain ⟨hlt, hp'⟩ := hp'
     cases ha with
     | cons _ u _ us' hx ht' =>
       obtain ⟨h1, h2⟩ := ih (ht.put hlt hx) ht' hp'
       exact ⟨by simp [h1], h2⟩
theorem znH {h : AH} (s : Sat e h w.heap) {l : Nat} {L : Loc} {args : List AV} {us : Array Value} {o : O} {en : Ent} (hl : e.loc l = some L) (hb : h.get l = some en) (ha : VRs e args us.toList) (hv : zqr l args h en = o) (hn : o ≠ .no) :
  Runs P (Instr.yield L.blk us) w fun n w' => OutO e h w o n w' := by
 cases en <;> try (exact absurd hv.symm hn)
 rename_i st pend tm nt ps asg body d
 have hv' : ofO (bnd (zef nt ps args tm) fun tm => some (.round l tm nt asg body h)) = o := hv
 cases hp : zef nt ps args tm with
 | none => rw [hp] at hv'; exact absurd hv'.symm hn
 | some tm' =>
   rw [hp] at hv'
   have hv2 : O.round l tm' nt asg body h = o := hv'
   subst hv2
   obtain ⟨L', ob, hL', ho, hr⟩ := s.ents l _ hb
   rw [hl] at hL'; cases hL'
   cases hr with
   | loop R tm nt d _ ld ht hd hbl =>
     obtain ⟨hlen, htr⟩ := zit ht ha hp
     have hsz : us.size = R.params.size := by simpa using hlen.symm
     refine ⟨.round L.blk R.fn ((R.params.zip us).foldl (fun tmps (x : Nat × Value) => tmps.setIfInBounds x.1 x.2) R.tmps) R.assign R.body, w, ?_, rfl, rfl, L, R.fn, _, rfl, hl, ?_⟩
     ·unfold Instr.yield
      have hget : (getObj L.blk).run P w = .ok (.loop R) w := by simp only [getObj, Sem.run, ho]
      have hgl : (Instr.getLoop L.blk).run P w = .ok R w := by
       unfold Instr.getLoop
       rw [zab, hget]; rfl
      rw [zab, hgl]
      show Sem.run P (if us.size ≠ R.params.size then _ else _) w = _
      rw [if_neg (by simp [hsz])]
      rfl
     ·have : (R.params.zip us).foldl (fun tmps (x : Nat × Value) => tmps.setIfInBounds x.1 x.2) R.tmps = (R.params.toList.zip us.toList).foldl (fun tmps (x : Nat × Value) => tmps.setIfInBounds x.1 x.2) R.tmps := by
       rw [← Array.foldl_toList, Array.toList_zip]
      rw [this]; exact htr
theorem ze6 (ok : POk P) {h : AH} (s : Sat e h w.heap) {fn fn' : Fn} {capt args : List AV} {ucapt us : Array Value} {o : O} (hf : FnR e fn fn') (hc : VRs e capt ucapt.toList) (ha : VRs e args us.toList) (hv : zeL P capt args h fn = o) (hn : o ≠ .no) :
  Runs P (invoke (.fn fn' ucapt) us) w fun n w' => OutO e h w o n w' := by
 cases hf with
 | yield l L hl =>
   have hv' : ofO (bnd (h.get l) fun en => some (zqr l args h en)) = o := hv
   cases hb : h.get l with
   | none => rw [hb] at hv'; exact absurd hv'.symm hn
   | some en =>
     rw [hb] at hv'
     exact znH s hl hb ha hv' hn
 | same _ hy =>
   cases fn <;> try (exact absurd hv.symm hn)
   case func f =>
    have hv' : znf P f (app args capt) h = o := hv
    rw [zcE] at hv'
    exact zis ok s (us := us ++ ucapt) (by rw [Array.toList_append]; exact ha.app hc) hv' hn
   case method name =>
    have hv' : zhM P name args h = o := hv
    exact zfS ok s ha hv' hn
   case yield => simp [zfD] at hy
end
end
end Go.Xe
end
section
namespace Go.Xe
noncomputable section
section
variable {α β : Type}
theorem zaz {l : List AV} {k : AV → Option α} {y : α} : arg1 l k = some y ↔ ∃ a, l = [a] ∧ k a = some y := by
 cases l with
 | nil => simp [arg1]
 | cons a t =>
   show grd (za5 t) (k a) = some y ↔ _
   rw [zac, zaG]
   constructor
   ·rintro ⟨rfl, h⟩; exact ⟨a, rfl, h⟩
   ·rintro ⟨b, hb, h⟩; cases hb; exact ⟨rfl, h⟩
theorem zbt {l : List AV} {k : AV → AV → Option α} {y : α} : arg2 l k = some y ↔ ∃ a b, l = [a, b] ∧ k a b = some y := by
 cases l with
 | nil => simp [arg2]
 | cons a t =>
   show arg1 t (fun b => k a b) = some y ↔ _
   rw [zaz]
   constructor
   ·rintro ⟨b, rfl, h⟩; exact ⟨a, b, rfl, h⟩
   ·rintro ⟨a', b, hb, h⟩; cases hb; exact ⟨b, rfl, h⟩
theorem ziu {l : List AV} {k : AV → AV → AV → Option α} {y : α} : arg3 l k = some y ↔ ∃ a b c, l = [a, b, c] ∧ k a b c = some y := by
 cases l with
 | nil => simp [arg3]
 | cons a t =>
   show arg2 t (fun b c => k a b c) = some y ↔ _
   rw [zbt]
   constructor
   ·rintro ⟨b, c, rfl, h⟩; exact ⟨a, b, c, rfl, h⟩
   ·rintro ⟨a', b, c, hb, h⟩; cases hb; exact ⟨b, c, rfl, h⟩
theorem zb3 {h : AH} {o : Option AV} {r : O} (hr : ofV h o = r) (hn : r ≠ .no) : ∃ v, o = some v ∧ r = .val v h := by
 cases o with
 | none => exact absurd hr.symm hn
 | some v => exact ⟨v, rfl, hr.symm⟩
theorem zdm {o : VH} {r : O} (hr : ofVH o = r) (hn : r ≠ .no) : ∃ v h', o = some (v, h') ∧ r = .val v h' := by
 cases o with
 | none => exact absurd hr.symm hn
 | some p => exact ⟨p.1, p.2, rfl, hr.symm⟩
theorem zo0 {o : Option AH} {r : O} (hr : ofH o = r) (hn : r ≠ .no) : ∃ h', o = some h' ∧ r = .skip h' := by
 cases o with
 | none => exact absurd hr.symm hn
 | some p => exact ⟨p, rfl, hr.symm⟩
end
section
variable {P : Program} {e : Env} {w : World}
theorem zo1 {fr : Fr} {a : Act} (hf : FR e fr a) {xs : List Operand} {vs : List AV} (h : mapO (fun x => ev x fr) xs = some vs) : VRs e vs (xs.map a.eval) := by
 induction xs generalizing vs with
 | nil => cases h; exact .nil
 | cons x xs ih =>
   have h' : bnd (ev x fr) (fun y => bnd (mapO (fun x => ev x fr) xs) fun ys => some (y :: ys)) = some vs := h
   rw [zaa] at h'
   obtain ⟨y, hy, h'⟩ := h'
   rw [zaa] at h'
   obtain ⟨ys, hys, h'⟩ := h'
   cases h'
   exact .cons _ _ _ _ (zkN hf hy) (ih hys)
theorem vrs1 {a : AV} {u : Value} (h : VRs e [a] [u]) : VR e a u := by cases h; assumption
theorem vrs2 {a b : AV} {u v : Value} (h : VRs e [a, b] [u, v]) : VR e a u ∧ VR e b v := by
 cases h with
 | cons _ _ _ _ h1 h => exact ⟨h1, vrs1 h⟩
theorem vrs3 {a b c : AV} {u v x : Value} (h : VRs e [a, b, c] [u, v, x]) : VR e a u ∧ VR e b v ∧ VR e c x := by
 cases h with
 | cons _ _ _ _ h1 h => exact ⟨h1, vrs2 h⟩
theorem zew {h h' : AH} {s : Sem Value} {v : AV} (r : Runs P s w fun u w' => Out e h w v h' u w') : Runs P (do pure (.value (← s)) : Sem Next) w fun n w' => OutO e h w (.val v h') n w' := by
 refine Runs.bind' (r.mono fun u w' ho => ?_)
 exact Runs.pure' (.val_ ho)
theorem zcr {h : AH} (hs : Sat e h w.heap) {s : Sem Value} {v : AV} (r : Runs P s w fun u w' => VR e v u ∧ w' = w) : Runs P (do pure (.value (← s)) : Sem Next) w fun n w' => OutO e h w (.val v h) n w' :=
 zew (Runs.same hs r)
theorem zsU {h h' : AH} {s : Sem Unit} (r : Runs P s w fun _ w' => OutH e h w h' w') : Runs P (do s; pure .skip : Sem Next) w fun n w' => OutO e h w (.skip h') n w' := by
 refine Runs.bind' (r.mono fun u w' ho => ?_)
 exact Runs.pure' (.skip_ ho)
theorem zfo {ts : Array TypeId} {i t : Nat} (h : nth ts.toList i = some t) : ts[i]? = some t := by
 rw [zbf, Array.getElem?_toList] at h; exact h
theorem zkW {h : AH} (s : Sat e h w.heap) {b : Builtin} {ts : Array TypeId} {ty : TypeId} {cs : Array Bool} {args : List AV} {us : Array Value} {v : AV} {h' : AH} (ha : VRs e args us.toList)
  (hv : zhv P b ts.toList args h = some (v, h')) : Runs P (builtin b ts ty cs us) w fun n w' => OutO e h w (.val v h') n w' := by
 cases b <;> try (simp [zhv] at hv; done)
 case append =>
  have hv' : arg2 args (fun s x => bnd (nth ts.toList 0) fun t => bnd (zoG P (nth ts.toList 1)) fun z => zkp P t z s x h) = some (v, h') := hv
  rw [zbt] at hv'
  obtain ⟨a, x, rfl, hv'⟩ := hv'
  rw [zaa] at hv'
  obtain ⟨t, ht, hv'⟩ := hv'
  rw [zaa] at hv'
  obtain ⟨z, hz, hv'⟩ := hv'
  obtain ⟨us⟩ := us
  cases ha with
  | cons _ ua _ l' h1 ha =>
    cases ha with
    | cons _ ux _ l' h2 ha =>
      cases ha
      exact zew (zl0 s (zfo ht) h1 h2 hz hv')
 case cap =>
  have hv' : arg1 args (fun x => bnd (nth ts.toList 0) fun t => bnd (zhi P t) fun _ => (match x with | .snil => some (zdI 0, h) | _ => none)) = some (v, h') := hv
  rw [zaz] at hv'
  obtain ⟨a, rfl, hv'⟩ := hv'
  rw [zaa] at hv'
  obtain ⟨t, ht, hv'⟩ := hv'
  obtain ⟨us⟩ := us
  cases ha with
  | cons _ ua _ l' h1 ha =>
    cases ha
    exact zew (zqZ s (zfo ht) h1 hv')
 case copy =>
  have hv' : arg2 args (fun d x => bnd (nth ts.toList 0) fun t => zsz P t d x h) = some (v, h') := hv
  rw [zbt] at hv'
  obtain ⟨a, x, rfl, hv'⟩ := hv'
  rw [zaa] at hv'
  obtain ⟨t, ht, hv'⟩ := hv'
  obtain ⟨us⟩ := us
  cases ha with
  | cons _ ua _ l' h1 ha =>
    cases ha with
    | cons _ ux _ l' h2 ha =>
      cases ha
      exact zew (zpE s (zfo ht) h1 h2 hv')
 case delete =>
  have hv' : arg2 args (fun m k => bnd (nth ts.toList 0) fun t => bnd (zoE P t m k h) fun h => some (AV.tup [], h)) = some (v, h') := hv
  rw [zbt] at hv'
  obtain ⟨a, x, rfl, hv'⟩ := hv'
  rw [zaa] at hv'
  obtain ⟨t, ht, hv'⟩ := hv'
  rw [zaa] at hv'
  obtain ⟨h2, hd, hv'⟩ := hv'
  cases hv'
  obtain ⟨us⟩ := us
  cases ha with
  | cons _ ua _ l' h1 ha =>
    cases ha with
    | cons _ ux _ l' h2 ha =>
      cases ha
      exact zew (zlV s (zfo ht) h1 h2 hd)
 case len =>
  have hv' : arg1 args (fun x => bnd (nth ts.toList 0) fun t => bnd (P.underlying t) fun d => bnd (lenD x h d) fun n => some (zdI n, h)) = some (v, h') := hv
  rw [zaz] at hv'
  obtain ⟨a, rfl, hv'⟩ := hv'
  rw [zaa] at hv'
  obtain ⟨t, ht, hv'⟩ := hv'
  rw [zaa] at hv'
  obtain ⟨d, hd, hv'⟩ := hv'
  rw [zaa] at hv'
  obtain ⟨n, hl, hv'⟩ := hv'
  cases hv'
  obtain ⟨us⟩ := us
  cases ha with
  | cons _ ua _ l' h1 ha =>
    cases ha
    exact zew (zqT s (zfo ht) hd h1 hl)
 case max =>
  cases args with
  | nil => cases hv
  | cons a l =>
    have hv' : vh h (ze3 true l a) = some (v, h') := hv
    unfold vh at hv'
    rw [zaa] at hv'
    obtain ⟨m, hm, hv'⟩ := hv'
    cases hv'
    obtain ⟨us⟩ := us
    cases ha with
    | cons _ ua _ l' h1 ha =>
      obtain ⟨u', hr, hvr⟩ := zqV (P := P) (w := w) h1 ha hm
      exact zcr s ⟨u', w, hr, hvr, rfl⟩
 case min =>
  cases args with
  | nil => cases hv
  | cons a l =>
    have hv' : vh h (ze3 false l a) = some (v, h') := hv
    unfold vh at hv'
    rw [zaa] at hv'
    obtain ⟨m, hm, hv'⟩ := hv'
    cases hv'
    obtain ⟨us⟩ := us
    cases ha with
    | cons _ ua _ l' h1 ha =>
      obtain ⟨u', hr, hvr⟩ := zqU (P := P) (w := w) h1 ha hm
      exact zcr s ⟨u', w, hr, hvr, rfl⟩
 case unsafeSliceData =>
  have hv' : arg1 args (fun x => zeJ x h) = some (v, h') := hv
  rw [zaz] at hv'
  obtain ⟨a, rfl, hv'⟩ := hv'
  obtain ⟨us⟩ := us
  cases ha with
  | cons _ ua _ l' h1 ha =>
    cases ha
    exact zew (zil s h1 hv')
 case unsafeString =>
  have hv' : arg2 args (fun p l => bnd (nth ts.toList 0) fun pt => zcF P pt p l h) = some (v, h') := hv
  rw [zbt] at hv'
  obtain ⟨a, x, rfl, hv'⟩ := hv'
  rw [zaa] at hv'
  obtain ⟨t, ht, hv'⟩ := hv'
  obtain ⟨us⟩ := us
  cases ha with
  | cons _ ua _ l' h1 ha =>
    cases ha with
    | cons _ ux _ l' h2 ha =>
      cases ha
      exact zew (zfQ s (zfo ht) h1 h2 hv')
theorem ziv {h : AH} (s : Sat e h w.heap) {t : TypeId} {ρ : Operand → Value} {x : Operand} {lo hi : Option Operand} {vs : List AV} {v : AV} (ha : VRs e vs ((x :: (lo.toList ++ hi.toList)).map ρ))
  (hv : zkt P t (zhN lo) (zhN hi) vs h = some v) : Runs P (Instr.sliceAt t (ρ x) (lo.map ρ) (hi.map ρ) none) w fun u w' => VR e v u ∧ w' = w := by
 cases vs with
 | nil => cases hv
 | cons y r =>
   cases ha with
   | cons _ _ _ _ hx hr =>
     cases lo with
     | none =>
       cases hi with
       | none =>
         have hv' : grd (za5 r) (ze2 P t y none none h) = some v := hv
         rw [zac] at hv'
         exact zde s hx .none .none hv'.2
       | some hi =>
         have hv' : arg1 r (fun u => ze2 P t y none (some u) h) = some v := hv
         rw [zaz] at hv'
         obtain ⟨a, rfl, hv'⟩ := hv'
         exact zde s hx .none (.some _ _ (vrs1 hr)) hv'
     | some lo =>
       cases hi with
       | none =>
         have hv' : arg1 r (fun l => ze2 P t y (some l) none h) = some v := hv
         rw [zaz] at hv'
         obtain ⟨a, rfl, hv'⟩ := hv'
         exact zde s hx (.some _ _ (vrs1 hr)) .none hv'
       | some hi =>
         have hv' : arg2 r (fun l u => ze2 P t y (some l) (some u) h) = some v := hv
         rw [zbt] at hv'
         obtain ⟨a, b, rfl, hv'⟩ := hv'
         obtain ⟨h1, h2⟩ := vrs2 hr
         exact zde s hx (.some _ _ h1) (.some _ _ h2) hv'
theorem ziw (ok : POk P) {h : AH} (s : Sat e h w.heap) {f : AV} {uf : Value} {args : List AV} {us : Array Value} {r : O} (hf : VR e f uf) (ha : VRs e args us.toList) (hv : zpp P f args h = r) (hn : r ≠ .no) :
  ∃ fn' first' capt', uf = .func fn' first' capt' ∧ Runs P (invoke (.fn fn' capt') (first' ++ us)) w fun n w' => OutO e h w r n w' := by
 cases f <;> try (exact absurd hv.symm hn)
 rename_i fn first capt
 have hv' : zeL P capt (app first args) h fn = r := hv
 rw [zcE] at hv'
 cases hf with
 | func _ f' _ _ x' y' h1 h2 h3 => exact ⟨f', x', y', rfl, ze6 ok s h1 h3 (by rw [Array.toList_append]; exact h2.app ha) hv' hn⟩
theorem zbr (ok : POk P) {h : AH} (s : Sat e h w.heap) {ρ : Operand → Value} {o : Oper} {vs : List AV} {r : O} (ha : VRs e vs ((zbp o.op).map ρ)) (hv : opV P o.op vs h = r) (hn : r ≠ .no) :
  Runs P (execOp ρ o) w fun n w' => OutO e h w r n w' := by
 obtain ⟨dst, op, ty, pos, after, guard⟩ := o
 simp only at ha hv
 cases op <;> try (exact absurd hv.symm hn)
 case move x =>
  obtain ⟨v, hv', rfl⟩ := zb3 hv hn
  rw [zaz] at hv'
  obtain ⟨a, rfl, hv'⟩ := hv'
  cases hv'
  exact Runs.pure' (.val_ (.same s (vrs1 ha)))
 case assign x =>
  obtain ⟨v, hv', rfl⟩ := zb3 hv hn
  rw [zaz] at hv'
  obtain ⟨a, rfl, hv'⟩ := hv'
  cases hv'
  exact Runs.pure' (.val_ (.same s (vrs1 ha)))
 case pick c x y =>
  obtain ⟨v, hv', rfl⟩ := zb3 hv hn
  rw [ziu] at hv'
  obtain ⟨a, b, c', rfl, hv'⟩ := hv'
  obtain ⟨h1, h2, h3⟩ := vrs3 ha
  exact (zjP h1 h2 h3 hv').mono fun n w' ⟨u, hu, hr, hw⟩ => by subst hu hw; exact .val_ (.same s hr)
 case alloc t =>
  obtain ⟨v, h', hv', rfl⟩ := zdm hv hn
  exact zew (znx s hv')
 case box t x =>
  obtain ⟨v, h', hv', rfl⟩ := zdm hv hn
  rw [zaz] at hv'
  obtain ⟨a, rfl, hv'⟩ := hv'
  exact zew (zqM s (vrs1 ha) hv')
 case build t ps =>
  obtain ⟨v, hv', rfl⟩ := zb3 hv hn
  have hp : PR e (zipI ps.toList vs) (ps.map fun (i, x) => (i, ρ x)).toList := by
   rw [Array.toList_map]
   refine zoU (f := ρ) ?_
   have : (zbp (.build t ps)).map ρ = ps.toList.map fun p => ρ p.2 := by
    show (ps.toList.map (·.2)).map ρ = _
    rw [List.map_map]; rfl
   rw [← this]; exact ha
  exact zcr s (zih hp hv')
 case buildSlice t n ps =>
  obtain ⟨v, h', hv', rfl⟩ := zdm hv hn
  have hp : PR e (zipI ps.toList vs) (ps.map fun (i, x) => (i, ρ x)).toList := by
   rw [Array.toList_map]
   refine zoU (f := ρ) ?_
   have : (zbp (.buildSlice t n ps)).map ρ = ps.toList.map fun p => ρ p.2 := by
    show (ps.toList.map (·.2)).map ρ = _
    rw [List.map_map]; rfl
   rw [← this]; exact ha
  exact zew (zho s hp hv')
 case load t x =>
  obtain ⟨v, hv', rfl⟩ := zb3 hv hn
  rw [zaz] at hv'
  obtain ⟨a, rfl, hv'⟩ := hv'
  exact zcr s (zgA s (vrs1 ha) hv')
 case store t x y =>
  obtain ⟨h', hv', rfl⟩ := zo0 hv hn
  rw [zbt] at hv'
  obtain ⟨a, b, rfl, hv'⟩ := hv'
  obtain ⟨h1, h2⟩ := vrs2 ha
  exact zsU ((znp s h1 h2 hv').mono fun _ w' ⟨q1, q2⟩ => ⟨e, q1, q2⟩)
 case nilCheck x =>
  obtain ⟨v, hv', rfl⟩ := zb3 hv hn
  rw [zaz] at hv'
  obtain ⟨a, rfl, hv'⟩ := hv'
  exact (ze5 (P := P) (w := w) (vrs1 ha) hv').mono fun n w' ⟨hu, hr, hw⟩ => by subst hu hw; exact .val_ (.same s hr)
 case binOp bo t x y cm =>
  obtain ⟨v, hv', rfl⟩ := zb3 hv hn
  rw [zbt] at hv'
  obtain ⟨a, b, rfl, hv'⟩ := hv'
  obtain ⟨h1, h2⟩ := vrs2 ha
  exact zcr s (zjK s h1 h2 hv')
 case unOp uo t x =>
  obtain ⟨v, hv', rfl⟩ := zb3 hv hn
  rw [zaz] at hv'
  obtain ⟨a, rfl, hv'⟩ := hv'
  exact zcr s (zlN (vrs1 ha) hv')
 case convert sr ds x =>
  obtain ⟨v, h', hv', rfl⟩ := zdm hv hn
  rw [zaz] at hv'
  obtain ⟨a, rfl, hv'⟩ := hv'
  exact zew (znw s (vrs1 ha) hv')
 case makeInterface t x =>
  obtain ⟨v, hv', rfl⟩ := zb3 hv hn
  rw [zaz] at hv'
  obtain ⟨a, rfl, hv'⟩ := hv'
  exact zcr s (zet (vrs1 ha) hv')
 case makeFunc fn first capt =>
  obtain ⟨v, hv', rfl⟩ := zb3 hv hn
  rw [zac, zaa] at hv'
  obtain ⟨hy, a, hta, hv'⟩ := hv'
  rw [zaa] at hv'
  obtain ⟨b, htb, hv'⟩ := hv'
  cases hv'
  have hop : (zbp (.makeFunc fn first capt)).map ρ = (first.map ρ).toList ++ (capt.map ρ).toList := by
   show (app first.toList capt.toList).map ρ = _
   rw [zcE]; simp
  rw [hop] at ha
  have hlen : (first.map ρ).toList.length = len first.toList := by rw [zaU]; simp
  have h1 := ha.take (len first.toList)
  have h2 := ha.drop (len first.toList)
  rw [List.take_left' hlen] at h1
  rw [List.drop_left' hlen] at h2
  have hta' : a = vs.take (len first.toList) := by
   rw [zjD] at hta
   by_cases hle : len first.toList ≤ vs.length
   ·rw [if_pos hle] at hta; exact (Option.some.inj hta).symm
   ·rw [if_neg hle] at hta; cases hta
  have htb' : b = vs.drop (len first.toList) := by
   rw [zlC] at htb
   by_cases hle : len first.toList ≤ vs.length
   ·rw [if_pos hle] at htb; exact (Option.some.inj htb).symm
   ·rw [if_neg hle] at htb; cases htb
  rw [← hta'] at h1
  rw [← htb'] at h2
  exact zcr s ⟨_, w, rfl, .func _ _ _ _ _ _ (.same _ hy) h1 h2, rfl⟩
 case makeMap t x =>
  obtain ⟨v, h', hv', rfl⟩ := zdm hv hn
  refine zew (zkQ s ?_ hv')
  cases x with
  | none =>
    cases vs with
    | nil => exact .inl ⟨rfl, rfl⟩
    | cons _ _ => cases ha
  | some x =>
    cases vs with
    | nil => cases ha
    | cons a l =>
      cases ha with
      | cons _ _ _ _ h1 h2 =>
        cases h2
        exact .inr ⟨a, ρ x, rfl, rfl, h1⟩
 case makeSlice t x y =>
  obtain ⟨v, h', hv', rfl⟩ := zdm hv hn
  rw [zbt] at hv'
  obtain ⟨a, b, rfl, hv'⟩ := hv'
  obtain ⟨h1, h2⟩ := vrs2 ha
  exact zew (zii s h1 h2 hv')
 case slice t x lo hi mx =>
  cases mx with
  | some m => exact absurd hv.symm hn
  | none =>
    have hv2 : ofV h (zkt P t (zhN lo) (zhN hi) vs h) = r := hv
    obtain ⟨v, hv', rfl⟩ := zb3 hv2 hn
    have hop : zbp (.slice t x lo hi none) = x :: (lo.toList ++ hi.toList) := by
     show x :: app lo.toList hi.toList = _
     rw [zcE]
    rw [hop] at ha
    exact zcr s (ziv s ha hv')
 case fieldAddr t x f =>
  obtain ⟨v, hv', rfl⟩ := zb3 hv hn
  rw [zaz] at hv'
  obtain ⟨a, rfl, hv'⟩ := hv'
  exact zcr s (zem (vrs1 ha) hv')
 case field t x f =>
  obtain ⟨v, hv', rfl⟩ := zb3 hv hn
  rw [zaz] at hv'
  obtain ⟨a, rfl, hv'⟩ := hv'
  exact zcr s (zh3 (vrs1 ha) hv')
 case indexAddr t x y =>
  obtain ⟨v, hv', rfl⟩ := zb3 hv hn
  rw [zbt] at hv'
  obtain ⟨a, b, rfl, hv'⟩ := hv'
  obtain ⟨h1, h2⟩ := vrs2 ha
  exact zcr s (zen h1 h2 hv')
 case index t x y =>
  obtain ⟨v, hv', rfl⟩ := zb3 hv hn
  rw [zbt] at hv'
  obtain ⟨a, b, rfl, hv'⟩ := hv'
  obtain ⟨h1, h2⟩ := vrs2 ha
  exact zcr s (zh5 h1 h2 hv')
 case lookup t m k okk =>
  obtain ⟨v, hv', rfl⟩ := zb3 hv hn
  rw [zbt] at hv'
  obtain ⟨a, b, rfl, hv'⟩ := hv'
  obtain ⟨h1, h2⟩ := vrs2 ha
  exact zcr s (zg5 s h1 h2 hv')
 case mapUpdate t m k x =>
  obtain ⟨h', hv', rfl⟩ := zo0 hv hn
  rw [ziu] at hv'
  obtain ⟨a, b, c, rfl, hv'⟩ := hv'
  obtain ⟨h1, h2, h3⟩ := vrs3 ha
  exact zsU (zg6 s h1 h2 h3 hv')
 case insert t m k x =>
  obtain ⟨h', hv', rfl⟩ := zo0 hv hn
  rw [ziu] at hv'
  obtain ⟨a, b, c, rfl, hv'⟩ := hv'
  obtain ⟨h1, h2, h3⟩ := vrs3 ha
  exact zsU (zg6 s h1 h2 h3 hv')
 case mapEntry t m k =>
  obtain ⟨v, h', hv', rfl⟩ := zdm hv hn
  rw [zbt] at hv'
  obtain ⟨a, b, rfl, hv'⟩ := hv'
  obtain ⟨h1, h2⟩ := vrs2 ha
  exact zew (zjk s h1 h2 hv')
 case entryStore t m k x =>
  obtain ⟨h', hv', rfl⟩ := zo0 hv hn
  rw [ziu] at hv'
  obtain ⟨a, b, c, rfl, hv'⟩ := hv'
  obtain ⟨h1, h2, h3⟩ := vrs3 ha
  exact zsU (zhp s h1 h2 h3 hv')
 case range t x =>
  obtain ⟨v, h', hv', rfl⟩ := zdm hv hn
  rw [zaz] at hv'
  obtain ⟨a, rfl, hv'⟩ := hv'
  rw [zaa] at hv'
  obtain ⟨d, hd, hv'⟩ := hv'
  exact zew (znC s hd (vrs1 ha) hv')
 case next it b =>
  obtain ⟨v, h', hv', rfl⟩ := zdm hv hn
  rw [zaz] at hv'
  obtain ⟨a, rfl, hv'⟩ := hv'
  exact zew (zpK s (vrs1 ha) hv')
 case entry it =>
  obtain ⟨v, hv', rfl⟩ := zb3 hv hn
  rw [zaz] at hv'
  obtain ⟨a, rfl, hv'⟩ := hv'
  exact zcr s (znG s (vrs1 ha) hv')
 case typeAssert x xt t okk =>
  obtain ⟨v, hv', rfl⟩ := zb3 hv hn
  rw [zaz] at hv'
  obtain ⟨a, rfl, hv'⟩ := hv'
  rw [zaa] at hv'
  obtain ⟨d, hd, hv'⟩ := hv'
  exact zcr s (zeb hd (vrs1 ha) hv')
 case extract x i =>
  obtain ⟨v, hv', rfl⟩ := zb3 hv hn
  rw [zaz] at hv'
  obtain ⟨a, rfl, hv'⟩ := hv'
  exact zcr s (zfN (vrs1 ha) hv')
 case call c =>
  obtain ⟨callee, args, ats⟩ := c
  cases callee with
  | builtin b =>
    have hv2 : ofVH (zhv P b ats.toList vs h) = r := hv
    obtain ⟨v, h', hv', rfl⟩ := zdm hv2 hn
    have ha' : VRs e vs (args.map ρ).toList := by rw [Array.toList_map]; exact ha
    exact zkW s ha' hv'
  | value f =>
    cases vs with
    | nil => exact absurd hv.symm hn
    | cons a as =>
      have hv2 : zpp P a as h = r := hv
      cases ha with
      | cons _ _ _ _ h1 h2 =>
        obtain ⟨fn', first', capt', huf, hrun⟩ := ziw ok s (us := args.map ρ) h1 (by rw [Array.toList_map]; exact h2) hv2 hn
        refine Runs.run_eq ?_ hrun
        show Sem.run P (Deferred.ofValue (ρ f) (args.map ρ) >>= fun d => invoke d.target d.args) w = _
        rw [huf]; rfl
  | invoke x name =>
    have hv2 : zhM P name vs h = r := hv
    have ha' : VRs e vs (#[ρ x] ++ args.map ρ).toList := by
     rw [Array.toList_append, Array.toList_map]; exact ha
    exact zfS ok s ha' hv2 hn
 case defer c =>
  obtain ⟨callee, args, ats⟩ := c
  cases callee with
  | builtin b => exact absurd hv.symm hn
  | invoke x name => exact absurd hv.symm hn
  | value f =>
    cases vs with
    | nil => exact absurd hv.symm hn
    | cons a as =>
      cases a <;> try (exact absurd hv.symm hn)
      rename_i fn first capt
      have hv2 : O.dfr (.fn fn capt (app first as)) h = r := hv
      subst hv2
      cases ha with
      | cons _ _ _ _ h1 h2 =>
        generalize hu : ρ f = uf at h1
        cases h1 with
        | func _ f' _ _ x' y' q1 q2 q3 =>
          refine ⟨.defer { target := .fn f' y', args := x' ++ args.map ρ }, w, ?_, rfl, rfl, _, rfl, .fn _ _ _ _ _ _ q1 q3 ?_⟩
          ·show Sem.run P (Deferred.ofValue (ρ f) (args.map ρ) >>= fun d => pure (Next.defer d)) w = _
           rw [hu]; rfl
          ·rw [zcE, Array.toList_append, Array.toList_map]
           exact q2.app h2
end
end
end Go.Xe
end
section
namespace Go.Xe
noncomputable section
def fen (ρ : Option Nat) : Fence := { Fence.wide with round := ρ }
theorem zdx (ρ : Option Nat) {p : Prop} : (fen ρ).depth.isSome = true → p := fun h => by cases h
theorem zfp {ρ : Option Nat} {n : Nat} {P : Program} {f : FuncId} {args : Array Value} {w : World} {R : Ending → World → Prop} : CallsIn (fen ρ) n P f args w R ↔ CallsIn Fence.wide n P f args w R := Iff.rfl
def RR (e : Env) (rd ρ : Option Nat) : Prop := (rd = none ∧ ρ = none) ∨ ∃ l L, rd = some l ∧ e.loc l = some L ∧ ρ = some L.blk
theorem RR.mono {e e' : Env} (he : e.le e') {rd ρ : Option Nat} (h : RR e rd ρ) : RR e' rd ρ := by
 rcases h with h | ⟨l, L, h1, h2, h3⟩
 ·exact .inl h
 ·exact .inr ⟨l, L, h1, he.loc _ _ h2, h3⟩
def zo2 : XE → Exit
 | .normal => .normal
 | .exit id => .exit id
 | .goto l => .goto l
 | .ret => .ret
def Post (e : Env) (h : AH) (w : World) (x : XE) (fr' : Fr) (h' : AH) : Exit → Act → World → Prop :=
 fun ex a' w' => ex = zo2 x ∧ ∃ e', Sat e' h' w'.heap ∧ FR e' fr' a' ∧ Step e h w e' h' w'
def Good (P : Program) (self : Option Nat → Code → Fr → AH → R) : Prop :=
 ∀ rd c fr h x fr' h', self rd c fr h = .ok x fr' h' → ∀ e a w ρ, Sat e h w.heap → FR e fr a → RR e rd ρ → c.wpIn (fen ρ) 0 P (Post e h w x fr' h') a w
def znI (P : Program) (c : VH) (e : Env) (h : AH) (w : World) (f : FuncId) (us : Array Value) : Prop :=
 ∀ v h', c = some (v, h') → CallsIn Fence.wide 0 P f us w fun en w' => match en with | .returned u => Out e h w v h' u w' | _ => False
def zb4 (P : Program) (k : Nat → List AV → AH → VH) : Prop :=
 ∀ f args h, ∀ e w us, Sat e h w.heap → VRs e args us.toList → znI P (k f args h) e h w f us
def zcs (P : Program) (k : Nat → Tr AV → Nat → Code → Code → AH → VH) : Prop :=
 ∀ l tm nt asg body h v h', k l tm nt asg body h = some (v, h') → ∀ e w L tmps fn, Sat e h w.heap → e.loc l = some L → TR e tm nt tmps →
   RoundIn Fence.wide 0 P L.blk fn tmps asg body w fun en w' => match en with | .returned u => Out e h w v h' u w' | _ => False
section
variable {P : Program} {e : Env} {w : World}
theorem zg8 {ops : Array Oper} {fr : Fr} {a : Act} (hf : FR e fr a) {o : Oper} {wb : Bool} (h : zat ops.toList fr o.guard = some wb) : Region.wanted o (yielded ops a.tmps) = wb := by
 unfold Region.wanted
 cases hg : o.guard with
 | none =>
   rw [hg] at h
   have h' : some true = some wb := h
   cases h'; rfl
 | some g =>
   obtain ⟨j, want⟩ := g
   rw [hg] at h
   have h' : bnd (nth ops.toList j) (fun oj => bnd oj.dst fun d => match fr.at_ d with
    | .bool b => some (ite' b want (ite' want false true))
    | .sval _ => none
    | _ => some false) = some wb := h
   rw [zaa] at h'
   obtain ⟨oj, hj, h'⟩ := h'
   rw [zaa] at h'
   obtain ⟨d, hd, h'⟩ := h'
   rw [zbf, Array.getElem?_toList] at hj
   have hy : yielded ops a.tmps j = match a.tmps[d]? with | some (.bool b) => some b | _ => none := by
    unfold yielded
    rw [hj]
    simp only [Option.bind_some, hd]
    rfl
   simp only [hy]
   have hv := hf.tmps.at_ d
   rw [zhZ] at h'
   generalize hx : atT fr.t d = x at h' hv
   have hget : ∀ v, a.tmps[d]? = some v → a.tmps.getD d undef = v := fun v hv => by
    simp [Array.getD_eq_getD_getElem?, hv]
   have hother : (∀ b, x ≠ .bool b) → (∀ i, x ≠ .sval i) → (match a.tmps[d]? with | some (.bool b) => some b | _ => none) = none := fun h1 h2 => by
    cases hq : a.tmps[d]? with
    | none => rfl
    | some v =>
      rw [hget v hq] at hv
      cases v <;> first | rfl | skip
      rename_i b
      cases hv with
      | bool => exact absurd rfl (h1 b)
      | sval i => exact absurd rfl (h2 i)
   cases x with
   | bool b =>
     have h2 : some (ite' b want (ite' want false true)) = some wb := h'
     cases h2
     have hb := zdN hv
     have hq : a.tmps[d]? = some (.bool b) := by
      cases hq : a.tmps[d]? with
      | none =>
        have : a.tmps.getD d undef = undef := by simp [Array.getD_eq_getD_getElem?, hq]
        rw [this] at hb; cases hb
      | some v => rw [hget v hq] at hb; rw [hb]
     rw [hq]
     cases b <;> cases want <;> rfl
   | sval i => cases h'
   | _ =>
     have h2 : some false = some wb := h'
     cases h2
     rw [hother (fun _ h => by cases h) (fun _ h => by cases h)]
     rfl
theorem zdn {fr : Fr} {d : Option Nat} {v : AV} {k : Fr → R} {x : XE} {fr' : Fr} {h' : AH} (h : putR fr d v k = .ok x fr' h') : ∃ fr1, fr.put d v = some fr1 ∧ k fr1 = .ok x fr' h' := by
 unfold putR at h
 cases hp : fr.put d v with
 | none => rw [hp] at h; cases h
 | some fr1 => rw [hp] at h; exact ⟨fr1, rfl, h⟩
theorem zkX {why : String} {k : AV → AH → R} {o : VH} {x : XE} {fr' : Fr} {h' : AH} (h : zly why k o = .ok x fr' h') : ∃ v h1, o = some (v, h1) ∧ k v h1 = .ok x fr' h' := by
 cases o with
 | none => cases h
 | some p => exact ⟨p.1, p.2, rfl, h⟩
variable {I : zba} {self : Option Nat → Code → Fr → AH → R}
theorem znJ (ok : POk P) (hcall : zb4 P (zdt P I self)) (hround : zcs P (roundA self)) {rd ρ : Option Nat} {o : Oper} {fr : Fr} {h : AH} {k : Fr → AH → R} {x : XE} {fr' : Fr} {h' : AH}
  (hr : zsA P I self rd o fr h k = .ok x fr' h') {a : Act} {next : Act → World → Prop} {Q : Exit → Act → World → Prop} (s : Sat e h w.heap) (hf : FR e fr a) (hrr : RR e rd ρ)
  (hk : ∀ fr1 h1, k fr1 h1 = .ok x fr' h' → ∀ e1 a1 w1, Sat e1 h1 w1.heap → FR e1 fr1 a1 → Step e h w e1 h1 w1 → next a1 w1) :
  o.wpIn (fen ρ) 0 P a w next Q := by
 refine ⟨fun f _ => trivial, ?_⟩
 unfold zsA at hr
 cases hm : mapO (fun x => ev x fr) (zbp o.op) with
 | none => rw [hm] at hr; cases hr
 | some vs =>
   rw [hm, oE_some] at hr
   have hvs := zo1 hf hm
   have hsem : (∀ d h1, opV P o.op vs h = .dfr d h1 → rd = none) → (o.semAt (fen ρ).round a.eval) = execOp a.eval o ∨ rd ≠ none ∧ ∃ c, o.op = .defer c := fun hd => by
    by_cases hc : ∃ c, o.op = .defer c
    ·rcases hrr with ⟨_, rfl⟩ | ⟨l, L, rfl, _, rfl⟩
     ·exact .inl rfl
     ·exact .inr ⟨by simp, hc⟩
    ·exact .inl (Oper.semAt_eq _ _ _ fun c hx => hc ⟨c, hx⟩)
   cases ho : opV P o.op vs h with
   | no => rw [ho] at hr; cases hr
   | val v h1 =>
     rw [ho] at hr
     obtain ⟨fr1, hp, hr⟩ := zdn hr
     obtain ⟨n, w1, hrun, hout⟩ := zbr ok s hvs ho (by simp)
     obtain ⟨e1, u, rfl, s1, hv, st⟩ := hout
     have hse : o.semAt (fen ρ).round a.eval = execOp a.eval o := Oper.semAt_eq _ _ _ fun c hx => by
      rw [hx] at ho
      obtain ⟨callee, cargs, cats⟩ := c
      cases callee with
      | builtin b => cases ho
      | invoke _ _ => cases ho
      | value f =>
        cases vs with
        | nil => cases ho
        | cons y ys => cases y <;> cases ho
     rw [hse, hrun, Oper.uponIn_value]
     exact hk fr1 h1 hr e1 _ w1 s1 (zbQ (hf.mono st.le) hv hp) st
   | skip h1 =>
     rw [ho] at hr
     obtain ⟨fr1, hp, hr⟩ := zdn hr
     obtain ⟨n, w1, hrun, hout⟩ := zbr ok s hvs ho (by simp)
     obtain ⟨e1, rfl, s1, st⟩ := hout
     have hse : o.semAt (fen ρ).round a.eval = execOp a.eval o := Oper.semAt_eq _ _ _ fun c hx => by
      rw [hx] at ho
      obtain ⟨callee, cargs, cats⟩ := c
      cases callee with
      | builtin b => cases ho
      | invoke _ _ => cases ho
      | value f =>
        cases vs with
        | nil => cases ho
        | cons y ys => cases y <;> cases ho
     rw [hse, hrun, Oper.uponIn_skip]
     exact hk fr1 h1 hr e1 _ w1 s1 (zbQ (hf.mono st.le) (zcG e1) hp) st
   | enter f args h1 =>
     rw [ho] at hr
     have hr2 : zly o.pos (fun v h => putR fr o.dst v fun fr => k fr h) (zdt P I self f args h1) = .ok x fr' h' := hr
     clear hr
     obtain ⟨v, h2, hc, hr⟩ := zkX hr2
     obtain ⟨fr1, hp, hr⟩ := zdn hr
     obtain ⟨n, w1, hrun, hout⟩ := zbr ok s hvs ho (by simp)
     obtain ⟨rfl, rfl, us, rfl, hus⟩ := hout
     have hse : o.semAt (fen ρ).round a.eval = execOp a.eval o := Oper.semAt_eq _ _ _ fun c hx => by
      rw [hx] at ho
      obtain ⟨callee, cargs, cats⟩ := c
      cases callee with
      | builtin b => cases ho
      | invoke _ _ => cases ho
      | value f =>
        cases vs with
        | nil => cases ho
        | cons y ys => cases y <;> cases ho
     rw [hse, hrun, Oper.uponIn_enter]
     refine ⟨zdx ρ, zfp.2 (CallsIn.mono (hcall f args _ e w1 us s hus v h2 hc) fun en w' hen => ?_)⟩
     cases en with
     | returned u =>
       obtain ⟨e2, s2, hv, st⟩ := hen
       exact hk fr1 h2 hr e2 _ w' s2 (zbQ (hf.mono st.le) hv hp) st
     | panicked c => exact hen.elim
     | outgrown => exact hen.elim
   | round l tm nt asg body h1 =>
     rw [ho] at hr
     have hr2 : zly o.pos (fun v h => putR fr o.dst v fun fr => k fr h) (roundA self l tm nt asg body h1) = .ok x fr' h' := hr
     clear hr
     obtain ⟨v, h2, hc, hr⟩ := zkX hr2
     obtain ⟨fr1, hp, hr⟩ := zdn hr
     obtain ⟨n, w1, hrun, hout⟩ := zbr ok s hvs ho (by simp)
     obtain ⟨rfl, rfl, L, fn, tmps, rfl, hL, htr⟩ := hout
     have hse : o.semAt (fen ρ).round a.eval = execOp a.eval o := Oper.semAt_eq _ _ _ fun c hx => by
      rw [hx] at ho
      obtain ⟨callee, cargs, cats⟩ := c
      cases callee with
      | builtin b => cases ho
      | invoke _ _ => cases ho
      | value f =>
        cases vs with
        | nil => cases ho
        | cons y ys => cases y <;> cases ho
     rw [hse, hrun, Oper.uponIn_round]
     refine ⟨zdx ρ, ?_⟩
     have hx : RoundIn Fence.wide 0 P L.blk fn tmps asg body w1 _ := hround l tm nt asg body _ v h2 hc e w1 L tmps fn s hL htr
     refine RoundIn.mono (F := fen ρ) hx fun en w' hen => ?_
     cases en with
     | returned u =>
       obtain ⟨e2, s2, hv, st⟩ := hen
       exact hk fr1 h2 hr e2 _ w' s2 (zbQ (hf.mono st.le) hv hp) st
     | panicked c => exact hen.elim
     | outgrown => exact hen.elim
   | dfr d h1 =>
     rw [ho] at hr
     have hr' : oE (putR ⟨fr.t, fr.nt, d :: fr.ds⟩ o.dst zaP fun fr => k fr h1) (fun _ => R.no "defer in a round") rd = .ok x fr' h' := hr
     cases rd with
     | some l => cases hr'
     | none =>
       have hρ : ρ = none := by
        rcases hrr with ⟨_, h⟩ | ⟨l, L, h, _⟩
        ·exact h
        ·cases h
       subst hρ
       rw [oE_none] at hr'
       obtain ⟨fr1, hp, hr2⟩ := zdn hr'
       obtain ⟨n, w1, hrun, hout⟩ := zbr ok s hvs ho (by simp)
       obtain ⟨rfl, rfl, d', rfl, hd⟩ := hout
       have hse : o.semAt (fen none).round a.eval = execOp a.eval o := rfl
       rw [hse, hrun, Oper.uponIn_defer]
       have hf2 : FR e ⟨fr.t, fr.nt, d :: fr.ds⟩ { a with defers := d' :: a.defers } := ⟨hf.tmps, .cons _ _ _ _ hd hf.ds⟩
       exact hk fr1 _ hr2 e _ w1 s (zbQ hf2 (zcG e) hp) (.refl e _ w1)
theorem zl8 (ok : POk P) (hcall : zb4 P (zdt P I self)) (hround : zcs P (roundA self)) {rd ρ : Option Nat} {ops : Array Oper} {x : XE} {fr' : Fr} {h' : AH} {Q : Exit → Act → World → Prop} {e0 : Env} {h0 : AH} {w0 : World}
  (hQ : ∀ e' a' w', Sat e' h' w'.heap → FR e' fr' a' → Step e0 h0 w0 e' h' w' → Q (zo2 x) a' w') :
  ∀ (l : List Oper) (i : Nat) (e : Env) (a : Act) (w : World) (fr : Fr) (h : AH), ops.toList.drop i = l → zlz P I self rd ops.toList l fr h = .ok x fr' h' → Sat e h w.heap → FR e fr a → RR e rd ρ → Step e0 h0 w0 e h w →
    wpOpsIn (fen ρ) 0 P ops Q (List.range' i l.length) a w := by
 intro l
 induction l with
 | nil =>
   intro i e a w fr h _ hr s hf _ st
   have hr' : R.ok .normal fr h = .ok x fr' h' := hr
   cases hr'
   exact hQ e a w s hf st
 | cons o l ih =>
   intro i e a w fr h hdrop hr s hf hrr st
   have ho : ops[i]? = some o := by
    rw [← Array.getElem?_toList]
    have := congrArg List.head? hdrop
    rw [List.head?_drop] at this
    exact this
   have hdrop' : ops.toList.drop (i + 1) = l := by
    rw [← List.drop_drop, hdrop]; rfl
   have hr' : oE (R.no o.pos) (fun wb => ite' wb (zsA P I self rd o fr h (zlz P I self rd ops.toList l)) (putR fr o.dst zaP fun fr => zlz P I self rd ops.toList l fr h)) (zat ops.toList fr o.guard) = .ok x fr' h' := hr
   rw [List.length_cons, List.range'_succ]
   simp only [wpOpsIn, ho]
   cases hw : zat ops.toList fr o.guard with
   | none => rw [hw] at hr'; cases hr'
   | some wb =>
     rw [hw, oE_some] at hr'
     rw [zg8 hf hw]
     cases wb with
     | true =>
       rw [ite'_true] at hr'
       rw [if_pos rfl]
       exact znJ ok hcall hround hr' s hf hrr fun fr1 h1 hr1 e1 a1 w1 s1 hf1 st1 => ih (i + 1) e1 a1 w1 fr1 h1 hdrop' hr1 s1 hf1 (hrr.mono st1.le) (st.trans st1)
     | false =>
       rw [ite'_false] at hr'
       obtain ⟨fr1, hp, hr1⟩ := zdn hr'
       rw [if_neg (by simp)]
       exact ⟨fun f _ => trivial, ih (i + 1) e _ w fr1 h hdrop' hr1 s (zbQ hf (zcG e) hp) hrr st⟩
theorem zl9 (ok : POk P) (hcall : zb4 P (zdt P I self)) (hround : zcs P (roundA self)) {rd ρ : Option Nat} {id : Nat} {ops : Array Oper} {fr fr' : Fr} {h h' : AH} {x : XE} (hr : zlz P I self rd ops.toList ops.toList fr h = .ok x fr' h')
  {a : Act} (s : Sat e h w.heap) (hf : FR e fr a) (hrr : RR e rd ρ) : (Code.region id ops false).wpIn (fen ρ) 0 P (Post e h w x fr' h') a w := by
 refine wpIn_region ?_
 have := zl8 (ρ := ρ) ok hcall hround (Q := Post e h w x fr' h') (e0 := e) (h0 := h) (w0 := w) (fun e' a' w' s' hf' st' => ⟨rfl, e', s', hf', st'⟩) ops.toList 0 e a w fr h rfl hr s hf hrr (.refl e h w)
 rw [List.range_eq_range']
 simpa using this
end
end
end Go.Xe
end
