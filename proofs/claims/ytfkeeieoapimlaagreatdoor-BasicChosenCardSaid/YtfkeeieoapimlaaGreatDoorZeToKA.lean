/-
  Behind a loop over a map in an open order: the heap under the new names is there; A call, from a heap of which nothing is known; The frame rule: what . Conditions: none.
-/
import Derived.Test.YtfkeeieoapimlaaGreatDoorYwToZd
set_option linter.unusedVariables false
set_option linter.unusedSimpArgs false
set_option linter.unusedSectionVars false
section
namespace Go.Xe
noncomputable section
theorem vrSstr {e : Env} {pn pc i : Nat} {u : Value} (h : VR e (.sstr pn pc i) u) : ∃ s, e.key i = some s ∧ u = .string (zae pn pc ++ s) := by
 cases h with | sstr _ _ _ s h => exact ⟨s, h, rfl⟩
theorem vrPtr {e : Env} {b o : Nat} {u : Value} (h : VR e (.ptr b o) u) : ∃ l, e.loc b = some l ∧ u = .pointer (some ⟨l.blk, l.off + o, none⟩) := by
 cases h with | ptr _ _ l h => exact ⟨l, h, rfl⟩
theorem vrInt {e : Env} {k : IntKind} {n : Int} {u : Value} (h : VR e (.int k n) u) : u = .int k n := by
 cases h; rfl
theorem vrSval {e : Env} {i : Nat} {u : Value} (h : VR e (.sval i) u) : e.val i = some u := by
 cases h with | sval _ _ h _ => exact h
theorem vrInil {e : Env} {u : Value} (h : VR e .inil u) : u = .nilIface := by
 cases h; rfl
section
variable {e : Env} {h h2 : AH} {w : World} {mn mu mf md kn ku kf kd c0 ty0 : Nat} {n1 n2 u1 u2 f1 f2 d1 d2 : List ME} {r0 : List AV} {bs : List Nat} {x : Acc}
theorem Rx.cases (R : Rx h h2 mn mu mf md kn ku kf kd c0 ty0 n1 n2 u1 u2 f1 f2 d1 d2 r0 bs x) (c : Nat) (en : Ent) (hc : h2.get c = some en) :
  (c = mn ∧ en = .map (n1 ++ x.nm) kn) ∨ (c = mu ∧ en = .map (u1 ++ x.nu) ku) ∨ (c = mf ∧ en = .map (f1 ++ x.fu) kf) ∨ (c = md ∧ en = .map (d1 ++ x.da) kd) ∨
  (∃ j kv key, j < h.fam.length ∧ c = h.next + 1 + 5 * j ∧ h.fam[j]? = some kv ∧ zev kv.k = some key ∧ en = .cells (.num h.next j c0 (c0 + h.fam.length) :: key :: r0) ty0 true 0 []) ∨ (h.get c = some en ∧ c ∉ bs) := by
 rw [R.out, AH.get_set, AH.get_set, AH.get_set, AH.get_set] at hc
 by_cases e1 : c = md
 ·rw [if_pos e1] at hc; cases hc
  exact .inr (.inr (.inr (.inl ⟨e1, rfl⟩)))
 rw [if_neg e1] at hc
 by_cases e2 : c = mf
 ·rw [if_pos e2] at hc; cases hc
  exact .inr (.inr (.inl ⟨e2, rfl⟩))
 rw [if_neg e2] at hc
 by_cases e3 : c = mu
 ·rw [if_pos e3] at hc; cases hc
  exact .inr (.inl ⟨e3, rfl⟩)
 rw [if_neg e3] at hc
 by_cases e4 : c = mn
 ·rw [if_pos e4] at hc; cases hc
  exact .inl ⟨e4, rfl⟩
 rw [if_neg e4] at hc
 obtain ⟨_, _, _, _, _, _, hk, hg⟩ := newL_eq R.new
 right; right; right; right
 by_cases hx : ∃ j, j < h.fam.length ∧ c = h.next + 1 + 5 * j
 ·obtain ⟨j, hj, rfl⟩ := hx
  obtain ⟨kv, key, q1, q2, q3⟩ := hk j hj
  rw [q3] at hc; cases hc
  left
  refine ⟨j, kv, key, hj, rfl, q1, q2.keyEq, ?_⟩
  rw [Nat.zero_add]
 ·rw [hg c fun j hj h => hx ⟨j, hj, h⟩, zb5] at hc
  by_cases hb : c ∈ bs
  ·rw [if_pos hb] at hc; cases hc
  ·rw [if_neg hb] at hc
   exact .inr ⟨hc, hb⟩
theorem reix_sound (R : Rx h h2 mn mu mf md kn ku kf kd c0 ty0 n1 n2 u1 u2 f1 f2 d1 d2 r0 bs x) (s : Sat e h w.heap) : ∃ e2, Sat e2 h2 w.heap ∧ Step e h w e2 h2 w := by
 obtain ⟨n, hn⟩ : ∃ n, n = h.fam.length := ⟨_, rfl⟩
 obtain ⟨g, hg⟩ : ∃ g, g = h.next := ⟨_, rfl⟩
 obtain ⟨cb, cu, cf, cd, hchk⟩ := chkL_eq R.chk
 rw [R.len, ← hn] at cb cu cf cd hchk
 have cn : n2.length = n := by rw [R.len, hn]
 obtain ⟨xn, xu, xf, xd, xnext, xfm, hnew, _⟩ := newL_eq R.new
 rw [← hn] at xn xu xf xd
 have hnx : h2.next = g + 1 + 5 * n := by
  rw [R.out]
  show x.h.next = _
  rw [xnext, (zbk _ _).1, hg, hn]
 have hfm : h2.fb = 0 ∧ h2.fam = [] := by
  have : h2.fm = (0, []) := by
   rw [R.out]
   show x.h.fm = _
   rw [xfm]
   show ((AH.kill bs _).fb, (AH.kill bs _).fam) = _
   rw [(zbk _ _).2.1, (zbk _ _).2.2]
  exact ⟨congrArg Prod.fst this, congrArg Prod.snd this⟩
 have hmapR : ∀ m es ck, h.get m = some (.map es ck) → ∃ l ents, e.loc m = some l ∧ w.heap[l.blk]? = some (.map ents ck) ∧ MapR e es ents ck := fun m es ck hm => by
  obtain ⟨l, o, hl, ho, hr⟩ := s.ents _ _ hm
  cases hr with | map _ _ _ ents hr => exact ⟨l, ents, hl, ho, hr⟩
 obtain ⟨ln, en_, hln, hon, hMn⟩ := hmapR _ _ _ R.en
 obtain ⟨lu, eu_, hlu, hou, hMu⟩ := hmapR _ _ _ R.eu
 obtain ⟨lf, ef_, hlf, hof, hMf⟩ := hmapR _ _ _ R.ef
 obtain ⟨ld, ed_, hld, hod, hMd⟩ := hmapR _ _ _ R.ed
 obtain ⟨τ, hτ1, hτ2, hτ3⟩ := order s.fam hn fun k hk => by
  obtain ⟨a, b, c', d, y, q1, _, _, _, _, q⟩ := hchk k hk
  obtain ⟨z, hz⟩ := map_mem hMn (m := a) (List.mem_append_right _ (List.mem_of_getElem? q1))
  have := hz.k
  rw [q.nm.1] at this
  obtain ⟨s', hs', _⟩ := vrSstr this
  exact ⟨s', hs'⟩
 obtain ⟨bk, hbk⟩ : ∃ bk : Nat → Nat, bk = fun k => (bs[k]?).getD 0 := ⟨_, rfl⟩
 obtain ⟨st, hst⟩ : ∃ st : List ME → Nat → Nat, st = fun l k => ((l[k]?).map ME.s).getD 0 := ⟨_, rfl⟩
 have hstE : ∀ (l : List ME) (k : Nat) (m : ME), l[k]? = some m → st l k = m.s := fun l k m hm => by rw [hst]; show ((l[k]?).map ME.s).getD 0 = _; rw [hm]; rfl
 obtain ⟨e2, N⟩ := named e g n c0 bk τ (st n2) (st u2) (st f2) (st d2)
 have hent : ∀ k, k < n → h.get (bk k) = some (.cells (.int .i64 (.ofNat (c0 + k)) :: .sstr 2 14906 (h.fb + k) :: r0) ty0 true 0 []) ∧ bk k ∈ bs := fun k hk => by
  obtain ⟨a, b, c', d, y, _, _, _, _, q5, q⟩ := hchk k hk
  have : bk k = y := by rw [hbk]; show (bs[k]?).getD 0 = y; rw [q5]; rfl
  rw [this]
  exact ⟨q.ent, List.mem_of_getElem? q5⟩
 have hbinj : ∀ k k', k < n → k' < n → bk k = bk k' → k = k' := fun k k' h1 h2 he => by
  have a := (hent k h1).1
  rw [he, (hent k' h2).1] at a
  have a1 := Option.some.inj a
  injection a1 with a2
  injection a2 with a3
  injection a3 with _ a4
  injection a4 with a5
  omega
 have hlt : ∀ b l, e.loc b = some l → b < g := fun b l hl => by rw [hg]; exact (s.locs b l hl).1
 have hle : e.le e2 := by
  refine ⟨fun b l hl => ?_, fun g' j v hv => ?_, fun b v hv => ?_, fun i v hv => by rw [N.key]; exact hv, fun i v hv => by rw [N.val]; exact hv, N.out⟩
  ·have := hlt b l hl
   rw [N.l2 b fun j hj => by omega]; exact hl
  ·have := s.nums g' j v hv
   rw [N.num3 g' j (by omega)]; exact hv
  ·have := s.stps b v hv
   rw [N.t5 b (by omega)]; exact hv
 have hB : ∀ j, j < n → ∃ kv key m c u, h.fam[j]? = some kv ∧ New g c0 (c0 + n) j (g + 1 + 5 * j) kv x j key ∧ kv.k = .str m c ∧ key = .str (2 + m) (14906 % 256 ^ 2 + 256 ^ 2 * c) ∧ e.key (h.fb + τ j) = some (zae m c) ∧ e.val (h.fb + τ j) = some u ∧ VR e kv.v u := fun j hj => by
  obtain ⟨kv, key, q1, q2, _⟩ := hnew j (by rw [← hn]; exact hj)
  obtain ⟨kv', m, c, u, r1, r2, r3, r4, r5⟩ := hτ3 j hj
  rw [q1] at r1; cases r1
  obtain ⟨m', c', t1, t2⟩ := fullKey_eq q2.keyEq
  rw [r2] at t1; cases t1
  rw [Nat.zero_add, ← hn, ← hg] at q2
  exact ⟨kv, key, m, c, u, q1, q2, r2, t2, r3, r4, r5⟩
 have hMn2 : MapR e2 (n1 ++ x.nm) en_ kn := zgq hle hMn cn xn hτ1 hτ2 fun j hj m m' h1 h2' y hy => by
  obtain ⟨a, b, c', d, z, q1, _, _, _, q5, q⟩ := hchk (τ j) (hτ1 j hj)
  obtain ⟨kv, key, mm, c, u, r1, r2, r3, r4, r5, r6, r7⟩ := hB j hj
  rw [q1] at h1; cases h1
  rw [r2.nm] at h2'; cases h2'
  have k1 := hy.k
  have k2 := hy.v
  have k3 := hy.s
  rw [q.nm.1] at k1
  rw [q.nm.2] at k2
  obtain ⟨s', hs', hk⟩ := vrSstr k1
  obtain ⟨l, hl, hv⟩ := vrPtr k2
  rw [r5] at hs'; cases hs'
  refine ⟨?_, ?_, ?_⟩
  ·rw [hk, zcJ, r4]; exact .str _ _
  ·rw [hv]
   refine .ptr _ _ l ?_
   rw [N.l1 j hj]
   have : bk (τ j) = z := by rw [hbk]; show (bs[τ j]?).getD 0 = z; rw [q5]; rfl
   rw [this]; exact hl
  ·show e2.stp (g + 1 + 5 * j + 1) = _
   rw [N.t1 j hj, hstE _ _ _ q1]; exact k3
 have hMu2 : MapR e2 (u1 ++ x.nu) eu_ ku := zgq hle hMu cu xu hτ1 hτ2 fun j hj m m' h1 h2' y hy => by
  have hjn := hτ1 j hj
  obtain ⟨a, b, c', d, z, _, q1, _, _, q5, q⟩ := hchk (τ j) hjn
  obtain ⟨kv, key, mm, c, u, r1, r2, r3, r4, r5, r6, r7⟩ := hB j hj
  rw [q1] at h1; cases h1
  rw [r2.nu] at h2'; cases h2'
  have k1 := hy.k
  have k2 := hy.v
  have k3 := hy.s
  rw [q.nu.1] at k1
  rw [q.nu.2] at k2
  obtain ⟨l, hl, hv⟩ := vrPtr k2
  refine ⟨?_, ?_, ?_⟩
  ·rw [vrInt k1]
   exact .num g j _ _ (c0 + τ j) (N.num1 j hj) (by omega) (by omega)
  ·rw [hv]
   refine .ptr _ _ l ?_
   rw [N.l1 j hj]
   have : bk (τ j) = z := by rw [hbk]; show (bs[τ j]?).getD 0 = z; rw [q5]; rfl
   rw [this]; exact hl
  ·show e2.stp (g + 1 + 5 * j + 2) = _
   rw [N.t2 j hj, hstE _ _ _ q1]; exact k3
 have hMf2 : MapR e2 (f1 ++ x.fu) ef_ kf := zgq hle hMf cf xf hτ1 hτ2 fun j hj m m' h1 h2' y hy => by
  have hjn := hτ1 j hj
  obtain ⟨a, b, c', d, z, _, _, q1, _, q5, q⟩ := hchk (τ j) hjn
  obtain ⟨kv, key, mm, c, u, r1, r2, r3, r4, r5, r6, r7⟩ := hB j hj
  rw [q1] at h1; cases h1
  rw [r2.fu] at h2'; cases h2'
  have k1 := hy.k
  have k2 := hy.v
  have k3 := hy.s
  rw [q.fu.1] at k1
  rw [q.fu.2] at k2
  have hv := vrSval k2
  rw [r6] at hv
  refine ⟨?_, ?_, ?_⟩
  ·rw [vrInt k1]
   exact .num g j _ _ (c0 + τ j) (N.num1 j hj) (by omega) (by omega)
  ·show VR e2 kv.v y.val
   rw [← Option.some.inj hv]; exact r7.mono hle
  ·show e2.stp (g + 1 + 5 * j + 3) = _
   rw [N.t3 j hj, hstE _ _ _ q1]; exact k3
 have hMd2 : MapR e2 (d1 ++ x.da) ed_ kd := zgq hle hMd cd xd hτ1 hτ2 fun j hj m m' h1 h2' y hy => by
  have hjn := hτ1 j hj
  obtain ⟨a, b, c', d, z, _, _, _, q1, q5, q⟩ := hchk (τ j) hjn
  obtain ⟨kv, key, mm, c, u, r1, r2, r3, r4, r5, r6, r7⟩ := hB j hj
  rw [q1] at h1; cases h1
  rw [r2.da] at h2'; cases h2'
  have k1 := hy.k
  have k2 := hy.v
  have k3 := hy.s
  rw [q.da.1] at k1
  rw [q.da.2] at k2
  refine ⟨?_, ?_, ?_⟩
  ·rw [vrInt k1]
   exact .num g j _ _ (c0 + τ j) (N.num1 j hj) (by omega) (by omega)
  ·rw [vrInil k2]; exact .inil
  ·show e2.stp (g + 1 + 5 * j + 4) = _
   rw [N.t4 j hj, hstE _ _ _ q1]; exact k3
 have hwas : ∀ c en, h2.get c = some en → (∃ en0, h.get c = some en0 ∧ za5 en = za5 en0 ∧ wrE en = wrE en0 ∧ lenE en = lenE en0 ∧ famE en = famE en0 ∧ c ∉ bs) ∨ (∃ j, j < n ∧ c = g + 1 + 5 * j ∧ za5 en = [] ∧ famE en = 0) := fun c en hc => by
  have hno : ∀ m es ck, h.get m = some (.map es ck) → m ∉ bs := fun m es ck hm hmb => by
   obtain ⟨k, hk⟩ := List.mem_iff_getElem?.1 hmb
   have hkn : k < n := by rw [← cb]; exact (List.getElem?_eq_some_iff.1 hk).1
   have : bk k = m := by rw [hbk]; show (bs[k]?).getD 0 = m; rw [hk]; rfl
   have h3 := (hent k hkn).1
   rw [this, hm] at h3; cases h3
  rcases R.cases c en hc with ⟨rfl, rfl⟩ | ⟨rfl, rfl⟩ | ⟨rfl, rfl⟩ | ⟨rfl, rfl⟩ | ⟨j, kv, key, hj, rfl, _, _, rfl⟩ | ⟨h1, h2'⟩
  ·exact .inl ⟨_, R.en, rfl, rfl, rfl, rfl, hno _ _ _ R.en⟩
  ·exact .inl ⟨_, R.eu, rfl, rfl, rfl, rfl, hno _ _ _ R.eu⟩
  ·exact .inl ⟨_, R.ef, rfl, rfl, rfl, rfl, hno _ _ _ R.ef⟩
  ·exact .inl ⟨_, R.ed, rfl, rfl, rfl, rfl, hno _ _ _ R.ed⟩
  ·exact .inr ⟨j, by rw [hn]; exact hj, by rw [hg], rfl, rfl⟩
  ·exact .inl ⟨en, h1, rfl, rfl, rfl, rfl, h2'⟩
 have hloc0 : ∀ c en0 l, h.get c = some en0 → e2.loc c = some l → e.loc c = some l := fun c en0 l hc hl => by
  obtain ⟨l', _, hl', _⟩ := s.ents _ _ hc
  have := hle.loc _ _ hl'
  rw [hl] at this; cases this
  exact hl'
 have hapart : ∀ c en0 l k l', h.get c = some en0 → c ∉ bs → e.loc c = some l → k < n → e.loc (bk k) = some l' → l.blk ≠ l'.blk := fun c en0 l k l' hc hcb hl hk hl' hblk => by
  obtain ⟨h1, h2'⟩ := hent k hk
  have hne : c ≠ bk k := fun hx => hcb (hx ▸ h2')
  rcases s.sep c (bk k) _ _ l l' hc h1 hl hl' hne hblk with h3 | h3
  ·have := s.olds c (bk k) _ _ l l' hc h3 h1 hl hl' hblk
   cases this
  ·cases h3
 have hkeep : ∀ X, X < w.heap.size → ¬ Own e h X → w.heap[X]? = w.heap[X]? ∧ ¬ Own e2 h2 X := by
  intro X hX hO
  refine ⟨rfl, fun ⟨c, en, l, hc, hl, hx⟩ => hO ?_⟩
  rcases hwas c en hc with ⟨ec, c1, _⟩ | ⟨j, hj, rfl, _⟩
  ·exact ⟨c, ec, l, c1, hloc0 c ec l c1 hl, hx⟩
  ·rw [N.l1 j hj] at hl
   exact ⟨_, _, l, (hent _ (hτ1 j hj)).1, hl, hx⟩
 refine ⟨e2, ⟨?_, ?_, ?_, ?_, ?_, ?_, ?_, ?_, ?_, ?_, ?_, ?_, ?_, ?_, s.glob.of hkeep N.out⟩, ⟨hle, ?_, Nat.le_refl _, ?_, rfl, rfl, rfl, ?_, ?_⟩⟩
 ·
  intro c en hc
  rcases R.cases c en hc with ⟨rfl, rfl⟩ | ⟨rfl, rfl⟩ | ⟨rfl, rfl⟩ | ⟨rfl, rfl⟩ | ⟨j, kv, key, hj, rfl, hfj, hkey, rfl⟩ | ⟨h1, h2'⟩
  ·exact ⟨ln, _, hle.loc _ _ hln, hon, .map _ _ _ _ hMn2⟩
  ·exact ⟨lu, _, hle.loc _ _ hlu, hou, .map _ _ _ _ hMu2⟩
  ·exact ⟨lf, _, hle.loc _ _ hlf, hof, .map _ _ _ _ hMf2⟩
  ·exact ⟨ld, _, hle.loc _ _ hld, hod, .map _ _ _ _ hMd2⟩
  ·rw [← hn] at hj
   obtain ⟨h1, _⟩ := hent (τ j) (hτ1 j hj)
   obtain ⟨l, o, hl, ho, hr⟩ := s.ents _ _ h1
   obtain ⟨kv', m, c, u, r1, r2, r3, r4, r5⟩ := hτ3 j hj
   rw [hfj] at r1; cases r1
   obtain ⟨m', c', t1, rfl⟩ := fullKey_eq hkey
   rw [r2] at t1; cases t1
   refine ⟨l, o, by rw [← hg, N.l1 j hj]; exact hl, ho, ?_⟩
   cases hr with
   | cells _ _ _ _ _ _ arr T lo hi hr =>
     refine .cells _ _ _ _ _ _ _ _ _ _ ⟨hr.room, hr.len, fun i v hv => ?_, hr.free, hr.ty⟩
     cases i with
     | zero =>
       obtain ⟨u0, hu0, hr0⟩ := hr.vals 0 _ rfl
       refine ⟨u0, hu0, ?_⟩
       have hv' : some (AV.num h.next j c0 (c0 + h.fam.length)) = some v := hv
       cases hv'
       rw [vrInt hr0, ← hg, ← hn]
       have := hτ1 j hj
       exact .num g j _ _ (c0 + τ j) (N.num1 j hj) (by omega) (by omega)
     | succ i =>
       cases i with
       | zero =>
         obtain ⟨u0, hu0, hr0⟩ := hr.vals 1 _ rfl
         refine ⟨u0, hu0, ?_⟩
         have hv' : some (AV.str (2 + m) (14906 % 256 ^ 2 + 256 ^ 2 * c)) = some v := hv
         cases hv'
         obtain ⟨s', hs', hk⟩ := vrSstr hr0
         rw [r3] at hs'; cases hs'
         rw [hk, zcJ]
         exact .str _ _
       | succ i =>
         obtain ⟨u0, hu0, hr0⟩ := hr.vals (i + 2) v hv
         exact ⟨u0, hu0, hr0.mono hle⟩
  ·obtain ⟨l, o, hl, ho, hr⟩ := s.ents _ _ h1
   refine ⟨l, o, hle.loc _ _ hl, ho, (hr.mono hle N.key N.val).other ?_⟩
   show famE en = 0 ∨ famE en ≠ h2.fb
   rw [hfm.1]
   exact Classical.em _
 ·
  intro b l hl
  rw [hnx]
  by_cases hx : ∃ j, j < n ∧ b = g + 1 + 5 * j
  ·obtain ⟨j, hj, rfl⟩ := hx
   rw [N.l1 j hj] at hl
   exact ⟨by omega, (s.locs _ _ hl).2⟩
  ·rw [N.l2 b fun j hj h => hx ⟨j, hj, h⟩] at hl
   have := hlt b l hl
   exact ⟨by omega, (s.locs _ _ hl).2⟩
 ·
  intro g' j v hv
  rw [hnx]
  by_cases hx : g' = g
  ·omega
  ·rw [N.num3 _ _ hx] at hv
   have := s.nums _ _ _ hv
   omega
 ·
  intro g' i j v hi hj
  by_cases hx : g' = g
  ·subst hx
   by_cases h1 : i < n
   ·by_cases h2' : j < n
    ·rw [N.num1 _ h1] at hi
     rw [N.num1 _ h2'] at hj
     have a := Option.some.inj hi
     have b := Option.some.inj hj
     exact hτ2 i j h1 h2' (by omega)
    ·rw [N.num2 _ h2'] at hj; cases hj
   ·rw [N.num2 _ h1] at hi; cases hi
  ·rw [N.num3 _ _ hx] at hi hj
   exact s.numI _ _ _ _ hi hj
 ·
  intro b v hv
  rw [hnx]
  rcases N.t6 b v hv with h1 | h1
  ·exact h1
  ·have := s.stps b v h1
   omega
 ·intro i v hv
  rw [N.key] at hv
  have := s.keys i v hv
  omega
 ·intro i v hv
  rw [N.val] at hv
  have := s.vals i v hv
  omega
 ·
  intro b c en en' l l' hb hc hl hl' hne hblk
  rcases hwas b en hb with ⟨eb, b1, b2, b3, b4, b5, b6⟩ | ⟨i, hi, rfl, b2, _⟩
  ·have hlb := hloc0 b eb l b1 hl
   rcases hwas c en' hc with ⟨ec, c1, c2, c3, c4, c5, c6⟩ | ⟨j, hj, rfl, c2, _⟩
   ·have hlc := hloc0 c ec l' c1 hl'
    rw [b2, c2]
    exact s.sep b c eb ec l l' b1 c1 hlb hlc hne hblk
   ·rw [N.l1 j hj] at hl'
    exact absurd hblk (hapart b eb l _ l' b1 b6 hlb (hτ1 j hj) hl')
  ·rw [N.l1 i hi] at hl
   rcases hwas c en' hc with ⟨ec, c1, c2, c3, c4, c5, c6⟩ | ⟨j, hj, rfl, c2, _⟩
   ·have hlc := hloc0 c ec l' c1 hl'
    exact absurd hblk.symm (hapart c ec l' _ l c1 c6 hlc (hτ1 i hi) hl)
   ·rw [N.l1 j hj] at hl'
    have hne' : bk (τ i) ≠ bk (τ j) := fun hx => by
     have := hτ2 i j hi hj (hbinj _ _ (hτ1 i hi) (hτ1 j hj) hx)
     omega
    rcases s.sep _ _ _ _ l l' (hent _ (hτ1 i hi)).1 (hent _ (hτ1 j hj)).1 hl hl' hne' hblk with h3 | h3
    ·cases h3
    ·cases h3
 ·
  intro b c en en' l l' hb hcb hc hl hl' hblk
  rcases hwas b en hb with ⟨eb, b1, b2, b3, b4, b5, b6⟩ | ⟨i, hi, rfl, b2, _⟩
  ·rw [b2] at hcb
   have hcl := s.oldsLt b c eb b1 hcb
   rcases hwas c en' hc with ⟨ec, c1, c2, c3, c4, c5, c6⟩ | ⟨j, hj, rfl, c2, _⟩
   ·rw [c3]
    exact s.olds b c eb ec l l' b1 hcb c1 (hloc0 b eb l b1 hl) (hloc0 c ec l' c1 hl') hblk
   ·omega
  ·rw [b2] at hcb; cases hcb
 ·
  intro b c en hb hcb
  rcases hwas b en hb with ⟨eb, b1, b2, b3, b4, b5, b6⟩ | ⟨i, hi, rfl, b2, _⟩
  ·rw [b2] at hcb
   have := s.oldsLt b c eb b1 hcb
   omega
  ·rw [b2] at hcb; cases hcb
 ·rw [hfm.1, hfm.2]
  have hno : ∀ i, zb9 0 [] i = false := fun i => by
   unfold zb9
   rw [zaj, Bool.and_eq_false_iff]
   right
   cases hb : Nat.blt i (Nat.add 0 (len ([] : List ME))) with
   | false => rfl
   | true =>
     rw [zat, zaH] at hb
     have : i < 0 + 0 := hb
     omega
  exact ⟨fun i s' hi _ => (by rw [hno] at hi; cases hi), fun i j s' hi _ _ _ => (by rw [hno] at hi; cases hi)⟩
 ·
  intro b c en en' l l' hb hcb hc hl hl' hblk
  rcases hwas b en hb with ⟨eb, b1, b2, b3, b4, b5, b6⟩ | ⟨i, hi, rfl, b2, _⟩
  ·rw [b2] at hcb
   have hcl := s.oldsLt b c eb b1 hcb
   rcases hwas c en' hc with ⟨ec, c1, c2, c3, c4, c5, c6⟩ | ⟨j, hj, rfl, c2, _⟩
   ·rw [c4, b4]
    exact s.ends b c eb ec l l' b1 hcb c1 (hloc0 b eb l b1 hl) (hloc0 c ec l' c1 hl') hblk
   ·omega
  ·rw [b2] at hcb; cases hcb
 ·intro b en hb
  rcases hwas b en hb with ⟨eb, b1, b2, b3, b4, b5, b6⟩ | ⟨i, hi, rfl, b2, b3⟩
  ·rw [b5]; exact s.its b eb b1
  ·exact .inl b3
 ·rw [hfm.1, hfm.2]
  exact Nat.zero_le _
 ·rw [hnx]; omega
 ·exact hkeep
 ·intro b l hl
  by_cases hx : ∃ j, j < n ∧ b = g + 1 + 5 * j
  ·obtain ⟨j, hj, rfl⟩ := hx
   right; omega
  ·rw [N.l2 b fun j hj h => hx ⟨j, hj, h⟩] at hl
   exact .inl hl
 ·intro b hb hgn
  cases hx : h2.get b with
  | none => rfl
  | some en =>
    rcases hwas b en hx with ⟨eb, b1, _⟩ | ⟨i, hi, rfl, _⟩
    ·rw [hgn] at b1; cases b1
    ·omega
def reixK (args : List AV) (h : AH) : Option AH := ite' (zaY h.fam) (some h) (reix args h)
theorem reixK_sound {args : List AV} (hr : reixK args h = some h2) (s : Sat e h w.heap) : ∃ e2, Sat e2 h2 w.heap ∧ Step e h w e2 h2 w := by
 unfold reixK at hr
 rw [zav] at hr
 rcases hr with ⟨_, hr⟩ | ⟨_, hr⟩
 ·cases hr
  exact ⟨e, s, .refl e _ w⟩
 ·obtain ⟨_, _, _, _, _, _, _, _, _, _, _, _, _, _, _, _, _, _, _, _, _, R⟩ := reix_eq hr
  exact reix_sound R s
end
def zfh (f : Nat) : zaR := fun g => if g = f then some (.post fun _ args h => reixK args h) else none
theorem withReix_ok (P : Program) (f : Nat) : KnownOk P (zfh f) := by
 refine ⟨fun g k hk => ?_, fun g k hk => ?_, fun g k hk args h h1 h2 v hkk e w us e1 w1 u s0 ha s1 hv st => ?_⟩
 ·unfold zfh at hk
  split at hk <;> cases hk
 ·unfold zfh at hk
  split at hk <;> cases hk
 ·unfold zfh at hk
  split at hk
  ·cases hk
   obtain ⟨e2, s2, st2⟩ := reixK_sound hkk s1
   exact ⟨e2, s2, hv.mono st2.le, st.trans st2⟩
  ·cases hk
end
end Go.Xe
end
section
namespace Go.Xe
noncomputable section
theorem zfi {P : Program} {I : zaR} (ok : POk P) (hI : KnownOk P I) {f : Nat} {args : List AV} {h h' : AH} {v : AV} (hr : run P I f args h = some (v, h')) {e : Env} {w : World} {us : Array Value} (s : Sat e h w.heap) (ha : VRs e args us.toList) :
  CallsIn Fence.wide 0 P f us w fun en w' => match en with | .returned u => Out e h w v h' u w' | _ => False :=
 zeG ok (exec_good ok hI 1000000) hI f args h e w us s ha v h' hr
def env0 : Env := ⟨fun _ => none, fun _ _ => none, fun _ => none, fun _ => none, fun _ => none, fun _ => none⟩
def heap0 : AH := ⟨1, .nil, 0, []⟩
theorem heap0_get (b : Nat) : heap0.get b = none := by
 unfold AH.get heap0
 rfl
def HasG (H : Array Obj) : Prop := ∃ m t, H[theG]? = some (.cells #[.int .i64 m] t)
theorem sat0 (H : Array Obj) (hG : HasG H) : Sat env0 heap0 H := by
 refine ⟨fun b en hb => ?_, fun b l hb => (by cases hb), fun g j v hv => (by cases hv), fun g i j v hv => (by cases hv), fun i v hv => (by cases hv), fun i v hv => (by cases hv), fun i v hv => (by cases hv),
  fun b c en en' l l' hb => ?_, fun b c en en' l l' hb => ?_, fun b c en hb => ?_, ⟨fun i s _ hs => (by cases hs), fun i j s _ _ hs => (by cases hs)⟩, fun b c en en' l l' hb => ?_, fun b en hb => ?_, Nat.zero_le _, ⟨hG, fun X o ho => (by cases ho), fun X _ ⟨b, en, l, hb, _⟩ => ?_⟩⟩
 all_goals rw [heap0_get] at hb; cases hb
theorem run0_sound {P : Program} {I : zaR} (ok : POk P) (hI : KnownOk P I) {f : Nat} {q : Bool} {h' : AH} (hr : run P I f [] heap0 = some (.bool q, h')) (w : World) (hG : HasG w.heap) :
  CallsIn Fence.wide 0 P f #[] w fun en w' => en = .returned (.bool q) ∧ RowKit.Below w.heap.size w w' := by
 refine CallsIn.mono (zfi ok hI hr (sat0 w.heap hG) (us := #[]) .nil) fun en w' hen => ?_
 cases en with
 | returned u =>
   obtain ⟨e', s', hv, st⟩ := hen
   exact ⟨by rw [vr_bool hv], st.below heap0_get⟩
 | panicked c => exact hen.elim
 | outgrown => exact hen.elim
end
end Go.Xe
end
section
namespace Go.Xe
noncomputable section
theorem EntR.far {e e1 : Env} {fm fm1 : Nat × List ME} {en : Ent} {l : Loc} {o : Obj} (h : EntR e fm en l o) (he : e.le e1) (h0 : fm1.1 = 0) : EntR e1 fm1 en l o := by
 cases h with
 | cells _ _ _ _ _ _ _ _ _ _ h => exact .cells _ _ _ _ _ _ _ _ _ _ (h.mono he)
 | map _ _ _ _ h => exact .map _ _ _ _ (h.mono he)
 | siter _ _ _ _ h0 => exact .siter _ _ _ _ h0
 | miter _ _ _ fam _ _ _ _ _ _ _ h h1 =>
   refine .miter _ _ _ _ _ _ _ _ _ _ _ ⟨let ⟨l, a, b⟩ := h.map; ⟨l, he.loc _ _ a, b⟩, h.size, h.le, h.nodup, h.st, fun hf => ?_, fun h2 h3 => absurd (h3.trans h0) h2⟩ h1
   obtain ⟨a, b, c, d⟩ := h.plain hf
   refine ⟨a, b, fun x hx => ?_, fun k v hv => ?_⟩
   ·obtain ⟨v, hv, hl⟩ := c x hx; exact ⟨v, he.stp _ _ hv, hl⟩
   ·obtain ⟨x, hx, hs⟩ := d k v hv; exact ⟨x, hx, he.stp _ _ hs⟩
 | loop _ _ _ _ _ _ ht hd hb => exact .loop _ _ _ _ _ _ (ht.mono he) (he.loc _ _ hd) hb
 | dfr0 => exact .dfr0 _
 | dfr _ _ _ h => exact .dfr _ _ _ (h.mono he)
structure Framed (h h0 h1 hR : AH) (D O : Nat → Prop) : Prop where
 n0 : h0.next = h.next
 g0 : ∀ c, D c → h0.get c = h.get c
 g0' : ∀ c, ¬ D c → h0.get c = none
 wr : ∀ c en, D c → h.get c = some en → wrE en = true
 old : ∀ c en d, D c → h.get c = some en → d ∈ za5 en → O d
 nR : hR.next = h1.next
 fR : hR.fm = h1.fm
 f1 : h1.fb = 0
 gR : ∀ c en, hR.get c = some en → (h.get c = some en ∧ ¬ D c ∧ ¬ O c) ∨ h1.get c = some en
theorem frame_rule {e e1 : Env} {h h0 h1 hR : AH} {D O : Nat → Prop} {w w1 : World} (F : Framed h h0 h1 hR D O) (s : Sat e h w.heap) (s1 : Sat e1 h1 w1.heap) (st : Step e h0 w e1 h1 w1) : Sat e1 hR w1.heap ∧ Step e h w e1 hR w1 := by
 have hsub : ∀ c en, h0.get c = some en → h.get c = some en ∧ D c := fun c en hc => by
  by_cases hd : D c
  ·rw [F.g0 c hd] at hc; exact ⟨hc, hd⟩
  ·rw [F.g0' c hd] at hc; cases hc
 have hloc : ∀ c en l, h.get c = some en → e1.loc c = some l → e.loc c = some l := fun c en l hc hl => by
  obtain ⟨l', _, hl', _⟩ := s.ents c en hc
  have := st.le.loc _ _ hl'
  rw [hl] at this; cases this
  exact hl'
 have hno : ∀ c en l, h.get c = some en → ¬ D c → ¬ O c → e.loc c = some l → ¬ Own e h0 l.blk := fun c en l hc hd ho hl ⟨b, en', l', hb, hl', hblk⟩ => by
  obtain ⟨hb', hdb⟩ := hsub b en' hb
  have hne : b ≠ c := fun hx => hd (hx ▸ hdb)
  rcases s.sep b c en' en l' l hb' hc hl' hl hne hblk with h3 | h3
  ·exact ho (F.old b en' c hdb hb' h3)
  ·have := s.olds c b en en' l l' hc h3 hb' hl hl' hblk.symm
   rw [F.wr b en' hdb hb'] at this; cases this
 have hmeet : ∀ c en l d en' l', h.get c = some en → ¬ D c → ¬ O c → e1.loc c = some l → h1.get d = some en' → e1.loc d = some l' → l.blk ≠ l'.blk := fun c en l d en' l' hc hd ho hl hd1 hl' hblk => by
  have hle := hloc c en l hc hl
  have := (st.keep l.blk (s.locs c l hle).2 (hno c en l hc hd ho hle)).2
  exact this ⟨d, en', l', hd1, hl', hblk.symm⟩
 have hn1 : h.next ≤ h1.next := by rw [← F.n0]; exact st.nxt
 refine ⟨⟨fun c en hc => ?_, fun b l hb => by rw [F.nR]; exact s1.locs b l hb, fun g j v hv => by rw [F.nR]; exact s1.nums g j v hv, s1.numI, fun i v hv => by rw [F.nR]; exact s1.stps i v hv,
  fun i v hv => by rw [F.nR]; exact s1.keys i v hv, fun i v hv => by rw [F.nR]; exact s1.vals i v hv, fun b c en en' l l' hb hc hl hl' hne hblk => ?_, fun b c en en' l l' hb hcb hc hl hl' hblk => ?_, fun b c en hb hcb => ?_, ?_,
  fun b c en en' l l' hb hcb hc hl hl' hblk => ?_, fun b en hb => ?_, ?_, s1.glob.int, s1.glob.out, fun X hk ⟨b, en, l, hb, hl, hx⟩ => (F.gR b en hb).elim (fun ⟨hb1, _, _⟩ => s.glob.own X (by rcases hk with hk | ⟨o, hk⟩; exact .inl hk; exact .inr ⟨o, st.le.out ▸ hk⟩) ⟨b, en, l, hb1, hloc _ _ _ hb1 hl, hx⟩) fun hb1 => s1.glob.own X hk ⟨b, en, l, hb1, hl, hx⟩⟩,
  ⟨st.le, by rw [F.nR]; exact hn1, st.size, fun X hX hO => ?_, st.os, st.tape, st.output, fun b l hb => ?_, fun b hb hg => ?_⟩⟩
 ·rcases F.gR c en hc with ⟨h1', hd, ho⟩ | h1'
  ·obtain ⟨l, o, hl, hob, hr⟩ := s.ents c en h1'
   refine ⟨l, o, st.le.loc _ _ hl, ?_, hr.far st.le ?_⟩
   ·rw [(st.keep l.blk (s.locs c l hl).2 (hno c en l h1' hd ho hl)).1]; exact hob
   ·rw [F.fR]; exact F.f1
  ·rw [F.fR]; exact s1.ents c en h1'
 ·rcases F.gR b en hb with ⟨hb1, hbd, hbo⟩ | hb1
  ·rcases F.gR c en' hc with ⟨hc1, hcd, hco⟩ | hc1
   ·exact s.sep b c en en' l l' hb1 hc1 (hloc _ _ _ hb1 hl) (hloc _ _ _ hc1 hl') hne hblk
   ·exact absurd hblk (hmeet b en l c en' l' hb1 hbd hbo hl hc1 hl')
  ·rcases F.gR c en' hc with ⟨hc1, hcd, hco⟩ | hc1
   ·exact absurd hblk.symm (hmeet c en' l' b en l hc1 hcd hco hl' hb1 hl)
   ·exact s1.sep b c en en' l l' hb1 hc1 hl hl' hne hblk
 ·rcases F.gR b en hb with ⟨hb1, hbd, hbo⟩ | hb1
  ·rcases F.gR c en' hc with ⟨hc1, hcd, hco⟩ | hc1
   ·exact s.olds b c en en' l l' hb1 hcb hc1 (hloc _ _ _ hb1 hl) (hloc _ _ _ hc1 hl') hblk
   ·exact absurd hblk (hmeet b en l c en' l' hb1 hbd hbo hl hc1 hl')
  ·rcases F.gR c en' hc with ⟨hc1, hcd, hco⟩ | hc1
   ·exact absurd hblk.symm (hmeet c en' l' b en l hc1 hcd hco hl' hb1 hl)
   ·exact s1.olds b c en en' l l' hb1 hcb hc1 hl hl' hblk
 ·rw [F.nR]
  rcases F.gR b en hb with ⟨hb1, _, _⟩ | hb1
  ·exact Nat.lt_of_lt_of_le (s.oldsLt b c en hb1 hcb) hn1
  ·exact s1.oldsLt b c en hb1 hcb
 ·have h1' : hR.fb = h1.fb := congrArg Prod.fst F.fR
  have h2' : hR.fam = h1.fam := congrArg Prod.snd F.fR
  rw [h1', h2']; exact s1.fam
 ·rcases F.gR b en hb with ⟨hb1, hbd, hbo⟩ | hb1
  ·rcases F.gR c en' hc with ⟨hc1, hcd, hco⟩ | hc1
   ·exact s.ends b c en en' l l' hb1 hcb hc1 (hloc _ _ _ hb1 hl) (hloc _ _ _ hc1 hl') hblk
   ·exact absurd hblk (hmeet b en l c en' l' hb1 hbd hbo hl hc1 hl')
  ·rcases F.gR c en' hc with ⟨hc1, hcd, hco⟩ | hc1
   ·exact absurd hblk.symm (hmeet c en' l' b en l hc1 hcd hco hl' hb1 hl)
   ·exact s1.ends b c en en' l l' hb1 hcb hc1 hl hl' hblk
 ·rcases F.gR b en hb with ⟨hb1, _, _⟩ | hb1
  ·exact s.its b en hb1
  ·exact s1.its b en hb1
 ·have h1' : hR.fb = h1.fb := congrArg Prod.fst F.fR
  have h2' : hR.fam = h1.fam := congrArg Prod.snd F.fR
  rw [h1', h2', F.nR]; exact s1.room
 ·have hO0 : ¬ Own e h0 X := fun ⟨b, en, l, hb, hl, hx⟩ => hO ⟨b, en, l, (hsub b en hb).1, hl, hx⟩
  obtain ⟨q1, q2⟩ := st.keep X hX hO0
  refine ⟨q1, fun ⟨b, en, l, hb, hl, hx⟩ => ?_⟩
  rcases F.gR b en hb with ⟨hb1, _, _⟩ | hb1
  ·exact hO ⟨b, en, l, hb1, hloc _ _ _ hb1 hl, hx⟩
  ·exact q2 ⟨b, en, l, hb1, hl, hx⟩
 ·rcases st.new b l hb with hx | hx
  ·exact .inl hx
  ·rw [F.n0] at hx; exact .inr hx
 ·cases hx : hR.get b with
  | none => rfl
  | some en =>
    rcases F.gR b en hx with ⟨hb1, _, _⟩ | hb1
    ·rw [hg] at hb1; cases hb1
    ·have : h0.get b = none := by
      cases hx0 : h0.get b with
      | none => rfl
      | some en' => have := (hsub b en' hx0).1; rw [hg] at this; cases this
     rw [st.gone b (by rw [F.n0]; exact hb) this] at hb1; cases hb1
end
end Go.Xe
end
section
namespace Go.Xe
noncomputable section
theorem zct {α : Type} {p : α → α → Bool} (hp : ∀ x y, p x y = true → x = y) : ∀ {xs ys : List α}, zdD p xs ys = true → xs = ys
 | [], ys, h => ((zaD ys).1 h).symm
 | x :: xs, [], h => by cases h
 | x :: xs, y :: ys, h => by
   have h' : ite' (p x y) (zdD p xs ys) false = true := h
   rw [zaj, Bool.and_eq_true] at h'
   rw [hp x y h'.1, zct hp h'.2]
theorem sameD1_eq {ih : AV → AV → Bool} (hi : ∀ x y, ih x y = true → x = y) {a b : AV} (h : sameD1 ih a b = true) : a = b := by
 cases a <;> try (exact zff h)
 case func f x y =>
  cases f <;> try (exact zff h)
  cases b <;> try (cases h; done)
  rename_i f g x' y'
  cases g <;> try (cases h; done)
  rename_i g
  have h' : ite' (Nat.beq f g) (ite' (zdD ih x x') (zdD ih y y') false) false = true := h
  rw [zaj, Bool.and_eq_true, zaj, Bool.and_eq_true, zah] at h'
  rw [h'.1, zct hi h'.2.1, zct hi h'.2.2]
 case ifc t v =>
  cases b <;> try (cases h; done)
  rename_i t' v'
  have h' : ite' (Nat.beq t t') (ih v v') false = true := h
  rw [zaj, Bool.and_eq_true, zah] at h'
  rw [h'.1, hi _ _ h'.2]
 case agg x =>
  cases b <;> try (cases h; done)
  rw [zct hi (h : zdD ih x _ = true)]
 case tup x =>
  cases b <;> try (cases h; done)
  rw [zct hi (h : zdD ih x _ = true)]
theorem zdq : ∀ {n : Nat} (a b : AV), sameD n a b = true → a = b
 | 0, a, b, h => zff h
 | n + 1, a, b, h => sameD1_eq (ih := fun a b => sameD n a b) (fun x y => zdq x y) h
theorem sameME_eq (a b : ME) (h : sameME a b = true) : a = b := by
 unfold sameME at h
 rw [zaj, Bool.and_eq_true, zaj, Bool.and_eq_true, zah] at h
 obtain ⟨h1, h2, h3⟩ := h
 cases a; cases b
 have e1 := zdq _ _ h1
 have e2 := zdq _ _ h2
 simp only at e1 e2 h3
 rw [e1, e2, h3]
theorem sameE_eq {a b : Ent} (h : sameE a b = true) : a = b ∧ wrE b = true := by
 cases a <;> try (cases h; done)
 case cells l ty wr fz olds =>
  cases b <;> try (cases h; done)
  rename_i l' ty' wr' fz' olds'
  have h' : ite' wr (ite' wr' (ite' (Nat.beq ty ty') (ite' (Nat.beq fz fz') (ite' (zdD Nat.beq olds olds') (zdD (sameD 4) l l') false) false) false) false) false = true := h
  rw [zaj, Bool.and_eq_true, zaj, Bool.and_eq_true, zaj, Bool.and_eq_true, zaj, Bool.and_eq_true, zaj, Bool.and_eq_true, zah, zah] at h'
  obtain ⟨h1, h2, h3, h4, h5, h6⟩ := h'
  rw [h1, h2, h3, h4, zct (fun x y h => (zah x y).1 h) h5, zct (fun x y h => zdq x y h) h6]
  exact ⟨rfl, rfl⟩
 case map es ck =>
  cases b <;> try (cases h; done)
  rename_i es' ck'
  have h' : ite' (Nat.beq ck ck') (zdD sameME es es') false = true := h
  rw [zaj, Bool.and_eq_true, zah] at h'
  rw [h'.1, zct sameME_eq h'.2]
  exact ⟨rfl, rfl⟩
theorem zcO {l : List IE} {h : AH} (hh : holds l h = true) {p : IE} (hp : p ∈ l) : h.get p.i = some p.e ∧ wrE p.e = true := by
 have h1 := zfc.1 hh p hp
 cases hg : h.get p.i with
 | none => rw [hg] at h1; cases h1
 | some e =>
   rw [hg, oE_some] at h1
   obtain ⟨h2, h3⟩ := sameE_eq h1
   rw [h2]; exact ⟨rfl, h3⟩
theorem plainH_eq {n : Nat} {h : AH} (hp : plainH n h = true) : h.next = n ∧ h.fb = 0 ∧ h.fam = [] := by
 unfold plainH at hp
 rw [zaj, Bool.and_eq_true, zaj, Bool.and_eq_true, zah, zah, zaD] at hp
 exact ⟨hp.1.symm, hp.2.1, hp.2.2⟩
theorem zb1 (h : AH) : ∀ (l : List IE) (b : Nat), (∃ p ∈ l, p.i = b ∧ (zbu l h).get b = some p.e) ∨ ((∀ p ∈ l, p.i ≠ b) ∧ (zbu l h).get b = h.get b)
 | [], b => .inr ⟨fun p hp => (by cases hp), rfl⟩
 | q :: l, b => by
   have h1 : zbu (q :: l) h = (zbu l h).set q.i q.e := rfl
   rw [h1, AH.get_set]
   by_cases hqb : q.i = b
   ·exact .inl ⟨q, List.mem_cons_self, hqb, if_pos hqb.symm⟩
   ·rw [if_neg (fun hx => hqb hx.symm)]
    rcases zb1 h l b with ⟨p, hp, q2, q3⟩ | ⟨q1, q2⟩
    ·exact .inl ⟨p, List.mem_cons_of_mem _ hp, q2, q3⟩
    ·refine .inr ⟨fun p hp => ?_, q2⟩
     rcases List.mem_cons.1 hp with rfl | hp
     ·exact hqb
     ·exact q1 p hp
theorem zdr (l : List IE) (h : AH) : (zbu l h).next = h.next ∧ (zbu l h).fb = h.fb ∧ (zbu l h).fam = h.fam := by
 induction l with
 | nil => exact ⟨rfl, rfl, rfl⟩
 | cons q l ih => exact ih
theorem eldersE_eq (e : Ent) : eldersE e = za5 e := by cases e <;> rfl
theorem killAll_get (h : AH) : ∀ (l : List IE) (b : Nat) (en : Ent), (zbX l h).get b = some en → h.get b = some en ∧ ∀ p ∈ l, p.i ≠ b ∧ b ∉ za5 p.e
 | [], b, en, hb => ⟨hb, fun p hp => (by cases hp)⟩
 | q :: l, b, en, hb => by
   have h1 : zbX (q :: l) h = AH.kill (eldersE q.e) ((zbX l h).drop q.i) := rfl
   rw [h1, zb5, eldersE_eq] at hb
   by_cases ho : b ∈ za5 q.e
   ·rw [if_pos ho] at hb; cases hb
   ·rw [if_neg ho, AH.get_drop] at hb
    by_cases hq : b = q.i
    ·rw [if_pos hq] at hb; cases hb
    ·rw [if_neg hq] at hb
     obtain ⟨h2, h3⟩ := killAll_get h l b en hb
     refine ⟨h2, fun p hp => ?_⟩
     rcases List.mem_cons.1 hp with rfl | hp
     ·exact ⟨fun hx => hq hx.symm, ho⟩
     ·exact h3 p hp
theorem nil_get (n b : Nat) : (⟨n, .nil, 0, []⟩ : AH).get b = none := rfl
theorem card_sound {P : Program} {f : Nat} {c : Card} (hc : ∀ e (w : World) (us : Array Value), Sat e (zad c.n c.l) w.heap → VRs e c.args us.toList → ∃ o, zc6 c o = true ∧ GoodV P o e (zad c.n c.l) w f us)
  {args : List AV} {h : AH} {e : Env} {w : World} {us : Array Value} (s : Sat e h w.heap) (ha : VRs e args us.toList) : GoodV P (cardH c args h) e h w f us := by
 intro v h' hv
 unfold cardH at hv
 rw [zaf, zaf, zaf] at hv
 obtain ⟨g1, g2, g3, hv⟩ := hv
 cases hv
 have hargs := zct (fun x y h => zdq x y h) g1
 subst hargs
 obtain ⟨p1, p2, p3⟩ := plainH_eq g2
 obtain ⟨r1, r2, r3⟩ := zdr c.l ⟨c.n, .nil, 0, []⟩
 have hget0 : ∀ b en, (zad c.n c.l).get b = some en → h.get b = some en ∧ (∃ p ∈ c.l, p.i = b) := fun b en hb => by
  rcases zb1 ⟨c.n, .nil, 0, []⟩ c.l b with ⟨p, hp, q1, q2⟩ | ⟨_, q2⟩
  ·have hb' : (zbu c.l ⟨c.n, .nil, 0, []⟩).get b = some en := hb
   rw [q2] at hb'; cases hb'
   exact ⟨q1 ▸ (zcO g3 hp).1, p, hp, q1⟩
  ·have hb' : (zbu c.l ⟨c.n, .nil, 0, []⟩).get b = some en := hb
   rw [q2, nil_get] at hb'; cases hb'
 have s0 : Sat e (zad c.n c.l) w.heap := s.sub (fun b en hb => (hget0 b en hb).1) (by rw [p1]; exact Nat.le_of_eq r1.symm) (by show ((zbu c.l _).fb, (zbu c.l _).fam) = (h.fb, h.fam); rw [r2, r3, p2, p3])
 obtain ⟨o, hok, hgood⟩ := hc e w us s0 ha
 cases o with
 | none => cases hok
 | some r =>
   obtain ⟨v0, h1⟩ := r
   unfold zc6 at hok
   rw [oE_some, zaj, Bool.and_eq_true, zaj, Bool.and_eq_true] at hok
   obtain ⟨k1, k2, k3⟩ := hok
   have hv0 := zdq _ _ k1
   simp only at hv0 k2 k3
   obtain ⟨t1, t2, t3⟩ := plainH_eq k2
   refine CallsIn.mono (hgood v0 h1 rfl) fun en w1 hen => ?_
   cases en with
   | panicked c => exact hen.elim
   | outgrown => exact hen.elim
   | returned u =>
     obtain ⟨e1, s1, hv1, st1⟩ := hen
     obtain ⟨x1, x2, x3⟩ := zdr c.l' ⟨c.n', .nil, 0, []⟩
     have hget1 : ∀ b en, (zad c.n' c.l').get b = some en → h1.get b = some en := fun b en hb => by
      have hb' : (zbu c.l' ⟨c.n', .nil, 0, []⟩).get b = some en := hb
      rcases zb1 ⟨c.n', .nil, 0, []⟩ c.l' b with ⟨p, hp, q1, q2⟩ | ⟨_, q2⟩
      ·rw [q2] at hb'; cases hb'
       exact q1 ▸ (zcO k3 hp).1
      ·rw [q2, nil_get] at hb'; cases hb'
     have hn1 : h1.next ≤ (zad c.n' c.l').next := by rw [t1]; exact Nat.le_of_eq x1.symm
     have s1' : Sat e1 (zad c.n' c.l') w1.heap := s1.sub hget1 hn1 (by show ((zbu c.l' _).fb, (zbu c.l' _).fam) = (h1.fb, h1.fam); rw [x2, x3, t2, t3])
     have st1' : Step e (zad c.n c.l) w e1 (zad c.n' c.l') w1 := st1.sub hget1 hn1
     obtain ⟨y1, y2, y3⟩ := zdr c.l' (zbX c.l ⟨c.n', h.t, 0, []⟩)
     have hkr : ∀ l : List IE, (zbX l ⟨c.n', h.t, 0, []⟩).next = c.n' ∧ (zbX l ⟨c.n', h.t, 0, []⟩).fb = 0 ∧ (zbX l ⟨c.n', h.t, 0, []⟩).fam = [] := fun l => by
      induction l with
      | nil => exact ⟨rfl, rfl, rfl⟩
      | cons q l ih =>
        have hq : zbX (q :: l) ⟨c.n', h.t, 0, []⟩ = AH.kill (eldersE q.e) ((zbX l ⟨c.n', h.t, 0, []⟩).drop q.i) := rfl
        obtain ⟨z1, z2, z3⟩ := zbk (eldersE q.e) ((zbX l ⟨c.n', h.t, 0, []⟩).drop q.i)
        rw [hq, z1, z2, z3]; exact ih
     have hfr := frame_rule (h := h) (h0 := zad c.n c.l) (h1 := zad c.n' c.l') (hR := zbu c.l' (zbX c.l ⟨c.n', h.t, 0, []⟩)) (D := fun b => ∃ p ∈ c.l, p.i = b) (O := fun b => ∃ p ∈ c.l, b ∈ za5 p.e)
      ⟨by rw [p1]; exact r1, fun b ⟨p, hp, hpb⟩ => ?_, fun b hb => ?_, fun b en ⟨p, hp, hpb⟩ hbe => ?_, fun b en d ⟨p, hp, hpb⟩ hbe hd => ?_, ?_, ?_, x2, fun b en hb => ?_⟩ s s1' st1'
     ·obtain ⟨sR, stR⟩ := hfr
      exact ⟨e1, sR, hv0 ▸ hv1, stR⟩
     ·rcases zb1 ⟨c.n, .nil, 0, []⟩ c.l b with ⟨p', hp', q1, q2⟩ | ⟨q1, _⟩
      ·have : (zad c.n c.l).get b = some p'.e := q2
       rw [this, ← q1, (zcO g3 hp').1]
      ·exact absurd hpb (q1 p hp)
     ·cases hx : (zad c.n c.l).get b with
      | none => rfl
      | some en => exact absurd (hget0 b en hx).2 hb
     ·have h2 := zcO g3 hp
      rw [hpb, hbe] at h2
      cases h2.1
      exact h2.2
     ·have h2 := zcO g3 hp
      rw [hpb, hbe] at h2
      cases h2.1
      exact ⟨p, hp, hd⟩
     ·rw [y1, (hkr c.l).1]
      exact x1.symm
     ·show ((zbu c.l' _).fb, (zbu c.l' _).fam) = ((zbu c.l' _).fb, (zbu c.l' _).fam)
      rw [y2, y3, (hkr c.l).2.1, (hkr c.l).2.2, x2, x3]
     ·rcases zb1 (zbX c.l ⟨c.n', h.t, 0, []⟩) c.l' b with ⟨p, hp, q1, q2⟩ | ⟨q1, q2⟩
      ·right
       rw [q2] at hb; cases hb
       rcases zb1 ⟨c.n', .nil, 0, []⟩ c.l' b with ⟨p', hp', q1', q2'⟩ | ⟨q1', _⟩
       ·have h3 := (zcO k3 hp).1
        have h4 := (zcO k3 hp').1
        rw [q1] at h3
        rw [q1', h3] at h4
        have : (zad c.n' c.l').get b = some p'.e := q2'
        rw [this, ← h4]
       ·exact absurd q1 (q1' p hp)
      ·left
       rw [q2] at hb
       obtain ⟨h2, h3⟩ := killAll_get _ _ _ _ hb
       exact ⟨h2, fun ⟨p, hp, hpb⟩ => (h3 p hp).1 hpb, fun ⟨p, hp, hpb⟩ => (h3 p hp).2 hpb⟩
theorem card_run {P : Program} {I : zaR} (ok : POk P) (hI : KnownOk P I) {f : Nat} {c : Card} (hc : zc6 c (run P I f c.args (zad c.n c.l)) = true)
  {args : List AV} {h : AH} {e : Env} {w : World} {us : Array Value} (s : Sat e h w.heap) (ha : VRs e args us.toList) : GoodV P (cardH c args h) e h w f us :=
 card_sound (fun e w us s ha => ⟨_, hc, fun v h' hv => zfi ok hI hv s ha⟩) s ha
def cardsH (cs : List Card) (args : List AV) (h : AH) : VH := lE none (fun c _ r => oE r (fun x => some x) (cardH c args h)) cs
def zbB (I : zaR) (f : Nat) (cs : List Card) : zaR := fun g => if g = f then some (.pre (cardsH cs)) else I g
theorem zbG {P : Program} {I : zaR} (ok : POk P) (hI : KnownOk P I) {f : Nat} {cs : List Card} (hc : ∀ c ∈ cs, ∃ J, KnownOk P J ∧ zc6 c (run P J f c.args (zad c.n c.l)) = true) : KnownOk P (zbB I f cs) := by
 have key : ∀ args h e (w : World) (us : Array Value), Sat e h w.heap → VRs e args us.toList → GoodV P (cardsH cs args h) e h w f us := fun args h e w us s ha => by
  induction cs with
  | nil => intro v h' hv; cases hv
  | cons c cs ih =>
    intro v h' hv
    have hv' : oE (cardsH cs args h) (fun x => some x) (cardH c args h) = some (v, h') := hv
    cases hk : cardH c args h with
    | none =>
      rw [hk, oE_none] at hv'
      exact ih (fun c hc' => hc c (List.mem_cons_of_mem _ hc')) v h' hv'
    | some r =>
      rw [hk, oE_some] at hv'
      rw [hv'] at hk
      obtain ⟨J, hJ, h2⟩ := hc c List.mem_cons_self
      exact card_run ok hJ h2 s ha v h' hk
 refine ⟨fun g k hk => ?_, fun g k hk args h e w us s ha => ?_, fun g k hk => ?_⟩
 ·unfold zbB at hk
  by_cases hg : g = f
  ·rw [if_pos hg] at hk; cases hk
  ·rw [if_neg hg] at hk
   exact hI.whole g k hk
 ·unfold zbB at hk
  by_cases hg : g = f
  ·rw [if_pos hg] at hk
   cases hk
   rw [hg]
   exact key args h e w us s ha
  ·rw [if_neg hg] at hk
   exact hI.pre g k hk args h e w us s ha
 ·unfold zbB at hk
  by_cases hg : g = f
  ·rw [if_pos hg] at hk; cases hk
  ·rw [if_neg hg] at hk
   exact hI.post g k hk
end
end Go.Xe
end
section
namespace Go.Xe
noncomputable section
def Env.cut (e : Env) (n : Nat) : Env :=
 { loc := fun b => if b < n then e.loc b else none, num := fun g j => if g < n then e.num g j else none, stp := fun s => if s < n then e.stp s else none,
   key := fun i => if i < n then e.key i else none, val := fun i => if i < n then e.val i else none, out := e.out }
def fnLt (n : Nat) : Fn → Bool
 | .yield b => decide (b < n)
 | _ => true
mutual
def avLt (n : Nat) : AV → Bool
 | .num g _ _ _ => decide (g < n)
 | .stp s => decide (s < n)
 | .sstr _ _ i => decide (i < n)
 | .sval i => decide (i < n)
 | .ptr b _ => decide (b < n)
 | .sl b _ _ _ => decide (b < n)
 | .map b => decide (b < n)
 | .func f x y => fnLt n f && (avsLt n x && avsLt n y)
 | .ifc _ v => avLt n v
 | .agg l => avsLt n l
 | .tup l => avsLt n l
 | _ => true
def avsLt (n : Nat) : List AV → Bool
 | [] => true
 | v :: l => avLt n v && avsLt n l
end
theorem FnR.cut {e : Env} {n : Nat} {f f' : Fn} (h : FnR e f f') (hf : fnLt n f = true) : FnR (e.cut n) f f' := by
 cases h with
 | same _ h => exact .same _ h
 | yield b l h => exact .yield b l (by show (if b < n then _ else _) = _; rw [if_pos (of_decide_eq_true hf)]; exact h)
mutual
theorem VR.cut {e : Env} {n : Nat} : {v : AV} → {u : Value} → VR e v u → avLt n v = true → VR (e.cut n) v u
 | _, _, .bool b, _ => .bool b
 | _, _, .int k m, _ => .int k m
 | _, _, .num g j lo hi v h h1 h2, q => .num g j lo hi v (by show (if g < n then _ else _) = _; rw [if_pos (of_decide_eq_true q)]; exact h) h1 h2
 | _, _, .stp s v h, q => .stp s v (by show (if s < n then _ else _) = _; rw [if_pos (of_decide_eq_true q)]; exact h)
 | _, _, .str m c, _ => .str m c
 | _, _, .sstr pn pc i s h, q => .sstr pn pc i s (by show (if i < n then _ else _) = _; rw [if_pos (of_decide_eq_true q)]; exact h)
 | _, _, .sval i v h hc, q => .sval i v (by show (if i < n then _ else _) = _; rw [if_pos (of_decide_eq_true q)]; exact h) hc
 | _, _, .ptr b o l h, q => .ptr b o l (by show (if b < n then _ else _) = _; rw [if_pos (of_decide_eq_true q)]; exact h)
 | _, _, .pnil, _ => .pnil
 | _, _, .gptr g, _ => .gptr g
 | _, _, .sl b o m z c l h h0 h1 h2, q => .sl b o m z c l (by show (if b < n then _ else _) = _; rw [if_pos (of_decide_eq_true q)]; exact h) h0 h1 h2
 | _, _, .sle a c, _ => .sle a c
 | _, _, .snil, _ => .snil
 | _, _, .map b l h, q => .map b l (by show (if b < n then _ else _) = _; rw [if_pos (of_decide_eq_true q)]; exact h)
 | _, _, .mnil, _ => .mnil
 | _, _, .func f f' x y x' y' h hx hy, q => by
   have q1 := Bool.and_eq_true_iff.1 q
   have q2 := Bool.and_eq_true_iff.1 q1.2
   exact .func f f' x y x' y' (h.cut q1.1) (VRs.cut hx q2.1) (VRs.cut hy q2.2)
 | _, _, .fnil, _ => .fnil
 | _, _, .ifc t v u h, q => .ifc t v u (VR.cut h q)
 | _, _, .inil, _ => .inil
 | _, _, .agg l l' h, q => .agg l l' (VRs.cut h q)
 | _, _, .tup l l' h, q => .tup l l' (VRs.cut h q)
theorem VRs.cut {e : Env} {n : Nat} : {l : List AV} → {l' : List Value} → VRs e l l' → avsLt n l = true → VRs (e.cut n) l l'
 | _, _, .nil, _ => .nil
 | _, _, .cons v u l l' h ht, q => .cons v u l l' (VR.cut h (Bool.and_eq_true_iff.1 q).1) (VRs.cut ht (Bool.and_eq_true_iff.1 q).2)
end
def zfS (n : Nat) : Ent → Bool
 | .cells cs _ _ _ olds => avsLt n cs && olds.all fun c => decide (c < n)
 | .map es _ => es.all fun m => avLt n m.k && (avLt n m.v && decide (m.s < n))
 | _ => false
theorem avsLt_get {n : Nat} : ∀ {l : List AV} {i : Nat} {v : AV}, avsLt n l = true → l[i]? = some v → avLt n v = true
 | [], _, _, _, h => by simp at h
 | a :: l, 0, v, q, h => by
   simp at h
   subst h
   exact (Bool.and_eq_true_iff.1 q).1
 | a :: l, i + 1, v, q, h => avsLt_get (Bool.and_eq_true_iff.1 q).2 (by simpa using h)
theorem MERs.cut {e : Env} {n : Nat} {l : List ME} {l' : List MapEntry} (h : MERs e l l') (q : ∀ m ∈ l, avLt n m.k = true ∧ avLt n m.v = true ∧ m.s < n) : MERs (e.cut n) l l' := by
 induction h with
 | nil => exact .nil
 | cons m x l l' h _ ih =>
   obtain ⟨q1, q2, q3⟩ := q m (List.mem_cons_self ..)
   exact .cons _ _ _ _ ⟨h.k.cut q1, h.v.cut q2, by show (if m.s < n then _ else _) = _; rw [if_pos q3]; exact h.s⟩ (ih fun m' hm => q m' (List.mem_cons_of_mem _ hm))
theorem EntR.cut {e : Env} {n : Nat} {fm fm' : Nat × List ME} {en : Ent} {l : Loc} {o : Obj} (h : EntR e fm en l o) (q : zfS n en = true) : EntR (e.cut n) fm' en l o := by
 cases h with
 | cells _ _ _ _ _ _ _ _ _ _ h =>
   have q1 := (Bool.and_eq_true_iff.1 q).1
   exact .cells _ _ _ _ _ _ _ _ _ _ ⟨h.room, h.len, fun i v hv => let ⟨u, hu, hr⟩ := h.vals i v hv; ⟨u, hu, hr.cut (avsLt_get q1 hv)⟩, h.free, h.ty⟩
 | map es _ _ _ h =>
   obtain ⟨p, hp, hm⟩ := h.perm
   refine .map _ _ _ _ ⟨⟨p, hp, hm.cut fun m hmm => ?_⟩, h.born, h.stamps, h.keys⟩
   have := List.all_eq_true.1 q m (hp.mem_iff.1 hmm)
   simp only [Bool.and_eq_true, decide_eq_true_eq] at this
   exact ⟨this.1, this.2.1, this.2.2⟩
 | siter _ _ _ _ h0 => cases q
 | miter _ _ _ _ _ _ _ _ _ _ _ h h0 => cases q
 | loop _ _ _ _ _ _ ht hd hb => cases q
 | dfr0 => cases q
 | dfr _ _ _ h => cases q
theorem Sat.cut {e : Env} {h h2 : AH} {H : Array Obj} (s : Sat e h H) (hsub : ∀ b en, h2.get b = some en → h.get b = some en ∧ b < h2.next ∧ zfS h2.next en = true) (hf : h2.fb = 0) (hfa : h2.fam = []) :
  Sat (e.cut h2.next) h2 H := by
 have loc' : ∀ b l, (e.cut h2.next).loc b = some l → b < h2.next ∧ e.loc b = some l := fun b l hb => by
  have hb' : (if b < h2.next then e.loc b else none) = some l := hb
  by_cases hlt : b < h2.next
  ·rw [if_pos hlt] at hb'; exact ⟨hlt, hb'⟩
  ·rw [if_neg hlt] at hb'; cases hb'
 have opt : ∀ {α : Type} {b : Nat} {o : Option α} {x : α}, (if b < h2.next then o else none) = some x → b < h2.next ∧ o = some x := fun {α b o x} hb => by
  by_cases hlt : b < h2.next
  ·rw [if_pos hlt] at hb; exact ⟨hlt, hb⟩
  ·rw [if_neg hlt] at hb; cases hb
 refine ⟨fun b en hb => ?_, fun b l hb => ⟨(loc' b l hb).1, (s.locs b l (loc' b l hb).2).2⟩, fun g j v hv => (opt hv).1, fun g i j v hi hj => s.numI g i j v (opt hi).2 (opt hj).2, fun i v hv => (opt hv).1,
  fun i v hv => (opt hv).1, fun i v hv => (opt hv).1, fun b c en en' l l' hb hc hl hl' => s.sep b c en en' l l' (hsub _ _ hb).1 (hsub _ _ hc).1 (loc' _ _ hl).2 (loc' _ _ hl').2,
  fun b c en en' l l' hb hc hc' hl hl' => s.olds b c en en' l l' (hsub _ _ hb).1 hc (hsub _ _ hc').1 (loc' _ _ hl).2 (loc' _ _ hl').2, fun b c en hb hc => ?_, ?_,
  fun b c en en' l l' hb hc hc' hl hl' => s.ends b c en en' l l' (hsub _ _ hb).1 hc (hsub _ _ hc').1 (loc' _ _ hl).2 (loc' _ _ hl').2, fun b en hb => s.its b en (hsub _ _ hb).1, by rw [hf, hfa]; exact Nat.zero_le _,
  s.glob.less (fun X ⟨b, en, l, hb, hl, hX⟩ => ⟨b, en, l, (hsub _ _ hb).1, (loc' _ _ hl).2, hX⟩)⟩
 ·obtain ⟨h1, h2', h3⟩ := hsub b en hb
  obtain ⟨l, o, hl, ho, hr⟩ := s.ents b en h1
  exact ⟨l, o, by show (if b < h2.next then _ else _) = _; rw [if_pos h2']; exact hl, ho, hr.cut h3⟩
 ·obtain ⟨_, _, h3⟩ := hsub b en hb
  cases en <;> try (simp [za5] at hc; done)
  simp only [zfS, Bool.and_eq_true, List.all_eq_true, decide_eq_true_eq] at h3
  exact h3.2 c hc
 ·rw [hf, hfa]
  have hno : ∀ i, zb9 0 ([] : List ME) i ≠ true := fun i h => by
   unfold zb9 at h
   rw [zaB, zaH] at h
   have h' : Nat.blt (Nat.sub i 0) 0 = true ∨ Nat.blt i 0 = true := by
    split at h
    ·first | exact .inl h | exact .inr h
    ·cases h
   rcases h' with h' | h' <;> rw [zat] at h' <;> omega
  exact ⟨fun i s' hi hs => absurd hi (hno i), fun i j s' hi => absurd hi (hno i)⟩
end
end Go.Xe
end
section
namespace Go.Xe
noncomputable section
theorem zb2 (n : Nat) (l : List IE) : (zad n l).next = n ∧ (zad n l).fb = 0 ∧ (zad n l).fam = [] := zdr l _
theorem zfT {n : Nat} {l : List IE} {b : Nat} {en : Ent} (h : (zad n l).get b = some en) : ∃ p ∈ l, p.i = b ∧ p.e = en := by
 have h' : (zbu l ⟨n, .nil, 0, []⟩).get b = some en := h
 rcases zb1 ⟨n, .nil, 0, []⟩ l b with ⟨p, hp, q1, q2⟩ | ⟨_, q2⟩
 ·rw [q2] at h'; cases h'
  exact ⟨p, hp, q1, rfl⟩
 ·rw [q2, nil_get] at h'; cases h'
theorem Sat.view {e : Env} {h : AH} {H : Array Obj} (s : Sat e h H) {b : Nat} {cs : List AV} {ty : Nat} {wr : Bool} {olds : List Nat} {L : Loc} (hb : h.get b = some (.cells cs ty wr 0 olds)) (hty : ty ≠ 0) (hl : e.loc b = some L) :
  ∃ arr, H[L.blk]? = some (.cells arr ty (0, 0)) ∧ L.off = 0 ∧ cs.length ≤ arr.size ∧ ∀ (i : Nat) v, cs[i]? = some v → ∃ u, arr[i]? = some u ∧ VR e v u := by
 obtain ⟨arr, T, lo, hi, hH, hR⟩ := s.row hb hl
 obtain ⟨rfl, h2, rfl, h4⟩ := hR.ty hty
 have h5 := h4 rfl
 subst h5
 refine ⟨arr, hH, h2, ?_, fun i v hv => ?_⟩
 ·have := hR.room; have := hR.len; omega
 ·have := hR.vals i v hv
  rw [h2, Nat.zero_add] at this
  exact this
theorem heap_setCell_eq {w : World} {X i : Nat} {arr : Array Value} {T : TypeId} {fr : Nat × Nat} (h : w.heap[X]? = some (.cells arr T fr)) (u : Value) :
  w.setCell ⟨X, i, none⟩ u = { w with heap := w.heap.setIfInBounds X (.cells (arr.setIfInBounds i u) T fr) } := by
 unfold World.setCell
 congr 1
 apply Array.ext_getElem?
 intro k
 rw [Array.getElem?_modify, Array.getElem?_setIfInBounds]
 by_cases hk : X = k
 ·subst hk
  have hlt := (Array.getElem?_eq_some_iff.1 h).1
  rw [if_pos rfl, if_pos rfl, if_pos hlt, h]
  rfl
 ·rw [if_neg hk, if_neg hk]
theorem Sat.put1 {e : Env} {h : AH} {w : World} (s : Sat e h w.heap) {b i : Nat} {cs : List AV} {ty : Nat} {L : Loc} {a : AV} {u : Value} (hb : h.get b = some (.cells cs ty true 0 [])) (hty : ty ≠ 0) (hl : e.loc b = some L) (hv : VR e a u) :
  Sat e (h.set b (.cells (cs.set i a) ty true 0 [])) (w.setCell ⟨L.blk, i, none⟩ u).heap ∧ Step e h w e (h.set b (.cells (cs.set i a) ty true 0 [])) (w.setCell ⟨L.blk, i, none⟩ u) := by
 obtain ⟨arr, T, lo, hi, hH, hR⟩ := s.row hb hl
 obtain ⟨rfl, h2, rfl, h4⟩ := hR.ty hty
 have h5 := h4 rfl
 subst h5
 have hal := s.aloneW hb hl rfl fun c hc => by cases hc
 rw [heap_setCell_eq hH u]
 refine ⟨s.setObj hb hl hal ?_ (fun c hc => hc) (fun hx => hx) (by simp [lenE]), Step.setObj s _ hb hl⟩
 refine .cells _ _ _ _ _ _ _ _ _ _ ⟨by simpa using hR.room, by simpa using hR.len, fun j v hj => ?_, hR.free, hR.ty⟩
 rw [h2, Nat.zero_add]
 rw [List.getElem?_set] at hj
 rw [Array.getElem?_setIfInBounds]
 by_cases hij : i = j
 ·subst hij
  rw [if_pos rfl] at hj
  rw [if_pos rfl]
  by_cases hlt : i < cs.length
  ·rw [if_pos hlt] at hj
   cases hj
   have := hR.room; have := hR.len
   exact ⟨u, by rw [if_pos (by omega)], hv⟩
  ·rw [if_neg hlt] at hj; cases hj
 ·rw [if_neg hij] at hj
  rw [if_neg hij]
  have := hR.vals j v hj
  rw [h2, Nat.zero_add] at this
  exact this
theorem Sat.grow {e : Env} {h : AH} {H H' : Array Obj} (s : Sat e h H) (hs : H.size ≤ H'.size) (hk : ∀ k, k < H.size → H'[k]? = H[k]?) : Sat e h H' := by
 refine ⟨fun b en hb => ?_, fun b l hb => ⟨(s.locs b l hb).1, Nat.lt_of_lt_of_le (s.locs b l hb).2 hs⟩, s.nums, s.numI, s.stps, s.keys, s.vals, s.sep, s.olds, s.oldsLt, s.fam, s.ends, s.its, s.room, s.glob.of fun X hX hO => ⟨hk X hX, hO⟩⟩
 obtain ⟨l, o, hl, ho, hr⟩ := s.ents b en hb
 exact ⟨l, o, hl, (hk _ (s.locs b l hl).2).trans ho, hr⟩
theorem Step.of_below {e : Env} {h : AH} {w w' : World} (hb : RowKit.Below w.heap.size w w') : Step e h w e h w' :=
 ⟨.refl e, Nat.le_refl _, hb.size, fun X hX hO => ⟨hb.block X hX, hO⟩, hb.os, hb.tape, hb.output, fun _ _ h => .inl h, fun _ _ h => h⟩
theorem Sat.below {e : Env} {h : AH} {w w' : World} (s : Sat e h w.heap) (hb : RowKit.Below w.heap.size w w') : Sat e h w'.heap := s.grow hb.size hb.block
def Env.withKey (e : Env) (i : Nat) (x : ByteArray) : Env := { e with key := fun j => if j = i then some x else e.key j }
theorem Sat.noKey {e : Env} {h : AH} {H : Array Obj} (s : Sat e h H) : e.key h.next = none := by
 cases hl : e.key h.next with
 | none => rfl
 | some l => exact absurd (s.keys _ _ hl) (Nat.lt_irrefl _)
theorem Env.withKey_le {e : Env} {i : Nat} {x : ByteArray} (h : e.key i = none) : e.le (e.withKey i x) := by
 refine ⟨fun _ _ h => h, fun _ _ _ h => h, fun _ _ h => h, fun j v hj => ?_, fun _ _ h => h, rfl⟩
 show (if j = i then some x else e.key j) = some v
 by_cases hji : j = i
 ·subst hji; rw [h] at hj; cases hj
 ·rw [if_neg hji]; exact hj
theorem Sat.newKey {e : Env} {h : AH} {H : Array Obj} (s : Sat e h H) (hf : h.fb = 0) (hfa : h.fam = []) (x : ByteArray) : Sat (e.withKey h.next x) h.more H := by
 have hle := Env.withKey_le (x := x) s.noKey
 have m := s.more
 have hno : ∀ i, zb9 0 ([] : List ME) i ≠ true := fun i h => by
  unfold zb9 at h
  rw [zaB, zaH] at h
  have h' : Nat.blt (Nat.sub i 0) 0 = true ∨ Nat.blt i 0 = true := by
   split at h
   ·first | exact .inl h | exact .inr h
   ·cases h
  rcases h' with h' | h' <;> rw [zat] at h' <;> omega
 refine ⟨fun b en hb => ?_, m.locs, m.nums, m.numI, m.stps, fun i v hi => ?_, m.vals, m.sep, m.olds, m.oldsLt, ?_, m.ends, m.its, m.room, m.glob.less fun X ⟨b, en, l, hb, hl, hX⟩ => ⟨b, en, l, hb, hl, hX⟩⟩
 ·obtain ⟨l, o, hl, ho, hr⟩ := m.ents b en hb
  exact ⟨l, o, hl, ho, hr.far hle hf⟩
 ·have hi' : (if i = h.next then some x else e.key i) = some v := hi
  by_cases his : i = h.next
  ·subst his; exact Nat.lt_succ_self _
  ·rw [if_neg his] at hi'; exact m.keys i v hi'
 ·show FamOk _ h.fb h.fam
  rw [hf, hfa]
  exact ⟨fun i s' hi hs => absurd hi (hno i), fun i j s' hi => absurd hi (hno i)⟩
theorem Step.newKey {e : Env} {h : AH} {w : World} (s : Sat e h w.heap) (x : ByteArray) : Step e h w (e.withKey h.next x) h.more w :=
 ⟨Env.withKey_le s.noKey, Nat.le_succ _, Nat.le_refl _, fun X hX hO => ⟨rfl, fun ⟨b, en, l, hb, hl, hX⟩ => hO ⟨b, en, l, hb, hl, hX⟩⟩, rfl, rfl, rfl, fun _ _ h => .inl h, fun _ _ h => h⟩
end
end Go.Xe
end
section
namespace Go.Xe
noncomputable section
theorem Sat.cut_self {e : Env} {h : AH} {H : Array Obj} (s : Sat e h H) : e.cut h.next = e := by
 have q : ∀ {α : Type} (n : Nat) (f : Nat → Option α) (hf : ∀ b v, f b = some v → b < n), (fun b => if b < n then f b else none) = f := fun n f hf => by
  funext b
  by_cases hb : b < n
  ·rw [if_pos hb]
  ·rw [if_neg hb]
   cases h : f b with
   | none => rfl
   | some v => exact absurd (hf b v h) hb
 obtain ⟨loc, num, stp, key, val, out⟩ := e
 have h1 := q h.next loc fun b v hb => (s.locs b v hb).1
 have h2 : (fun g j => if g < h.next then num g j else none) = num := by
  funext g j
  by_cases hb : g < h.next
  ·rw [if_pos hb]
  ·rw [if_neg hb]
   cases hx : num g j with
   | none => rfl
   | some v => exact absurd (s.nums g j v hx) hb
 have h3 := q h.next stp fun b v hb => s.stps b v hb
 have h4 := q h.next key fun b v hb => s.keys b v hb
 have h5 := q h.next val fun b v hb => s.vals b v hb
 show Env.mk _ _ _ _ _ _ = _
 congr 1
theorem Sat.subL {e : Env} {h h2 : AH} {H : Array Obj} (s : Sat e h H) (hn : h2.next = h.next) (hsub : ∀ b en, h2.get b = some en → h.get b = some en ∧ b < h2.next ∧ zfS h2.next en = true) (hf : h2.fb = 0) (hfa : h2.fam = []) : Sat e h2 H := by
 have := s.cut hsub hf hfa
 rw [hn, s.cut_self] at this
 exact this
theorem Own.sub {e : Env} {h h2 : AH} (hsub : ∀ b en, h2.get b = some en → h.get b = some en) {X : Nat} (o : Own e h2 X) : Own e h X := by
 obtain ⟨b, en, l, h1, h2, h3⟩ := o
 exact ⟨b, en, l, hsub b en h1, h2, h3⟩
theorem Sat.others {e : Env} {h : AH} {H H' : Array Obj} (s : Sat e h H) (ho : ∀ X, e.out X = none) (hs : H.size ≤ H'.size) (hk : ∀ k, k < H.size → (k = theG ∨ Own e h k) → H'[k]? = H[k]?) : Sat e h H' := by
 refine ⟨fun b en hb => ?_, fun b l hb => ⟨(s.locs b l hb).1, Nat.lt_of_lt_of_le (s.locs b l hb).2 hs⟩, s.nums, s.numI, s.stps, s.keys, s.vals, s.sep, s.olds, s.oldsLt, s.fam, s.ends, s.its, s.room, ?_⟩
 ·obtain ⟨l, o, hl, hx, hr⟩ := s.ents b en hb
  exact ⟨l, o, hl, (hk _ (s.locs b l hl).2 (.inr ⟨b, en, l, hb, hl, rfl⟩)).trans hx, hr⟩
 ·obtain ⟨⟨m, t, hm⟩, hout, hown⟩ := s.glob
  refine ⟨⟨m, t, (hk _ (Array.getElem?_eq_some_iff.1 hm).1 (.inl rfl)).trans hm⟩, fun X o h1 => ?_, hown⟩
  rw [ho X] at h1; cases h1
structure StepB (B : Nat) (e : Env) (h : AH) (w : World) (e' : Env) (h' : AH) (w' : World) : Prop where
 le : e.le e'
 nxt : h.next ≤ h'.next
 size : w.heap.size ≤ w'.heap.size
 keep : ∀ X, X < B → ¬ Own e h X → w'.heap[X]? = w.heap[X]? ∧ ¬ Own e' h' X
 os : w'.os = w.os
 tape : w'.tape = w.tape
 output : w'.output = w.output
 new : ∀ b l, e'.loc b = some l → e.loc b = some l ∨ h.next ≤ b
 gone : ∀ b, b < h.next → h.get b = none → h'.get b = none
theorem Step.toB {e e' : Env} {h h' : AH} {w w' : World} {B : Nat} (s : Step e h w e' h' w') (hB : B ≤ w.heap.size) : StepB B e h w e' h' w' :=
 ⟨s.le, s.nxt, s.size, fun X hX => s.keep X (Nat.lt_of_lt_of_le hX hB), s.os, s.tape, s.output, s.new, s.gone⟩
theorem StepB.toStep {e e' : Env} {h h' : AH} {w w' : World} (s : StepB w.heap.size e h w e' h' w') : Step e h w e' h' w' :=
 ⟨s.le, s.nxt, s.size, s.keep, s.os, s.tape, s.output, s.new, s.gone⟩
theorem StepB.trans {B : Nat} {e e1 e2 : Env} {h h1 h2 : AH} {w w1 w2 : World} (a : StepB B e h w e1 h1 w1) (b : StepB B e1 h1 w1 e2 h2 w2) : StepB B e h w e2 h2 w2 :=
 ⟨a.le.trans b.le, Nat.le_trans a.nxt b.nxt, Nat.le_trans a.size b.size, fun X hX hO =>
  let ⟨p, q⟩ := a.keep X hX hO
  let ⟨r, s⟩ := b.keep X hX q
  ⟨r.trans p, s⟩, b.os.trans a.os, b.tape.trans a.tape, b.output.trans a.output, fun c l hc => (b.new c l hc).elim (a.new c l) fun h => .inr (Nat.le_trans a.nxt h), fun c hc hg => b.gone c (Nat.lt_of_lt_of_le hc a.nxt) (a.gone c hc hg)⟩
theorem StepB.of_below {B : Nat} {e : Env} {h : AH} {w w' : World} (hb : RowKit.Below B w w') : StepB B e h w e h w' :=
 ⟨.refl e, Nat.le_refl _, hb.size, fun X hX hO => ⟨hb.block X hX, hO⟩, hb.os, hb.tape, hb.output, fun _ _ h => .inl h, fun _ _ h => h⟩
theorem StepB.sub {B : Nat} {e : Env} {h h2 : AH} {w : World} (hn : h2.next = h.next) (hsub : ∀ b en, h2.get b = some en → h.get b = some en) : StepB B e h w e h2 w := by
 refine ⟨.refl e, by omega, Nat.le_refl _, fun X hX hO => ⟨rfl, fun o => hO (o.sub hsub)⟩, rfl, rfl, rfl, fun _ _ h => .inl h, fun b hb hg => ?_⟩
 cases hx : h2.get b with
 | none => rfl
 | some en => rw [hsub b en hx] at hg; cases hg
structure MS (n : Nat) (l : List IE) (e : Env) (W : World) : Prop where
 sat : Sat e (zad n l) W.heap
 out : ∀ X, e.out X = none
theorem MS.lt {n : Nat} {l : List IE} {e : Env} {W : World} (m : MS n l e W) {X : Nat} (o : Own e (zad n l) X) : X < W.heap.size := by
 obtain ⟨b, en, L, h1, h2, rfl⟩ := o
 exact (m.sat.locs b L h2).2
theorem MS.g {n : Nat} {l : List IE} {e : Env} {W : World} (m : MS n l e W) : ∃ k t, W.heap[theG]? = some (.cells #[.int .i64 k] t) := m.sat.glob.1
theorem MS.below {n : Nat} {l : List IE} {e : Env} {W W' : World} (m : MS n l e W) (hb : RowKit.Below W.heap.size W W') : MS n l e W' := ⟨m.sat.below hb, m.out⟩
theorem MS.others {n : Nat} {l : List IE} {e : Env} {W W' : World} (m : MS n l e W) (hs : W.heap.size ≤ W'.heap.size) (hk : ∀ k, k < W.heap.size → (k = theG ∨ Own e (zad n l) k) → W'.heap[k]? = W.heap[k]?) : MS n l e W' := ⟨m.sat.others m.out hs hk, m.out⟩
def subOk (n : Nat) (l l2 : List IE) : Prop := l2.map (fun p => (zad n l).get p.i) = l2.map (fun p => some p.e) ∧ l2.all (fun p => Nat.blt p.i n && zfS n p.e) = true
theorem subOk.get {n : Nat} {l l2 : List IE} (h : subOk n l l2) : ∀ b en, (zad n l2).get b = some en → (zad n l).get b = some en ∧ b < n ∧ zfS n en = true := fun b en hb => by
 obtain ⟨p, hp, rfl, rfl⟩ := zfT hb
 have h1 := List.map_inj_left.1 h.1 p hp
 have h2 := List.all_eq_true.1 h.2 p hp
 rw [Bool.and_eq_true] at h2
 exact ⟨h1, (zat _ _).1 h2.1, h2.2⟩
theorem MS.sub {n : Nat} {l l2 : List IE} {e : Env} {W : World} (m : MS n l e W) (h : subOk n l l2) : MS n l2 e W := by
 obtain ⟨x1, x2, x3⟩ := zb2 n l2
 obtain ⟨y1, y2, y3⟩ := zb2 n l
 exact ⟨m.sat.subL (by rw [x1, y1]) (fun b en hb => by rw [x1]; exact h.get b en hb) x2 x3, m.out⟩
theorem StepB.subL {B n : Nat} {l l2 : List IE} {e : Env} {w : World} (h : subOk n l l2) : StepB B e (zad n l) w e (zad n l2) w := by
 obtain ⟨x1, x2, x3⟩ := zb2 n l2
 obtain ⟨y1, y2, y3⟩ := zb2 n l
 exact .sub (by rw [x1, y1]) fun b en hb => (h.get b en hb).1
theorem MS.put {n : Nat} {l : List IE} {e : Env} {W : World} (m : MS n l e W) {b i : Nat} {cs : List AV} {ty : Nat} {L : Loc} {a : AV} {u : Value} (hb : (zad n l).get b = some (.cells cs ty true 0 [])) (hty : ty ≠ 0) (hl : e.loc b = some L) (hv : VR e a u) :
  MS n (⟨b, .cells (cs.set i a) ty true 0 []⟩ :: l) e (W.setCell ⟨L.blk, i, none⟩ u) ∧ ∀ B, B ≤ W.heap.size → StepB B e (zad n l) W e (zad n (⟨b, .cells (cs.set i a) ty true 0 []⟩ :: l)) (W.setCell ⟨L.blk, i, none⟩ u) := by
 obtain ⟨s1, s2⟩ := m.sat.put1 (i := i) hb hty hl hv
 exact ⟨⟨s1, m.out⟩, fun B hB => s2.toB hB⟩
def zao (l2 : List IE) (o : VH) : Option (AV × Nat × List ME × List (Option Ent)) := oE none (fun r => some (r.1, r.2.fb, r.2.fam, l2.map fun p => r.2.get p.i)) o
theorem open_full {P : Program} {I : zaR} (ok : POk P) (hI : KnownOk P I) {f n n2 : Nat} {args : List AV} {l l2 : List IE} {v : AV}
  (hr : zao l2 (run P I f args (zad n l)) = some (v, 0, [], l2.map fun p => some p.e)) (hn : n ≤ n2) (hv : avLt n2 v = true) (hl : l2.all (fun p => Nat.blt p.i n2 && zfS n2 p.e) = true)
  {e : Env} {w : World} {us : Array Value} (m : MS n l e w) (ha : VRs e args us.toList) :
  CallsIn Fence.wide 0 P f us w fun en w' => ∃ u e', en = .returned u ∧ VR e' v u ∧ MS n2 l2 e' w' ∧ Step e (zad n l) w e' (zad n2 l2) w' := by
 cases hx : run P I f args (zad n l) with
 | none => rw [hx] at hr; cases hr
 | some r =>
   obtain ⟨v0, h1⟩ := r
   rw [hx] at hr
   unfold zao at hr
   rw [oE_some] at hr
   injection hr with hr
   injection hr with hv0 hr
   injection hr with k1 hr
   injection hr with k2 k3
   simp only at hv0 k1 k2 k3
   subst hv0
   obtain ⟨x1, x2, x3⟩ := zb2 n2 l2
   obtain ⟨y1, y2, y3⟩ := zb2 n l
   have hsub : ∀ b en, (zad n2 l2).get b = some en → h1.get b = some en ∧ b < (zad n2 l2).next ∧ zfS (zad n2 l2).next en = true := fun b en hb => by
    obtain ⟨p, hp, rfl, rfl⟩ := zfT hb
    have := List.all_eq_true.1 hl p hp
    rw [Bool.and_eq_true] at this
    rw [x1]
    exact ⟨List.map_inj_left.1 k3 p hp, (zat _ _).1 this.1, this.2⟩
   refine CallsIn.mono (zfi ok hI hx m.sat ha) fun en w' hen => ?_
   cases en with
   | panicked c => exact hen.elim
   | outgrown => exact hen.elim
   | returned u =>
     obtain ⟨e1, s1, hv1, st⟩ := hen
     have s2 := s1.cut hsub x2 x3
     rw [x1] at s2
     have lt : ∀ {α : Type} {b : Nat} {o : Option α} {x : α}, b < n2 → o = some x → (if b < n2 then o else none) = some x := fun hb ho => by rw [if_pos hb]; exact ho
     have loc' : ∀ b l, (e1.cut n2).loc b = some l → e1.loc b = some l := fun b l hb => by
      have hb' : (if b < n2 then e1.loc b else none) = some l := hb
      by_cases hlt : b < n2
      ·rw [if_pos hlt] at hb'; exact hb'
      ·rw [if_neg hlt] at hb'; cases hb'
     have s := m.sat
     refine ⟨u, e1.cut n2, rfl, hv1.cut hv, ⟨s2, fun X => ?_⟩, ⟨⟨fun b l hb => ?_, fun g j v hb => ?_, fun i v hb => ?_, fun i v hb => ?_, fun i v hb => ?_, st.le.out⟩, ?_, st.size, fun X hX hO => ?_, st.os, st.tape, st.output, fun b l hb => ?_, fun b hb hg => ?_⟩⟩
     ·show e1.out X = none
      rw [st.le.out]; exact m.out X
     ·have := (s.locs b l hb).1
      rw [y1] at this
      exact lt (by omega) (st.le.loc b l hb)
     ·have := s.nums g j v hb
      rw [y1] at this
      exact lt (by omega) (st.le.num g j v hb)
     ·have := s.stps i v hb
      rw [y1] at this
      exact lt (by omega) (st.le.stp i v hb)
     ·have := s.keys i v hb
      rw [y1] at this
      exact lt (by omega) (st.le.key i v hb)
     ·have := s.vals i v hb
      rw [y1] at this
      exact lt (by omega) (st.le.val i v hb)
     ·rw [x1, y1]; exact hn
     ·obtain ⟨q1, q2⟩ := st.keep X hX hO
      exact ⟨q1, fun ⟨b, en, l, hb, hl', hx⟩ => q2 ⟨b, en, l, (hsub b en hb).1, loc' b l hl', hx⟩⟩
     ·exact st.new b l (loc' b l hb)
     ·cases hx : (zad n2 l2).get b with
      | none => rfl
      | some en =>
        have := (hsub b en hx).1
        rw [st.gone b hb hg] at this; cases this
end
end Go.Xe
end
section
namespace Go.Xe
noncomputable section
def addReix (I : zaR) (f : Nat) : zaR := fun g => if g = f then some (.post fun _ args h => reixK args h) else I g
theorem addReix_ok {P : Program} {I : zaR} (hI : KnownOk P I) (f : Nat) : KnownOk P (addReix I f) := by
 refine ⟨fun g k hk => ?_, fun g k hk => ?_, fun g k hk args h h1 h2 v hkk e w us e1 w1 u s0 ha s1 hv st => ?_⟩
 ·unfold addReix at hk
  split at hk
  ·cases hk
  ·exact hI.whole g k hk
 ·unfold addReix at hk
  split at hk
  ·cases hk
  ·exact hI.pre g k hk
 ·unfold addReix at hk
  split at hk
  ·cases hk
   obtain ⟨e2, s2, st2⟩ := reixK_sound hkk s1
   exact ⟨e2, s2, hv.mono st2.le, st.trans st2⟩
  ·exact hI.post g k hk args h h1 h2 v hkk e w us e1 w1 u s0 ha s1 hv st
end
end Go.Xe
end
