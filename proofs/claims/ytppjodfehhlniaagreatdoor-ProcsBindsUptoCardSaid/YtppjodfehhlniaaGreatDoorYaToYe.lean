/-
  append whole; unsafe.String; cap; What stands in for functions without a body; calls of functions; Iterators: range, next, entry; Iterators: next, ent. Conditions: none.
-/
import Derived.Test.YtppjodfehhlniaaGreatDoorXuToXz
import Derived.Lib.UnsafeStr
import Derived.Lib.Bytealg
set_option linter.unusedVariables false
set_option linter.unusedSimpArgs false
set_option linter.unusedSectionVars false
section
namespace Go.Xe
noncomputable section
section
variable {P : Program} {e : Env} {w : World}
theorem zl0 {h : AH} (s : Sat e h w.heap) {t ty : TypeId} {ts : Array TypeId} {zr : Bool} {a x v : AV} {ua ux : Value} {h' : AH} (ht : ts[0]? = some t) (ha : VR e a ua) (hx : VR e x ux) (hz : zoG P (nth ts.toList 1) = some zr)
  (hv : zkp P t zr a x h = some (v, h')) : Runs P (Builtin.append_ ts ty #[ua, ux]) w fun u' w' => Out e h w v h' u' w' := by
 unfold zkp at hv
 rw [zaa] at hv
 obtain ⟨⟨el, z⟩, hel, hv⟩ := hv
 rw [zaa] at hv
 obtain ⟨⟨n, cs⟩, hs, hv⟩ := hv
 simp only at hs hv
 obtain ⟨htd, hsz, hz0⟩ := zeS hel
 obtain ⟨hn, hcl, happ⟩ := zpG (P := P) s hx hs
 have hbeg : ∀ {Q : Value → World → Prop} {base : Option Addr} {sl sc : Nat}, ua = .slice base sl sc → Runs P (zcZ el z n sl sc zr base (.slice base sl sc) ux) w Q → Runs P (Builtin.append_ ts ty #[ua, ux]) w Q := fun {Q base sl sc} hua hr => by
  subst hua
  exact Runs.run_eq (zpF ht htd hsz hz hn) hr
 unfold zoF at hv
 rw [zav] at hv
 have hzero : ∀ {base : Option Addr} {sl sc : Nat}, n = 0 → ua = .slice base sl sc → sl ≤ sc → VR e v ua → h' = h → Runs P (Builtin.append_ ts ty #[ua, ux]) w fun u' w' => Out e h w v h' u' w' := fun {base sl sc} hn0 hua hle hvr hh => by
  subst hn0 hh
  refine hbeg hua ?_
  obtain ⟨us, hus, hvs⟩ := happ w rfl
  have h0 : us.toList = [] := by
   have h1 := hvs.length
   rw [hcl, Nat.zero_mul] at h1
   exact List.eq_nil_of_length_eq_zero h1.symm
  refine ⟨ua, w, ?_, .same s hvr⟩
  unfold zcZ
  simp only []
  rw [if_pos (by omega)]
  show Sem.run P (appended el z 0 zr ux >>= _) w = _
  rw [zab, hus]
  simp only [h0, Nat.add_zero, hua]
  cases base <;> rfl
 rcases hv with ⟨h0, hv'⟩ | ⟨h0, hv'⟩
 ·rw [zae] at h0
  cases a <;> try (simp at hv'; done)
  case sl b o l z' =>
   cases hv'
   obtain ⟨L, c, hL, _, _, hlc, hua⟩ := zlE ha
   exact hzero h0 hua hlc ha rfl
  case sle =>
   cases hv'
   cases ha with
   | sle ad c => exact hzero h0 rfl (Nat.zero_le _) (.sle ad c) rfl
  case snil =>
   cases hv'
   cases ha
   exact hzero h0 rfl (Nat.le_refl _) .snil rfl
 ·cases a <;> try (simp at hv'; done)
  case sl b o l z' =>
   have hv2 : grd (Nat.beq z z') (bnd (h.get b) fun en => zko P el z b o l (Nat.add o (Nat.mul l z)) n cs h en) = some (v, h') := hv'
   rw [zac, zae, zaa] at hv2
   obtain ⟨rfl, en, hb, hv2⟩ := hv2
   obtain ⟨L, c, hL, _, hext, hlc, hua⟩ := zlE ha
   exact hbeg hua (zkT s hb hL hz0 hext hlc happ hcl hv2)
  case snil =>
   have hv2 : bnd (zff P el z n) (fun _ => h.new (.cells cs el true 0 []) fun b h => some (AV.sl b 0 n z, h)) = some (v, h') := hv'
   rw [zaa] at hv2
   obtain ⟨_, hrm, hv2⟩ := hv2
   rw [AH.new_eq] at hv2
   cases hv2
   cases ha
   have hn0 : n ≠ 0 := fun h => by subst h; simp at h0
   refine hbeg rfl ?_
   obtain ⟨c', d, arr', hc', hrun, hsz', hg⟩ := zoV (P := P) (w := w) (zr := zr) (base := none) (us := .slice none 0 0) (ux := ux) (sLen := 0) (sCap := 0) (mine := []) (olds := #[]) (by omega) (by rw [Nat.zero_add]; exact hrm)
    (fun w' _ => rfl) .nil (by simp) happ hcl
   obtain ⟨s2, st2⟩ := zlY (ty := el) (fz := 0) (olds := []) (T := el) (ext := c' * z) (d := d) (l := cs) s (.refl e h w) s.glob
    (by rw [hcl]; exact Nat.mul_le_mul_right z (by omega)) (by rw [hsz']; exact Nat.le_refl _) (fun _ => rfl) hg (fun c hc => by cases hc)
   rw [Nat.zero_add] at hrun
   exact ⟨_, _, hrun, _, s2, .sl _ 0 n z c' _ (Env.at_self _ _ _) hz0 (by simp only; omega) (by omega), st2⟩
theorem zfQ {h : AH} (s : Sat e h w.heap) {pt ty : TypeId} {ts : Array TypeId} {p l v : AV} {up ul : Value} {h' : AH} (ht : ts[0]? = some pt) (hp : VR e p up) (hl : VR e l ul) (hv : zcF P pt p l h = some (v, h')) :
  Runs P (Builtin.unsafeString_ ts ty #[up, ul]) w fun u' w' => Out e h w v h' u' w' := by
 unfold zcF at hv
 rw [zfh] at hv
 obtain ⟨kd, n, rfl, hv⟩ := hv
 rw [zac, za1] at hv
 obtain ⟨hn9, hv⟩ := hv
 cases zbd hl
 have hmax : ¬ ((n : Int) > IntKind.i64.max) := by
  have : IntKind.i64.max = 9223372036854775807 := by decide
  rw [this]; omega
 have hbeg : ∀ {Q : Value → World → Prop} {q : Option Addr}, up = .pointer q → Runs P (match q with
   | none => if (n : Int) = 0 then pure (.string .empty) else runtimePanic (.error "unsafe.String: ptr is nil and len is not zero")
   | some a =>
     if (n : Int) = 0 then pure (.string .empty)
     else do if ← variablesAt a (← elemOf pt) (n : Int).toNat then (do
      let s ← loadBytes a .empty (n : Int).toNat
      freeze a (n : Int).toNat
      pure (.string s)) else unsupported (.unsafePointer "String: not so many bytes at ptr") : Sem Value) w Q → Runs P (Builtin.unsafeString_ ts ty #[up, .int kd n]) w Q := fun {Q q} hup hr => by
  subst hup
  refine Runs.run_eq ?_ hr
  unfold Builtin.unsafeString_
  rw [ht]
  show Sem.run P (asInt (.int kd n) >>= _) w = _
  rw [zab]
  have h0 : (asInt (.int kd n)).run P w = .ok (n : Int) w := rfl
  rw [h0]
  show Sem.run P (if (n : Int) < 0 then _ else _) w = _
  rw [if_neg (by omega)]
  show Sem.run P (if (n : Int) > IntKind.i64.max then _ else _) w = _
  rw [if_neg hmax]
  cases q <;> rfl
 have hempty : ∀ {a : Option Addr}, n = 0 → up = .pointer a → v = .str 0 0 → h' = h → Runs P (Builtin.unsafeString_ ts ty #[up, .int kd n]) w fun u' w' => Out e h w v h' u' w' := fun {a} h0 hup hvv hh => by
  subst h0 hvv hh
  refine hbeg hup ?_
  refine ⟨.string .empty, w, ?_, .same s (.str 0 0)⟩
  cases a <;> rfl
 cases p <;> try (simp at hv; done)
 case pnil =>
  cases hp
  have hv' : grd (Nat.beq n 0) (some (AV.str 0 0, h)) = some (v, h') := hv
  rw [zac, zae] at hv'
  obtain ⟨h0, hv'⟩ := hv'
  cases hv'
  exact hempty h0 rfl rfl rfl
 case ptr b o =>
  obtain ⟨L, hL, rfl⟩ := zcT hp
  have hv' : ite' (Nat.beq n 0) (some (AV.str 0 0, h)) (grd (Nat.beq o 0) (bnd (P.underlying pt) fun d => bnd (zkq d) fun t => bnd (h.get b) fun e => zne P h t b n e)) = some (v, h') := hv
  rw [zav] at hv'
  rcases hv' with ⟨h0, hv'⟩ | ⟨h0, hv'⟩
  ·cases hv'
   exact hempty ((zae _ _).1 h0) rfl rfl rfl
  have hn0 : n ≠ 0 := fun h => by subst h; simp at h0
  rw [zac, zae, zaa] at hv'
  obtain ⟨rfl, d, hd, hv'⟩ := hv'
  rw [zaa] at hv'
  obtain ⟨t, hdt, hv'⟩ := hv'
  rw [zaa] at hv'
  obtain ⟨en, hb, hv'⟩ := hv'
  have hd' : d = .pointer t := by cases d <;> simp [zkq] at hdt; subst hdt; rfl
  subst hd'
  cases en <;> try (simp [zne] at hv'; done)
  rename_i row tyr wr fz olds
  have hv2 : grd wr (grd (Nat.beq tyr t) (grd (Nat.blt 0 tyr) (bnd (zaX P tyr) fun z => grd (Nat.beq z 1) (bnd (cut row 0 n) fun cs => bnd (zeH cs) fun s =>
   some (s, AH.set (AH.kill olds h) b (.cells row tyr true (Nat.max fz n) [])))))) = some (v, h') := hv'
  rw [zac, zac, zac, zae, zau, zaa] at hv2
  obtain ⟨rfl, rfl, hty, z, hz, hv2⟩ := hv2
  rw [zac, zae, zaa] at hv2
  obtain ⟨rfl, cs, hcut, hv2⟩ := hv2
  rw [zaa] at hv2
  obtain ⟨sv, hsv, hv2⟩ := hv2
  cases hv2
  obtain ⟨arr, T, lo, hi, hH, hR⟩ := s.row hb hL
  obtain ⟨rfl, hoff, hlo, hhi⟩ := hR.ty (by omega)
  have hcut' : n ≤ row.length ∧ row.take n = cs := by
   rw [zhW] at hcut
   by_cases hx : 0 + n ≤ row.length
   ·rw [if_pos hx] at hcut
    exact ⟨by omega, by simpa using Option.some.inj hcut⟩
   ·rw [if_neg hx] at hcut; cases hcut
  obtain ⟨hnl, rfl⟩ := hcut'
  have hlen := hR.len
  have hroom := hR.room
  have hcells : ∃ us : List Value, us.length = n ∧ VRs e (row.take n) us ∧ ∀ (i : Nat) (u : Value), us[i]? = some u → arr[i]? = some u := by
   refine ⟨(arr.extract 0 n).toList, by simp; omega, VRs.of_get (by simp; omega) fun i a u ha hu => ?_, fun i u hu => ?_⟩
   ·have hin : i < n := by
     have := (List.getElem?_eq_some_iff.1 ha).1
     simp at this; omega
    rw [List.getElem?_take_of_lt hin] at ha
    obtain ⟨u', hu', hr⟩ := hR.vals i a ha
    rw [Array.getElem?_toList, Array.getElem?_extract, if_pos (by omega), Nat.zero_add] at hu
    rw [hoff, Nat.zero_add, hu] at hu'
    cases hu'; exact hr
   ·have hin : i < n := by
     have := (List.getElem?_eq_some_iff.1 hu).1
     simp at this; omega
    rw [Array.getElem?_toList, Array.getElem?_extract, if_pos (by omega), Nat.zero_add] at hu
    exact hu
  obtain ⟨us, hul, hvr, hget⟩ := hcells
  obtain ⟨bs, rfl, hstr⟩ := zie hsv hvr
  have hbl : bs.length = n := by rw [← hul]; simp
  obtain ⟨it, hit, hsz⟩ := zkH hz
  have hco : P.cellsOf T = 1 := by
   unfold Program.cellsOf
   rw [hit]; exact hsz
  have hsh : w.shape? L.blk = some (T, arr.size) := by
   unfold World.shape?
   rw [hH]
  have hlies := Lib.liesAt_bytes (P := P) hco (arr.size / P.cellsOf T) n (by rw [hco]; simp; omega)
  have hload := Lib.run_loadBytes (P := P) w bs ⟨L.blk, L.off + 0, none⟩ .empty (fun j x hx => by
   have := hget j (.int .u8 x.toNat) (by rw [List.getElem?_map, hx]; rfl)
   rw [hoff, Addr.add_eq]
   simp only [World.cell?, hH, Nat.zero_add]
   simpa using this)
  rw [hbl] at hload
  refine hbeg rfl ?_
  have hnb : b ∉ olds := fun hm => by
   have := s.olds b b _ _ L L hb hm hb hL hL rfl
   simp [wrE] at this
  have hkb : (AH.kill olds h).get b = some (.cells row T true fz olds) := by rw [zcl, if_neg hnb]; exact hb
  have hal := (s.kill olds).aloneW hkb hL rfl fun c hc => by rw [zcl]; exact if_pos hc
  have hBlt := (s.locs b L hL).2
  refine ⟨.string ⟨bs.toArray⟩, w.freeze ⟨L.blk, L.off + 0, none⟩ n, ?_, e, ?_, hstr, ?_⟩
  ·simp only []
   rw [if_neg (by omega)]
   show Sem.run P (elemOf pt >>= _) w = _
   have hel : (elemOf pt).run P w = .ok T w := by
    unfold elemOf
    rw [zag hd]; rfl
   rw [zab, hel]
   simp only [Int.toNat_natCast]
   have hva : (variablesAt ⟨L.blk, L.off + 0, none⟩ T n).run P w = .ok true w := by
    unfold variablesAt
    show Sem.run P (match w.shape? L.blk with | some (e, cells) => pure (liesAt P P.depth e (cells / P.cellsOf e) (L.off + 0) T n) | none => pure false) w = _
    rw [hsh]
    simp only [hoff]
    rw [hlies]; rfl
   rw [zab, hva]
   show Sem.run P (loadBytes ⟨L.blk, L.off + 0, none⟩ .empty n >>= _) w = _
   rw [zab, hload]
   show Result.ok _ _ = _
   congr 1
   simp
  ·have hfr : (w.freeze ⟨L.blk, L.off + 0, none⟩ n).heap = w.heap.setIfInBounds L.blk (.cells arr T (if lo == hi then (0, n) else (min lo 0, max hi n))) := by
    unfold World.freeze
    rw [if_neg hn0]
    apply Array.ext_getElem?
    intro i
    simp only [Array.getElem?_modify, Array.getElem?_setIfInBounds]
    by_cases hi' : L.blk = i
    ·subst hi'
     have hg : w.heap[L.blk] = .cells arr T (lo, hi) := by
      rw [Array.getElem?_eq_getElem hBlt] at hH; exact Option.some.inj hH
     simp only [hBlt, if_true, Array.getElem?_eq_getElem, hg, Option.map_some, hoff, Nat.zero_add]
    ·simp [hi']
   rw [hfr]
   refine (s.kill olds).setObj hkb hL hal ?_ (fun c hc => by cases hc) (fun hx => by simp [wrE] at hx)
   have hpair : (if lo == hi then (0, n) else (min lo 0, max hi n)) = ((0, if lo == hi then n else max hi n) : Nat × Nat) := by
    subst hlo
    split <;> simp
   rw [hpair, zqF]
   refine .cells _ _ _ _ _ _ _ _ _ _ ⟨hroom, hlen, hR.vals, fun i h1 h2 => ?_, fun _ => ⟨rfl, hoff, rfl, fun hz => ?_⟩⟩
   ·have h1' : fz ≤ i ∧ n ≤ i := by
     have : Nat.max fz n ≤ i := h1
     exact ⟨Nat.le_trans (Nat.le_max_left fz n) this, Nat.le_trans (Nat.le_max_right fz n) this⟩
    have h3 := hR.free fz (Nat.le_refl _) (by omega)
    rw [hoff, hlo] at h3
    rw [hoff]
    have hhf : hi ≤ fz := by omega
    intro ⟨_, h4⟩
    split at h4
    ·omega
    ·have : max hi n ≤ i := Nat.max_le.2 ⟨by omega, h1'.2⟩
     omega
   ·have : n ≤ 0 := by rw [← hz]; exact Nat.le_max_right fz n
    omega
  ·have hst := Step.setObj (s.kill olds) (w := w) (en' := .cells row T true (Nat.max fz n) []) (.cells arr T (if lo == hi then (0, n) else (min lo 0, max hi n))) hkb hL
   have hfw : w.freeze ⟨L.blk, L.off + 0, none⟩ n = { w with heap := w.heap.setIfInBounds L.blk (.cells arr T (if lo == hi then (0, n) else (min lo 0, max hi n))) } := by
    unfold World.freeze
    rw [if_neg hn0]
    congr 1
    apply Array.ext_getElem?
    intro i
    simp only [Array.getElem?_modify, Array.getElem?_setIfInBounds]
    by_cases hi' : L.blk = i
    ·subst hi'
     have hg : w.heap[L.blk] = .cells arr T (lo, hi) := by
      rw [Array.getElem?_eq_getElem hBlt] at hH; exact Option.some.inj hH
     simp only [hBlt, if_true, Array.getElem?_eq_getElem, hg, Option.map_some, hoff, Nat.zero_add]
    ·simp [hi']
   rw [hfw]
   exact (Step.kill (w := w) olds).trans hst
theorem zqZ {h : AH} (s : Sat e h w.heap) {t ty : TypeId} {ts : Array TypeId} {x v : AV} {u : Value} {h' : AH} (ht : ts[0]? = some t) (hx : VR e x u)
  (hv : (bnd (zhi P t) fun _ => (match x with | .snil => some (zdI 0, h) | _ => none)) = some (v, h')) : Runs P (Builtin.cap_ ts ty #[u]) w fun u' w' => Out e h w v h' u' w' := by
 rw [zaa] at hv
 obtain ⟨⟨el, z⟩, hel, hv⟩ := hv
 cases x <;> try (simp at hv; done)
 cases hv; cases hx
 obtain ⟨htd, _, _⟩ := zeS hel
 refine ⟨.int .i64 0, w, ?_, .same s (by rw [zeO]; exact .int _ _)⟩
 unfold Builtin.cap_
 rw [ht]
 show Sem.run P (underlying t >>= _) w = _
 rw [zag htd]
 rfl
end
end
end Go.Xe
end
section
namespace Go.Xe
noncomputable section
section
variable {P : Program} {e : Env} {w : World}
theorem zfR (b : Nat) (hb : b < 256) : ∀ (n c i : Nat), zeK b n c i = if Lib.indexByte (zaC n c) b.toUInt8 = -1 then -1 else (i : Int) + Lib.indexByte (zaC n c) b.toUInt8
 | 0, c, i => by
   show (-1 : Int) = _
   have : zaC 0 c = [] := rfl
   rw [this]; rfl
 | n + 1, c, i => by
   show ite' (Nat.beq (c % 256) b) (.ofNat i) (zeK b n (c / 256) (i + 1)) = _
   rw [zbj]
   unfold Lib.indexByte
   have hx : (UInt8.ofNat (c % 256) == b.toUInt8) = Nat.beq (c % 256) b := by
    by_cases h : c % 256 = b
    ·rw [h]
     have : Nat.beq b b = true := (zae _ _).2 rfl
     rw [this]
     have : UInt8.ofNat b = b.toUInt8 := rfl
     rw [this]; simp
    ·have h1 : Nat.beq (c % 256) b = false := by
      cases hh : Nat.beq (c % 256) b
      ·rfl
      ·exact absurd ((zae _ _).1 hh) h
     rw [h1, beq_eq_false_iff_ne]
     intro h2
     have h3 := congrArg UInt8.toNat h2
     simp at h3
     omega
   rw [hx, zaK]
   by_cases h : Nat.beq (c % 256) b = true
   ·rw [if_pos h, if_pos h]
    simp
   ·rw [if_neg h, if_neg h, zfR b hb n (c / 256) (i + 1)]
    by_cases h2 : Lib.indexByte (zaC n (c / 256)) b.toUInt8 = -1
    ·rw [if_pos h2, if_pos (by simp [h2])]
    ·have h3 : (Lib.indexByte (zaC n (c / 256)) b.toUInt8 == -1) = false := beq_eq_false_iff_ne.2 h2
     have h4 := Lib.indexByte_ge (zaC n (c / 256)) b.toUInt8
     rw [if_neg h2, h3]
     simp only [Bool.false_eq_true, if_false]
     rw [if_neg (by omega)]
     omega
theorem zl1 {h : AH} (s : Sat e h w.heap) {f : FuncId} {fn : Func} {args : List AV} {us : Array Value} {v : AV} {h' : AH} (hf : P.funcs[f]? = some fn) (hb : fn.body = none) (ha : VRs e args us.toList)
  (hv : zkr fn.name fn.origin args h = some (v, h')) : Runs P (callFunc f us) w fun n w' => ∃ u, n = .value u ∧ Out e h w v h' u w' := by
 unfold zkr at hv
 rw [zac, decide_eq_true_eq, zav] at hv
 obtain ⟨ho, hv⟩ := hv
 have hgo : ∀ {x : Array Value → Sem Value} {u : Value}, (fn.name == "runtime.NumGoroutine") = false → Extern.findNext fn = none → Extern.find fn = some x → (x us).run P w = .ok u w → VR e v u → h' = h →
   Runs P (callFunc f us) w fun n w' => ∃ u, n = .value u ∧ Out e h w v h' u w' := fun {x u} h1 h2 h3 h4 h5 h6 => by
  have := run_callFunc_extern hf h1 (by rw [hb]; rfl) h2 h3 us w
  rw [h4] at this
  subst h6
  exact ⟨.value u, w, this, u, rfl, .same s h5⟩
 rcases hv with ⟨hn, hv⟩ | ⟨_, hv⟩
 ·rw [decide_eq_true_eq] at hn
  cases args with
  | nil => cases hv
  | cons x t =>
    have hv' : grd (za5 t) (some (x, h)) = some (v, h') := hv
    rw [zac, zaG] at hv'
    obtain ⟨rfl, hv'⟩ := hv'
    cases hv'
    obtain ⟨us⟩ := us
    cases ha with
    | cons _ u _ l' hx ht =>
      cases ht
      refine hgo (x := Extern.AbiNoEscape.same) (u := u) ?_ ?_ ?_ rfl hx rfl
      ·rw [hn]; decide
      ·unfold Extern.findNext; rw [hn, ho]; kernel_rfl
      ·unfold Extern.find; rw [hn, ho]; kernel_rfl
 ·rw [zav] at hv
  rcases hv with ⟨hn, hv⟩ | ⟨_, hv⟩
  ·rw [decide_eq_true_eq] at hn
   cases args with
   | nil => cases hv
   | cons x t =>
     cases t with
     | nil => cases hv
     | cons y t =>
       have hv' : grd (za5 t) (strV x fun n c => zna y fun b => some (zca .i64 (zeK b n c 0), h)) = some (v, h') := hv
       rw [zac, zaG, zfi] at hv'
       obtain ⟨rfl, n, c, rfl, hv'⟩ := hv'
       rw [zoS] at hv'
       obtain ⟨b, rfl, hb256, hv'⟩ := hv'
       cases hv'
       obtain ⟨us⟩ := us
       cases ha with
       | cons _ u _ l' hx ht =>
         cases ht with
         | cons _ u2 _ l2 hy ht =>
           cases ht
           cases zbX hx
           cases zbd hy
           refine hgo (x := Extern.BytealgIndexByte.indexByte) (u := .int .i64 (Lib.indexByte (zad n c).data.toList ((b : Int).toNat.toUInt8))) ?_ ?_ ?_ (Lib.run_indexByteString _ _ _) ?_ rfl
           ·rw [hn]; decide
           ·unfold Extern.findNext; rw [hn, ho]; kernel_rfl
           ·unfold Extern.find; rw [hn, ho]; kernel_rfl
           ·rw [za6, zfR b hb256 n c 0]
            have hl : (zad n c).data.toList = zaC n c := rfl
            rw [hl, Int.toNat_natCast]
            split
            ·rename_i h1; rw [h1]; exact .int _ _
            ·simp only [Int.natCast_zero, Int.zero_add]
             exact .int _ _
  ·cases hv
end
end
end Go.Xe
end
section
namespace Go.Xe
noncomputable section
section
variable {P : Program} {e : Env} {w : World}
theorem zip {α : Type} [DecidableEq α] : ∀ {l l' : List α}, l.Nodup → (∀ x ∈ l, x ∈ l') → l.length ≤ l'.length
 | [], _, _, _ => Nat.zero_le _
 | x :: l, l', hn, hs => by
   rw [List.nodup_cons] at hn
   have hx : x ∈ l' := hs x List.mem_cons_self
   have h := zip (l' := l'.erase x) hn.2 fun y hy => by
    have hyx : y ≠ x := fun h => hn.1 (h ▸ hy)
    exact (List.mem_erase_of_ne hyx).2 (hs y (List.mem_cons_of_mem _ hy))
   rw [List.length_erase_of_mem hx] at h
   have : 0 < l'.length := List.length_pos_of_mem hx
   simp only [List.length_cons]
   omega
theorem zq0 {α : Type} [DecidableEq α] {l l' : List α} (hn : l.Nodup) (hs : ∀ x ∈ l, x ∈ l') (hlen : l'.length ≤ l.length) (hn' : l'.Nodup) : ∀ y ∈ l', y ∈ l := by
 intro y hy
 apply Classical.byContradiction
 intro hc
 have h := zip (l := y :: l) (l' := l') (List.nodup_cons.2 ⟨hc, hn⟩) fun z hz => by
  rcases List.mem_cons.1 hz with rfl | hz
  ·exact hy
  ·exact hs z hz
 simp only [List.length_cons] at h
 omega
theorem zsR {a b : AV} (h : zku a b = true) : a = b := by
 cases a <;> try (simp [zku] at h; done)
 case int k m =>
  cases b <;> try (simp [zku] at h; done)
  rename_i k' n
  have h' : ite' (zcB k k') (zgn m n) false = true := h
  rw [zai, Bool.and_eq_true] at h'
  rw [zdP] at h'
  rw [zcd.1 h'.1, eq_of_beq h'.2]
 case ptr i o =>
  cases b <;> try (simp [zku] at h; done)
  rename_i i' o'
  have h' : ite' (Nat.beq i i') (Nat.beq o o') false = true := h
  rw [zai, Bool.and_eq_true, zae, zae] at h'
  rw [h'.1, h'.2]
theorem zl2 {xs ys : List AV} (h : zgZ xs ys = true) : xs = ys := by
 induction xs generalizing ys with
 | nil => exact ((zaG ys).1 h).symm
 | cons x xs ih =>
   cases ys with
   | nil => cases h
   | cons y ys =>
     have h' : ite' (zku x y) (zgZ xs ys) false = true := h
     rw [zai, Bool.and_eq_true] at h'
     rw [zsR h'.1, ih h'.2]
theorem zq1 {a b : AV} (h : zku a b = true) : intA a = true := by cases a <;> first | rfl | (simp [zku] at h)
theorem ziq {xs ys : List AV} (h : zgZ xs ys = true) : zjd xs = true := by
 induction xs generalizing ys with
 | nil => rfl
 | cons x xs ih =>
   cases ys with
   | nil => cases h
   | cons y ys =>
     have h' : ite' (zku x y) (zgZ xs ys) false = true := h
     rw [zai, Bool.and_eq_true] at h'
     show ite' (intA x) (zjd xs) false = true
     rw [zai, Bool.and_eq_true]
     exact ⟨zq1 h'.1, ih h'.2⟩
theorem zsS {a b : AV} (h : zng a b = true) : a = b ∧ famV a = true := by
 cases a <;> try (simp [zng] at h; done)
 rename_i f x y
 cases f <;> try (simp [zng] at h; done)
 rename_i f
 cases b <;> try (simp [zng] at h; done)
 rename_i g x' y'
 cases g <;> try (simp [zng] at h; done)
 rename_i g
 have h' : ite' (Nat.beq f g) (ite' (zgZ x x') (zgZ y y') false) false = true := h
 rw [zai, Bool.and_eq_true, zai, Bool.and_eq_true, zae] at h'
 obtain ⟨rfl, h1, h2⟩ := h'
 refine ⟨by rw [zl2 h1, zl2 h2], ?_⟩
 show ite' (zjd x) (zjd y) false = true
 rw [zai, Bool.and_eq_true]
 exact ⟨ziq h1, ziq h2⟩
theorem zsT {a b : AV} (h : zqs a b = true) : a = b ∧ famK a = true := by
 cases a <;> try (simp [zqs] at h; done)
 rename_i n c
 cases b <;> try (simp [zqs] at h; done)
 rename_i n' c'
 have h' : ite' (Nat.beq n n') (Nat.beq c c') false = true := h
 rw [zai, Bool.and_eq_true, zae, zae] at h'
 exact ⟨by rw [h'.1, h'.2], rfl⟩
theorem zl3 {xs ys : List ME} (h : zjy xs ys = true) : xs = ys ∧ ∀ x ∈ xs, famK x.k = true ∧ famV x.v = true := by
 induction xs generalizing ys with
 | nil => exact ⟨((zaG ys).1 h).symm, fun x hx => by cases hx⟩
 | cons x xs ih =>
   cases ys with
   | nil => cases h
   | cons y ys =>
     have h' : ite' (Nat.beq x.s y.s) (ite' (zqs x.k y.k) (ite' (zng x.v y.v) (zjy xs ys) false) false) false = true := h
     rw [zai, Bool.and_eq_true, zai, Bool.and_eq_true, zai, Bool.and_eq_true, zae] at h'
     obtain ⟨h1, h2, h3, h4⟩ := h'
     obtain ⟨hk, hk'⟩ := zsT h2
     obtain ⟨hv, hv'⟩ := zsS h3
     obtain ⟨rfl, ha⟩ := ih h4
     refine ⟨?_, fun z hz => ?_⟩
     ·cases x; cases y
      simp only at h1 hk hv
      rw [h1, hk, hv]
     ·rcases List.mem_cons.1 hz with rfl | hz
      ·exact ⟨hk', hv'⟩
      ·exact ha z hz
theorem zeu {xs ys : List ME} (h : zjx xs ys = true) : xs.map (·.s) = ys.map (·.s) := by
 induction xs generalizing ys with
 | nil => rw [(zaG ys).1 h]
 | cons x xs ih =>
   cases ys with
   | nil => cases h
   | cons y ys =>
     have h' : ite' (Nat.beq x.s y.s) (zjx xs ys) false = true := h
     rw [zai, Bool.and_eq_true, zae] at h'
     rw [List.map_cons, List.map_cons, h'.1, ih h'.2]
theorem zuz {a : AV} (h : intA a = true) {u u' : Value} (h1 : VR e a u) (h2 : VR e a u') : u = u' := by
 cases a <;> try (simp [intA] at h; done)
 case int k n => rw [zbd h1, zbd h2]
 case ptr b o =>
  obtain ⟨l, hl, rfl⟩ := zcT h1
  obtain ⟨l', hl', rfl⟩ := zcT h2
  rw [hl] at hl'; cases hl'; rfl
theorem zq2 {l : List AV} (h : zjd l = true) {us us' : List Value} (h1 : VRs e l us) (h2 : VRs e l us') : us = us' := by
 induction l generalizing us us' with
 | nil => cases h1; cases h2; rfl
 | cons x l ih =>
   have h' : ite' (intA x) (zjd l) false = true := h
   rw [zai, Bool.and_eq_true] at h'
   cases h1 with
   | cons _ u _ l1 a1 t1 =>
     cases h2 with
     | cons _ u2 _ l2 a2 t2 =>
       rw [zuz h'.1 a1 a2, ih h'.2 t1 t2]
theorem zt4 {a : AV} (h : famV a = true) {u u' : Value} (h1 : VR e a u) (h2 : VR e a u') : u = u' ∧ cellU u = true := by
 cases a <;> try (simp [famV] at h; done)
 rename_i f x y
 cases f <;> try (simp [famV] at h; done)
 have h' : ite' (zjd x) (zjd y) false = true := h
 rw [zai, Bool.and_eq_true] at h'
 cases h1 with
 | func _ f1 _ _ x1 y1 a1 b1 c1 =>
   cases h2 with
   | func _ f2 _ _ x2 y2 a2 b2 c2 =>
     cases a1
     cases a2
     have hx := zq2 h'.1 b1 b2
     have hy := zq2 h'.2 c1 c2
     have hx' : x1 = x2 := Array.ext' hx
     have hy' : y1 = y2 := Array.ext' hy
     rw [hx', hy']
     exact ⟨rfl, rfl⟩
theorem Step.same_t {h h2 : AH} (ht : h2.t = h.t) (hn : h.next ≤ h2.next) : Step e h w e h2 w := by
 refine ⟨.refl e, hn, Nat.le_refl _, fun X hX hO => ⟨rfl, fun ⟨b, en, l, hb, hl, hX'⟩ => hO ⟨b, en, l, ?_, hl, hX'⟩⟩, rfl, rfl, rfl, fun _ _ h => .inl h, fun b _ hg => by unfold AH.get at hg ⊢; rw [ht]; exact hg⟩
 unfold AH.get at hb ⊢
 rw [ht] at hb; exact hb
theorem EntR.other {fm fm' : Nat × List ME} {en : Ent} {l : Loc} {o : Obj} (h : EntR e fm en l o) (hf : famE en = 0 ∨ famE en ≠ fm'.1) : EntR e fm' en l o := by
 cases h with
 | cells _ _ _ _ _ _ _ _ _ _ h => exact .cells _ _ _ _ _ _ _ _ _ _ h
 | map _ _ _ _ h => exact .map _ _ _ _ h
 | siter _ _ _ _ h0 => exact .siter _ _ _ _ h0
 | miter _ _ _ fam _ _ _ _ _ _ _ h h0' =>
   refine .miter _ _ _ _ _ _ _ _ _ _ _ ⟨h.map, h.size, h.le, h.nodup, h.st, h.plain, fun h0 h1 => ?_⟩ h0'
   have hf : fam = 0 ∨ fam ≠ fm'.1 := hf
   rcases hf with hf | hf
   ·exact absurd hf h0
   ·exact absurd h1 hf
 | loop _ _ _ _ _ _ ht hd hb => exact .loop _ _ _ _ _ _ ht hd hb
 | dfr0 => exact .dfr0 _
 | dfr _ _ _ h => exact .dfr _ _ _ h
theorem Sat.family {h : AH} {H : Array Obj} (s : Sat e h H) (fb k : Nat) (fam : List ME) (hno : ∀ i, zc8 fb fam i = true → e.key i = none) (hk : fb + fam.length ≤ h.next + k)
  (hent : ∀ b en l o, h.get b = some en → e.loc b = some l → H[l.blk]? = some o → EntR e h.fm en l o → EntR e (fb, fam) en l o) : Sat e ⟨h.next + k, h.t, fb, fam⟩ H := by
 refine ⟨fun b en hb => ?_, fun b l hb => ⟨Nat.lt_of_lt_of_le (s.locs b l hb).1 (Nat.le_add_right _ _), (s.locs b l hb).2⟩, fun g j v hv => Nat.lt_of_lt_of_le (s.nums g j v hv) (Nat.le_add_right _ _), s.numI,
  fun i v hv => Nat.lt_of_lt_of_le (s.stps i v hv) (Nat.le_add_right _ _), fun i v hv => Nat.lt_of_lt_of_le (s.keys i v hv) (Nat.le_add_right _ _), fun i v hv => Nat.lt_of_lt_of_le (s.vals i v hv) (Nat.le_add_right _ _),
  s.sep, s.olds, fun b c en hb hc => Nat.lt_of_lt_of_le (s.oldsLt b c en hb hc) (Nat.le_add_right _ _), ?_, s.ends, s.its, hk, s.glob.less fun X ⟨b, en, l, hb, hl, hX⟩ => ⟨b, en, l, hb, hl, hX⟩⟩
 ·obtain ⟨l, o, hl, ho, hr⟩ := s.ents b en hb
  exact ⟨l, o, hl, ho, hent b en l o hb hl ho hr⟩
 ·refine ⟨fun i s hi hs => ?_, fun i j s hi _ hs _ => ?_⟩
  ·rw [hno i hi] at hs; cases hs
  ·rw [hno i hi] at hs; cases hs
theorem zl4 {fb : Nat} {fam : List ME} {i : Nat} : zc8 fb fam i = true ↔ fb ≤ i ∧ i < fb + fam.length := by
 unfold zc8
 rw [zai, Bool.and_eq_true, za1, zau, zaU]
 exact Iff.rfl
theorem zoW {h : AH} (s : Sat e h w.heap) {en : Ent} {o : Obj} (ho : zbq en = []) (hr : EntR e h.fm en ⟨w.heap.size, 0, 0⟩ o) (hf : famE en = 0 ∨ famE en = h.next + 1) :
  Sat (e.at_ h.next ⟨w.heap.size, 0, 0⟩) (h.add en) (w.heap.push o) ∧ Step e h w (e.at_ h.next ⟨w.heap.size, 0, 0⟩) (h.add en) { w with heap := w.heap.push o } :=
 s.add (w := w) 0 ho (hr.mono (Env.at_le s.fresh) rfl rfl) hf
theorem MapR.stamped {es : List ME} {ents : Array MapEntry} {clock : Nat} (h : MapR e es ents clock) : ∀ x ∈ es, ∃ v, e.stp x.s = some v ∧ v < clock := by
 intro x hx
 obtain ⟨p, hp, hm⟩ := h.perm
 obtain ⟨a, b, rfl⟩ := List.append_of_mem (hp.mem_iff.2 hx)
 obtain ⟨A, y, B, hL, _, h2, _⟩ := hm.split rfl
 exact ⟨y.born, h2.s, h.born y (by rw [hL]; exact List.mem_append_right _ List.mem_cons_self)⟩
theorem znC {h : AH} (s : Sat e h w.heap) {t : TypeId} {d : TypeDesc} {x v : AV} {u : Value} {h' : AH} (hd : P.underlying t = some d) (hx : VR e x u) (hv : zqt x h d = some (v, h')) :
  Runs P (Instr.range t u) w fun u' w' => Out e h w v h' u' w' := by
 have hend : ∀ (o : Obj) (en : Ent), (Instr.range t u).run P w = .ok (.pointer (some ⟨w.heap.size, 0, none⟩)) { w with heap := w.heap.push o } → zbq en = [] →
   EntR e h.fm en ⟨w.heap.size, 0, 0⟩ o → famE en = 0 → v = .ptr h.next 0 → h' = h.add en →
   Runs P (Instr.range t u) w fun u' w' => Out e h w v h' u' w' := fun o en hrun ho hr hf hvv hh => by
  obtain ⟨s3, st3⟩ := zoW s ho hr (.inl hf)
  subst hvv hh
  exact ⟨_, _, hrun, _, s3, .ptr h.next 0 _ (Env.at_self _ _ _), st3⟩
 cases d <;> try (simp [zqt] at hv; done)
 case string =>
  have hv' : strV x (fun n c => h.new (.siter n c 0) fun b h => some (AV.ptr b 0, h)) = some (v, h') := hv
  rw [zfi] at hv'
  obtain ⟨n, c, rfl, hv'⟩ := hv'
  rw [AH.new_eq] at hv'
  cases hv'
  cases zbX hx
  refine hend (.stringIter (zad n c) 0) (.siter n c 0) ?_ rfl (.siter _ _ _ _ rfl) rfl rfl rfl
  unfold Instr.range
  rw [zag hd]; rfl
 case map kt et =>
  have hv' : mapV x (fun m => bnd (h.map m) fun p => zhO m h p) = some (v, h') := hv
  rw [zel] at hv'
  obtain ⟨m, rfl, hv'⟩ := hv'
  rw [zaa] at hv'
  obtain ⟨p, hp, hv'⟩ := hv'
  obtain ⟨L, hL, rfl⟩ := zh2 hx
  obtain ⟨hg, ents, hH, hR⟩ := s.mapAt hp hL
  have hrun : (Instr.range t (.map (some L.blk))).run P w = .ok (.pointer (some ⟨w.heap.size, 0, none⟩)) { w with heap := w.heap.push (.mapIter (some L.blk) p.2 #[] p.2) } := by
   unfold Instr.range
   rw [zag hd]
   show Sem.run P (getObj L.blk >>= _) w = _
   rw [zab, zbI hH]
   rfl
  unfold zhO at hv'
  rw [zav] at hv'
  rcases hv' with ⟨htwo, hv'⟩ | ⟨htwo, hv'⟩
  ·rw [zac, zac, zaL] at hv'
   obtain ⟨hfam, hnil, hv'⟩ := hv'
   cases hv'
   have h0 : h.fam = [] := (zaG _).1 hnil
   have hroom := s.room
   rw [h0] at hroom
   have hr0 : EntR e h.fm (.miter m 0 (len p.1) (Nat.succ h.next) p.2 []) ⟨w.heap.size, 0, 0⟩ (.mapIter (some L.blk) p.2 #[] p.2) :=
    .miter _ _ _ _ _ _ _ _ _ _ _ ⟨⟨L, hL, rfl⟩, rfl, Nat.zero_le _, List.nodup_nil, rfl, fun h => absurd h (Nat.succ_ne_zero _), fun _ h1 => by
     have h1' : Nat.succ h.next = h.fb := h1
     simp at hroom; omega⟩ rfl
   obtain ⟨s3, st3⟩ := zoW s (en := .miter m 0 (len p.1) (Nat.succ h.next) p.2 []) rfl hr0 (.inr rfl)
   have hle : e.le (e.at_ h.next ⟨w.heap.size, 0, 0⟩) := Env.at_le s.fresh
   have hsl := zaU p.1
   have s4 := s3.family (h.next + 1) p.1.length p.1 (fun i hi => by
     rw [zl4] at hi
     cases hk : e.key i with
     | none => exact hk
     | some v => have := s.keys i v hk; omega) (by show h.next + 1 + p.1.length ≤ Nat.succ h.next + p.1.length; omega) (fun b en l o hb hl ho hr => by
     rw [AH.get_add] at hb
     by_cases hbn : b = h.next
     ·rw [if_pos hbn] at hb
      cases hb
      subst hbn
      rw [Env.at_self] at hl
      cases hl
      have ho' : (w.heap.push (Obj.mapIter (some L.blk) p.2 #[] p.2))[w.heap.size]? = some o := ho
      simp at ho'
      subst ho'
      refine .miter _ _ _ _ _ _ _ _ _ _ _ ⟨⟨L, hle.loc _ _ hL, rfl⟩, rfl, Nat.zero_le _, List.nodup_nil, rfl, fun h => absurd h (Nat.succ_ne_zero _), fun _ _ => ⟨hsl.symm, fun x hx => ?_, fun k v hk => by simp at hk, fun k _ => ⟨?_, ?_⟩⟩⟩ rfl
      ·obtain ⟨v, hv, hlt⟩ := hR.stamped x hx
       exact ⟨v, hv, hlt, hlt⟩
      ·cases hk : e.key (h.next + 1 + k) with
       | none => exact hk
       | some v => have := s.keys _ v hk; omega
      ·cases hk : e.val (h.next + 1 + k) with
       | none => exact hk
       | some v => have := s.vals _ v hk; omega
     ·rw [if_neg hbn] at hb
      refine hr.other ?_
      rcases s.its b en hb with h0 | h1
      ·exact .inl h0
      ·right
       have := s.get_lt hb
       show famE en ≠ h.next + 1
       omega)
   refine ⟨_, _, hrun, _, ?_, .ptr h.next 0 _ (Env.at_self _ _ _), st3.trans (Step.same_t (h2 := ⟨Nat.add (Nat.succ h.next) (len p.1), _, _, _⟩) rfl (Nat.le_add_right _ _))⟩
   rw [zaU] at s4 ⊢
   exact s4
  ·rw [AH.new_eq] at hv'
   cases hv'
   have hn1 : p.1.length ≤ 1 := by
    have h2 : ¬ (Nat.blt 1 (len p.1) = true) := by
     have : two p.1 = Nat.blt 1 (len p.1) := rfl
     rw [← this, htwo]; simp
    rw [zau, zaU] at h2; omega
   refine hend _ (.miter m 0 (len p.1) 0 p.2 p.1) hrun rfl (.miter _ _ _ _ _ _ _ _ _ _ _ ⟨⟨L, hL, rfl⟩, rfl, Nat.zero_le _, List.nodup_nil, rfl, fun _ => ⟨(zaU _).symm, by rw [zaU]; exact hn1, fun x hx => let ⟨v, hv, hl⟩ := hR.stamped x hx; ⟨v, hv, hl, hl⟩, fun k v hk => by simp at hk⟩, fun h0 => absurd rfl h0⟩ rfl) rfl rfl rfl
end
end
end Go.Xe
end
section
namespace Go.Xe
noncomputable section
section
variable {P : Program} {e : Env} {w : World}
theorem znD {α : Type} {p : α → Bool} {a : Array α} (h : ∀ x ∈ a.toList, p x = false) : a.filter p = #[] := by
 apply Array.ext'
 rw [Array.toList_filter]
 exact List.filter_eq_nil_iff.2 fun x hx => by rw [h x hx]; simp
theorem zpI {α : Type} {p : α → Bool} {a : Array α} (h : ∀ x ∈ a.toList, p x = true) : a.filter p = a := by
 apply Array.ext'
 rw [Array.toList_filter]
 exact List.filter_eq_self.2 h
theorem zir {r m since last : Nat} {seen : Array Nat} {ents : Array MapEntry} {clock : Nat} {ty : TypeId} (hr : w.heap[r]? = some (.mapIter (some m) since seen last)) (hm : w.heap[m]? = some (.map ents clock))
  (hb : ∀ x ∈ ents.toList, x.born < since) (hs : ∀ x ∈ ents.toList, x.born < last) :
  ((∀ x ∈ ents.toList, seen.contains x.born = true) ∧ (Instr.next (.pointer (some ⟨r, 0, none⟩)) false ty).run P w = .ok (.tuple #[.bool false]) w) ∨
  (∃ x ∈ ents.toList, seen.contains x.born = false ∧ ∃ d, (Instr.next (.pointer (some ⟨r, 0, none⟩)) false ty).run P w =
   .ok (.tuple #[.bool true, x.key, x.val]) { w with drawn := d, heap := w.heap.setIfInBounds r (.mapIter (some m) since (seen.push x.born) clock) }) := by
 have hun : ¬ ((!seen.isEmpty && !ents.isEmpty && ents.all (fun x => decide (x.born ≥ last))) = true) := by
  intro h
  rw [Bool.and_eq_true, Bool.and_eq_true] at h
  obtain ⟨⟨_, h1⟩, h2⟩ := h
  cases hl : ents.toList with
  | nil =>
    have : ents = #[] := Array.toList_eq_nil_iff.1 hl
    subst this; simp at h1
  | cons x l =>
    have hx : x ∈ ents.toList := by rw [hl]; exact List.mem_cons_self
    rw [Array.all_eq_true'] at h2
    have := of_decide_eq_true (h2 x (Array.mem_toList_iff.1 hx))
    have := hs x hx
    omega
 have hnew : (ents.filter fun x => !seen.contains x.born).filter (fun x => decide (x.born ≥ since)) = #[] := by
  refine znD fun x hx => ?_
  rw [Array.toList_filter, List.mem_filter] at hx
  have := hb x hx.1
  exact decide_eq_false (by omega)
 have hold : (ents.filter fun x => !seen.contains x.born).filter (fun x => decide (x.born < since)) = ents.filter fun x => !seen.contains x.born := by
  refine zpI fun x hx => ?_
  rw [Array.toList_filter, List.mem_filter] at hx
  exact decide_eq_true (hb x hx.1)
 obtain ⟨left, hleft⟩ : ∃ left, left = ents.filter fun x => !seen.contains x.born := ⟨_, rfl⟩
 have hunf : (Instr.next (.pointer (some ⟨r, 0, none⟩)) false ty).run P w = (do
   let candidates := (if left.isEmpty then #[none] else #[]) ++ left.map some
   match candidates[← choose (.mapNext candidates.size)]? with
   | some (some e) =>
     setObj r (.mapIter (some m) since (seen.push e.born) clock)
     pure (.tuple #[.bool true, e.key, e.val])
   | some none => pure (.tuple #[.bool false])
   | none => stuck "Next: no such candidate" : Sem Value).run P w := by
  unfold Instr.next
  have hget : (getObj r).run P w = .ok (.mapIter (some m) since seen last) w := by simp only [getObj, Sem.run, hr]
  show Sem.run P (getObj r >>= _) w = _
  rw [zab, hget]
  show Sem.run P (getObj m >>= _) w = _
  rw [zab, zbI hm]
  show Sem.run P (if (!seen.isEmpty && !ents.isEmpty && ents.all (fun x => decide (x.born ≥ last))) = true then _ else _) w = _
  rw [if_neg hun]
  show Sem.run P (do
   let candidates := (if ((ents.filter fun x => !seen.contains x.born).filter (fun x => decide (x.born < since))).isEmpty then #[none] else #[]) ++
    ((ents.filter fun x => !seen.contains x.born).filter (fun x => decide (x.born < since)) ++ (ents.filter fun x => !seen.contains x.born).filter (fun x => decide (x.born ≥ since))).map some
   match candidates[← choose (.mapNext candidates.size)]? with
   | some (some e) =>
     setObj r (.mapIter (some m) since (seen.push e.born) clock)
     pure (.tuple #[.bool true, e.key, e.val])
   | some none => pure (.tuple #[.bool false])
   | none => stuck "Next: no such candidate" : Sem Value) w = _
  rw [hnew, hold, ← hleft, Array.append_empty]
 rw [hunf]
 by_cases he : left.isEmpty = true
 ·left
  have h0 : left = #[] := by simpa using he
  constructor
  ·intro x hx
   have : x ∉ (ents.filter fun x => !seen.contains x.born).toList := by rw [← hleft, h0]; simp
   rw [Array.toList_filter, List.mem_filter] at this
   cases hc : seen.contains x.born with
   | true => rfl
   | false => exact absurd ⟨hx, by rw [hc]; rfl⟩ this
  ·subst h0
   have hc : ((if (#[] : Array MapEntry).isEmpty = true then #[none] else #[]) ++ (#[] : Array MapEntry).map some) = #[none] := by simp
   show Sem.run P (choose (.mapNext ((if (#[] : Array MapEntry).isEmpty = true then #[none] else #[]) ++ (#[] : Array MapEntry).map some).size) >>= _) w = _
   rw [zab, hc]
   have h1 : (choose (.mapNext (#[none] : Array (Option MapEntry)).size)).run P w = .ok 0 w := rfl
   rw [h1]
   rfl
 ·right
  have hf : left.isEmpty = false := by simpa using he
  have hpos : 0 < left.size := by
   rcases Nat.eq_zero_or_pos left.size with h | h
   ·exact absurd (by simpa using h) he
   ·exact h
  have hcand : (if left.isEmpty = true then #[none] else #[]) ++ left.map some = left.map some := by
   rw [hf]; simp
  obtain ⟨i, d, hi, hch⟩ : ∃ i d, i < left.size ∧ (choose (.mapNext left.size)).run P w = .ok i { w with drawn := d } := by
   by_cases h1 : (Question.mapNext left.size).forced = true
   ·exact ⟨0, w.drawn, hpos, by simp only [choose, Sem.run, h1, if_true]⟩
   ·refine ⟨(Question.mapNext left.size).cut (w.tape w.drawn (.mapNext left.size)), w.drawn + 1, Nat.mod_lt _ hpos, ?_⟩
    simp only [choose, Sem.run, h1]
    rfl
  have hx : left[i] ∈ (ents.filter fun x => !seen.contains x.born).toList := by
   rw [← hleft]; exact Array.getElem_mem_toList hi
  rw [Array.toList_filter, List.mem_filter] at hx
  refine ⟨left[i], hx.1, by simpa using hx.2, d, ?_⟩
  show Sem.run P (choose (.mapNext ((if left.isEmpty = true then #[none] else #[]) ++ left.map some).size) >>= _) w = _
  rw [zab, hcand, Array.size_map, hch]
  have hg : (left.map some)[i]? = some (some left[i]) := by
   rw [Array.getElem?_map, Array.getElem?_eq_getElem hi]; rfl
  show Sem.run P (match (left.map some)[i]? with | some (some e) => _ | some none => _ | none => _) _ = _
  rw [hg]
  show Sem.run P (setObj r (.mapIter (some m) since (seen.push left[i].born) clock) >>= _) _ = _
  rw [zab]
  have hset : (setObj r (.mapIter (some m) since (seen.push left[i].born) clock)).run P { w with drawn := d } = .ok () { w with drawn := d, heap := w.heap.setIfInBounds r (.mapIter (some m) since (seen.push left[i].born) clock) } := by
   simp only [setObj, Sem.run, hr]
  rw [hset]
  rfl
theorem MapR.at_stamp {es : List ME} {ents : Array MapEntry} {clock : Nat} (h : MapR e es ents clock) {x : ME} (hx : x ∈ es) : ∃ y ∈ ents.toList, MER e x y := by
 obtain ⟨p, hp, hm⟩ := h.perm
 obtain ⟨a, b, rfl⟩ := List.append_of_mem (hp.mem_iff.2 hx)
 obtain ⟨A, y, B, hL, _, h2, _⟩ := hm.split rfl
 exact ⟨y, by rw [hL]; exact List.mem_append_right _ List.mem_cons_self, h2⟩
theorem MapR.of_ent {es : List ME} {ents : Array MapEntry} {clock : Nat} (h : MapR e es ents clock) {y : MapEntry} (hy : y ∈ ents.toList) : ∃ x ∈ es, MER e x y := by
 obtain ⟨p, hp, hm⟩ := h.perm
 obtain ⟨x, hx, hr⟩ := hm.mem hy
 exact ⟨x, hp.mem_iff.1 hx, hr⟩
theorem MapR.length {es : List ME} {ents : Array MapEntry} {clock : Nat} (h : MapR e es ents clock) : ents.toList.length = es.length := by
 obtain ⟨p, hp, hm⟩ := h.perm
 rw [← hm.length, hp.length_eq]
theorem zfn {α : Type} {R : α → α → Prop} (hsym : ∀ x y, R x y → R y x) : ∀ {l : List α}, l.Pairwise R → ∀ {x y : α}, x ∈ l → y ∈ l → ¬ R x y → x = y
 | [], _, _, _, hx, _, _ => by cases hx
 | a :: l, h, x, y, hx, hy, hn => by
   rw [List.pairwise_cons] at h
   rcases List.mem_cons.1 hx with hxa | hx
   ·rcases List.mem_cons.1 hy with hya | hy
    ·rw [hxa, hya]
    ·exact absurd (hxa ▸ h.1 y hy) hn
   ·rcases List.mem_cons.1 hy with hya | hy
    ·exact absurd (hya ▸ hsym _ _ (h.1 x hx)) hn
    ·exact zfn hsym h.2 hx hy hn
theorem MapR.born_inj {es : List ME} {ents : Array MapEntry} {clock : Nat} (h : MapR e es ents clock) {x y : MapEntry} (hx : x ∈ ents.toList) (hy : y ∈ ents.toList) (hb : x.born = y.born) : x = y :=
 zfn (fun _ _ h => Ne.symm h) h.stamps hx hy fun h => h hb
theorem MapR.key_inj {es : List ME} {ents : Array MapEntry} {clock : Nat} (h : MapR e es ents clock) {x y : MapEntry} (hx : x ∈ ents.toList) (hy : y ∈ ents.toList) (hb : x.key = y.key) : x = y :=
 zfn (fun _ _ h => zgG h) h.keys hx hy fun h => zlR (hb ▸ h)
theorem MapR.borns {es : List ME} {ents : Array MapEntry} {clock : Nat} (h : MapR e es ents clock) : (ents.toList.map (·.born)).Nodup := by
 have := h.stamps
 unfold List.Nodup
 rw [List.pairwise_map]; exact this
theorem zev {a : Array Nat} {v : Nat} : a.contains v = true ↔ v ∈ a.toList := by
 rw [Array.contains_iff_mem, Array.mem_toList_iff]
theorem zdl {a : Array Nat} {v : Nat} : a.contains v = false ↔ v ∉ a.toList := by
 rw [← zev]; cases a.contains v <;> simp
structure Stand (e : Env) (ss : List ME) (ents : Array MapEntry) (since stepped : Nat) (seen : Array Nat) (n : Nat) : Prop where
 born : ∀ x ∈ ents.toList, x.born < since
 born2 : ∀ x ∈ ents.toList, x.born < stepped
 all : ∀ x ∈ ss, ∃ y ∈ ents.toList, e.stp x.s = some y.born
 len : ents.toList.length = n
 sub : ∀ v ∈ seen.toList, v ∈ ents.toList.map (·.born)
theorem zvr {p es : List ME} {ents : Array MapEntry} {clock since stepped n : Nat} {seen : Array Nat} (hR : MapR e p ents clock) (hs : p.map (·.s) = es.map (·.s)) (hn : es.length = n)
  (h1 : ∀ x ∈ es, ∃ v, e.stp x.s = some v ∧ v < since ∧ v < stepped) (h2 : ∀ (k : Nat) v, seen[k]? = some v → ∃ x ∈ es, e.stp x.s = some v) : Stand e es ents since stepped seen n := by
 have hb : ∀ y ∈ ents.toList, y.born < since ∧ y.born < stepped := fun y hy => by
  obtain ⟨x, hx, hr⟩ := hR.of_ent hy
  have : x.s ∈ es.map (·.s) := by rw [← hs]; exact List.mem_map_of_mem hx
  obtain ⟨z, hz, hzs⟩ := List.mem_map.1 this
  obtain ⟨v, hv, hlt⟩ := h1 z hz
  rw [hzs, hr.s] at hv
  cases hv; exact hlt
 refine ⟨fun y hy => (hb y hy).1, fun y hy => (hb y hy).2, fun x hx => ?_, ?_, fun v hv => ?_⟩
 ·have : x.s ∈ p.map (·.s) := by rw [hs]; exact List.mem_map_of_mem hx
  obtain ⟨z, hz, hzs⟩ := List.mem_map.1 this
  obtain ⟨y, hy, hr⟩ := hR.at_stamp hz
  exact ⟨y, hy, by rw [← hzs]; exact hr.s⟩
 ·rw [hR.length, ← hn]
  have := congrArg List.length hs
  simpa using this
 ·obtain ⟨k, hk⟩ := List.getElem?_of_mem hv
  rw [Array.getElem?_toList] at hk
  obtain ⟨x, hx, hxs⟩ := h2 k v hk
  have : x.s ∈ p.map (·.s) := by rw [hs]; exact List.mem_map_of_mem hx
  obtain ⟨z, hz, hzs⟩ := List.mem_map.1 this
  obtain ⟨y, hy, hr⟩ := hR.at_stamp hz
  have hb := hr.s
  rw [hzs, hxs] at hb
  cases hb
  exact List.mem_map_of_mem hy
theorem Stand.done {ss : List ME} {ents : Array MapEntry} {since stepped n : Nat} {seen : Array Nat} (h : Stand e ss ents since stepped seen n) (hb : (ents.toList.map (·.born)).Nodup) (hd : seen.toList.Nodup) (hs : seen.size = n) :
  ∀ x ∈ ents.toList, seen.contains x.born = true := fun x hx =>
 zev.2 (zq0 hd h.sub (by rw [List.length_map, h.len, Array.length_toList, hs]; exact Nat.le_refl _) hb _ (List.mem_map_of_mem hx))
theorem Stand.more {ss : List ME} {ents : Array MapEntry} {since stepped n : Nat} {seen : Array Nat} (h : Stand e ss ents since stepped seen n) (hb : (ents.toList.map (·.born)).Nodup) (hs : seen.size < n)
  (ha : ∀ x ∈ ents.toList, seen.contains x.born = true) : False := by
 have := zip hb fun v hv => by
  obtain ⟨x, hx, rfl⟩ := List.mem_map.1 hv
  exact zev.1 (ha x hx)
 rw [List.length_map, h.len, Array.length_toList] at this
 omega
end
end
end Go.Xe
end
section
namespace Go.Xe
noncomputable section
section
variable {P : Program} {e : Env} {w : World}
theorem zl5 {s : ByteArray} {i : Nat} (h : (s.get! i).toNat < 128) : Utf8.decode s i = ((s.get! i).toNat, 1) := by
 unfold Utf8.decode
 simp only [Nat.add_zero]
 rw [if_pos h]
theorem zpJ {n c p : Nat} (h : p < n) : ((zad n c).get! p).toNat = c / 256 ^ p % 256 := by
 have h1 : (zad n c).get! p = UInt8.ofNat (c / 256 ^ p % 256) := by
  show ((zaC n c).toArray)[p]! = _
  rw [getElem!_def]
  have : (zaC n c).toArray[p]? = some (UInt8.ofNat (c / 256 ^ p % 256)) := by
   rw [List.getElem?_toArray]
   unfold zaC
   rw [List.getElem?_map, List.getElem?_range h]
   rfl
  rw [this]
 rw [h1]
 simp
def Env.draw (e : Env) (i : Nat) (s : ByteArray) (u : Value) : Env := { e with key := fun k => if k = i then some s else e.key k, val := fun k => if k = i then some u else e.val k }
theorem Env.draw_le {e : Env} {i : Nat} {s : ByteArray} {u : Value} (hk : e.key i = none) (hv : e.val i = none) : e.le (e.draw i s u) := by
 refine ⟨fun _ _ h => h, fun _ _ _ h => h, fun _ _ h => h, fun k v h => ?_, fun k v h => ?_⟩
 ·show (if k = i then some s else e.key k) = some v
  by_cases hki : k = i
  ·subst hki; rw [hk] at h; cases h
  ·rw [if_neg hki]; exact h
 ·show (if k = i then some u else e.val k) = some v
  by_cases hki : k = i
  ·subst hki; rw [hv] at h; cases h
  ·rw [if_neg hki]; exact h
theorem EntR.draw {e e' : Env} (he : e.le e') {fm : Nat × List ME} {en : Ent} {l : Loc} {o : Obj} (h : EntR e fm en l o) (hf : famE en = 0 ∨ famE en ≠ fm.1) : EntR e' fm en l o := by
 cases h with
 | cells _ _ _ _ _ _ _ _ _ _ h => exact .cells _ _ _ _ _ _ _ _ _ _ (h.mono he)
 | map _ _ _ _ h => exact .map _ _ _ _ (h.mono he)
 | siter _ _ _ _ h0 => exact .siter _ _ _ _ h0
 | miter _ _ _ fam _ _ _ _ _ _ _ h h0 =>
   have hf : fam = 0 ∨ fam ≠ fm.1 := hf
   refine .miter _ _ _ _ _ _ _ _ _ _ _ ⟨let ⟨l, a, b⟩ := h.map; ⟨l, he.loc _ _ a, b⟩, h.size, h.le, h.nodup, h.st, fun h0 => ?_, fun h0 h1 => ?_⟩ h0
   ·obtain ⟨a, b, c, d⟩ := h.plain h0
    refine ⟨a, b, fun x hx => ?_, fun k v hv => ?_⟩
    ·obtain ⟨v, hv, hl⟩ := c x hx; exact ⟨v, he.stp _ _ hv, hl⟩
    ·obtain ⟨x, hx, hs⟩ := d k v hv; exact ⟨x, hx, he.stp _ _ hs⟩
   ·rcases hf with hf | hf
    ·exact absurd hf h0
    ·exact absurd h1 hf
 | loop _ _ _ _ _ _ ht hd hb => exact .loop _ _ _ _ _ _ (ht.mono he) (he.loc _ _ hd) hb
 | dfr0 => exact .dfr0 _
 | dfr _ _ _ h => exact .dfr _ _ _ (h.mono he)
theorem zoX {h : AH} (s : Sat e h w.heap) {b : Nat} {en en' : Ent} {L : Loc} {o' : Obj} {d : Nat} (hb : h.get b = some en) (hL : e.loc b = some L) (hn : zjt en = none) (hr : EntR e h.fm en' L o') (ho : zbq en' = [])
  (hw : wrE en' = wrE en) (hlen : lenE en' = lenE en) (hf : famE en' = famE en) :
  let w' : World := { w with drawn := d, heap := w.heap.setIfInBounds L.blk o' }
  Sat e (h.set b en') w'.heap ∧ Step e h w e (h.set b en') w' := by
 intro w'
 refine ⟨s.setObj hb hL (s.alone hb hL hn) hr (fun c hc => by rw [ho] at hc; cases hc) (fun hx => hw.trans hx) hlen hf, ?_⟩
 exact (Step.setObj s o' hb hL).drawn d
theorem zgI {x : ME} {y : MapEntry} (hk : famK x.k = true) (hr : VR e x.k y.key) : ∃ n c, x.k = .str n c ∧ y.key = .string (zad n c) := by
 cases hx : x.k <;> rw [hx] at hk hr <;> try (simp [famK] at hk; done)
 rename_i n c
 exact ⟨n, c, rfl, zbX hr⟩
theorem Sat.draw {h : AH} (s : Sat e h w.heap) {b m j n fam lc : Nat} {ss : List ME} {L : Loc} {mb since stepped : Nat} {seen : Array Nat} {ents : Array MapEntry} {clock d : Nat}
  (hb : h.get b = some (.miter m j n fam lc ss)) (hL : e.loc b = some L) (hI : IterR e h.fm m j n fam lc ss mb since stepped seen) (h0 : L.off = 0) (hfam : fam ≠ 0) (hfb : fam = h.fb) (hR : MapR e h.fam ents clock) (hfv : ∀ x ∈ h.fam, famK x.k = true ∧ famV x.v = true)
  {y : MapEntry} (hy : y ∈ ents.toList) (hns : seen.contains y.born = false) (hj : j < n) :
  ∃ t, y.key = .string t ∧ cellU y.val = true ∧
  let e' := e.draw (h.fb + j) t y.val
  let w' : World := { w with drawn := d, heap := w.heap.setIfInBounds L.blk (.mapIter (some mb) since (seen.push y.born) clock) }
  Sat e' (h.set b (.miter m (j + 1) n fam clock ss)) w'.heap ∧ Step e h w e' (h.set b (.miter m (j + 1) n fam clock ss)) w' ∧ e'.key (h.fb + j) = some t ∧ e'.val (h.fb + j) = some y.val := by
 obtain ⟨hfn, hst, hsn, hno⟩ := hI.famly hfam hfb
 obtain ⟨x, hx, hr⟩ := hR.of_ent hy
 obtain ⟨hkx, hvx⟩ := hfv x hx
 obtain ⟨kn, kc, hxk, hyk⟩ := zgI hkx hr.k
 obtain ⟨_, hcu⟩ := zt4 hvx hr.v hr.v
 obtain ⟨hk0, hv0⟩ := hno j (Nat.le_refl j)
 have hle : e.le (e.draw (h.fb + j) (zad kn kc) y.val) := Env.draw_le hk0 hv0
 have hkey : (e.draw (h.fb + j) (zad kn kc) y.val).key (h.fb + j) = some (zad kn kc) := if_pos rfl
 have hval : (e.draw (h.fb + j) (zad kn kc) y.val).val (h.fb + j) = some y.val := if_pos rfl
 have hfl : h.fam.length = n := hfn
 have hroom := s.room
 have hBlt := (s.locs b L hL).2
 have hal := s.alone hb hL rfl
 have g : ∀ c en, (h.set b (.miter m (j + 1) n fam clock ss)).get c = some en → ∃ en1, h.get c = some en1 ∧ zbq en1 = zbq en ∧ wrE en1 = wrE en ∧ lenE en1 = lenE en ∧ famE en1 = famE en := fun c en hc => by
  rw [AH.get_set] at hc
  by_cases hcb : c = b
  ·subst hcb; rw [if_pos rfl] at hc; cases hc
   exact ⟨_, hb, rfl, rfl, rfl, rfl⟩
  ·rw [if_neg hcb] at hc; exact ⟨en, hc, rfl, rfl, rfl, rfl⟩
 refine ⟨zad kn kc, hyk, hcu, ?_, ?_, hkey, hval⟩
 ·refine ⟨fun c en hc => ?_, fun c l hc => ⟨(s.locs c l hc).1, by simpa using (s.locs c l hc).2⟩, s.nums, s.numI, s.stps, fun i v hi => ?_, fun i v hi => ?_, fun c c' en en' l1 l2 hc hc' hl1 hl2 hne hblk => ?_, fun c c' en en' l1 l2 hc hm hc' hl1 hl2 hblk => ?_, fun c c' en hc hm => ?_, ?_, fun c c' en en' l1 l2 hc hm hc' hl1 hl2 hblk => ?_, fun c en hc => ?_, s.room, s.glob.of fun X hX hO => ⟨by rw [Array.getElem?_setIfInBounds_ne (fun hx => hO ⟨b, _, L, hb, hL, hx⟩)], fun ⟨c, en, l2, hc, hl2, hX2⟩ => by obtain ⟨en1, h1, _⟩ := g c en hc; exact hO ⟨c, en1, l2, h1, hl2, hX2⟩⟩⟩
  ·rw [AH.get_set] at hc
   by_cases hcb : c = b
   ·subst hcb
    rw [if_pos rfl] at hc; cases hc
    refine ⟨L, .mapIter (some mb) since (seen.push y.born) clock, hL, by simp [hBlt], .miter _ _ _ _ _ _ _ _ _ _ _ ⟨let ⟨l, a, b⟩ := hI.map; ⟨l, a, b⟩, by simp [hI.size], hj, ?_, rfl, fun h0 => absurd h0 hfam, fun _ _ => ⟨hfn, fun z hz => ?_, fun k v hv => ?_, fun k hk => ?_⟩⟩ h0⟩
    ·rw [Array.toList_push, List.nodup_append]
     refine ⟨hI.nodup, by simp, fun a ha b hb => ?_⟩
     rw [List.mem_singleton.1 hb]
     rintro rfl
     exact zdl.1 hns ha
    ·obtain ⟨v, hv, hlt, _⟩ := hst z hz
     obtain ⟨y', hy', hr'⟩ := hR.at_stamp hz
     have hb' := hr'.s
     rw [hv] at hb'
     cases hb'
     exact ⟨_, hv, hlt, hR.born y' hy'⟩
    ·rw [Array.getElem?_push] at hv
     by_cases hks : k = seen.size
     ·rw [if_pos hks] at hv; cases hv
      rw [hks, hI.size]
      exact ⟨x, hx, hr.s, zad kn kc, y.val, hkey, hval, hyk ▸ (hr.k.mono hle), hr.v.mono hle⟩
     ·rw [if_neg hks] at hv
      obtain ⟨z, hz, q1, t, u, q2, q3, q4, q5⟩ := hsn k v hv
      exact ⟨z, hz, q1, t, u, hle.key _ _ q2, hle.val _ _ q3, q4.mono hle, q5.mono hle⟩
    ·have := hno k (by omega)
     constructor
     ·show (if h.fb + k = h.fb + j then _ else e.key (h.fb + k)) = none
      rw [if_neg (by omega)]; exact this.1
     ·show (if h.fb + k = h.fb + j then _ else e.val (h.fb + k)) = none
      rw [if_neg (by omega)]; exact this.2
   ·rw [if_neg hcb] at hc
    obtain ⟨l, o, hl, ho, hr'⟩ := s.ents c en hc
    refine ⟨l, o, hl, ?_, hr'.draw hle ?_⟩
    ·show (w.heap.setIfInBounds _ _)[l.blk]? = _
     rw [Array.getElem?_setIfInBounds_ne (fun hx => hcb (hal c en l hc hl hx.symm))]; exact ho
    ·rcases s.its c en hc with q | q
     ·exact .inl q
     ·right
      have q2 := s.its b _ hb
      have q3 : famE (.miter m j n fam lc ss) = fam := rfl
      rw [q3] at q2
      have q4 : h.fm.1 = h.fb := rfl
      rw [q4, q]
      omega
  ·have hi' : (if i = h.fb + j then some (zad kn kc) else e.key i) = some v := hi
   by_cases hij : i = h.fb + j
   ·show i < h.next; omega
   ·rw [if_neg hij] at hi'; exact s.keys i v hi'
  ·have hi' : (if i = h.fb + j then some y.val else e.val i) = some v := hi
   by_cases hij : i = h.fb + j
   ·show i < h.next; omega
   ·rw [if_neg hij] at hi'; exact s.vals i v hi'
  ·obtain ⟨en1, q1, q2, _⟩ := g c en hc
   obtain ⟨en2, q3, q4, _⟩ := g c' en' hc'
   rw [← q2, ← q4]
   exact s.sep c c' en1 en2 l1 l2 q1 q3 hl1 hl2 hne hblk
  ·obtain ⟨en1, q1, q2, _⟩ := g c en hc
   obtain ⟨en2, q3, _, q4, _⟩ := g c' en' hc'
   rw [← q4]
   exact s.olds c c' en1 en2 l1 l2 q1 (q2 ▸ hm) q3 hl1 hl2 hblk
  ·obtain ⟨en1, q1, q2, _⟩ := g c en hc
   exact s.oldsLt c c' en1 q1 (q2 ▸ hm)
  ·have hkeyE : ∀ i t, zc8 h.fb h.fam i = true → (e.draw (h.fb + j) (zad kn kc) y.val).key i = some t → i ≠ h.fb + j → e.key i = some t := fun i t _ hi hne => by
    have hi' : (if i = h.fb + j then some (zad kn kc) else e.key i) = some t := hi
    rw [if_neg hne] at hi'; exact hi'
   have hdiff : ∀ i t, zc8 h.fb h.fam i = true → e.key i = some t → t ≠ zad kn kc := fun i t hi ht heq => by
    rw [zl4] at hi
    obtain ⟨k, rfl⟩ : ∃ k, i = h.fb + k := ⟨i - h.fb, by omega⟩
    have hkj : k < j := by
     rcases Nat.lt_or_ge k j with hh | hh
     ·exact hh
     ·have := (hno k hh).1
      have q : e.key (h.fb + k) = none := this
      rw [q] at ht; cases ht
    have hks : k < seen.size := by rw [hI.size]; exact hkj
    obtain ⟨z, hz, q1, t', u', q2, _, q3, _⟩ := hsn k seen[k] (Array.getElem?_eq_getElem hks)
    have q2' : e.key (h.fb + k) = some t' := q2
    rw [ht] at q2'; cases q2'
    obtain ⟨y', hy', hr'⟩ := hR.at_stamp hz
    obtain ⟨_, hvz⟩ := hfv z hz
    obtain ⟨n', c', hzk, hyk'⟩ := zgI (hfv z hz).1 hr'.k
    have hzt : Value.string t = y'.key := by
     rw [hzk] at q3
     rw [hyk']
     exact zbX q3
    have hyy : y' = y := hR.key_inj hy' hy (by rw [← hzt, heq, hyk])
    have hb' := hr'.s
    rw [q1] at hb'
    have hbb : seen[k] = y.born := by rw [← hyy]; exact Option.some.inj hb'
    exact zdl.1 hns (by rw [← hbb]; exact Array.getElem_mem_toList hks)
   refine ⟨fun i t hi ht => ?_, fun i i' t hi hi' ht ht' => ?_⟩
   ·by_cases hij : i = h.fb + j
    ·subst hij
     rw [hkey] at ht; cases ht
     exact ⟨x, hx, kn, kc, hxk, rfl, y.val, hval, hr.v.mono hle⟩
    ·obtain ⟨kv, hkv, n1, c1, a, b, u, hu, hv⟩ := s.fam.key i t hi (hkeyE i t hi ht hij)
     exact ⟨kv, hkv, n1, c1, a, b, u, hle.val _ _ hu, hv.mono hle⟩
   ·by_cases hij : i = h.fb + j
    ·by_cases hij' : i' = h.fb + j
     ·rw [hij, hij']
     ·subst hij
      rw [hkey] at ht; cases ht
      exact absurd rfl (hdiff i' _ hi' (hkeyE i' _ hi' ht' hij'))
    ·by_cases hij' : i' = h.fb + j
     ·subst hij'
      rw [hkey] at ht'; cases ht'
      exact absurd rfl (hdiff i _ hi (hkeyE i _ hi ht hij))
     ·exact s.fam.inj i i' t hi hi' (hkeyE i t hi ht hij) (hkeyE i' t hi' ht' hij')
  ·obtain ⟨en1, q1, q2, _, q5, _⟩ := g c en hc
   obtain ⟨en2, q3, _, _, q6, _⟩ := g c' en' hc'
   rw [← q5, ← q6]
   exact s.ends c c' en1 en2 l1 l2 q1 (q2 ▸ hm) q3 hl1 hl2 hblk
  ·obtain ⟨en1, q1, _, _, _, q5⟩ := g c en hc
   rw [← q5]; exact s.its c en1 q1
 ·refine ⟨hle, Nat.le_refl _, by simp, fun X hX hO => ⟨?_, fun ⟨c, en2, l2, hc, hl2, hX2⟩ => ?_⟩, rfl, rfl, rfl, fun _ _ h => .inl h, fun c _ hg => (AH.get_set h b _ c).trans ((if_neg fun hx => by rw [hx, hb] at hg; cases hg).trans hg)⟩
  ·show (w.heap.setIfInBounds L.blk _)[X]? = _
   rw [Array.getElem?_setIfInBounds_ne (fun hx => hO ⟨b, _, L, hb, hL, hx⟩)]
  ·obtain ⟨en1, q1, _⟩ := g c en2 hc
   exact hO ⟨c, en1, l2, q1, hl2, hX2⟩
end
end
end Go.Xe
end
