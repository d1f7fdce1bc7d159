/-
  Conversions; Slicing; Values that are built; Structs and arrays that are built, make, and the small ones; Maps: what is found; Maps: what is changed. Conditions: none.
-/
import Derived.Test.YtfkeeieoapimlaaGreatDoorXhToXm
set_option linter.unusedVariables false
set_option linter.unusedSimpArgs false
set_option linter.unusedSectionVars false
section
namespace Go.Xe
noncomputable section
def Out (e : Env) (h : AH) (w : World) (v : AV) (h' : AH) (u : Value) (w' : World) : Prop := ∃ e', Sat e' h' w'.heap ∧ VR e' v u ∧ Step e h w e' h' w'
def OutH (e : Env) (h : AH) (w : World) (h' : AH) (w' : World) : Prop := ∃ e', Sat e' h' w'.heap ∧ Step e h w e' h' w'
theorem Out.same {e : Env} {h : AH} {w : World} {v : AV} {u : Value} (s : Sat e h w.heap) (hv : VR e v u) : Out e h w v h u w := ⟨e, s, hv, .refl e h w⟩
theorem Runs.same {P : Program} {e : Env} {h : AH} {w : World} {v : AV} {c : Sem Value} (s : Sat e h w.heap) (r : Runs P c w fun u w' => VR e v u ∧ w' = w) :
  Runs P c w fun u w' => Out e h w v h u w' := r.mono fun _ _ ⟨hv, hw⟩ => by subst hw; exact Out.same s hv
section
variable {P : Program} {e : Env} {w : World}
theorem zai {t : TypeId} {d : TypeDesc} (h : P.underlying t = some d) {α : Type} {f : TypeDesc → Sem α} {w : World} : (underlying t >>= f).run P w = (f d).run P w := by
 rw [zac, zdG h]
theorem ze1 (n c : Nat) : zbK (n + 1) c = .int .u8 (.ofNat (c % 256)) :: zbK n (c / 256) := by
 show (frc (Nat.mod c 256) fun b => AV.int .u8 (.ofNat b)) :: zbK n (Nat.div c 256) = _
 rw [zaG]; rfl
theorem zf1 (e : Env) (n c : Nat) : VRs e (zbK n c) ((zay n c).map fun b => Value.int .u8 (b.toNat : Int)) := by
 induction n generalizing c with
 | zero => exact .nil
 | succ n ih =>
   rw [ze1, za6, List.map_cons]
   refine .cons _ _ _ _ ?_ (ih _)
   have : (UInt8.ofNat (c % 256)).toNat = c % 256 := by simp
   rw [this]; exact .int _ _
theorem zdN (n c : Nat) : (zbK n c).length = n := by
 induction n generalizing c with
 | zero => rfl
 | succ n ih => rw [ze1, List.length_cons, ih]
theorem byteV_eq {α : Type} {a : AV} {k : Nat → Option α} {y : α} : byteV a k = some y ↔ ∃ b : Nat, a = .int .u8 (b : Int) ∧ b < 256 ∧ k b = some y := by
 constructor
 ·intro h
  cases a <;> try (simp [byteV] at h; done)
  case int kd i =>
   cases kd <;> try (simp [byteV] at h; done)
   have h' : natI i (fun b => grd (Nat.blt b 256) (k b)) = some y := h
   rw [natI_eq] at h'
   obtain ⟨b, rfl, h'⟩ := h'
   rw [zaf, zat] at h'
   exact ⟨b, rfl, h'⟩
 ·rintro ⟨b, rfl, hb, hk⟩
  show grd (Nat.blt b 256) (k b) = some y
  rw [zaf, zat]; exact ⟨hb, hk⟩
theorem codeBytes_eq {l : List AV} {c : Nat} (h : zgv l = some c) {us : List Value} (hr : VRs e l us) :
  ∃ bs : List UInt8, us = bs.map (fun b => Value.int .u8 (b.toNat : Int)) ∧ bs.length = l.length ∧ zbJ bs = c := by
 induction l generalizing c us with
 | nil => cases hr; cases h; exact ⟨[], rfl, rfl, rfl⟩
 | cons a l ih =>
   have h' : byteV a (fun b => bnd (zgv l) fun c => some (Nat.add b (Nat.mul 256 c))) = some c := h
   rw [byteV_eq] at h'
   obtain ⟨b, rfl, hb, h'⟩ := h'
   rw [zab] at h'
   obtain ⟨c', hc', h'⟩ := h'
   cases h'
   cases hr with
   | cons _ _ _ _ hv ht =>
     obtain ⟨bs, rfl, hl, hc⟩ := ih hc' ht
     cases vr_int hv
     have : (UInt8.ofNat b).toNat = b := by simp; omega
     refine ⟨UInt8.ofNat b :: bs, ?_, by simp [hl], ?_⟩
     ·rw [List.map_cons, this]
     ·rw [zcI, this, hc]; rfl
theorem strBytes_eq {l : List AV} {v : AV} (h : zd2 l = some v) {us : List Value} (hr : VRs e l us) :
  ∃ bs : List UInt8, us = bs.map (fun b => Value.int .u8 (b.toNat : Int)) ∧ VR e v (.string ⟨bs.toArray⟩) := by
 unfold zd2 at h
 rw [zab] at h
 obtain ⟨c, hc, h⟩ := h
 cases h
 obtain ⟨bs, hb, hl, hcode⟩ := codeBytes_eq hc hr
 refine ⟨bs, hb, ?_⟩
 rw [zd8, ← bytesOf_of, hcode, hl, zaH]
 exact .str _ _
theorem run_pushBytes (bs : List UInt8) (acc : ByteArray) :
  ((forIn (bs.map fun b => Value.int .u8 (b.toNat : Int)) acc fun c s => (match c with
    | .int .u8 n => pure (ForInStep.yield (s.push (UInt8.ofNat n.toNat)))
    | _ => stuck "bytesToString: byte expected") : Sem ByteArray)).run P w = .ok ⟨acc.data ++ bs.toArray⟩ w := by
 induction bs generalizing acc with
 | nil => simp [List.forIn_nil]
 | cons b bs ih =>
   rw [List.map_cons, List.forIn_cons]
   show Sem.run P (forIn (bs.map fun b => Value.int .u8 (b.toNat : Int)) (acc.push (UInt8.ofNat (Int.toNat (b.toNat : Int)))) _) w = _
   rw [ih]
   congr 1
   apply ByteArray.ext
   simp [ByteArray.push]
theorem zfL {b : Addr} {n c : Nat} {us : Array Value} (hl : (loadCells b n).run P w = .ok us w) {bs : List UInt8} (hu : us.toList = bs.map (fun b => Value.int .u8 (b.toNat : Int))) :
  (Conv.bytesToString (.slice (some b) n c)).run P w = .ok (.string ⟨bs.toArray⟩) w := by
 show Sem.run P (loadCells b n >>= fun us => (forIn us ByteArray.empty fun c s => (match c with
   | .int .u8 n => pure (ForInStep.yield (s.push (UInt8.ofNat n.toNat)))
   | _ => stuck "bytesToString: byte expected")) >>= fun s => pure (Value.string s)) w = _
 rw [zac, hl]
 show Sem.run P ((forIn us ByteArray.empty _) >>= _) w = _
 rw [zac, ← Array.forIn_toList, hu, run_pushBytes]
 simp
theorem ze2 {h : AH} (s : Sat e h w.heap) {x v : AV} {u : Value} (hx : VR e x u) (hv : zbF x h = some v) :
  Runs P (Conv.bytesToString u) w fun u' w' => VR e v u' ∧ w' = w := by
 cases x <;> try (simp [zbF] at hv; done)
 case snil => cases hx; cases hv; exact ⟨_, w, rfl, .str 0 0, rfl⟩
 case sle =>
  cases hx with
  | sle a c => cases hv; exact ⟨_, w, rfl, .str 0 0, rfl⟩
 case sl b o l z =>
  have hv' : grd (Nat.beq z 1) (bnd (zba h b o l) zd2) = some v := hv
  rw [zaf, zab] at hv'
  obtain ⟨hz, r, hr, hv'⟩ := hv'
  obtain ⟨L, c, hL, _, _, _, rfl⟩ := vr_sl hx
  obtain ⟨us, hus, hvr⟩ := zbl (P := P) s hL hr
  obtain ⟨bs, hb, hvv⟩ := strBytes_eq hv' hvr
  exact ⟨_, w, zfL hus hb, hvv, rfl⟩
theorem run_cap (need old : Nat) (el : TypeId) : ∃ cap, need ≤ cap ∧ (choose (.appendCap need old el)).run P w = .ok cap { w with drawn := w.drawn + 1 } :=
 ⟨need + w.tape w.drawn (.appendCap need old el) % (2 ^ 63 - need), Nat.le_add_right _ _, rfl⟩
theorem zge {α : Type} (a : Array α) (x : α) (f : α → α) : (a.push x).modify a.size f = a.push (f x) := by
 apply Array.ext
 ·simp
 ·intro i h1 h2
  rw [Array.getElem_modify, Array.getElem_push, Array.getElem_push]
  by_cases hi : i < a.size
  ·rw [dif_pos hi, dif_pos hi, if_neg (by omega)]
  ·rw [dif_neg hi, dif_neg hi, if_pos (by simp at h1; omega)]
theorem zfM (el : TypeId) (st : ByteArray) : ∃ cap, st.size ≤ cap ∧
  (Conv.stringToBytes el st).run P w = .ok (.slice (some ⟨w.heap.size, 0, none⟩) st.size cap)
   { w with drawn := w.drawn + 1, heap := w.heap.push (.cells ((st.data.map fun b => Value.int .u8 b.toNat) ++ Array.replicate (cap - st.size) (.int .u8 0)) el (cap, cap + 1)) } := by
 obtain ⟨cap, hle, h1⟩ := run_cap (P := P) (w := w) st.size 0 el
 refine ⟨cap, hle, ?_⟩
 unfold Conv.stringToBytes
 rw [zac, h1]
 simp only []
 generalize hrow : ((st.data.map fun b => Value.int .u8 b.toNat) ++ Array.replicate (cap - st.size) (.int .u8 0)) = row
 have hsz : row.size = cap := by
  rw [← hrow, Array.size_append, Array.size_map, Array.size_replicate]
  have : st.data.size = st.size := rfl
  omega
 have h2 : ∀ w : World, (newRow el row).run P w = .ok ⟨w.heap.size, 0, none⟩ { w with heap := w.heap.push (.cells row el (0, 0)) } := fun _ => rfl
 rw [zac, h2]
 simp only []
 have h3 : ∀ w : World, (markStringish ⟨w.heap.size, 0, none⟩).run P { w with heap := w.heap.push (.cells row el (0, 0)) } = .ok () { w with heap := w.heap.push (.cells row el (cap, cap + 1)) } := fun w => by
  have hs : World.shape? { w with heap := w.heap.push (.cells row el (0, 0)) } w.heap.size = some (el, cap) := by
   simp [World.shape?, hsz]
  unfold markStringish
  rw [zac, run_shape]
  simp only [hs]
  rw [run_freeze]
  have hf : World.freeze { w with heap := w.heap.push (.cells row el (0, 0)) } { block := w.heap.size, off := cap } 1 = { w with heap := w.heap.push (.cells row el (cap, cap + 1)) } := by
   unfold World.freeze
   rw [if_neg (by decide)]
   simp only []
   congr 1
   rw [zge]
   rfl
  rw [hf]
 have h4 := h3 { w with drawn := w.drawn + 1 }
 simp only [] at h4
 rw [zac, h4]
 rfl
theorem run_viewAt {a : Nat} {arr : Array Value} {T : TypeId} {lo hi : Nat} (hH : w.heap[a]? = some (.cells arr T (lo, hi))) : (viewAt a).run P w = .ok none w := by
 have : w.shape? a = some (T, arr.size) := by simp [World.shape?, hH]
 show Sem.run P (shape a >>= _) w = _
 rw [zac, run_shape, this]; rfl
theorem run_seenAt {a : Addr} {arr : Array Value} {T : TypeId} {lo hi : Nat} (hH : w.heap[a.block]? = some (.cells arr T (lo, hi))) : (Conv.seenAt a).run P w = .ok a w := by
 unfold Conv.seenAt
 rw [zac, run_viewAt hH]; rfl
theorem run_cellsIn {a : Nat} {arr : Array Value} {T : TypeId} {lo hi : Nat} (hH : w.heap[a]? = some (.cells arr T (lo, hi))) : (cellsIn a).run P w = .ok (some arr.size) w := by
 have : w.shape? a = some (T, arr.size) := by simp [World.shape?, hH]
 unfold cellsIn
 rw [zac, run_shape, this]; rfl
theorem zgf {h : AH} (s : Sat e h w.heap) {src dst t : TypeId} {x v : AV} {h' : AH} {u : Value} (hs : P.underlying src = some (.pointer t)) (hd : P.underlying dst = some .unsafePointer)
  (hx : VR e x u) (hv : zc5 P h t x = some (v, h')) : Runs P (Conv.unsafePointer src dst u) w fun u' w' => Out e h w v h' u' w' := by
 cases x <;> try (simp [zc5] at hv; done)
 case pnil =>
  cases hx; cases hv
  refine ⟨.pointer none, w, ?_, .same s .pnil⟩
  unfold Conv.unsafePointer
  rw [zai hs, zai hd]; rfl
 case ptr b o =>
  have hv' : bnd (zaQ P t) (fun n => grd (Nat.blt 0 n) (bnd (h.cells b) fun l => grd (Nat.blt o (len l)) (some (AV.ptr b o, h)))) = some (v, h') := hv
  rw [zab] at hv'
  obtain ⟨n, hn, hv'⟩ := hv'
  rw [zaf, zab] at hv'
  obtain ⟨hn0, l, hl, hv'⟩ := hv'
  rw [zaf] at hv'
  obtain ⟨hol, hv'⟩ := hv'
  cases hv'
  rw [zat] at hn0 hol
  rw [zaH] at hol
  obtain ⟨L, hL, rfl⟩ := zcG hx
  obtain ⟨ty, wr, fz, olds, hb⟩ := zd7 hl
  obtain ⟨arr, T, lo, hi, hH, hR⟩ := s.row hb hL
  have hlt : L.off + o < arr.size := by have := hR.room; have := hR.len; omega
  refine ⟨_, w, ?_, .same s (.ptr b o L hL)⟩
  unfold Conv.unsafePointer
  rw [zai hs, zai hd]
  show Sem.run P (Conv.seenAt ⟨L.blk, L.off + o, none⟩ >>= _) w = _
  rw [zac, run_seenAt hH]
  show Sem.run P (cellsIn L.blk >>= _) w = _
  rw [zac, run_cellsIn hH]
  show Sem.run P (sizeOf t >>= _) w = _
  rw [zac, zbh hn]
  have h1 : ¬ (n = 0 ∨ (decide (L.off + o ≥ arr.size) && (none : Option Nat).isNone) = true) := by
   simp; omega
  simp only []
  split
  ·next h => simp at h; omega
  ·rfl
theorem convBack_sound {h : AH} (s : Sat e h w.heap) {src dst t : TypeId} {x v : AV} {h' : AH} {u : Value} (hs : P.underlying src = some .unsafePointer) (hd : P.underlying dst = some (.pointer t))
  (hx : VR e x u) (hv : zeT P h t x = some (v, h')) : Runs P (Conv.unsafePointer src dst u) w fun u' w' => Out e h w v h' u' w' := by
 cases x <;> try (simp [zeT] at hv; done)
 case pnil =>
  cases hx; cases hv
  refine ⟨.pointer none, w, ?_, .same s .pnil⟩
  unfold Conv.unsafePointer
  rw [zai hs, zai hd]; rfl
 case ptr b o =>
  have hv' : grd (Nat.beq o 0) (bnd (zaQ P t) fun n => grd (Nat.blt 0 n) (bnd (h.get b) fun e => grd (Nat.beq (tyE e) t) (grd (Nat.blt 0 t) (bnd (h.cells b) fun l => grd (Nat.ble n (len l)) (some (AV.ptr b o, h)))))) = some (v, h') := hv
  rw [zaf, zab] at hv'
  obtain ⟨ho, n, hn, hv'⟩ := hv'
  rw [zaf, zab] at hv'
  obtain ⟨hn0, en, hen, hv'⟩ := hv'
  rw [zaf, zaf, zab] at hv'
  obtain ⟨hty, ht0, l, hl, hv'⟩ := hv'
  rw [zaf] at hv'
  obtain ⟨hnl, hv'⟩ := hv'
  cases hv'
  rw [zat] at hn0 ht0
  rw [zaV, zaH] at hnl
  obtain rfl : o = 0 := by simpa using ho
  obtain ⟨L, hL, rfl⟩ := zcG hx
  obtain ⟨ty, wr, fz, olds, hb⟩ := zd7 hl
  rw [hen] at hb; cases hb
  have hty' : ty = t := by simpa [tyE] using hty
  subst hty'
  obtain ⟨arr, T, lo, hi, hH, hR⟩ := s.row hen hL
  obtain ⟨rfl, hoff, _⟩ := hR.ty (by omega)
  have hsz : n ≤ arr.size := by have := hR.room; have := hR.len; omega
  have hcell : P.cellsOf T = n := by
   obtain ⟨i, hi, hin⟩ := sizeA_eq hn
   unfold Program.cellsOf; rw [hi]; exact hin
  have hvar : (variablesAt ⟨L.blk, L.off + 0, none⟩ T 1).run P w = .ok true w := by
   have hsh : w.shape? L.blk = some (T, arr.size) := by simp [World.shape?, hH]
   show Sem.run P (shape L.blk >>= _) w = _
   rw [zac, run_shape, hsh]
   show Result.ok (liesAt P P.depth T (arr.size / P.cellsOf T) (L.off + 0) T 1) w = _
   congr 1
   have hd : ∃ d, P.depth = d + 1 := ⟨2 * (P.types.size + Made.depth) + 1, rfl⟩
   obtain ⟨d, hd⟩ := hd
   have h1 : sameLayout P P.depth T T = true := by rw [hd]; simp [sameLayout]
   have h2 : 1 ≤ arr.size / n := (Nat.one_le_div_iff hn0).2 hsz
   have h3 : rowAt P (sameLayout P P.depth · T) P.depth T (arr.size / P.cellsOf T) (L.off + 0) 1 = true := by
    rw [hd]
    unfold rowAt
    rw [← hd, hcell, hoff]
    simp [show n ≠ 0 by omega, h1]
    left; omega
   rw [hd]
   unfold liesAt
   rw [h3]; rfl
  refine ⟨_, w, ?_, .same s (.ptr b 0 L hL)⟩
  unfold Conv.unsafePointer
  rw [zai hs, zai hd]
  show Sem.run P (Conv.seenAt ⟨L.blk, L.off + 0, none⟩ >>= _) w = _
  rw [zac, run_seenAt hH]
  show Sem.run P (sizeOf T >>= _) w = _
  rw [zac, zbh hn]
  show Sem.run P (variablesAt ⟨L.blk, L.off + 0, none⟩ T 1 >>= _) w = _
  rw [zac, hvar]
  simp only []
  split
  ·rfl
  ·next h => simp at h
theorem Runs.run_eq {α : Type} {a b : Sem α} {w : World} {Q : α → World → Prop} (he : a.run P w = b.run P w) (h : Runs P b w Q) : Runs P a w Q :=
 let ⟨x, w', hr, hq⟩ := h; ⟨x, w', he.trans hr, hq⟩
theorem elemIsU8_eq {el : Nat} (h : zdf P el = true) : P.underlying el = some (.int .u8) := by
 unfold zdf at h
 cases hu : P.underlying el with
 | none => rw [hu] at h; cases h
 | some d =>
   rw [hu] at h
   have h' : isU8 d = true := h
   cases d <;> try (simp [isU8] at h'; done)
   rename_i k
   cases k <;> simp [isU8] at h' <;> rfl
theorem sliceD_eq {d : TypeDesc} {el : Nat} (h : sliceD d = some el) : d = .slice el := by
 cases d <;> simp [sliceD] at h
 rw [h]
theorem cells_at (T n c cap : Nat) (hcap : n ≤ cap) : CellsR e (zbK n c) 0 0 ⟨w.heap.size, 0, cap⟩
  (((zae n c).data.map fun b => Value.int .u8 b.toNat) ++ Array.replicate (cap - (zae n c).size) (.int .u8 0)) T cap (cap + 1) := by
 have hsz : (zae n c).size = n := zaI n c
 have hds : (zae n c).data.size = n := hsz
 refine ⟨by simp only [Array.size_append, Array.size_map, Array.size_replicate, hds, hsz]; omega, by rw [zdN]; exact hcap, fun i v hv => ?_, fun i _ hi => (by have hi' : i < cap := hi; show ¬ (cap ≤ 0 + i ∧ 0 + i < cap + 1); omega), fun h => absurd rfl h⟩
 have hi : i < n := by
  have := (List.getElem?_eq_some_iff.1 hv).1
  rw [zdN] at this; exact this
 obtain ⟨u, hu, hr⟩ := (zf1 e n c).get hv
 refine ⟨u, ?_, hr⟩
 rw [Array.getElem?_append_left (by simp [hds]; exact hi)]
 rw [Nat.zero_add, ← Array.getElem?_toList, Array.toList_map]
 exact hu
theorem convS_sound {h : AH} (s : Sat e h w.heap) {src dst : TypeId} {sd : TypeDesc} {x v : AV} {h' : AH} {u : Value} (hs : P.underlying src = some sd) (hd : P.underlying dst = some .string) (hx : VR e x u)
  (hv : (bnd (sliceD sd) fun e => grd (zdf P e) (bnd (zbF x h) fun s => some (s, h))) = some (v, h')) : Runs P (convert src dst u) w fun u' w' => Out e h w v h' u' w' := by
 rw [zab] at hv
 obtain ⟨el, hel, hv⟩ := hv
 obtain rfl := sliceD_eq hel
 rw [zaf, zab] at hv
 obtain ⟨h8, sv, hsv, hv⟩ := hv
 cases hv
 have hb := Runs.same s (ze2 (P := P) s hx hsv)
 have h8' := elemIsU8_eq h8
 unfold convert
 refine Runs.run_eq ((zai hs).trans (zai hd)) (Runs.run_eq ?_ hb)
 cases x <;> try (simp [zbF] at hsv; done)
 all_goals (cases hx; exact zai h8')
theorem convA_sound {h : AH} (s : Sat e h w.heap) {src dst : TypeId} {x v : AV} {h' : AH} {u : Value} (hx : VR e x u) (hv : convA P src dst x h = some (v, h')) :
  Runs P (convert src dst u) w fun u' w' => Out e h w v h' u' w' := by
 unfold convA at hv
 rw [zab] at hv
 obtain ⟨sd, hs, hv⟩ := hv
 rw [zab] at hv
 obtain ⟨dd, hd, hv⟩ := hv
 unfold convert
 refine Runs.run_eq ((zai hs).trans (zai hd)) ?_
 cases dd <;> try (simp [convTo] at hv; done)
 case int k =>
  have hv' : intV x (fun n => some (zbT k (zfw k n), h)) = some (v, h') := hv
  rw [zfG] at hv'
  obtain ⟨k', n, rfl, hv'⟩ := hv'
  cases hv'
  cases vr_int hx
  rw [zaZ, zdk]
  refine ⟨.int k (k.wrap n), w, ?_, .same s (.int _ _)⟩
  cases sd <;> rfl
 case string =>
  have slices : (bnd (sliceD sd) fun e => grd (zdf P e) (bnd (zbF x h) fun s => some (s, h))) = some (v, h') → _ := convS_sound s hs hd hx
  cases x <;> try (exact Runs.run_eq (((zai hs).trans (zai hd)).symm.trans (by unfold convert; rfl)) (slices hv))
  case int k n =>
   cases vr_int hx
   have hv' : some (zfx n, h) = some (v, h') := hv
   cases hv'
   refine ⟨.string (Utf8.encode n), w, ?_, .same s ?_⟩
   ·cases sd <;> rfl
   ·unfold zfx strOf
    rw [zd8, zaH]
    have := zf0 (Utf8.encode n)
    have q := VR.str (e := e) (Utf8.encode n).data.toList.length (zbJ (Utf8.encode n).data.toList)
    rw [this] at q
    exact q
  case str n c =>
   cases zbm hx
   have hv' : some (AV.str n c, h) = some (v, h') := hv
   cases hv'
   refine ⟨_, w, ?_, .same s (.str n c)⟩
   cases sd <;> rfl
  case sstr pn pc i =>
   have hv' : some (AV.sstr pn pc i, h) = some (v, h') := hv
   cases hv'
   cases hx with
   | sstr _ _ _ t ht =>
     refine ⟨_, w, ?_, .same s (.sstr pn pc i t ht)⟩
     cases sd <;> rfl
 case slice el =>
  have hv' : strV x (fun n c => grd (zdf P el) (h.new (.cells (zbK n c) 0 true 0 []) fun b h => some (AV.sl b 0 n 1, h))) = some (v, h') := hv
  rw [zex] at hv'
  obtain ⟨n, c, rfl, hv'⟩ := hv'
  rw [zaf, AH.new_eq] at hv'
  obtain ⟨h8, hv'⟩ := hv'
  cases hv'
  cases zbm hx
  have h8' := elemIsU8_eq h8
  obtain ⟨cap, hcap, hrun⟩ := zfM (P := P) (w := w) el (zae n c)
  rw [zaI] at hcap
  have hsat := s.add (w := w) (en := .cells (zbK n c) 0 true 0 []) (o := .cells (((zae n c).data.map fun b => Value.int .u8 b.toNat) ++ Array.replicate (cap - (zae n c).size) (.int .u8 0)) el (cap, cap + 1)) cap rfl
   (.cells _ _ _ _ _ _ _ _ _ _ (cells_at _ n c cap hcap))
  refine Runs.run_eq (b := Conv.stringToBytes el (zae n c)) ?_ (Runs.of hrun ⟨_, hsat.1, ?_, hsat.2.drawn (w.drawn + 1)⟩)
  ·cases sd <;> exact zai h8'
  ·rw [zaI]
   exact .sl _ 0 n 1 cap _ (Env.at_self _ _ _) (by decide) (by simp) hcap
 case unsafePointer =>
  cases sd <;> try (simp [convTo] at hv; done)
  case pointer t =>
   have hv' : zc5 P h t x = some (v, h') := hv
   have hc := zgf (P := P) s hs hd hx hv'
   refine Runs.run_eq ?_ hc
   cases x <;> try (simp [zc5] at hv'; done)
   all_goals (cases hx; rfl)
 case pointer t =>
  have hv' : grd (isUnsafe sd) (zeT P h t x) = some (v, h') := hv
  rw [zaf] at hv'
  obtain ⟨hu, hv'⟩ := hv'
  cases sd <;> try (simp [isUnsafe] at hu; done)
  have hc := convBack_sound (P := P) s hs hd hx hv'
  refine Runs.run_eq ?_ hc
  cases x <;> try (simp [zeT] at hv'; done)
  all_goals (cases hx; rfl)
end
end
end Go.Xe
end
section
namespace Go.Xe
noncomputable section
section
variable {P : Program} {e : Env} {w : World}
inductive OR (e : Env) : Option AV → Option Value → Prop
 | none : OR e none none
 | some (a : AV) (u : Value) (h : VR e a u) : OR e (some a) (some u)
theorem run_sliceBound {n i y : Nat} {k : IntKind} {code : BoundsCode} (h : i ≤ y) : (Instr.sliceBound (.int k (i : Int)) y code).run P w = .ok i w := by
 unfold Instr.sliceBound
 show Sem.run P (if 0 ≤ (i : Int) ∧ (i : Int) ≤ (y : Int) then pure (Int.toNat (i : Int)) else boundsPanic k (i : Int) y code) w = _
 rw [if_pos ⟨Int.natCast_nonneg i, by exact_mod_cast h⟩]
 rfl
def boundM (uv : Option Value) (dflt y : Nat) (code : BoundsCode) : Sem Nat := match uv with
 | some v => Instr.sliceBound v y code
 | none => pure dflt
theorem boundO_run {v : Option AV} {uv : Option Value} {dflt n y r : Nat} (hv : OR e v uv) (h : zcB v dflt n = some r) (hn : n ≤ y) (code : BoundsCode) :
  (boundM uv dflt y code).run P w = .ok r w ∧ (r = dflt ∧ v = none ∨ r ≤ n) := by
 cases hv with
 | none => cases h; exact ⟨rfl, .inl ⟨rfl, rfl⟩⟩
 | some a u ha =>
   have h' : natV a (fun i => grd (Nat.ble i n) (some i)) = some r := h
   rw [zew] at h'
   obtain ⟨k, i, rfl, h'⟩ := h'
   rw [zaf, zaV] at h'
   obtain ⟨hi, h'⟩ := h'
   cases h'
   cases vr_int ha
   exact ⟨run_sliceBound (n := n) (by omega), .inr hi⟩
theorem zeb {lo hi : Option AV} {ul uh : Option Value} {len n y hh l : Nat} (hl : OR e lo ul) (hu : OR e hi uh) (h1 : zcB hi len n = some hh) (h2 : zcB lo 0 hh = some l) (hn : n ≤ y) (isSlice : Bool) :
  (Instr.sliceBounds isSlice len y ul uh none).run P w = .ok (l, hh, y) w ∧ (hh = len ∨ hh ≤ n) ∧ l ≤ hh := by
 obtain ⟨r1, b1⟩ := boundO_run (P := P) (w := w) hu h1 hn (if isSlice then .sliceAcap else .sliceAlen)
 obtain ⟨r2, b2⟩ := boundO_run (P := P) (w := w) hl h2 (Nat.le_refl hh) .sliceB
 refine ⟨?_, ?_, ?_⟩
 ·have e0 : Instr.sliceBounds isSlice len y ul uh none = (boundM uh len y (if isSlice then .sliceAcap else .sliceAlen) >>= fun h =>
    boundM ul 0 h .sliceB >>= fun l => pure (l, h, y)) := by cases uh <;> cases ul <;> rfl
  rw [e0, zac, r1]
  show Sem.run P (boundM ul 0 hh .sliceB >>= _) w = _
  rw [zac, r2]
  rfl
 ·rcases b1 with ⟨h, _⟩ | h
  ·exact .inl h
  ·exact .inr h
 ·rcases b2 with ⟨h, _⟩ | h
  ·omega
  ·exact h
theorem sliceAt_run {t : TypeId} {d : TypeDesc} (hd : P.underlying t = some d) (hn : ∀ n el, d ≠ .array n el) (x : Value) (ul uh um : Option Value) : (Instr.sliceAt t x ul uh um).run P w = (Instr.slice t x ul uh um).run P w := by
 unfold Instr.sliceAt
 rw [zai hd]
 cases d <;> first | rfl | exact absurd rfl (hn _ _)
theorem zcT {h : AH} (s : Sat e h w.heap) {t : TypeId} {x v : AV} {lo hi : Option AV} {u : Value} {ul uh : Option Value} (hx : VR e x u) (hl : OR e lo ul) (hu : OR e hi uh) (hv : zej P t x lo hi h = some v) :
  Runs P (Instr.sliceAt t u ul uh none) w fun u' w' => VR e v u' ∧ w' = w := by
 unfold zej at hv
 rw [zab] at hv
 obtain ⟨d, hd, hv⟩ := hv
 cases d <;> try (simp [sliceD'] at hv; done)
 case string =>
  refine Runs.run_eq (sliceAt_run hd (fun _ _ h => by cases h) _ _ _ _) ?_
  have hv' : strV x (fun n c => sliceStr n c lo hi) = some v := hv
  rw [zex] at hv'
  obtain ⟨n, c, rfl, hv'⟩ := hv'
  unfold sliceStr at hv'
  rw [zab] at hv'
  obtain ⟨hh, h1, hv'⟩ := hv'
  rw [zab] at hv'
  obtain ⟨l, h2, hv'⟩ := hv'
  cases hv'
  cases zbm hx
  obtain ⟨hb, hc, hle⟩ := zeb (P := P) (w := w) hl hu h1 h2 (Nat.le_refl n) false
  have hhn : hh ≤ n := by rcases hc with h | h <;> omega
  rw [zd8]
  refine ⟨.string ((zae n c).extract l hh), w, ?_, ?_, rfl⟩
  ·unfold Instr.slice
   rw [zai hd]
   show Sem.run P (Instr.sliceBounds false (zae n c).size (zae n c).size ul uh none >>= _) w = _
   rw [zaI, zac, hb]
   rfl
  ·rw [zdM n c l hh hle hhn]
   exact .str _ _
 case slice el =>
  refine Runs.run_eq (sliceAt_run hd (fun _ _ h => by cases h) _ _ _ _) ?_
  cases x <;> try (simp [sliceD'] at hv; done)
  case sl b o len z =>
   have hv' : bnd (zaQ P el) (fun z' => grd (Nat.beq z z') (grd (Nat.blt 0 z) (bnd (h.cells b) fun cs => sliceSl b o len z (Go.Xe.len cs) lo hi))) = some v := hv
   rw [zab] at hv'
   obtain ⟨z', hz, hv'⟩ := hv'
   rw [zaf, zaf, zab, zah] at hv'
   obtain ⟨rfl, hz0, cs, hcs, hv'⟩ := hv'
   unfold sliceSl at hv'
   rw [zab] at hv'
   obtain ⟨hh, h1, hv'⟩ := hv'
   rw [zab] at hv'
   obtain ⟨l, h2, hv'⟩ := hv'
   obtain ⟨L, c, hL, h0, hext, hlc, rfl⟩ := vr_sl hx
   obtain ⟨ty, wr, fz, olds, hb⟩ := zd7 hcs
   obtain ⟨arr, T, flo, fhi, hH, hR⟩ := s.row hb hL
   have hlen := hR.len
   rw [zaH] at h1 hv'
   have hnc : (cs.length - o) / z ≤ c := by
    have : cs.length - o ≤ c * z := by omega
    calc (cs.length - o) / z ≤ (c * z) / z := Nat.div_le_div_right this
     _ = c := Nat.mul_div_cancel _ h0
   obtain ⟨hbr, hc, hle⟩ := zeb (P := P) (w := w) hl hu h1 h2 hnc true
   have hc' : hh = len ∨ hh ≤ (cs.length - o) / z := hc
   have hhc : hh ≤ c := by rcases hc' with h | h <;> omega
   have hrun : (Instr.slice t (.slice (some ⟨L.blk, L.off + o, none⟩) len c) ul uh none).run P w =
     .ok (.slice (if c = l then some ⟨L.blk, L.off + o, none⟩ else some ((⟨L.blk, L.off + o, none⟩ : Addr).add (l * z))) (hh - l) (c - l)) w := by
    unfold Instr.slice
    rw [zai hd]
    show Sem.run P (Instr.sliceBounds true len c ul uh none >>= _) w = _
    rw [zac, hbr]
    show Sem.run P (sizeOf el >>= _) w = _
    rw [zac, zbh hz]
    rfl
   rw [zav] at hv'
   rcases hv' with ⟨hl0, hv'⟩ | ⟨hl0, hv'⟩
   ·cases hv'
    obtain rfl : l = 0 := by simpa using hl0
    refine ⟨_, w, hrun, ?_, rfl⟩
    have : (if c = 0 then some (⟨L.blk, L.off + o, none⟩ : Addr) else some ((⟨L.blk, L.off + o, none⟩ : Addr).add (0 * z))) = some ⟨L.blk, L.off + o, none⟩ := by
     split
     ·rfl
     ·rw [Addr.add_eq]; simp
    rw [this]
    exact .sl b o hh z c L hL h0 hext hhc
   ·have hl0' : l ≠ 0 := fun h => by subst h; simp at hl0
    rw [zav] at hv'
    rcases hv' with ⟨hlt, hv'⟩ | ⟨_, hv'⟩
    ·rw [zaG, zaG] at hv'
     cases hv'
     have hlt' : o + l * z < cs.length := by rw [zat] at hlt; exact hlt
     have hlc' : l < c := by
      have : l * z < c * z := by omega
      exact Nat.lt_of_mul_lt_mul_right this
     refine ⟨_, w, hrun, ?_, rfl⟩
     rw [if_neg (by omega), Addr.add_eq]
     have hext' : o + l * z + (c - l) * z = L.ext := by
      rw [Nat.sub_mul]
      have : l * z ≤ c * z := Nat.mul_le_mul_right z (Nat.le_of_lt hlc')
      omega
     have := VR.sl (e := e) b (o + l * z) (hh - l) z (c - l) L hL h0 hext' (by omega)
     rw [Nat.add_assoc]
     exact this
    ·rw [zaf, zah] at hv'
     obtain ⟨rfl, hv'⟩ := hv'
     cases hv'
     refine ⟨_, w, hrun, ?_, rfl⟩
     rw [Nat.sub_self]
     split
     ·exact .sle _ _
     ·exact .sle _ _
  case sle =>
   have hv' : bnd (zaQ P el) (fun _ => bnd (zcB hi 0 0) (fun hh => bnd (zcB lo 0 hh) fun _ => some AV.sle)) = some v := hv
   rw [zab] at hv'
   obtain ⟨z, hz, hv'⟩ := hv'
   rw [zab] at hv'
   obtain ⟨hh, h1, hv'⟩ := hv'
   rw [zab] at hv'
   obtain ⟨l, h2, hv'⟩ := hv'
   cases hv'
   cases hx with
   | sle a c =>
     obtain ⟨hbr, hc, hle⟩ := zeb (P := P) (w := w) hl hu h1 h2 (Nat.zero_le c) true
     obtain rfl : hh = 0 := by rcases hc with h | h <;> omega
     obtain rfl : l = 0 := by omega
     refine ⟨.slice (if c = 0 then some a else some (a.add (0 * z))) 0 c, w, ?_, ?_, rfl⟩
     ·unfold Instr.slice
      rw [zai hd]
      show Sem.run P (Instr.sliceBounds true 0 c ul uh none >>= _) w = _
      rw [zac, hbr]
      show Sem.run P (sizeOf el >>= _) w = _
      rw [zac, zbh hz]
      rfl
     ·split
      ·exact .sle _ _
      ·exact .sle _ _
  case snil =>
   have hv' : bnd (zaQ P el) (fun _ => bnd (zcB hi 0 0) (fun hh => bnd (zcB lo 0 hh) fun _ => some AV.snil)) = some v := hv
   rw [zab] at hv'
   obtain ⟨z, hz, hv'⟩ := hv'
   rw [zab] at hv'
   obtain ⟨hh, h1, hv'⟩ := hv'
   rw [zab] at hv'
   obtain ⟨l, h2, hv'⟩ := hv'
   cases hv'
   cases hx
   obtain ⟨hbr, hc, hle⟩ := zeb (P := P) (w := w) hl hu h1 h2 (Nat.zero_le 0) true
   obtain rfl : hh = 0 := by rcases hc with h | h <;> omega
   obtain rfl : l = 0 := by omega
   refine ⟨.slice none 0 0, w, ?_, .snil, rfl⟩
   unfold Instr.slice
   rw [zai hd]
   show Sem.run P (Instr.sliceBounds true 0 0 ul uh none >>= _) w = _
   rw [zac, hbr]
   show Sem.run P (sizeOf el >>= _) w = _
   rw [zac, zbh hz]
   rfl
end
end
end Go.Xe
end
section
namespace Go.Xe
noncomputable section
section
variable {P : Program} {e : Env} {w : World}
theorem strOf_vr (s : ByteArray) : VR e (strOf s.data.toList) (.string s) := by
 unfold strOf
 rw [zd8, zaH]
 have q := VR.str (e := e) s.data.toList.length (zbJ s.data.toList)
 rw [zf0] at q
 exact q
theorem zdO {α : Type} {a : Array α} (h : zaY a.toList = true) : a = #[] := by
 rw [zaD] at h
 exact Array.toList_eq_nil_iff.1 h
theorem zdP {v : Value} {a : AV} (h : zcj v = some a) : VR e a v := by
 cases v <;> try (simp [zcj] at h; done)
 case bool => cases h; exact .bool _
 case int => cases h; exact .int _ _
 case string s => cases h; exact strOf_vr s
 case pointer o =>
  cases o with
  | none => cases h; exact .pnil
  | some _ => simp [zcj] at h
 case slice o l c =>
  cases o with
  | none =>
    have h' : grd (Nat.beq l 0) (grd (Nat.beq c 0) (some AV.snil)) = some a := h
    rw [zaf, zaf, zah, zah] at h'
    obtain ⟨rfl, rfl, h'⟩ := h'
    cases h'; exact .snil
  | some _ => simp [zcj] at h
 case map o =>
  cases o with
  | none => cases h; exact .mnil
  | some _ => simp [zcj] at h
 case func fn x y =>
  have h' : grd (zaY x.toList) (grd (zaY y.toList) (grd (zeS fn) (some (AV.func fn [] [])))) = some a := h
  rw [zaf, zaf, zaf] at h'
  obtain ⟨h1, h2, h3, h'⟩ := h'
  cases h'
  rw [zdO h1, zdO h2]
  exact .func _ _ _ _ _ _ (.same _ h3) .nil .nil
 case nilFunc => cases h; exact .fnil
 case nilIface => cases h; exact .inil
 case tuple vs =>
  have h' : grd (zaY vs.toList) (some (AV.tup [])) = some a := h
  rw [zaf] at h'
  obtain ⟨h1, h'⟩ := h'
  cases h'
  rw [zdO h1]; exact .tup _ _ .nil
theorem zeA {l : List Value} {r : List AV} (h : mapO zcj l = some r) : VRs e r l := by
 induction l generalizing r with
 | nil => cases h; exact .nil
 | cons v l ih =>
   have h' : bnd (zcj v) (fun a => bnd (mapO zcj l) fun r => some (a :: r)) = some r := h
   rw [zab] at h'
   obtain ⟨a, ha, h'⟩ := h'
   rw [zab] at h'
   obtain ⟨r', hr, h'⟩ := h'
   cases h'
   exact .cons _ _ _ _ (zdP ha) (ih hr)
theorem ofValue1_sound {v : Value} {a : AV} (h : ofValue1 v = some a) : VR e a v := by
 cases v <;> try (exact zdP h)
 case agg cs =>
  have h' : bnd (mapO zcj cs.toList) (fun l => some (AV.agg l)) = some a := h
  rw [zab] at h'
  obtain ⟨l, hl, h'⟩ := h'
  cases h'
  exact .agg _ _ (zeA hl)
theorem zdl {v : Value} {a : AV} (h : ofValue v = some a) : VR e a v := by
 cases v <;> try (exact zdP h)
 case agg cs =>
  have h' : bnd (mapO zcj cs.toList) (fun l => some (AV.agg l)) = some a := h
  rw [zab] at h'
  obtain ⟨l, hl, h'⟩ := h'
  cases h'
  exact .agg _ _ (zeA hl)
 case tuple cs =>
  have h' : bnd (mapO zcj cs.toList) (fun l => some (AV.tup l)) = some a := h
  rw [zab] at h'
  obtain ⟨l, hl, h'⟩ := h'
  cases h'
  exact .tup _ _ (zeA hl)
 case iface t v =>
  have h' : bnd (ofValue1 v) (fun a => some (AV.ifc t a)) = some a := h
  rw [zab] at h'
  obtain ⟨l, hl, h'⟩ := h'
  cases h'
  exact .ifc _ _ _ (ofValue1_sound hl)
theorem zeroA_eq {t : TypeId} {a : AV} (h : zdy P t = some a) : ∃ i z, P.info? t = some i ∧ i.zero = some z ∧ ofValue z = some a := by
 unfold zdy at h
 rw [zab] at h
 obtain ⟨i, hi, h⟩ := h
 rw [zab] at h
 obtain ⟨z, hz, h⟩ := h
 exact ⟨i, z, hi, hz, h⟩
theorem zdm {t : TypeId} {a : AV} (h : zdy P t = some a) : ∃ z, (zeroValue t).run P w = .ok z w ∧ VR e a z := by
 obtain ⟨i, z, hi, hz, ho⟩ := zeroA_eq h
 refine ⟨z, ?_, zdl ho⟩
 show Sem.run P (typeInfo t >>= fun i => match i.zero with | some v => pure v | none => unsupported (.resourceLimit "a value of more than 2^22 cells")) w = _
 rw [zac, zb6 hi]
 show Sem.run P (match i.zero with | some v => pure v | none => unsupported (.resourceLimit "a value of more than 2^22 cells")) w = _
 rw [hz]; rfl
theorem ev_sound {fr : Fr} {a : Act} (hf : FR e fr a) {x : Operand} {v : AV} (h : ev x fr = some v) : VR e v (a.eval x) := by
 cases x with
 | tmp t =>
   have h' : some (fr.at_ t) = some v := h
   cases h'
   rw [at_eq]; exact hf.tmps.at_ t
 | const c => exact zdl h
 | global g => cases h; exact .gptr g
 | func f => cases h; exact .func _ _ _ _ _ _ (.same _ rfl) .nil .nil
theorem new_row {h : AH} (s : Sat e h w.heap) {l : List AV} {us : Array Value} (hv : VRs e l us.toList) (T : TypeId) :
  ∃ e', Sat e' (h.add (.cells l T true 0 [])) (w.heap.push (.cells us T (0, 0))) ∧ e'.loc h.next = some ⟨w.heap.size, 0, l.length⟩ ∧ e.le e' ∧
    Step e h w e' (h.add (.cells l T true 0 [])) { w with heap := w.heap.push (.cells us T (0, 0)) } := by
 have hlen := hv.length
 have hr : CellsR e l T 0 ⟨w.heap.size, 0, l.length⟩ us T 0 0 := by
  refine ⟨by simp only; rw [hlen]; simp, Nat.le_refl _, fun i v hi => ?_, fun i _ _ h => by omega, fun _ => ⟨rfl, rfl, rfl, fun _ => rfl⟩⟩
  obtain ⟨u, hu, hr⟩ := hv.get hi
  exact ⟨u, by rw [Nat.zero_add, ← Array.getElem?_toList]; exact hu, hr⟩
 have hle : e.le (e.at_ h.next ⟨w.heap.size, 0, l.length⟩) := Env.at_le s.fresh
 obtain ⟨h1, h2⟩ := s.add (w := w) (en := .cells l T true 0 []) (o := .cells us T (0, 0)) l.length rfl (.cells _ _ _ _ _ _ _ _ _ _ (hr.mono hle))
 exact ⟨_, h1, Env.at_self _ _ _, hle, h2⟩
theorem alloc_sound {h : AH} (s : Sat e h w.heap) {t : TypeId} {v : AV} {h' : AH}
  (hv : (bnd (zdy P t) fun z => h.new (.cells z.cells t true 0 []) fun b h => some (AV.ptr b 0, h)) = some (v, h')) :
  Runs P (Instr.alloc t true (.tuple #[])) w fun u' w' => Out e h w v h' u' w' := by
 rw [zab] at hv
 obtain ⟨z, hz, hv⟩ := hv
 rw [AH.new_eq] at hv
 cases hv
 obtain ⟨uz, hr, hzr⟩ := zdm (P := P) (w := w) (e := e) hz
 obtain ⟨e', s', hl, hle, st⟩ := new_row s (zcH hzr) t
 refine ⟨.pointer (some ⟨w.heap.size, 0, none⟩), _, ?_, e', s', ?_, st⟩
 ·show Sem.run P (zeroValue t >>= _) w = _
  rw [zac, hr]; rfl
 ·exact .ptr h.next 0 _ hl
theorem box_sound {h : AH} (s : Sat e h w.heap) {t : TypeId} {x v : AV} {u : Value} {h' : AH} (hx : VR e x u)
  (hv : (h.new (.cells x.cells t true 0 []) fun b h => some (AV.ptr b 0, h)) = some (v, h')) :
  Runs P (Instr.box t u) w fun u' w' => Out e h w v h' u' w' := by
 rw [AH.new_eq] at hv
 cases hv
 obtain ⟨e', s', hl, hle, st⟩ := new_row s (zcH hx) t
 exact ⟨.pointer (some ⟨w.heap.size, 0, none⟩), _, rfl, e', s', .ptr h.next 0 _ hl, st⟩
theorem repl_succ {α : Type} (n : Nat) (l : List α) : repl (n + 1) l = l ++ repl n l := by
 show app l (repl n l) = _
 rw [zcn]
theorem repl_len {α : Type} (n : Nat) (l : List α) : (repl n l).length = n * l.length := by
 induction n with
 | zero => simp [repl]
 | succ n ih => rw [repl_succ, List.length_append, ih, Nat.succ_mul]; omega
theorem repl_get {α : Type} (n : Nat) (l : List α) (i : Nat) (h : i < n * l.length) : (repl n l)[i]? = l[i % l.length]? := by
 induction n generalizing i with
 | zero => simp at h
 | succ n ih =>
   rw [repl_succ]
   by_cases hi : i < l.length
   ·rw [List.getElem?_append_left hi, Nat.mod_eq_of_lt hi]
   ·rw [List.getElem?_append_right (by omega), ih _ (by rw [Nat.succ_mul] at h; omega), Nat.mod_eq_sub_mod (by omega : i ≥ l.length)]
theorem zbr {t z n : Nat} {l : List AV} (h : zcC P t z n = some l) : ∃ uz, (zeroValue t).run P w = .ok uz w ∧ uz.cells.size = z ∧ l.length = n * z ∧
  VRs e l ((Array.range (n * z)).map (uz.cells[· % uz.cells.size]!)).toList := by
 unfold zcC at h
 rw [zab] at h
 obtain ⟨v, hv, h⟩ := h
 rw [zaf, zah, zaH] at h
 obtain ⟨hz, h⟩ := h
 cases h
 obtain ⟨uz, hr, hzr⟩ := zdm (P := P) (w := w) (e := e) hv
 have hc := zcH hzr
 have hlen := hc.length
 have hsz : uz.cells.size = z := by rw [← hz, hlen]; simp
 refine ⟨uz, hr, hsz, by rw [repl_len, hz], ?_⟩
 refine VRs.of_get (by rw [repl_len, hz]; simp) fun i a u ha hu => ?_
 have hi : i < n * v.cells.length := by
  have := (List.getElem?_eq_some_iff.1 ha).1
  rw [repl_len] at this; exact this
 rw [repl_get n _ i hi] at ha
 obtain ⟨u', hu', hr'⟩ := hc.get ha
 have : u = u' := by
  rw [Array.getElem?_toList] at hu hu'
  rw [Array.getElem?_map] at hu
  have hi' : i < n * z := by rw [← hz]; exact hi
  rw [Array.getElem?_range, if_pos hi'] at hu
  simp only [Option.map_some, Option.some.injEq] at hu
  rw [← hu]
  rw [hz] at hu'
  rw [hsz]
  rw [getElem!_def, hu']
 rw [this]; exact hr'
theorem setAll_get (vs : List Value) (off k : Nat) (cells : Array Value) (hb : off + k + vs.length ≤ cells.size) (i : Nat) :
  ((vs.zipIdx k).foldl (fun cs (x : Value × Nat) => cs.setIfInBounds (off + x.2) x.1) cells)[i]? = if off + k ≤ i ∧ i < off + k + vs.length then vs[i - (off + k)]? else cells[i]? := by
 induction vs generalizing k cells with
 | nil => simp; intro h1 h2; omega
 | cons v vs ih =>
   rw [List.zipIdx_cons, List.foldl_cons]
   rw [ih (k + 1) _ (by simp at hb ⊢; omega)]
   simp only [List.length_cons] at hb ⊢
   by_cases h1 : i = off + k
   ·subst h1
    rw [if_neg (by omega), if_pos (by omega), Array.getElem?_setIfInBounds_self_of_lt (by omega)]
    simp
   ·by_cases h2 : off + k ≤ i ∧ i < off + k + (vs.length + 1)
    ·rw [if_pos (by omega), if_pos h2]
     rw [show i - (off + k) = (i - (off + (k + 1))) + 1 by omega, List.getElem?_cons_succ]
    ·rw [if_neg (by omega), if_neg h2, Array.getElem?_setIfInBounds_ne (by omega)]
theorem setAll_size (vs : List Value) (off k : Nat) (cells : Array Value) :
  ((vs.zipIdx k).foldl (fun cs (x : Value × Nat) => cs.setIfInBounds (off + x.2) x.1) cells).size = cells.size := by
 induction vs generalizing k cells with
 | nil => rfl
 | cons v vs ih => rw [List.zipIdx_cons, List.foldl_cons, ih]; simp
inductive PR (e : Env) : List (Nat × AV) → List (Nat × Value) → Prop
 | nil : PR e [] []
 | cons (i : Nat) (v : AV) (u : Value) (l : List (Nat × AV)) (l' : List (Nat × Value)) (h : VR e v u) (ht : PR e l l') : PR e ((i, v) :: l) ((i, u) :: l')
theorem zec {pa pm : Nat → Option (Nat × Nat)} (hp : ∀ i q, pa i = some q → pm i = some q) {ps : List (Nat × AV)} {us : List (Nat × Value)} (h : PR e ps us) {cs r : List AV} {cells : Array Value} (hc : VRs e cs cells.toList)
  (hv : fillA pa ps cs = some r) : ∃ cells', Instr.fill pm cells us = some cells' ∧ VRs e r cells'.toList ∧ r.length = cs.length := by
 induction h generalizing cs cells with
 | nil => cases hv; exact ⟨cells, rfl, hc, rfl⟩
 | cons i v u l l' hvu _ ih =>
   have hv' : bnd (pa i) (fun q => grd (Nat.beq (len v.cells) q.2) (bnd (zc4 cs q.1 v.cells) fun cs => fillA pa l cs)) = some r := hv
   rw [zab] at hv'
   obtain ⟨⟨off, size⟩, hq, hv'⟩ := hv'
   rw [zaf, zah, zaH, zab] at hv'
   obtain ⟨hsz, cs', hsp, hv'⟩ := hv'
   simp only at hsz hsp
   have hvc := zcH hvu
   have hvl := hvc.length
   have hlen := hc.length
   rw [splice_eq] at hsp
   by_cases hb : off + v.cells.length ≤ cs.length
   ·rw [if_pos hb] at hsp
    cases hsp
    have hus : u.cells.size = v.cells.length := by rw [hvl]; simp
    have hcs : cells.size = cs.length := by rw [hlen]; simp
    have hfold : u.cells.zipIdx.foldl (fun cs (x : Value × Nat) => cs.setIfInBounds (off + x.2) x.1) cells = (u.cells.toList.zipIdx 0).foldl (fun cs (x : Value × Nat) => cs.setIfInBounds (off + x.2) x.1) cells := by
     rw [← Array.foldl_toList, Array.toList_zipIdx]
    have hnew : VRs e (cs.take off ++ v.cells ++ cs.drop (off + v.cells.length)) ((u.cells.toList.zipIdx 0).foldl (fun cs (x : Value × Nat) => cs.setIfInBounds (off + x.2) x.1) cells).toList := by
     have hlt : (cs.take off ++ v.cells ++ cs.drop (off + v.cells.length)).length = cs.length := by
      simp; omega
     refine VRs.of_get (by rw [hlt]; simp only [Array.length_toList]; rw [setAll_size, hcs]) fun j a b ha hb' => ?_
     rw [Array.getElem?_toList, setAll_get _ _ _ _ (by rw [Array.length_toList, hus, hcs]; omega)] at hb'
     by_cases h1 : j < off
     ·rw [if_neg (by omega)] at hb'
      rw [List.append_assoc, List.getElem?_append_left (by simp; omega), List.getElem?_take_of_lt h1] at ha
      obtain ⟨u', hu', hr'⟩ := hc.get ha
      rw [Array.getElem?_toList, hb'] at hu'
      cases hu'; exact hr'
     ·by_cases h2 : j < off + v.cells.length
      ·rw [if_pos (by rw [← hvl]; omega)] at hb'
       rw [List.append_assoc, List.getElem?_append_right (by simp; omega), List.getElem?_append_left (by simp; omega)] at ha
       have ho : (cs.take off).length = off := by simp; omega
       rw [ho] at ha
       obtain ⟨u', hu', hr'⟩ := hvc.get ha
       rw [Nat.add_zero, hu'] at hb'
       cases hb'; exact hr'
      ·rw [if_neg (by rw [← hvl]; omega)] at hb'
       rw [List.getElem?_append_right (by simp; omega)] at ha
       have ho : (cs.take off ++ v.cells).length = off + v.cells.length := by simp; omega
       rw [ho, List.getElem?_drop, show off + v.cells.length + (j - (off + v.cells.length)) = j by omega] at ha
       obtain ⟨u', hu', hr'⟩ := hc.get ha
       rw [Array.getElem?_toList, hb'] at hu'
       cases hu'; exact hr'
    obtain ⟨cells', hf, hr, hl⟩ := ih hnew hv'
    refine ⟨cells', ?_, hr, ?_⟩
    ·unfold Instr.fill
     rw [hp _ _ hq]
     simp only []
     rw [if_neg (by simp only [ne_eq, Bool.or_eq_true, decide_eq_true_eq, not_or, Decidable.not_not]; omega)]
     rw [hfold]; exact hf
    ·rw [hl]; simp; omega
   ·rw [if_neg hb] at hsp; cases hsp
theorem pr_zip {ps : List (Nat × Operand)} {vs : List AV} {f : Operand → Value} (h : VRs e vs (ps.map fun p => f p.2)) : PR e (zipI ps vs) (ps.map fun p => (p.1, f p.2)) := by
 induction ps generalizing vs with
 | nil => exact .nil
 | cons p ps ih =>
   cases h with
   | cons v u l l' h ht => exact .cons _ _ _ _ _ h (ih ht)
theorem zed {t el z : Nat} (h : zga P t = some (el, z)) : P.underlying t = some (.slice el) ∧ zaQ P el = some z ∧ 0 < z := by
 unfold zga at h
 rw [zab] at h
 obtain ⟨d, hd, h⟩ := h
 rw [zab] at h
 obtain ⟨el', he, h⟩ := h
 rw [zab] at h
 obtain ⟨z', hz, h⟩ := h
 rw [zaf, zat] at h
 obtain ⟨h0, h⟩ := h
 cases h
 rw [sliceD_eq he] at hd
 exact ⟨hd, hz, h0⟩
theorem zgg {h : AH} (s : Sat e h w.heap) {t : TypeId} {n : Nat} {ps : List (Nat × AV)} {us : Array (Nat × Value)} {v : AV} {h' : AH} (hp : PR e ps us.toList) (hv : zet P t n ps h = some (v, h')) :
  Runs P (Instr.buildSlice t n us) w fun u' w' => Out e h w v h' u' w' := by
 unfold zet at hv
 rw [zab] at hv
 obtain ⟨⟨el, z⟩, he, hv⟩ := hv
 rw [zaf, zaV, zab] at hv
 obtain ⟨hsz, zs, hzs, hv⟩ := hv
 rw [zab] at hv
 obtain ⟨l, hl, hv⟩ := hv
 rw [AH.new_eq] at hv
 cases hv
 simp only at hsz hzs hl
 obtain ⟨hd, hsize, hz0⟩ := zed he
 obtain ⟨uz, hr, hus, hlz, hvz⟩ := zbr (P := P) (w := w) (e := e) hzs
 obtain ⟨cells, hf, hvc, hlc⟩ := zec (pm := fun i => some (i * z, z)) (fun i q h => h) hp hvz hl
 obtain ⟨e', s', hloc, hle, st⟩ := new_row s hvc el
 have hlen : l.length = n * z := by rw [hlc, hlz]
 refine ⟨.slice (some ⟨w.heap.size, 0, none⟩) n n, _, ?_, e', s', ?_, st⟩
 ·unfold Instr.buildSlice
  rw [zai hd]
  show Sem.run P (sizeOf el >>= _) w = _
  rw [zac, zbh hsize]
  have hsz' : n * z ≤ 2 ^ 24 := hsz
  simp only []
  rw [if_neg (by omega)]
  by_cases hn : n * z = 0
  ·simp only [hn, if_true]
   have hc0 : cells.size = 0 := by
    have := hvc.length; simp at this; omega
   have hr0 : ∀ f : Nat → Value, (Array.range 0).map f = #[] := fun f => Array.eq_empty_of_size_eq_zero (by simp)
   rw [hn, hr0] at hf
   simp only [hr0]
   rw [zac]
   show Sem.run P (match Instr.fill (fun i => some (i * z, z)) #[] us.toList with | some cells => _ | _ => _) w = _
   rw [hf]; rfl
  ·simp only [hn, if_false]
   show Sem.run P (zeroValue el >>= _) w = _
   rw [zac, hr]
   show Sem.run P (match Instr.fill (fun i => some (i * z, z)) ((Array.range (n * z)).map (uz.cells[· % uz.cells.size]!)) us.toList with | some cells => _ | _ => _) w = _
   rw [hf]; rfl
 ·exact .sl h.next 0 n z n _ hloc hz0 (by simp only; omega) (Nat.le_refl n)
end
end
end Go.Xe
end
section
namespace Go.Xe
noncomputable section
section
variable {P : Program} {e : Env} {w : World}
theorem mapM_places (fs : List Field) {r : List (Nat × Nat)} (h : fs.mapM (fun f => (zaQ P f.type).map fun n => (f.offset, n)) = some r) :
  ((fs.mapM fun f => (do pure (f.offset, ← sizeOf f.type) : Sem (Nat × Nat))) : Sem (List (Nat × Nat))).run P w = .ok r w := by
 induction fs generalizing r with
 | nil => cases h; rfl
 | cons f fs ih =>
   rw [List.mapM_cons] at h ⊢
   cases hs : zaQ P f.type with
   | none => rw [hs] at h; cases h
   | some n =>
     rw [hs] at h
     cases hr : fs.mapM (fun f => (zaQ P f.type).map fun n => (f.offset, n)) with
     | none => rw [hr] at h; cases h
     | some r' =>
       rw [hr] at h
       cases h
       rw [zac]
       have h1 : (do pure (f.offset, ← sizeOf f.type) : Sem (Nat × Nat)).run P w = .ok (f.offset, n) w := by
        rw [zac, zbh hs]; rfl
       rw [h1]
       show Sem.run P (fs.mapM _ >>= _) w = _
       rw [zac, ih hr]; rfl
theorem fieldsOk_eq {fs : List Field} (h : zgl P fs = true) : ∃ r, fs.mapM (fun f => (zaQ P f.type).map fun n => (f.offset, n)) = some r ∧ ∀ i q, places P fs i = some q → r[i]? = some q := by
 induction fs with
 | nil => exact ⟨[], rfl, fun i q h => by unfold places at h; rw [za3] at h; simp at h⟩
 | cons f fs ih =>
   have h' : ite' (Option.isSome (zaQ P f.type)) (zgl P fs) false = true := h
   rw [zaj, Bool.and_eq_true] at h'
   obtain ⟨h1, h2⟩ := h'
   obtain ⟨r, hr, hg⟩ := ih h2
   obtain ⟨n, hn⟩ := Option.isSome_iff_exists.1 h1
   refine ⟨(f.offset, n) :: r, ?_, fun i q hq => ?_⟩
   ·rw [List.mapM_cons, hn, hr]; rfl
   ·cases i with
    | zero =>
      have hq' : bnd (some f) (fun f => bnd (zaQ P f.type) fun n => some (f.offset, n)) = some q := hq
      rw [zab] at hq'
      obtain ⟨f', hf, hq'⟩ := hq'
      cases hf
      rw [hn] at hq'
      exact hq'
    | succ i => exact hg i q hq
theorem makeMap_sound {h : AH} (s : Sat e h w.heap) {t : TypeId} {vs : List AV} {us : Option Value} {v : AV} {h' : AH} (hx : (vs = [] ∧ us = none) ∨ ∃ a u, vs = [a] ∧ us = some u ∧ VR e a u) (hv : makeMapA P t vs h = some (v, h')) :
  Runs P (Instr.makeMap t us) w fun u' w' => Out e h w v h' u' w' := by
 unfold makeMapA at hv
 rw [zaf, AH.new_eq] at hv
 obtain ⟨hc, hv⟩ := hv
 cases hv
 have hm : EntR (e.at_ h.next ⟨w.heap.size, 0, 0⟩) h.fm (.map [] 0) ⟨w.heap.size, 0, 0⟩ (.map #[] 0) :=
  .map _ _ _ _ ⟨⟨[], .refl _, .nil⟩, fun x hx => by simp at hx, by simp, by simp⟩
 obtain ⟨h1, h2⟩ := s.add (w := w) 0 rfl hm
 have hrun : (Instr.makeMap t us).run P w = .ok (.map (some w.heap.size)) { w with heap := w.heap.push (.map #[] 0) } := by
  rcases hx with ⟨rfl, rfl⟩ | ⟨a, u, rfl, rfl, ha⟩
  ·rfl
  ·have hc' : Option.isSome (bnd (mapA P t) fun _ => intV a fun _ => some ()) = true := hc
   obtain ⟨_, hc'⟩ := Option.isSome_iff_exists.1 hc'
   rw [zab] at hc'
   obtain ⟨el, hel, hc'⟩ := hc'
   rw [zfG] at hc'
   obtain ⟨k, n, rfl, _⟩ := hc'
   cases vr_int ha
   unfold mapA at hel
   rw [zab] at hel
   obtain ⟨d, hd, hel⟩ := hel
   rw [zab] at hel
   obtain ⟨ke, hke, _⟩ := hel
   have : ∃ a b, d = .map a b := by cases d <;> simp [mapD] at hke <;> exact ⟨_, _, rfl⟩
   obtain ⟨ka, kb, rfl⟩ := this
   unfold Instr.makeMap
   simp only []
   rw [zai hd]
   rfl
 exact ⟨_, _, hrun, _, h1, .map h.next _ (Env.at_self _ _ _), h2⟩
theorem zdQ {t : TypeId} {x v : AV} {u : Value} (hx : VR e x u) (hv : zfA P t x = some v) : Runs P (Instr.makeInterface t u) w fun u' w' => VR e v u' ∧ w' = w := by
 unfold zfA at hv
 rw [zab] at hv
 obtain ⟨d, hd, hv⟩ := hv
 rw [zav] at hv
 rcases hv with ⟨_, hv⟩ | ⟨hn, hv⟩
 ·cases hv
 cases hv
 refine ⟨.iface t u, w, ?_, .ifc _ _ _ hx, rfl⟩
 unfold Instr.makeInterface
 rw [zai hd]
 cases d <;> first | rfl | (simp [isIface] at hn)
theorem ze3 {x v : AV} {u : Value} {i : Nat} (hx : VR e x u) (hv : (tupV x fun l => nth l i) = some v) : Runs P (Instr.extract u i) w fun u' w' => VR e v u' ∧ w' = w := by
 rw [tupV_eq] at hv
 obtain ⟨l, rfl, hv⟩ := hv
 rw [za3] at hv
 obtain ⟨us, rfl, hr⟩ := vr_tup hx
 obtain ⟨u', hu, hr'⟩ := hr.get hv
 refine ⟨u', w, ?_, hr', rfl⟩
 rw [Array.getElem?_toList] at hu
 show Sem.run P (match us[i]? with | some v => pure v | none => stuck "Extract: no such component") w = _
 rw [hu]; rfl
theorem build_sound {t : TypeId} {ps : List (Nat × AV)} {us : Array (Nat × Value)} {v : AV} (hp : PR e ps us.toList) (hv : buildA P t ps = some v) : Runs P (Instr.build t us) w fun u' w' => VR e v u' ∧ w' = w := by
 unfold buildA at hv
 rw [zab] at hv
 obtain ⟨z, hz, hv⟩ := hv
 rw [zdi] at hv
 obtain ⟨zs, rfl, hv⟩ := hv
 rw [zab] at hv
 obtain ⟨d, hd, hv⟩ := hv
 obtain ⟨uz, hr, hzr⟩ := zdm (P := P) (w := w) (e := e) hz
 obtain ⟨cells, rfl, hc⟩ := vr_agg hzr
 have hcl : (Value.agg cells).cells = cells := rfl
 unfold Instr.build
 refine Runs.run_eq (b := (underlying t >>= fun d => match d with
  | .struct fields => do
    let places ← fields.mapM fun f => do pure (f.offset, ← sizeOf f.type)
    let some cells := Instr.fill (places[·]?) cells us.toList | stuck "build: no such field, or a part of the wrong size"
    pure (.agg cells)
  | .array _ elem => do
    let size ← sizeOf elem
    let some cells := Instr.fill (fun i => some (i * size, size)) cells us.toList | stuck "build: a part of the wrong size"
    pure (.agg cells)
  | _ => stuck "build: struct or array type expected")) (by rw [zac, hr]; rfl) ?_
 refine Runs.run_eq (zai hd) ?_
 cases d <;> try (simp [buildD] at hv; done)
 case struct fs =>
  have hv' : grd (zgl P fs.toList) (bnd (fillA (places P fs.toList) ps zs) fun l => some (AV.agg l)) = some v := hv
  rw [zaf, zab] at hv'
  obtain ⟨hfs, l, hl, hv'⟩ := hv'
  cases hv'
  obtain ⟨r, hr1, hr2⟩ := fieldsOk_eq hfs
  obtain ⟨cells', hf, hvc, _⟩ := zec (pm := (r.toArray[·]?)) (fun i q h => by have := hr2 i q h; simpa using this) hp hc hl
  refine ⟨.agg cells', w, ?_, .agg _ _ hvc, rfl⟩
  show Sem.run P (fs.mapM (fun f => (do pure (f.offset, ← sizeOf f.type) : Sem (Nat × Nat))) >>= _) w = _
  have hm : (fs.mapM (fun f => (do pure (f.offset, ← sizeOf f.type) : Sem (Nat × Nat)))).run P w = .ok r.toArray w := by
   rw [Array.mapM_eq_mapM_toList]
   show Sem.run P (Functor.map List.toArray _) w = _
   rw [map_eq_pure_bind, zac, mapM_places _ hr1]
   rfl
  rw [zac, hm]
  show Sem.run P (match Instr.fill (r.toArray[·]?) cells us.toList with | some cells => _ | _ => _) w = _
  rw [hf]; rfl
 case array n el =>
  have hv' : bnd (zaQ P el) (fun n => bnd (fillA (zfy n) ps zs) fun l => some (AV.agg l)) = some v := hv
  rw [zab] at hv'
  obtain ⟨z, hz', hv'⟩ := hv'
  rw [zab] at hv'
  obtain ⟨l, hl, hv'⟩ := hv'
  cases hv'
  obtain ⟨cells', hf, hvc, _⟩ := zec (pm := fun i => some (i * z, z)) (fun i q h => h) hp hc hl
  refine ⟨.agg cells', w, ?_, .agg _ _ hvc, rfl⟩
  show Sem.run P (sizeOf el >>= _) w = _
  rw [zac, zbh hz']
  show Sem.run P (match Instr.fill (fun i => some (i * z, z)) cells us.toList with | some cells => _ | _ => _) w = _
  rw [hf]; rfl
theorem wrap_i64 {n : Nat} (h : n ≤ 100000) : IntKind.i64.wrap (n : Int) = n := by
 apply wrap_small
 show Nat.blt n 9223372036854775808 = true
 rw [zat]; omega
theorem makeSlice_sound {h : AH} (s : Sat e h w.heap) {t : TypeId} {l c v : AV} {ul uc : Value} {h' : AH} (hl : VR e l ul) (hc : VR e c uc) (hv : zfz P t l c h = some (v, h')) :
  Runs P (Instr.makeSlice t ul uc) w fun u' w' => Out e h w v h' u' w' := by
 unfold zfz at hv
 rw [zew] at hv
 obtain ⟨kl, n, rfl, hv⟩ := hv
 rw [zew] at hv
 obtain ⟨kc, m, rfl, hv⟩ := hv
 rw [zaf, zaf, zaV, zaV, zab] at hv
 obtain ⟨hnm, hm, ⟨el, z⟩, he, hv⟩ := hv
 rw [zab] at hv
 obtain ⟨_, hsm, hv⟩ := hv
 rw [zab] at hv
 obtain ⟨zs, hzs, hv⟩ := hv
 rw [AH.new_eq] at hv
 cases hv
 simp only at hsm hzs
 unfold zdg at hsm
 rw [zab] at hsm
 obtain ⟨i, hi, hsm⟩ := hsm
 rw [zaf, zaV] at hsm
 have hby : i.bytes * m ≤ 140737488355328 := hsm.1
 cases vr_int hl
 cases vr_int hc
 obtain ⟨hd, hsize, hz0⟩ := zed he
 obtain ⟨uz, hr, hus, hlz, hvz⟩ := zbr (P := P) (w := w) (e := e) hzs
 obtain ⟨e', s', hloc, hle, st⟩ := new_row s hvz el
 refine ⟨.slice (some ⟨w.heap.size, 0, none⟩) n m, _, ?_, e', s', ?_, st⟩
 ·unfold Instr.makeSlice
  rw [zai hd]
  show Sem.run P (typeInfo el >>= _) w = _
  rw [zac, zb6 hi]
  have hwn : IntKind.i64.wrap (n : Int) = n := wrap_i64 (by omega)
  have hwm : IntKind.i64.wrap (m : Int) = m := wrap_i64 hm
  simp only [hwn, hwm]
  have hb1 : ¬ ((i.bytes : Int) * (m : Int) > 2 ^ 48) := by
   have h1 : ((i.bytes * m : Nat) : Int) ≤ ((140737488355328 : Nat) : Int) := Int.ofNat_le.2 hby
   rw [Int.natCast_mul] at h1
   omega
  have d1 : decide ((m : Int) < 0) = false := decide_eq_false (by omega)
  have d2 : decide ((i.bytes : Int) * (m : Int) > 2 ^ 48) = false := decide_eq_false hb1
  have d3 : decide ((n : Int) < 0) = false := decide_eq_false (by omega)
  have d4 : decide ((n : Int) > (m : Int)) = false := decide_eq_false (by omega)
  rw [d1, d2, d3, d4]
  rw [if_neg (show ¬ ((false || false || false || false) = true) by decide)]
  have hroom : (askRoom ((m : Int).toNat * i.bytes)).run P w = .ok () w := by
   unfold askRoom
   rw [Int.toNat_natCast, if_neg (by unfold roomBytes; rw [Nat.mul_comm]; omega)]
   rfl
  rw [zac, hroom]
  show Sem.run P (sizeOf el >>= _) w = _
  rw [zac, zbh hsize]
  simp only [Int.toNat_natCast]
  have hr0 : ∀ f : Nat → Value, (Array.range 0).map f = #[] := fun f => Array.eq_empty_of_size_eq_zero (by simp)
  by_cases h0 : m * z = 0
  ·rw [if_pos h0]
   simp only [h0, hr0]
   rfl
  ·rw [if_neg h0, zac, hr]
   rfl
 ·exact .sl h.next 0 n z m _ hloc hz0 (by simp only; omega) hnm
end
end
end Go.Xe
end
section
namespace Go.Xe
noncomputable section
section
variable {P : Program} {e : Env} {w : World}
theorem zdu {h : AH} {x y : AV} {q : Bool} (hq : zas h x y = some q) (hs : zaW x = true) : zaW y = true := by
 cases x <;> simp [zaW] at hs <;> cases y <;> first | rfl | (simp [zas, eqB, eqI, eqN, eqS, eqSS] at hq)
inductive Fit : TypeDesc → Value → Prop
 | bool (b : Bool) : Fit .bool (.bool b)
 | int (k k' : IntKind) (n : Int) : Fit (.int k) (.int k' n)
 | string (s : ByteArray) : Fit .string (.string s)
theorem fit_of {kd : TypeDesc} {a : AV} {u : Value} (h1 : zdz kd = true) (h2 : zar kd a = true) (hv : VR e a u) : Fit kd u ∧ zaW a = true := by
 cases kd <;> simp [zdz] at h1 <;> cases a <;> simp [zar] at h2 <;> cases hv <;> exact ⟨by constructor, rfl⟩
theorem zeB {kd : TypeDesc} {u v : Value} {q : Bool} (hf : Fit kd u) (hc : Cmp u v q) : Instr.sameNow kd u v = some q := by
 cases hc with
 | bool a b => cases hf; rfl
 | int k a b =>
   cases hf
   show (if k = k then some (a == b) else none) = some (a == b)
   rw [if_pos rfl]
 | string a b =>
   cases hf
   show some (a == b) = some (decide (a = b))
   rw [bytes_beq]
theorem cmp_true {u v : Value} (hc : Cmp u v true) : u = v := by
 generalize hq : true = q at hc
 cases hc with
 | bool a b => rw [eq_of_beq hq.symm]
 | int k a b => rw [eq_of_beq hq.symm]
 | string a b => rw [of_decide_eq_true hq.symm]
theorem cmp_keyNe {u v : Value} (hc : Cmp u v false) : keyNe u v := by
 generalize hq : false = q at hc
 cases hc with
 | bool a b => exact fun h => by subst h; simp at hq
 | int k a b => exact ⟨rfl, fun h => by subst h; simp at hq⟩
 | string a b => exact fun h => by subst h; simp at hq
theorem keyNe_cmp {u v : Value} (h : keyNe u v) : Cmp u v false := by
 cases u <;> cases v <;> try (exact h.elim)
 case bool a b =>
  have : (a == b) = false := by rw [beq_eq_false_iff_ne]; exact h
  rw [← this]; exact .bool a b
 case int k a j b =>
  obtain ⟨rfl, h⟩ := h
  have : (a == b) = false := by rw [beq_eq_false_iff_ne]; exact h
  rw [← this]; exact .int _ a b
 case string a b =>
  have : decide (a = b) = false := decide_eq_false h
  rw [← this]; exact .string a b
theorem zfN {u v : Value} (h : keyNe u v) : keyNe v u := by
 cases u <;> cases v <;> try (exact h.elim)
 case bool a b => exact fun h' => h h'.symm
 case int k a j b => exact ⟨h.1.symm, fun h' => h.2 h'.symm⟩
 case string a b => exact fun h' => h h'.symm
theorem keyNe_irrefl {u : Value} (h : keyNe u u) : False := by
 cases u <;> try (exact h.elim)
 case bool => exact h rfl
 case int => exact h.2 rfl
 case string => exact h rfl
theorem findNow_none {kd : TypeDesc} {u : Value} {L : List MapEntry} (h : ∀ x ∈ L, Instr.sameNow kd u x.key = some false) (i : Nat) : Instr.findNow kd u L i = some none := by
 induction L generalizing i with
 | nil => rfl
 | cons x L ih =>
   unfold Instr.findNow
   rw [h x List.mem_cons_self]
   exact ih (fun y hy => h y (List.mem_cons_of_mem _ hy)) _
theorem findNow_some {kd : TypeDesc} {u : Value} {A B : List MapEntry} {x : MapEntry} (h : ∀ y ∈ A, Instr.sameNow kd u y.key = some false) (hx : Instr.sameNow kd u x.key = some true) (i : Nat) :
  Instr.findNow kd u (A ++ x :: B) i = some (some (i + A.length, x.val)) := by
 induction A generalizing i with
 | nil => unfold Instr.findNow; rw [List.nil_append]; simp only [hx]; rfl
 | cons y A ih =>
   rw [List.cons_append]
   unfold Instr.findNow
   rw [h y List.mem_cons_self]
   simp only []
   rw [ih (fun z hz => h z (List.mem_cons_of_mem _ hz))]
   simp only [List.length_cons]
   congr 3
   omega
theorem findKey_eq {h : AH} {k : AV} {es : List ME} {r : Option ME} (hr : findKey h k es = some r) :
  (∃ m pre post, r = some m ∧ es = pre ++ m :: post ∧ zas h k m.k = some true) ∨ (r = none ∧ ∀ m ∈ es, zas h k m.k = some false) := by
 induction es with
 | nil => cases hr; exact .inr ⟨rfl, fun m hm => by cases hm⟩
 | cons m es ih =>
   have hr' : bnd (zas h k m.k) (fun q => ite' q (some (some m)) (findKey h k es)) = some r := hr
   rw [zab] at hr'
   obtain ⟨q, hq, hr'⟩ := hr'
   cases q with
   | true =>
     cases hr'
     exact .inl ⟨m, [], es, rfl, rfl, hq⟩
   | false =>
     rcases ih hr' with ⟨m', pre, post, rfl, rfl, he⟩ | ⟨rfl, ha⟩
     ·exact .inl ⟨m', m :: pre, post, rfl, rfl, he⟩
     ·refine .inr ⟨rfl, fun x hx => ?_⟩
      rcases List.mem_cons.1 hx with rfl | hx
      ·exact hq
      ·exact ha x hx
theorem MERs.split {p : List ME} {L : List MapEntry} (h : MERs e p L) {a b : List ME} {m : ME} (hp : p = a ++ m :: b) : ∃ A x B, L = A ++ x :: B ∧ MERs e a A ∧ MER e m x ∧ MERs e b B := by
 induction a generalizing p L with
 | nil =>
   subst hp
   cases h with
   | cons _ x _ l' h ht => exact ⟨[], x, l', rfl, .nil, h, ht⟩
 | cons c a ih =>
   subst hp
   cases h with
   | cons _ x _ l' h ht =>
     obtain ⟨A, y, B, rfl, h1, h2, h3⟩ := ih ht rfl
     exact ⟨x :: A, y, B, rfl, .cons _ _ _ _ h h1, h2, h3⟩
theorem MERs.mem {p : List ME} {L : List MapEntry} (h : MERs e p L) {x : MapEntry} (hx : x ∈ L) : ∃ m ∈ p, MER e m x := by
 induction h with
 | nil => cases hx
 | cons m y l l' h _ ih =>
   rcases List.mem_cons.1 hx with rfl | hx
   ·exact ⟨m, List.mem_cons_self, h⟩
   ·obtain ⟨m', hm, hr⟩ := ih hx
    exact ⟨m', List.mem_cons_of_mem _ hm, hr⟩
theorem MERs.append {a b : List ME} {A B : List MapEntry} (h : MERs e a A) (k : MERs e b B) : MERs e (a ++ b) (A ++ B) := by
 induction h with
 | nil => exact k
 | cons m x l l' h _ ih => exact .cons _ _ _ _ h ih
theorem look_none {h : AH} {H : Array Obj} (s : Sat e h H) {kd : TypeDesc} {k : AV} {u : Value} (hd : zdz kd = true) (hk : zar kd k = true) (hv : VR e k u) {es : List ME} {ents : Array MapEntry} {clock : Nat}
  (hm : MapR e es ents clock) (hn : ∀ m ∈ es, zas h k m.k = some false) : Instr.findNow kd u ents.toList 0 = some none ∧ ∀ x ∈ ents.toList, keyNe u x.key := by
 obtain ⟨hf, hs⟩ := fit_of hd hk hv
 obtain ⟨p, hp, hr⟩ := hm.perm
 have hc : ∀ x ∈ ents.toList, Cmp u x.key false := fun x hx => by
  obtain ⟨m, hmp, hmr⟩ := hr.mem hx
  have hq := hn m (hp.mem_iff.1 hmp)
  exact zaS s hv hmr.k hq hs (zdu hq hs)
 exact ⟨findNow_none (fun x hx => zeB hf (hc x hx)) 0, fun x hx => cmp_keyNe (hc x hx)⟩
theorem ze4 {h : AH} {H : Array Obj} (s : Sat e h H) {kd : TypeDesc} {k : AV} {u : Value} (hd : zdz kd = true) (hk : zar kd k = true) (hv : VR e k u) {es pre post : List ME} {m : ME} {ents : Array MapEntry} {clock : Nat}
  (hm : MapR e es ents clock) (he : es = pre ++ m :: post) (hq : zas h k m.k = some true) :
  ∃ a b A x B, (a ++ m :: b).Perm es ∧ ents.toList = A ++ x :: B ∧ MERs e a A ∧ MER e m x ∧ MERs e b B ∧ x.key = u ∧ Instr.findNow kd u ents.toList 0 = some (some (A.length, x.val)) := by
 obtain ⟨hf, hs⟩ := fit_of hd hk hv
 obtain ⟨p, hp, hr⟩ := hm.perm
 have hmp : m ∈ p := hp.mem_iff.2 (by rw [he]; exact List.mem_append_right _ List.mem_cons_self)
 obtain ⟨a, b, rfl⟩ := List.append_of_mem hmp
 obtain ⟨A, x, B, hL, h1, h2, h3⟩ := hr.split rfl
 have hc := zaS s hv h2.k hq hs (zdu hq hs)
 have hkey := cmp_true hc
 have hA : ∀ y ∈ A, keyNe u y.key := fun y hy => by
  have := hm.keys
  rw [hL, List.pairwise_append] at this
  rw [hkey]
  exact zfN (this.2.2 y hy x List.mem_cons_self)
 refine ⟨a, b, A, x, B, hp, hL, h1, h2, h3, hkey.symm, ?_⟩
 rw [hL]
 have := findNow_some (B := B) (fun y hy => zeB hf (keyNe_cmp (hA y hy))) (zeB hf hc) 0
 rw [Nat.zero_add] at this
 exact this
end
end
end Go.Xe
end
section
namespace Go.Xe
noncomputable section
section
variable {P : Program} {e : Env} {w : World}
theorem mapK_eq {t el : Nat} {k : AV} (h : mapK P t k = some el) : ∃ key kd, P.underlying t = some (.map key el) ∧ P.underlying key = some kd ∧ zdz kd = true ∧ zar kd k = true := by
 unfold mapK at h
 rw [zab] at h
 obtain ⟨d, hd, h⟩ := h
 rw [zab] at h
 obtain ⟨⟨key, el'⟩, hke, h⟩ := h
 rw [zab] at h
 obtain ⟨kd, hkd, h⟩ := h
 rw [zaf, zaf] at h
 obtain ⟨h1, h2, h⟩ := h
 cases h
 cases d <;> simp [mapD] at hke
 obtain ⟨rfl, rfl⟩ := hke
 exact ⟨_, kd, hd, hkd, h1, h2⟩
theorem zca {empty : Bool} {n : Nat} {key : TypeId} {kd : TypeDesc} {u : Value} (hk : P.underlying key = some kd) (hf : Fit kd u) : (Instr.checkKey empty (n + 1) key u).run P w = .ok () w := by
 unfold Instr.checkKey
 rw [zai hk]
 cases hf <;> rfl
theorem zbn {key : TypeId} {kd : TypeDesc} {u : Value} {L : List MapEntry} {r : Option (Nat × Value)} (hk : P.underlying key = some kd) (hf : Instr.findNow kd u L 0 = some r) : (Instr.findKey key u L).run P w = .ok r w := by
 unfold Instr.findKey
 rw [zai hk, hf]
 rfl
theorem zf2 {kd : TypeDesc} {u : Value} (hf : Fit kd u) : (Instr.keyThatStays u u).run P w = .ok u w := by
 have : Instr.sameBits 10000 u u = true := by cases hf <;> simp [Instr.sameBits, bytes_beq]
 unfold Instr.keyThatStays
 rw [if_pos this]; rfl
theorem putKey_eq {h : AH} {k v : AV} {st : Nat} {es es' : List ME} (hp : zgw h k v st es = some es') :
  (∃ pre m post, es = pre ++ m :: post ∧ zas h k m.k = some true ∧ es' = pre ++ ⟨m.k, v, m.s⟩ :: post) ∨ ((∀ m ∈ es, zas h k m.k = some false) ∧ es' = es ++ [⟨k, v, st⟩]) := by
 induction es generalizing es' with
 | nil => cases hp; exact .inr ⟨fun m hm => (by cases hm), rfl⟩
 | cons m es ih =>
   have hp' : bnd (zas h k m.k) (fun q => ite' q (some (⟨m.k, v, m.s⟩ :: es)) (bnd (zgw h k v st es) fun t => some (m :: t))) = some es' := hp
   rw [zab] at hp'
   obtain ⟨q, hq, hp'⟩ := hp'
   cases q with
   | true => cases hp'; exact .inl ⟨[], m, es, rfl, hq, rfl⟩
   | false =>
     have hp2 : bnd (zgw h k v st es) (fun t => some (m :: t)) = some es' := hp'
     rw [zab] at hp2
     obtain ⟨t, ht, hp2⟩ := hp2
     cases hp2
     rcases ih ht with ⟨pre, m', post, rfl, he, rfl⟩ | ⟨ha, rfl⟩
     ·exact .inl ⟨m :: pre, m', post, rfl, he, rfl⟩
     ·refine .inr ⟨fun x hx => ?_, rfl⟩
      rcases List.mem_cons.1 hx with rfl | hx
      ·exact hq
      ·exact ha x hx
theorem MapR.change {es pre post a b : List ME} {m m' : ME} {A B : List MapEntry} {x x' : MapEntry} {ents ents' : Array MapEntry} {clock : Nat} (h : MapR e es ents clock)
  (he : es = pre ++ m :: post) (hp : (a ++ m :: b).Perm es) (hL : ents.toList = A ++ x :: B) (hL' : ents'.toList = A ++ x' :: B) (h1 : MERs e a A) (h2 : MER e m' x') (h3 : MERs e b B) (hk : x'.key = x.key) (hb : x'.born = x.born) :
  MapR e (pre ++ m' :: post) ents' clock := by
 refine ⟨⟨a ++ m' :: b, ?_, ?_⟩, ?_, ?_, ?_⟩
 ·have : (a ++ b).Perm (pre ++ post) := by
   have h4 : (m :: (a ++ b)).Perm (m :: (pre ++ post)) := (List.perm_middle.symm.trans (he ▸ hp)).trans List.perm_middle
   exact (List.perm_cons m).1 h4
  exact (List.perm_middle.trans ((List.perm_cons m').2 this)).trans List.perm_middle.symm
 ·rw [hL']
  exact h1.append (.cons _ _ _ _ h2 h3)
 ·intro y hy
  rw [hL'] at hy
  have hb' := h.born
  rw [hL] at hb'
  rcases List.mem_append.1 hy with hy | hy
  ·exact hb' y (List.mem_append_left _ hy)
  ·rcases List.mem_cons.1 hy with rfl | hy
   ·rw [hb]; exact hb' x (List.mem_append_right _ List.mem_cons_self)
   ·exact hb' y (List.mem_append_right _ (List.mem_cons_of_mem _ hy))
 ·have hs := h.stamps
  rw [hL, List.pairwise_append, List.pairwise_cons] at hs
  rw [hL', List.pairwise_append, List.pairwise_cons]
  refine ⟨hs.1, ⟨fun y hy => by rw [hb]; exact hs.2.1.1 y hy, hs.2.1.2⟩, fun y hy z hz => ?_⟩
  rcases List.mem_cons.1 hz with rfl | hz
  ·rw [hb]; exact hs.2.2 y hy x List.mem_cons_self
  ·exact hs.2.2 y hy z (List.mem_cons_of_mem _ hz)
 ·have hs := h.keys
  rw [hL, List.pairwise_append, List.pairwise_cons] at hs
  rw [hL', List.pairwise_append, List.pairwise_cons]
  refine ⟨hs.1, ⟨fun y hy => by rw [hk]; exact hs.2.1.1 y hy, hs.2.1.2⟩, fun y hy z hz => ?_⟩
  rcases List.mem_cons.1 hz with rfl | hz
  ·rw [hk]; exact hs.2.2 y hy x List.mem_cons_self
  ·exact hs.2.2 y hy z (List.mem_cons_of_mem _ hz)
theorem MapR.push {es : List ME} {ents : Array MapEntry} {clock : Nat} (h : MapR e es ents clock) {m : ME} {x : MapEntry} (hm : MER e m x) (hb : x.born = clock) (hk : ∀ y ∈ ents.toList, keyNe x.key y.key) :
  MapR e (es ++ [m]) (ents.push x) (clock + 1) := by
 obtain ⟨p, hp, hr⟩ := h.perm
 refine ⟨⟨p ++ [m], hp.append_right _, ?_⟩, ?_, ?_, ?_⟩
 ·rw [Array.toList_push]
  exact hr.append (.cons _ _ _ _ hm .nil)
 ·intro y hy
  rw [Array.toList_push] at hy
  rcases List.mem_append.1 hy with hy | hy
  ·exact Nat.lt_succ_of_lt (h.born y hy)
  ·rw [List.mem_singleton.1 hy, hb]; exact Nat.lt_succ_self _
 ·rw [Array.toList_push, List.pairwise_append]
  refine ⟨h.stamps, List.pairwise_singleton _ _, fun y hy z hz => ?_⟩
  rw [List.mem_singleton.1 hz, hb]
  exact Nat.ne_of_lt (h.born y hy)
 ·rw [Array.toList_push, List.pairwise_append]
  refine ⟨h.keys, List.pairwise_singleton _ _, fun y hy z hz => ?_⟩
  rw [List.mem_singleton.1 hz]
  exact zfN (hk y hy)
theorem Sat.mapAt {h : AH} {H : Array Obj} (s : Sat e h H) {b : Nat} {p : List ME × Nat} {L : Loc} (hb : h.map b = some p) (hl : e.loc b = some L) :
  h.get b = some (.map p.1 p.2) ∧ ∃ ents, H[L.blk]? = some (.map ents p.2) ∧ MapR e p.1 ents p.2 := by
 unfold AH.map at hb
 rw [zab] at hb
 obtain ⟨en, hen, hes⟩ := hb
 cases en <;> simp [mapE] at hes
 subst hes
 obtain ⟨l, o, hl', ho, hr⟩ := s.ents b _ hen
 rw [hl] at hl'; cases hl'
 cases hr with
 | map _ _ _ ents hm => exact ⟨hen, ents, ho, hm⟩
theorem zbs {r : Nat} {ents : Array MapEntry} {clock : Nat} (h : w.heap[r]? = some (.map ents clock)) : (getObj r).run P w = .ok (.map ents clock) w := by
 simp only [getObj, Sem.run, h]
theorem zbZ {r : Nat} {ents : Array MapEntry} {clock : Nat} (h : w.heap[r]? = some (.map ents clock)) (o : Obj) : (setObj r o).run P w = .ok () { w with heap := w.heap.setIfInBounds r o } := by
 simp only [setObj, Sem.run, h]
theorem zfO {ok : Bool} {v : AV} {u : Value} (hv : VR e v u) (b : Bool) : VR e (zbW ok v b) (if ok then .tuple #[u, .bool b] else u) := by
 unfold zbW
 rw [zaB]
 cases ok with
 | true => exact .tup _ _ (.cons _ _ _ _ hv (.cons _ _ _ _ (.bool b) .nil))
 | false => exact hv
theorem zcb {h : AH} (s : Sat e h w.heap) {t : TypeId} {ok : Bool} {m k v : AV} {um uk : Value} (hm : VR e m um) (hk : VR e k uk) (hv : zer P t ok m k h = some v) :
  Runs P (Instr.lookup t um uk ok) w fun u' w' => VR e v u' ∧ w' = w := by
 unfold zer at hv
 rw [zab] at hv
 obtain ⟨el, hel, hv⟩ := hv
 rw [zab] at hv
 obtain ⟨es, hes, hv⟩ := hv
 rw [zab] at hv
 obtain ⟨r, hr, hv⟩ := hv
 obtain ⟨key, kd, hd, hkd, hsd, hko⟩ := mapK_eq hel
 obtain ⟨hf, _⟩ := fit_of hsd hko hk
 have main : ∀ (ents : Array MapEntry), (∃ clock, MapR e es ents clock) →
   Runs P (do
    Instr.checkKey ents.isEmpty 10000 key uk
    let (v, ok') ← match ← Instr.findKey key uk ents.toList with
     | some (_, v) => pure (v, true)
     | none => pure (← zeroValue el, false)
    pure (if ok then .tuple #[v, .bool ok'] else v)) w fun u' w' => VR e v u' ∧ w' = w := by
  rintro ents ⟨clock, hR⟩
  refine Runs.bind' ⟨(), w, zca hkd hf, ?_⟩
  rcases findKey_eq hr with ⟨m', pre, post, rfl, rfl, hq⟩ | ⟨rfl, hn⟩
  ·obtain ⟨a, b, A, x, B, hp, hL, h1, h2, h3, hkx, hfn⟩ := ze4 s hsd hko hk hR rfl hq
   have hv' : some (zbW ok m'.v true) = some v := hv
   cases hv'
   refine Runs.bind' ⟨_, w, zbn hkd hfn, ?_⟩
   exact ⟨_, w, rfl, zfO h2.v true, rfl⟩
  ·obtain ⟨hfn, _⟩ := look_none s hsd hko hk hR hn
   have hv' : bnd (zdy P el) (fun z => some (zbW ok z false)) = some v := hv
   rw [zab] at hv'
   obtain ⟨z, hz, hv'⟩ := hv'
   cases hv'
   obtain ⟨uz, hrz, hzr⟩ := zdm (P := P) (w := w) (e := e) hz
   refine Runs.bind' ⟨_, w, zbn hkd hfn, ?_⟩
   refine ⟨if ok then .tuple #[uz, .bool false] else uz, w, ?_, zfO hzr false, rfl⟩
   show Sem.run P (zeroValue el >>= _) w = _
   rw [zac, hrz]; rfl
 unfold Instr.lookup
 refine Runs.run_eq (zai hd) ?_
 cases m <;> try (simp [zdB] at hes; done)
 case map b =>
  obtain ⟨L, hL, rfl⟩ := zeZ hm
  have hes' : bnd (h.map b) (fun p => some p.1) = some es := hes
  rw [zab] at hes'
  obtain ⟨p, hp, hes'⟩ := hes'
  cases hes'
  obtain ⟨hg, ents, hH, hR⟩ := s.mapAt hp hL
  refine Runs.run_eq ?_ (main ents ⟨_, hR⟩)
  show Sem.run P (getObj L.blk >>= _) w = _
  rw [zac, zbs hH]
  rfl
 case mnil =>
  cases hm
  cases hes
  exact main #[] ⟨0, ⟨⟨[], .refl _, .nil⟩, fun x hx => by simp at hx, by simp, by simp⟩⟩
theorem step_more {e' : Env} {h : AH} (hle : e.le e') (hloc : e'.loc = e.loc) : Step e h w e' h.more w :=
 ⟨hle, Nat.le_succ _, Nat.le_refl _, fun X hX hO => ⟨rfl, fun ⟨b, en, l, hb, hl, hX⟩ => hO ⟨b, en, l, hb, by rw [← hloc]; exact hl, hX⟩⟩, rfl, rfl, rfl, fun _ _ h => .inl (hloc ▸ h), fun _ _ h => h⟩
theorem put_step {h : AH} (s : Sat e h w.heap) {kd : TypeDesc} {k v : AV} {uk uv : Value} (hsd : zdz kd = true) (hko : zar kd k = true) (hk : VR e k uk) (hv : VR e v uv) {b : Nat} {L : Loc} (hL : e.loc b = some L)
  {es es' : List ME} {ents : Array MapEntry} {clock : Nat} (hg : h.get b = some (.map es clock)) (hR : MapR e es ents clock) (hp : zgw h.more k v h.next es = some es') :
  (∃ A x B, ents.toList = A ++ x :: B ∧ x.key = uk ∧ Instr.findNow kd uk ents.toList 0 = some (some (A.length, x.val)) ∧
   ∀ ents' : Array MapEntry, ents'.toList = A ++ { x with key := uk, val := uv } :: B →
     Sat e (h.more.set b (.map es' (ckOf (es, clock) es'))) (w.heap.setIfInBounds L.blk (.map ents' clock)) ∧ Step e h w e (h.more.set b (.map es' (ckOf (es, clock) es'))) { w with heap := w.heap.setIfInBounds L.blk (.map ents' clock) }) ∨
  (Instr.findNow kd uk ents.toList 0 = some none ∧
   Sat (e.stamp h.next clock) (h.more.set b (.map es' (ckOf (es, clock) es'))) (w.heap.setIfInBounds L.blk (.map (ents.push { key := uk, val := uv, born := clock }) (clock + 1))) ∧
   Step e h w (e.stamp h.next clock) (h.more.set b (.map es' (ckOf (es, clock) es'))) { w with heap := w.heap.setIfInBounds L.blk (.map (ents.push { key := uk, val := uv, born := clock }) (clock + 1)) }) := by
 have sm := s.more
 rcases putKey_eq hp with ⟨pre, m, post, rfl, hq, rfl⟩ | ⟨hn, rfl⟩
 ·left
  obtain ⟨a, b', A, x, B, hperm, hLs, h1, h2, h3, hkx, hfn⟩ := ze4 sm hsd hko hk hR rfl hq
  refine ⟨A, x, B, hLs, hkx, hfn, fun ents' hL' => ?_⟩
  have hR' : MapR e (pre ++ ⟨m.k, v, m.s⟩ :: post) ents' clock :=
   hR.change rfl hperm hLs hL' h1 ⟨by rw [← hkx]; exact h2.k, hv, h2.s⟩ h3 hkx.symm rfl
  have hg' : h.more.get b = some (.map (pre ++ m :: post) clock) := hg
  have hck : ckOf (pre ++ m :: post, clock) (pre ++ (⟨m.k, v, m.s⟩ : ME) :: post) = clock := by
   unfold ckOf
   rw [zaG, zaH, zaH]
   show clock + ((pre ++ (⟨m.k, v, m.s⟩ : ME) :: post).length - (pre ++ m :: post).length) = clock
   simp
  rw [hck]
  refine ⟨sm.setObj hg' hL (sm.alone hg' hL rfl) (.map _ _ _ _ hR') (fun c hc => by cases hc) (fun h => by cases h), ?_⟩
  exact (step_more (w := w) (h := h) (.refl e) rfl).trans (Step.setObj (w := w) sm _ hg' hL)
 ·right
  obtain ⟨hfn, hkn⟩ := look_none sm hsd hko hk hR hn
  have ss := s.stamp clock
  have hle := Env.stamp_le (v := clock) s.noStp
  have hR1 := hR.mono hle
  have hR' : MapR (e.stamp h.next clock) (es ++ [⟨k, v, h.next⟩]) (ents.push { key := uk, val := uv, born := clock }) (clock + 1) :=
   hR1.push ⟨hk.mono hle, hv.mono hle, if_pos rfl⟩ rfl hkn
  have hg' : h.more.get b = some (.map es clock) := hg
  have hck : ckOf (es, clock) (es ++ [(⟨k, v, h.next⟩ : ME)]) = clock + 1 := by
   unfold ckOf
   rw [zaG, zaH, zaH]
   show clock + ((es ++ [(⟨k, v, h.next⟩ : ME)]).length - es.length) = clock + 1
   simp
  rw [hck]
  have hL' : (e.stamp h.next clock).loc b = some L := hL
  refine ⟨hfn, ss.setObj hg' hL' (ss.alone hg' hL' rfl) (.map _ _ _ _ hR') (fun c hc => by cases hc) (fun h => by cases h), ?_⟩
  exact (step_more (w := w) (h := h) hle rfl).trans (Step.setObj (w := w) ss _ hg' hL')
theorem modify_at {A B : List MapEntry} {x : MapEntry} {ents : Array MapEntry} (h : ents.toList = A ++ x :: B) (f : MapEntry → MapEntry) : (ents.modify A.length f).toList = A ++ f x :: B := by
 rw [Array.toList_modify, h]
 clear h
 induction A with
 | nil => rfl
 | cons a A ih => rw [List.cons_append, List.length_cons, List.modify_succ_cons, ih]; rfl
theorem get_at {A B : List MapEntry} {x : MapEntry} {ents : Array MapEntry} (h : ents.toList = A ++ x :: B) : ents[A.length]? = some x := by
 rw [← Array.getElem?_toList, h]
 simp
theorem zf3 {h : AH} (s : Sat e h w.heap) {t : TypeId} {m k v : AV} {um uk uv : Value} {h' : AH} (hm : VR e m um) (hk : VR e k uk) (hv : VR e v uv) (hu : mapUpd P t m k v h = some h') :
  Runs P (Instr.mapUpdate t um uk uv) w fun _ w' => OutH e h w h' w' := by
 unfold mapUpd at hu
 rw [zdI] at hu
 obtain ⟨b, rfl, hu⟩ := hu
 rw [zab] at hu
 obtain ⟨el, hel, hu⟩ := hu
 rw [zab] at hu
 obtain ⟨es, hes, hu⟩ := hu
 rw [AH.skip_eq, zab] at hu
 obtain ⟨es', hp, hu⟩ := hu
 cases hu
 obtain ⟨key, kd, hd, hkd, hsd, hko⟩ := mapK_eq hel
 obtain ⟨hf, _⟩ := fit_of hsd hko hk
 obtain ⟨L, hL, rfl⟩ := zeZ hm
 obtain ⟨hg, ents, hH, hR⟩ := s.mapAt hes hL
 unfold Instr.mapUpdate
 refine Runs.run_eq (zai hd) ?_
 simp only []
 refine Runs.bind' ⟨_, w, zbs hH, ?_⟩
 simp only []
 refine Runs.bind' ⟨(), w, zca hkd hf, ?_⟩
 rcases put_step s hsd hko hk hv hL hg hR hp with ⟨A, x, B, hLs, hkx, hfn, hput⟩ | ⟨hfn, hs', hst⟩
 ·refine Runs.bind' ⟨_, w, zbn hkd hfn, ?_⟩
  simp only []
  have hold : ((ents[A.length]?).map (·.key)).getD uk = uk := by rw [get_at hLs]; exact hkx
  rw [hold]
  refine Runs.bind' ⟨_, w, zf2 hf, ?_⟩
  obtain ⟨hs', hst⟩ := hput _ (modify_at hLs fun e => { e with key := uk, val := uv })
  exact ⟨(), _, zbZ hH _, e, hs', hst⟩
 ·refine Runs.bind' ⟨_, w, zbn hkd hfn, ?_⟩
  exact ⟨(), _, zbZ hH _, _, hs', hst⟩
end
end
end Go.Xe
end
