/-
  Conversions; Slicing; Values that are built. Conditions: none.
-/
import Derived.Test.YtjibdoofogmkcaaGreatDoorXkToXm
set_option linter.unusedVariables false
set_option linter.unusedSimpArgs false
set_option linter.unusedSectionVars false
section
namespace Go.Xe
noncomputable section
def Out (e : Env) (h : AH) (w : World) (v : AV) (h' : AH) (u : Value) (w' : World) : Prop := ∃ e', Sat e' h' w'.heap ∧ VR e' v u ∧ Step e h w e' h' w'
def OutH (e : Env) (h : AH) (w : World) (h' : AH) (w' : World) : Prop := ∃ e', Sat e' h' w'.heap ∧ Step e h w e' h' w'
theorem Out.same {e : Env} {h : AH} {w : World} {v : AV} {u : Value} (s : Sat e h w.heap) (hv : VR e v u) : Out e h w v h u w := ⟨e, s, hv, .refl e h w⟩
theorem Runs.same {P : Program} {e : Env} {h : AH} {w : World} {v : AV} {c : Sem Value} (s : Sat e h w.heap) (r : Runs P c w fun u w' => VR e v u ∧ w' = w) :
    Runs P c w fun u w' => Out e h w v h u w' := r.mono fun _ _ ⟨hv, hw⟩ => by subst hw; exact Out.same s hv
section
variable {P : Program} {e : Env} {w : World}
theorem runs_under' {t : TypeId} {d : TypeDesc} (h : P.underlying t = some d) {α : Type} {f : TypeDesc → Sem α} {w : World} : (underlying t >>= f).run P w = (f d).run P w := by
  rw [runM_bind, run_under h]
theorem bytesStr_succ (n c : Nat) : bytesStr (n + 1) c = .int .u8 (.ofNat (c % 256)) :: bytesStr n (c / 256) := by
  show (frc (Nat.mod c 256) fun b => AV.int .u8 (.ofNat b)) :: bytesStr n (Nat.div c 256) = _
  rw [frc_eq]; rfl
theorem bytesStr_vrs (e : Env) (n c : Nat) : VRs e (bytesStr n c) ((listOf n c).map fun b => Value.int .u8 (b.toNat : Int)) := by
  induction n generalizing c with
  | zero => exact .nil
  | succ n ih =>
    rw [bytesStr_succ, listOf_succ, List.map_cons]
    refine .cons _ _ _ _ ?_ (ih _)
    have : (UInt8.ofNat (c % 256)).toNat = c % 256 := by simp
    rw [this]; exact .int _ _
theorem bytesStr_len (n c : Nat) : (bytesStr n c).length = n := by
  induction n generalizing c with
  | zero => rfl
  | succ n ih => rw [bytesStr_succ, List.length_cons, ih]
theorem byteV_eq {α : Type} {a : AV} {k : Nat → Option α} {y : α} : byteV a k = some y ↔ ∃ b : Nat, a = .int .u8 (b : Int) ∧ b < 256 ∧ k b = some y := by
  constructor
  · intro h
    cases a <;> try (simp [byteV] at h; done)
    case int kd i =>
      cases kd <;> try (simp [byteV] at h; done)
      have h' : natI i (fun b => grd (Nat.blt b 256) (k b)) = some y := h
      rw [natI_eq] at h'
      obtain ⟨b, rfl, h'⟩ := h'
      rw [grd_eq, blt_iff] at h'
      exact ⟨b, rfl, h'⟩
  · rintro ⟨b, rfl, hb, hk⟩
    show grd (Nat.blt b 256) (k b) = some y
    rw [grd_eq, blt_iff]; exact ⟨hb, hk⟩
theorem codeBytes_eq {l : List AV} {c : Nat} (h : codeBytes l = some c) {us : List Value} (hr : VRs e l us) :
    ∃ bs : List UInt8, us = bs.map (fun b => Value.int .u8 (b.toNat : Int)) ∧ bs.length = l.length ∧ codeOf bs = c := by
  induction l generalizing c us with
  | nil => cases hr; cases h; exact ⟨[], rfl, rfl, rfl⟩
  | cons a l ih =>
    have h' : byteV a (fun b => bnd (codeBytes l) fun c => some (Nat.add b (Nat.mul 256 c))) = some c := h
    rw [byteV_eq] at h'
    obtain ⟨b, rfl, hb, h'⟩ := h'
    rw [bnd_eq] at h'
    obtain ⟨c', hc', h'⟩ := h'
    cases h'
    cases hr with
    | cons _ _ _ _ hv ht =>
      obtain ⟨bs, rfl, hl, hc⟩ := ih hc' ht
      cases vr_int hv
      have : (UInt8.ofNat b).toNat = b := by simp; omega
      refine ⟨UInt8.ofNat b :: bs, ?_, by simp [hl], ?_⟩
      · rw [List.map_cons, this]
      · rw [codeOf_cons, this, hc]; rfl
theorem strBytes_eq {l : List AV} {v : AV} (h : strBytes l = some v) {us : List Value} (hr : VRs e l us) :
    ∃ bs : List UInt8, us = bs.map (fun b => Value.int .u8 (b.toNat : Int)) ∧ VR e v (.string ⟨bs.toArray⟩) := by
  unfold strBytes at h
  rw [bnd_eq] at h
  obtain ⟨c, hc, h⟩ := h
  cases h
  obtain ⟨bs, hb, hl, hcode⟩ := codeBytes_eq hc hr
  refine ⟨bs, hb, ?_⟩
  rw [mkStr_eq, ← bytesOf_of, hcode, hl, len_eq]
  exact .str _ _
theorem run_pushBytes (bs : List UInt8) (acc : ByteArray) :
    ((forIn (bs.map fun b => Value.int .u8 (b.toNat : Int)) acc fun c s => (match c with
      | .int .u8 n => pure (ForInStep.yield (s.push (UInt8.ofNat n.toNat)))
      | _ => stuck "bytesToString: byte expected") : Sem ByteArray)).run P w = .ok ⟨acc.data ++ bs.toArray⟩ w := by
  induction bs generalizing acc with
  | nil => simp [List.forIn_nil]
  | cons b bs ih =>
    rw [List.map_cons, List.forIn_cons]
    show Sem.run P (forIn (bs.map fun b => Value.int .u8 (b.toNat : Int)) (acc.push (UInt8.ofNat (Int.toNat (b.toNat : Int)))) _) w = _
    rw [ih]
    congr 1
    apply ByteArray.ext
    simp [ByteArray.push]
theorem run_bytesToString {b : Addr} {n c : Nat} {us : Array Value} (hl : (loadCells b n).run P w = .ok us w) {bs : List UInt8} (hu : us.toList = bs.map (fun b => Value.int .u8 (b.toNat : Int))) :
    (Conv.bytesToString (.slice (some b) n c)).run P w = .ok (.string ⟨bs.toArray⟩) w := by
  show Sem.run P (loadCells b n >>= fun us => (forIn us ByteArray.empty fun c s => (match c with
      | .int .u8 n => pure (ForInStep.yield (s.push (UInt8.ofNat n.toNat)))
      | _ => stuck "bytesToString: byte expected")) >>= fun s => pure (Value.string s)) w = _
  rw [runM_bind, hl]
  show Sem.run P ((forIn us ByteArray.empty _) >>= _) w = _
  rw [runM_bind, ← Array.forIn_toList, hu, run_pushBytes]
  simp
theorem bytesOfSlice_sound {h : AH} (s : Sat e h w.heap) {x v : AV} {u : Value} (hx : VR e x u) (hv : bytesOfSlice x h = some v) :
    Runs P (Conv.bytesToString u) w fun u' w' => VR e v u' ∧ w' = w := by
  cases x <;> try (simp [bytesOfSlice] at hv; done)
  case snil => cases hx; cases hv; exact ⟨_, w, rfl, .str 0 0, rfl⟩
  case sle =>
    cases hx with
    | sle a c => cases hv; exact ⟨_, w, rfl, .str 0 0, rfl⟩
  case sl b o l z =>
    have hv' : grd (Nat.beq z 1) (bnd (readCells h b o l) strBytes) = some v := hv
    rw [grd_eq, bnd_eq] at hv'
    obtain ⟨hz, r, hr, hv'⟩ := hv'
    obtain ⟨L, c, hL, _, _, _, rfl⟩ := vr_sl hx
    obtain ⟨us, hus, hvr⟩ := readCells_sound (P := P) s hL hr
    obtain ⟨bs, hb, hvv⟩ := strBytes_eq hv' hvr
    exact ⟨_, w, run_bytesToString hus hb, hvv, rfl⟩
theorem run_cap (need old : Nat) (el : TypeId) : ∃ cap, need ≤ cap ∧ (choose (.appendCap need old el)).run P w = .ok cap { w with drawn := w.drawn + 1 } :=
  ⟨need + w.tape w.drawn (.appendCap need old el) % (2 ^ 63 - need), Nat.le_add_right _ _, rfl⟩
theorem modify_push_last {α : Type} (a : Array α) (x : α) (f : α → α) : (a.push x).modify a.size f = a.push (f x) := by
  apply Array.ext
  · simp
  · intro i h1 h2
    rw [Array.getElem_modify, Array.getElem_push, Array.getElem_push]
    by_cases hi : i < a.size
    · rw [dif_pos hi, dif_pos hi, if_neg (by omega)]
    · rw [dif_neg hi, dif_neg hi, if_pos (by simp at h1; omega)]
theorem run_stringToBytes (el : TypeId) (st : ByteArray) : ∃ cap, st.size ≤ cap ∧
    (Conv.stringToBytes el st).run P w = .ok (.slice (some ⟨w.heap.size, 0, none⟩) st.size cap)
      { w with drawn := w.drawn + 1, heap := w.heap.push (.cells ((st.data.map fun b => Value.int .u8 b.toNat) ++ Array.replicate (cap - st.size) (.int .u8 0)) el (cap, cap + 1)) } := by
  obtain ⟨cap, hle, h1⟩ := run_cap (P := P) (w := w) st.size 0 el
  refine ⟨cap, hle, ?_⟩
  unfold Conv.stringToBytes
  rw [runM_bind, h1]
  simp only []
  generalize hrow : ((st.data.map fun b => Value.int .u8 b.toNat) ++ Array.replicate (cap - st.size) (.int .u8 0)) = row
  have hsz : row.size = cap := by
    rw [← hrow, Array.size_append, Array.size_map, Array.size_replicate]
    have : st.data.size = st.size := rfl
    omega
  have h2 : ∀ w : World, (newRow el row).run P w = .ok ⟨w.heap.size, 0, none⟩ { w with heap := w.heap.push (.cells row el (0, 0)) } := fun _ => rfl
  rw [runM_bind, h2]
  simp only []
  have h3 : ∀ w : World, (markStringish ⟨w.heap.size, 0, none⟩).run P { w with heap := w.heap.push (.cells row el (0, 0)) } = .ok () { w with heap := w.heap.push (.cells row el (cap, cap + 1)) } := fun w => by
    have hs : World.shape? { w with heap := w.heap.push (.cells row el (0, 0)) } w.heap.size = some (el, cap) := by
      simp [World.shape?, hsz]
    unfold markStringish
    rw [runM_bind, run_shape]
    simp only [hs]
    rw [run_freeze]
    have hf : World.freeze { w with heap := w.heap.push (.cells row el (0, 0)) } { block := w.heap.size, off := cap } 1 = { w with heap := w.heap.push (.cells row el (cap, cap + 1)) } := by
      unfold World.freeze
      rw [if_neg (by decide)]
      simp only []
      congr 1
      rw [modify_push_last]
      rfl
    rw [hf]
  have h4 := h3 { w with drawn := w.drawn + 1 }
  simp only [] at h4
  rw [runM_bind, h4]
  rfl
theorem run_viewAt {a : Nat} {arr : Array Value} {T : TypeId} {lo hi : Nat} (hH : w.heap[a]? = some (.cells arr T (lo, hi))) : (viewAt a).run P w = .ok none w := by
  have : w.shape? a = some (T, arr.size) := by simp [World.shape?, hH]
  show Sem.run P (shape a >>= _) w = _
  rw [runM_bind, run_shape, this]; rfl
theorem run_seenAt {a : Addr} {arr : Array Value} {T : TypeId} {lo hi : Nat} (hH : w.heap[a.block]? = some (.cells arr T (lo, hi))) : (Conv.seenAt a).run P w = .ok a w := by
  unfold Conv.seenAt
  rw [runM_bind, run_viewAt hH]; rfl
theorem run_cellsIn {a : Nat} {arr : Array Value} {T : TypeId} {lo hi : Nat} (hH : w.heap[a]? = some (.cells arr T (lo, hi))) : (cellsIn a).run P w = .ok (some arr.size) w := by
  have : w.shape? a = some (T, arr.size) := by simp [World.shape?, hH]
  unfold cellsIn
  rw [runM_bind, run_shape, this]; rfl
theorem convUnsafe_sound {h : AH} (s : Sat e h w.heap) {src dst t : TypeId} {x v : AV} {h' : AH} {u : Value} (hs : P.underlying src = some (.pointer t)) (hd : P.underlying dst = some .unsafePointer)
    (hx : VR e x u) (hv : convUnsafe P h t x = some (v, h')) : Runs P (Conv.unsafePointer src dst u) w fun u' w' => Out e h w v h' u' w' := by
  cases x <;> try (simp [convUnsafe] at hv; done)
  case pnil =>
    cases hx; cases hv
    refine ⟨.pointer none, w, ?_, .same s .pnil⟩
    unfold Conv.unsafePointer
    rw [runs_under' hs, runs_under' hd]; rfl
  case ptr b o =>
    have hv' : bnd (sizeA P t) (fun n => grd (Nat.blt 0 n) (bnd (h.cells b) fun l => grd (Nat.blt o (len l)) (some (AV.ptr b o, h)))) = some (v, h') := hv
    rw [bnd_eq] at hv'
    obtain ⟨n, hn, hv'⟩ := hv'
    rw [grd_eq, bnd_eq] at hv'
    obtain ⟨hn0, l, hl, hv'⟩ := hv'
    rw [grd_eq] at hv'
    obtain ⟨hol, hv'⟩ := hv'
    cases hv'
    rw [blt_iff] at hn0 hol
    rw [len_eq] at hol
    obtain ⟨L, hL, rfl⟩ := vr_ptr hx
    obtain ⟨ty, wr, fz, olds, hb⟩ := cells_eq hl
    obtain ⟨arr, T, lo, hi, hH, hR⟩ := s.row hb hL
    have hlt : L.off + o < arr.size := by have := hR.room; have := hR.len; omega
    refine ⟨_, w, ?_, .same s (.ptr b o L hL)⟩
    unfold Conv.unsafePointer
    rw [runs_under' hs, runs_under' hd]
    show Sem.run P (Conv.seenAt ⟨L.blk, L.off + o, none⟩ >>= _) w = _
    rw [runM_bind, run_seenAt hH]
    show Sem.run P (cellsIn L.blk >>= _) w = _
    rw [runM_bind, run_cellsIn hH]
    show Sem.run P (sizeOf t >>= _) w = _
    rw [runM_bind, run_size hn]
    have h1 : ¬ (n = 0 ∨ (decide (L.off + o ≥ arr.size) && (none : Option Nat).isNone) = true) := by
      simp; omega
    simp only []
    split
    · next h => simp at h; omega
    · rfl
theorem convBack_sound {h : AH} (s : Sat e h w.heap) {src dst t : TypeId} {x v : AV} {h' : AH} {u : Value} (hs : P.underlying src = some .unsafePointer) (hd : P.underlying dst = some (.pointer t))
    (hx : VR e x u) (hv : convBack P h t x = some (v, h')) : Runs P (Conv.unsafePointer src dst u) w fun u' w' => Out e h w v h' u' w' := by
  cases x <;> try (simp [convBack] at hv; done)
  case pnil =>
    cases hx; cases hv
    refine ⟨.pointer none, w, ?_, .same s .pnil⟩
    unfold Conv.unsafePointer
    rw [runs_under' hs, runs_under' hd]; rfl
  case ptr b o =>
    have hv' : grd (Nat.beq o 0) (bnd (sizeA P t) fun n => grd (Nat.blt 0 n) (bnd (h.get b) fun e => grd (Nat.beq (tyE e) t) (grd (Nat.blt 0 t) (bnd (h.cells b) fun l => grd (Nat.ble n (len l)) (some (AV.ptr b o, h)))))) = some (v, h') := hv
    rw [grd_eq, bnd_eq] at hv'
    obtain ⟨ho, n, hn, hv'⟩ := hv'
    rw [grd_eq, bnd_eq] at hv'
    obtain ⟨hn0, en, hen, hv'⟩ := hv'
    rw [grd_eq, grd_eq, bnd_eq] at hv'
    obtain ⟨hty, ht0, l, hl, hv'⟩ := hv'
    rw [grd_eq] at hv'
    obtain ⟨hnl, hv'⟩ := hv'
    cases hv'
    rw [blt_iff] at hn0 ht0
    rw [ble_iff, len_eq] at hnl
    obtain rfl : o = 0 := by simpa using ho
    obtain ⟨L, hL, rfl⟩ := vr_ptr hx
    obtain ⟨ty, wr, fz, olds, hb⟩ := cells_eq hl
    rw [hen] at hb; cases hb
    have hty' : ty = t := by simpa [tyE] using hty
    subst hty'
    obtain ⟨arr, T, lo, hi, hH, hR⟩ := s.row hen hL
    obtain ⟨rfl, hoff, _⟩ := hR.ty (by omega)
    have hsz : n ≤ arr.size := by have := hR.room; have := hR.len; omega
    have hcell : P.cellsOf T = n := by
      obtain ⟨i, hi, hin⟩ := sizeA_eq hn
      unfold Program.cellsOf; rw [hi]; exact hin
    have hvar : (variablesAt ⟨L.blk, L.off + 0, none⟩ T 1).run P w = .ok true w := by
      have hsh : w.shape? L.blk = some (T, arr.size) := by simp [World.shape?, hH]
      show Sem.run P (shape L.blk >>= _) w = _
      rw [runM_bind, run_shape, hsh]
      show Result.ok (liesAt P P.depth T (arr.size / P.cellsOf T) (L.off + 0) T 1) w = _
      congr 1
      have hd : ∃ d, P.depth = d + 1 := ⟨2 * (P.types.size + Made.depth) + 1, rfl⟩
      obtain ⟨d, hd⟩ := hd
      have h1 : sameLayout P P.depth T T = true := by rw [hd]; simp [sameLayout]
      have h2 : 1 ≤ arr.size / n := (Nat.one_le_div_iff hn0).2 hsz
      have h3 : rowAt P (sameLayout P P.depth · T) P.depth T (arr.size / P.cellsOf T) (L.off + 0) 1 = true := by
        rw [hd]
        unfold rowAt
        rw [← hd, hcell, hoff]
        simp [show n ≠ 0 by omega, h1]
        left; omega
      rw [hd]
      unfold liesAt
      rw [h3]; rfl
    refine ⟨_, w, ?_, .same s (.ptr b 0 L hL)⟩
    unfold Conv.unsafePointer
    rw [runs_under' hs, runs_under' hd]
    show Sem.run P (Conv.seenAt ⟨L.blk, L.off + 0, none⟩ >>= _) w = _
    rw [runM_bind, run_seenAt hH]
    show Sem.run P (sizeOf T >>= _) w = _
    rw [runM_bind, run_size hn]
    show Sem.run P (variablesAt ⟨L.blk, L.off + 0, none⟩ T 1 >>= _) w = _
    rw [runM_bind, hvar]
    simp only []
    split
    · rfl
    · next h => simp at h
theorem Runs.run_eq {α : Type} {a b : Sem α} {w : World} {Q : α → World → Prop} (he : a.run P w = b.run P w) (h : Runs P b w Q) : Runs P a w Q :=
  let ⟨x, w', hr, hq⟩ := h; ⟨x, w', he.trans hr, hq⟩
theorem elemIsU8_eq {el : Nat} (h : elemIsU8 P el = true) : P.underlying el = some (.int .u8) := by
  unfold elemIsU8 at h
  cases hu : P.underlying el with
  | none => rw [hu] at h; cases h
  | some d =>
    rw [hu] at h
    have h' : isU8 d = true := h
    cases d <;> try (simp [isU8] at h'; done)
    rename_i k
    cases k <;> simp [isU8] at h' <;> rfl
theorem sliceD_eq {d : TypeDesc} {el : Nat} (h : sliceD d = some el) : d = .slice el := by
  cases d <;> simp [sliceD] at h
  rw [h]
theorem cells_at (T n c cap : Nat) (hcap : n ≤ cap) : CellsR e (bytesStr n c) 0 0 ⟨w.heap.size, 0, cap⟩
    (((bytesOf n c).data.map fun b => Value.int .u8 b.toNat) ++ Array.replicate (cap - (bytesOf n c).size) (.int .u8 0)) T cap (cap + 1) := by
  have hsz : (bytesOf n c).size = n := bytesOf_size n c
  have hds : (bytesOf n c).data.size = n := hsz
  refine ⟨by simp only [Array.size_append, Array.size_map, Array.size_replicate, hds, hsz]; omega, by rw [bytesStr_len]; exact hcap, fun i v hv => ?_, fun i _ hi => (by have hi' : i < cap := hi; show ¬ (cap ≤ 0 + i ∧ 0 + i < cap + 1); omega), fun h => absurd rfl h⟩
  have hi : i < n := by
    have := (List.getElem?_eq_some_iff.1 hv).1
    rw [bytesStr_len] at this; exact this
  obtain ⟨u, hu, hr⟩ := (bytesStr_vrs e n c).get hv
  refine ⟨u, ?_, hr⟩
  rw [Array.getElem?_append_left (by simp [hds]; exact hi)]
  rw [Nat.zero_add, ← Array.getElem?_toList, Array.toList_map]
  exact hu
theorem convS_sound {h : AH} (s : Sat e h w.heap) {src dst : TypeId} {sd : TypeDesc} {x v : AV} {h' : AH} {u : Value} (hs : P.underlying src = some sd) (hd : P.underlying dst = some .string) (hx : VR e x u)
    (hv : (bnd (sliceD sd) fun e => grd (elemIsU8 P e) (bnd (bytesOfSlice x h) fun s => some (s, h))) = some (v, h')) : Runs P (convert src dst u) w fun u' w' => Out e h w v h' u' w' := by
  rw [bnd_eq] at hv
  obtain ⟨el, hel, hv⟩ := hv
  obtain rfl := sliceD_eq hel
  rw [grd_eq, bnd_eq] at hv
  obtain ⟨h8, sv, hsv, hv⟩ := hv
  cases hv
  have hb := Runs.same s (bytesOfSlice_sound (P := P) s hx hsv)
  have h8' := elemIsU8_eq h8
  unfold convert
  refine Runs.run_eq ((runs_under' hs).trans (runs_under' hd)) (Runs.run_eq ?_ hb)
  cases x <;> try (simp [bytesOfSlice] at hsv; done)
  all_goals (cases hx; exact runs_under' h8')
theorem convA_sound {h : AH} (s : Sat e h w.heap) {src dst : TypeId} {x v : AV} {h' : AH} {u : Value} (hx : VR e x u) (hv : convA P src dst x h = some (v, h')) :
    Runs P (convert src dst u) w fun u' w' => Out e h w v h' u' w' := by
  unfold convA at hv
  rw [bnd_eq] at hv
  obtain ⟨sd, hs, hv⟩ := hv
  rw [bnd_eq] at hv
  obtain ⟨dd, hd, hv⟩ := hv
  unfold convert
  refine Runs.run_eq ((runs_under' hs).trans (runs_under' hd)) ?_
  cases dd <;> try (simp [convTo] at hv; done)
  case int k =>
    have hv' : intV x (fun n => some (mkInt k (wrapF k n), h)) = some (v, h') := hv
    rw [intV_eq] at hv'
    obtain ⟨k', n, rfl, hv'⟩ := hv'
    cases hv'
    cases vr_int hx
    rw [mkInt_eq, wrapF_eq]
    refine ⟨.int k (k.wrap n), w, ?_, .same s (.int _ _)⟩
    cases sd <;> rfl
  case string =>
    have slices : (bnd (sliceD sd) fun e => grd (elemIsU8 P e) (bnd (bytesOfSlice x h) fun s => some (s, h))) = some (v, h') → _ := convS_sound s hs hd hx
    cases x <;> try (exact Runs.run_eq (((runs_under' hs).trans (runs_under' hd)).symm.trans (by unfold convert; rfl)) (slices hv))
    case int k n =>
      cases vr_int hx
      have hv' : some (encodeRune n, h) = some (v, h') := hv
      cases hv'
      refine ⟨.string (Utf8.encode n), w, ?_, .same s ?_⟩
      · cases sd <;> rfl
      · unfold encodeRune strOf
        rw [mkStr_eq, len_eq]
        have := bytesOf_self (Utf8.encode n)
        have q := VR.str (e := e) (Utf8.encode n).data.toList.length (codeOf (Utf8.encode n).data.toList)
        rw [this] at q
        exact q
    case str n c =>
      cases vr_str hx
      have hv' : some (AV.str n c, h) = some (v, h') := hv
      cases hv'
      refine ⟨_, w, ?_, .same s (.str n c)⟩
      cases sd <;> rfl
    case sstr pn pc i =>
      have hv' : some (AV.sstr pn pc i, h) = some (v, h') := hv
      cases hv'
      cases hx with
      | sstr _ _ _ t ht =>
        refine ⟨_, w, ?_, .same s (.sstr pn pc i t ht)⟩
        cases sd <;> rfl
  case slice el =>
    have hv' : strV x (fun n c => grd (elemIsU8 P el) (h.new (.cells (bytesStr n c) 0 true 0 []) fun b h => some (AV.sl b 0 n 1, h))) = some (v, h') := hv
    rw [strV_eq] at hv'
    obtain ⟨n, c, rfl, hv'⟩ := hv'
    rw [grd_eq, AH.new_eq] at hv'
    obtain ⟨h8, hv'⟩ := hv'
    cases hv'
    cases vr_str hx
    have h8' := elemIsU8_eq h8
    obtain ⟨cap, hcap, hrun⟩ := run_stringToBytes (P := P) (w := w) el (bytesOf n c)
    rw [bytesOf_size] at hcap
    have hsat := s.add (w := w) (en := .cells (bytesStr n c) 0 true 0 []) (o := .cells (((bytesOf n c).data.map fun b => Value.int .u8 b.toNat) ++ Array.replicate (cap - (bytesOf n c).size) (.int .u8 0)) el (cap, cap + 1)) cap rfl
      (.cells _ _ _ _ _ _ _ _ _ _ (cells_at _ n c cap hcap))
    refine Runs.run_eq (b := Conv.stringToBytes el (bytesOf n c)) ?_ (Runs.of hrun ⟨_, hsat.1, ?_, hsat.2.drawn (w.drawn + 1)⟩)
    · cases sd <;> exact runs_under' h8'
    · rw [bytesOf_size]
      exact .sl _ 0 n 1 cap _ (Env.at_self _ _ _) (by decide) (by simp) hcap
  case unsafePointer =>
    cases sd <;> try (simp [convTo] at hv; done)
    case pointer t =>
      have hv' : convUnsafe P h t x = some (v, h') := hv
      have hc := convUnsafe_sound (P := P) s hs hd hx hv'
      refine Runs.run_eq ?_ hc
      cases x <;> try (simp [convUnsafe] at hv'; done)
      all_goals (cases hx; rfl)
  case pointer t =>
    have hv' : grd (isUnsafe sd) (convBack P h t x) = some (v, h') := hv
    rw [grd_eq] at hv'
    obtain ⟨hu, hv'⟩ := hv'
    cases sd <;> try (simp [isUnsafe] at hu; done)
    have hc := convBack_sound (P := P) s hs hd hx hv'
    refine Runs.run_eq ?_ hc
    cases x <;> try (simp [convBack] at hv'; done)
    all_goals (cases hx; rfl)
end
end
end Go.Xe
end
section
namespace Go.Xe
noncomputable section
section
variable {P : Program} {e : Env} {w : World}
inductive OR (e : Env) : Option AV → Option Value → Prop
  | none : OR e none none
  | some (a : AV) (u : Value) (h : VR e a u) : OR e (some a) (some u)
theorem run_sliceBound {n i y : Nat} {k : IntKind} {code : BoundsCode} (h : i ≤ y) : (Instr.sliceBound (.int k (i : Int)) y code).run P w = .ok i w := by
  unfold Instr.sliceBound
  show Sem.run P (if 0 ≤ (i : Int) ∧ (i : Int) ≤ (y : Int) then pure (Int.toNat (i : Int)) else boundsPanic k (i : Int) y code) w = _
  rw [if_pos ⟨Int.natCast_nonneg i, by exact_mod_cast h⟩]
  rfl
def boundM (uv : Option Value) (dflt y : Nat) (code : BoundsCode) : Sem Nat := match uv with
  | some v => Instr.sliceBound v y code
  | none => pure dflt
theorem boundO_run {v : Option AV} {uv : Option Value} {dflt n y r : Nat} (hv : OR e v uv) (h : boundO v dflt n = some r) (hn : n ≤ y) (code : BoundsCode) :
    (boundM uv dflt y code).run P w = .ok r w ∧ (r = dflt ∧ v = none ∨ r ≤ n) := by
  cases hv with
  | none => cases h; exact ⟨rfl, .inl ⟨rfl, rfl⟩⟩
  | some a u ha =>
    have h' : natV a (fun i => grd (Nat.ble i n) (some i)) = some r := h
    rw [natV_eq] at h'
    obtain ⟨k, i, rfl, h'⟩ := h'
    rw [grd_eq, ble_iff] at h'
    obtain ⟨hi, h'⟩ := h'
    cases h'
    cases vr_int ha
    exact ⟨run_sliceBound (n := n) (by omega), .inr hi⟩
theorem bounds_run {lo hi : Option AV} {ul uh : Option Value} {len n y hh l : Nat} (hl : OR e lo ul) (hu : OR e hi uh) (h1 : boundO hi len n = some hh) (h2 : boundO lo 0 hh = some l) (hn : n ≤ y) (isSlice : Bool) :
    (Instr.sliceBounds isSlice len y ul uh none).run P w = .ok (l, hh, y) w ∧ (hh = len ∨ hh ≤ n) ∧ l ≤ hh := by
  obtain ⟨r1, b1⟩ := boundO_run (P := P) (w := w) hu h1 hn (if isSlice then .sliceAcap else .sliceAlen)
  obtain ⟨r2, b2⟩ := boundO_run (P := P) (w := w) hl h2 (Nat.le_refl hh) .sliceB
  refine ⟨?_, ?_, ?_⟩
  · have e0 : Instr.sliceBounds isSlice len y ul uh none = (boundM uh len y (if isSlice then .sliceAcap else .sliceAlen) >>= fun h =>
        boundM ul 0 h .sliceB >>= fun l => pure (l, h, y)) := by cases uh <;> cases ul <;> rfl
    rw [e0, runM_bind, r1]
    show Sem.run P (boundM ul 0 hh .sliceB >>= _) w = _
    rw [runM_bind, r2]
    rfl
  · rcases b1 with ⟨h, _⟩ | h
    · exact .inl h
    · exact .inr h
  · rcases b2 with ⟨h, _⟩ | h
    · omega
    · exact h
theorem sliceAt_run {t : TypeId} {d : TypeDesc} (hd : P.underlying t = some d) (hn : ∀ n el, d ≠ .array n el) (x : Value) (ul uh um : Option Value) : (Instr.sliceAt t x ul uh um).run P w = (Instr.slice t x ul uh um).run P w := by
  unfold Instr.sliceAt
  rw [runs_under' hd]
  cases d <;> first | rfl | exact absurd rfl (hn _ _)
theorem sliceA_sound {h : AH} (s : Sat e h w.heap) {t : TypeId} {x v : AV} {lo hi : Option AV} {u : Value} {ul uh : Option Value} (hx : VR e x u) (hl : OR e lo ul) (hu : OR e hi uh) (hv : sliceA P t x lo hi h = some v) :
    Runs P (Instr.sliceAt t u ul uh none) w fun u' w' => VR e v u' ∧ w' = w := by
  unfold sliceA at hv
  rw [bnd_eq] at hv
  obtain ⟨d, hd, hv⟩ := hv
  cases d <;> try (simp [sliceD'] at hv; done)
  case string =>
    refine Runs.run_eq (sliceAt_run hd (fun _ _ h => by cases h) _ _ _ _) ?_
    have hv' : strV x (fun n c => sliceStr n c lo hi) = some v := hv
    rw [strV_eq] at hv'
    obtain ⟨n, c, rfl, hv'⟩ := hv'
    unfold sliceStr at hv'
    rw [bnd_eq] at hv'
    obtain ⟨hh, h1, hv'⟩ := hv'
    rw [bnd_eq] at hv'
    obtain ⟨l, h2, hv'⟩ := hv'
    cases hv'
    cases vr_str hx
    obtain ⟨hb, hc, hle⟩ := bounds_run (P := P) (w := w) hl hu h1 h2 (Nat.le_refl n) false
    have hhn : hh ≤ n := by rcases hc with h | h <;> omega
    rw [mkStr_eq]
    refine ⟨.string ((bytesOf n c).extract l hh), w, ?_, ?_, rfl⟩
    · unfold Instr.slice
      rw [runs_under' hd]
      show Sem.run P (Instr.sliceBounds false (bytesOf n c).size (bytesOf n c).size ul uh none >>= _) w = _
      rw [bytesOf_size, runM_bind, hb]
      rfl
    · rw [bytesOf_extract n c l hh hle hhn]
      exact .str _ _
  case slice el =>
    refine Runs.run_eq (sliceAt_run hd (fun _ _ h => by cases h) _ _ _ _) ?_
    cases x <;> try (simp [sliceD'] at hv; done)
    case sl b o len z =>
      have hv' : bnd (sizeA P el) (fun z' => grd (Nat.beq z z') (grd (Nat.blt 0 z) (bnd (h.cells b) fun cs => sliceSl b o len z (Go.Xe.len cs) lo hi))) = some v := hv
      rw [bnd_eq] at hv'
      obtain ⟨z', hz, hv'⟩ := hv'
      rw [grd_eq, grd_eq, bnd_eq, beq_iff] at hv'
      obtain ⟨rfl, hz0, cs, hcs, hv'⟩ := hv'
      unfold sliceSl at hv'
      rw [bnd_eq] at hv'
      obtain ⟨hh, h1, hv'⟩ := hv'
      rw [bnd_eq] at hv'
      obtain ⟨l, h2, hv'⟩ := hv'
      obtain ⟨L, c, hL, h0, hext, hlc, rfl⟩ := vr_sl hx
      obtain ⟨ty, wr, fz, olds, hb⟩ := cells_eq hcs
      obtain ⟨arr, T, flo, fhi, hH, hR⟩ := s.row hb hL
      have hlen := hR.len
      rw [len_eq] at h1 hv'
      have hnc : (cs.length - o) / z ≤ c := by
        have : cs.length - o ≤ c * z := by omega
        calc (cs.length - o) / z ≤ (c * z) / z := Nat.div_le_div_right this
          _ = c := Nat.mul_div_cancel _ h0
      obtain ⟨hbr, hc, hle⟩ := bounds_run (P := P) (w := w) hl hu h1 h2 hnc true
      have hc' : hh = len ∨ hh ≤ (cs.length - o) / z := hc
      have hhc : hh ≤ c := by rcases hc' with h | h <;> omega
      have hrun : (Instr.slice t (.slice (some ⟨L.blk, L.off + o, none⟩) len c) ul uh none).run P w =
          .ok (.slice (if c = l then some ⟨L.blk, L.off + o, none⟩ else some ((⟨L.blk, L.off + o, none⟩ : Addr).add (l * z))) (hh - l) (c - l)) w := by
        unfold Instr.slice
        rw [runs_under' hd]
        show Sem.run P (Instr.sliceBounds true len c ul uh none >>= _) w = _
        rw [runM_bind, hbr]
        show Sem.run P (sizeOf el >>= _) w = _
        rw [runM_bind, run_size hz]
        rfl
      rw [ite'_eq] at hv'
      rcases hv' with ⟨hl0, hv'⟩ | ⟨hl0, hv'⟩
      · cases hv'
        obtain rfl : l = 0 := by simpa using hl0
        refine ⟨_, w, hrun, ?_, rfl⟩
        have : (if c = 0 then some (⟨L.blk, L.off + o, none⟩ : Addr) else some ((⟨L.blk, L.off + o, none⟩ : Addr).add (0 * z))) = some ⟨L.blk, L.off + o, none⟩ := by
          split
          · rfl
          · rw [Addr.add_eq]; simp
        rw [this]
        exact .sl b o hh z c L hL h0 hext hhc
      · have hl0' : l ≠ 0 := fun h => by subst h; simp at hl0
        rw [ite'_eq] at hv'
        rcases hv' with ⟨hlt, hv'⟩ | ⟨_, hv'⟩
        · rw [frc_eq, frc_eq] at hv'
          cases hv'
          have hlt' : o + l * z < cs.length := by rw [blt_iff] at hlt; exact hlt
          have hlc' : l < c := by
            have : l * z < c * z := by omega
            exact Nat.lt_of_mul_lt_mul_right this
          refine ⟨_, w, hrun, ?_, rfl⟩
          rw [if_neg (by omega), Addr.add_eq]
          have hext' : o + l * z + (c - l) * z = L.ext := by
            rw [Nat.sub_mul]
            have : l * z ≤ c * z := Nat.mul_le_mul_right z (Nat.le_of_lt hlc')
            omega
          have := VR.sl (e := e) b (o + l * z) (hh - l) z (c - l) L hL h0 hext' (by omega)
          rw [Nat.add_assoc]
          exact this
        · rw [grd_eq, beq_iff] at hv'
          obtain ⟨rfl, hv'⟩ := hv'
          cases hv'
          refine ⟨_, w, hrun, ?_, rfl⟩
          rw [Nat.sub_self]
          split
          · exact .sle _ _
          · exact .sle _ _
    case sle =>
      have hv' : bnd (sizeA P el) (fun _ => bnd (boundO hi 0 0) (fun hh => bnd (boundO lo 0 hh) fun _ => some AV.sle)) = some v := hv
      rw [bnd_eq] at hv'
      obtain ⟨z, hz, hv'⟩ := hv'
      rw [bnd_eq] at hv'
      obtain ⟨hh, h1, hv'⟩ := hv'
      rw [bnd_eq] at hv'
      obtain ⟨l, h2, hv'⟩ := hv'
      cases hv'
      cases hx with
      | sle a c =>
        obtain ⟨hbr, hc, hle⟩ := bounds_run (P := P) (w := w) hl hu h1 h2 (Nat.zero_le c) true
        obtain rfl : hh = 0 := by rcases hc with h | h <;> omega
        obtain rfl : l = 0 := by omega
        refine ⟨.slice (if c = 0 then some a else some (a.add (0 * z))) 0 c, w, ?_, ?_, rfl⟩
        · unfold Instr.slice
          rw [runs_under' hd]
          show Sem.run P (Instr.sliceBounds true 0 c ul uh none >>= _) w = _
          rw [runM_bind, hbr]
          show Sem.run P (sizeOf el >>= _) w = _
          rw [runM_bind, run_size hz]
          rfl
        · split
          · exact .sle _ _
          · exact .sle _ _
    case snil =>
      have hv' : bnd (sizeA P el) (fun _ => bnd (boundO hi 0 0) (fun hh => bnd (boundO lo 0 hh) fun _ => some AV.snil)) = some v := hv
      rw [bnd_eq] at hv'
      obtain ⟨z, hz, hv'⟩ := hv'
      rw [bnd_eq] at hv'
      obtain ⟨hh, h1, hv'⟩ := hv'
      rw [bnd_eq] at hv'
      obtain ⟨l, h2, hv'⟩ := hv'
      cases hv'
      cases hx
      obtain ⟨hbr, hc, hle⟩ := bounds_run (P := P) (w := w) hl hu h1 h2 (Nat.zero_le 0) true
      obtain rfl : hh = 0 := by rcases hc with h | h <;> omega
      obtain rfl : l = 0 := by omega
      refine ⟨.slice none 0 0, w, ?_, .snil, rfl⟩
      unfold Instr.slice
      rw [runs_under' hd]
      show Sem.run P (Instr.sliceBounds true 0 0 ul uh none >>= _) w = _
      rw [runM_bind, hbr]
      show Sem.run P (sizeOf el >>= _) w = _
      rw [runM_bind, run_size hz]
      rfl
end
end
end Go.Xe
end
section
namespace Go.Xe
noncomputable section
section
variable {P : Program} {e : Env} {w : World}
theorem strOf_vr (s : ByteArray) : VR e (strOf s.data.toList) (.string s) := by
  unfold strOf
  rw [mkStr_eq, len_eq]
  have q := VR.str (e := e) s.data.toList.length (codeOf s.data.toList)
  rw [bytesOf_self] at q
  exact q
theorem isNil_toList {α : Type} {a : Array α} (h : isNil a.toList = true) : a = #[] := by
  rw [isNil_iff] at h
  exact Array.toList_eq_nil_iff.1 h
theorem scalar_sound {v : Value} {a : AV} (h : scalar v = some a) : VR e a v := by
  cases v <;> try (simp [scalar] at h; done)
  case bool => cases h; exact .bool _
  case int => cases h; exact .int _ _
  case string s => cases h; exact strOf_vr s
  case pointer o =>
    cases o with
    | none => cases h; exact .pnil
    | some _ => simp [scalar] at h
  case slice o l c =>
    cases o with
    | none =>
      have h' : grd (Nat.beq l 0) (grd (Nat.beq c 0) (some AV.snil)) = some a := h
      rw [grd_eq, grd_eq, beq_iff, beq_iff] at h'
      obtain ⟨rfl, rfl, h'⟩ := h'
      cases h'; exact .snil
    | some _ => simp [scalar] at h
  case map o =>
    cases o with
    | none => cases h; exact .mnil
    | some _ => simp [scalar] at h
  case func fn x y =>
    have h' : grd (isNil x.toList) (grd (isNil y.toList) (grd (notYield fn) (some (AV.func fn [] [])))) = some a := h
    rw [grd_eq, grd_eq, grd_eq] at h'
    obtain ⟨h1, h2, h3, h'⟩ := h'
    cases h'
    rw [isNil_toList h1, isNil_toList h2]
    exact .func _ _ _ _ _ _ (.same _ h3) .nil .nil
  case nilFunc => cases h; exact .fnil
  case nilIface => cases h; exact .inil
  case tuple vs =>
    have h' : grd (isNil vs.toList) (some (AV.tup [])) = some a := h
    rw [grd_eq] at h'
    obtain ⟨h1, h'⟩ := h'
    cases h'
    rw [isNil_toList h1]; exact .tup _ _ .nil
theorem mapO_scalar {l : List Value} {r : List AV} (h : mapO scalar l = some r) : VRs e r l := by
  induction l generalizing r with
  | nil => cases h; exact .nil
  | cons v l ih =>
    have h' : bnd (scalar v) (fun a => bnd (mapO scalar l) fun r => some (a :: r)) = some r := h
    rw [bnd_eq] at h'
    obtain ⟨a, ha, h'⟩ := h'
    rw [bnd_eq] at h'
    obtain ⟨r', hr, h'⟩ := h'
    cases h'
    exact .cons _ _ _ _ (scalar_sound ha) (ih hr)
theorem ofValue1_sound {v : Value} {a : AV} (h : ofValue1 v = some a) : VR e a v := by
  cases v <;> try (exact scalar_sound h)
  case agg cs =>
    have h' : bnd (mapO scalar cs.toList) (fun l => some (AV.agg l)) = some a := h
    rw [bnd_eq] at h'
    obtain ⟨l, hl, h'⟩ := h'
    cases h'
    exact .agg _ _ (mapO_scalar hl)
theorem ofValue_sound {v : Value} {a : AV} (h : ofValue v = some a) : VR e a v := by
  cases v <;> try (exact scalar_sound h)
  case agg cs =>
    have h' : bnd (mapO scalar cs.toList) (fun l => some (AV.agg l)) = some a := h
    rw [bnd_eq] at h'
    obtain ⟨l, hl, h'⟩ := h'
    cases h'
    exact .agg _ _ (mapO_scalar hl)
  case tuple cs =>
    have h' : bnd (mapO scalar cs.toList) (fun l => some (AV.tup l)) = some a := h
    rw [bnd_eq] at h'
    obtain ⟨l, hl, h'⟩ := h'
    cases h'
    exact .tup _ _ (mapO_scalar hl)
  case iface t v =>
    have h' : bnd (ofValue1 v) (fun a => some (AV.ifc t a)) = some a := h
    rw [bnd_eq] at h'
    obtain ⟨l, hl, h'⟩ := h'
    cases h'
    exact .ifc _ _ _ (ofValue1_sound hl)
theorem zeroA_eq {t : TypeId} {a : AV} (h : zeroA P t = some a) : ∃ i z, P.info? t = some i ∧ i.zero = some z ∧ ofValue z = some a := by
  unfold zeroA at h
  rw [bnd_eq] at h
  obtain ⟨i, hi, h⟩ := h
  rw [bnd_eq] at h
  obtain ⟨z, hz, h⟩ := h
  exact ⟨i, z, hi, hz, h⟩
theorem run_zero {t : TypeId} {a : AV} (h : zeroA P t = some a) : ∃ z, (zeroValue t).run P w = .ok z w ∧ VR e a z := by
  obtain ⟨i, z, hi, hz, ho⟩ := zeroA_eq h
  refine ⟨z, ?_, ofValue_sound ho⟩
  show Sem.run P (typeInfo t >>= fun i => match i.zero with | some v => pure v | none => unsupported (.resourceLimit "a value of more than 2^22 cells")) w = _
  rw [runM_bind, run_info hi]
  show Sem.run P (match i.zero with | some v => pure v | none => unsupported (.resourceLimit "a value of more than 2^22 cells")) w = _
  rw [hz]; rfl
theorem ev_sound {fr : Fr} {a : Act} (hf : FR e fr a) {x : Operand} {v : AV} (h : ev x fr = some v) : VR e v (a.eval x) := by
  cases x with
  | tmp t =>
    have h' : some (fr.at_ t) = some v := h
    cases h'
    rw [at_eq]; exact hf.tmps.at_ t
  | const c => exact ofValue_sound h
  | global g => cases h; exact .gptr g
  | func f => cases h; exact .func _ _ _ _ _ _ (.same _ rfl) .nil .nil
theorem new_row {h : AH} (s : Sat e h w.heap) {l : List AV} {us : Array Value} (hv : VRs e l us.toList) (T : TypeId) :
    ∃ e', Sat e' (h.add (.cells l T true 0 [])) (w.heap.push (.cells us T (0, 0))) ∧ e'.loc h.next = some ⟨w.heap.size, 0, l.length⟩ ∧ e.le e' ∧
      Step e h w e' (h.add (.cells l T true 0 [])) { w with heap := w.heap.push (.cells us T (0, 0)) } := by
  have hlen := hv.length
  have hr : CellsR e l T 0 ⟨w.heap.size, 0, l.length⟩ us T 0 0 := by
    refine ⟨by simp only; rw [hlen]; simp, Nat.le_refl _, fun i v hi => ?_, fun i _ _ h => by omega, fun _ => ⟨rfl, rfl, rfl, fun _ => rfl⟩⟩
    obtain ⟨u, hu, hr⟩ := hv.get hi
    exact ⟨u, by rw [Nat.zero_add, ← Array.getElem?_toList]; exact hu, hr⟩
  have hle : e.le (e.at_ h.next ⟨w.heap.size, 0, l.length⟩) := Env.at_le s.fresh
  obtain ⟨h1, h2⟩ := s.add (w := w) (en := .cells l T true 0 []) (o := .cells us T (0, 0)) l.length rfl (.cells _ _ _ _ _ _ _ _ _ _ (hr.mono hle))
  exact ⟨_, h1, Env.at_self _ _ _, hle, h2⟩
theorem alloc_sound {h : AH} (s : Sat e h w.heap) {t : TypeId} {v : AV} {h' : AH}
    (hv : (bnd (zeroA P t) fun z => h.new (.cells z.cells t true 0 []) fun b h => some (AV.ptr b 0, h)) = some (v, h')) :
    Runs P (Instr.alloc t true (.tuple #[])) w fun u' w' => Out e h w v h' u' w' := by
  rw [bnd_eq] at hv
  obtain ⟨z, hz, hv⟩ := hv
  rw [AH.new_eq] at hv
  cases hv
  obtain ⟨uz, hr, hzr⟩ := run_zero (P := P) (w := w) (e := e) hz
  obtain ⟨e', s', hl, hle, st⟩ := new_row s (vr_cells' hzr) t
  refine ⟨.pointer (some ⟨w.heap.size, 0, none⟩), _, ?_, e', s', ?_, st⟩
  · show Sem.run P (zeroValue t >>= _) w = _
    rw [runM_bind, hr]; rfl
  · exact .ptr h.next 0 _ hl
theorem box_sound {h : AH} (s : Sat e h w.heap) {t : TypeId} {x v : AV} {u : Value} {h' : AH} (hx : VR e x u)
    (hv : (h.new (.cells x.cells t true 0 []) fun b h => some (AV.ptr b 0, h)) = some (v, h')) :
    Runs P (Instr.box t u) w fun u' w' => Out e h w v h' u' w' := by
  rw [AH.new_eq] at hv
  cases hv
  obtain ⟨e', s', hl, hle, st⟩ := new_row s (vr_cells' hx) t
  exact ⟨.pointer (some ⟨w.heap.size, 0, none⟩), _, rfl, e', s', .ptr h.next 0 _ hl, st⟩
theorem repl_succ {α : Type} (n : Nat) (l : List α) : repl (n + 1) l = l ++ repl n l := by
  show app l (repl n l) = _
  rw [app_eq]
theorem repl_len {α : Type} (n : Nat) (l : List α) : (repl n l).length = n * l.length := by
  induction n with
  | zero => simp [repl]
  | succ n ih => rw [repl_succ, List.length_append, ih, Nat.succ_mul]; omega
theorem repl_get {α : Type} (n : Nat) (l : List α) (i : Nat) (h : i < n * l.length) : (repl n l)[i]? = l[i % l.length]? := by
  induction n generalizing i with
  | zero => simp at h
  | succ n ih =>
    rw [repl_succ]
    by_cases hi : i < l.length
    · rw [List.getElem?_append_left hi, Nat.mod_eq_of_lt hi]
    · rw [List.getElem?_append_right (by omega), ih _ (by rw [Nat.succ_mul] at h; omega), Nat.mod_eq_sub_mod (by omega : i ≥ l.length)]
theorem zeroRow_sound {t z n : Nat} {l : List AV} (h : zeroRow P t z n = some l) : ∃ uz, (zeroValue t).run P w = .ok uz w ∧ uz.cells.size = z ∧ l.length = n * z ∧
    VRs e l ((Array.range (n * z)).map (uz.cells[· % uz.cells.size]!)).toList := by
  unfold zeroRow at h
  rw [bnd_eq] at h
  obtain ⟨v, hv, h⟩ := h
  rw [grd_eq, beq_iff, len_eq] at h
  obtain ⟨hz, h⟩ := h
  cases h
  obtain ⟨uz, hr, hzr⟩ := run_zero (P := P) (w := w) (e := e) hv
  have hc := vr_cells' hzr
  have hlen := hc.length
  have hsz : uz.cells.size = z := by rw [← hz, hlen]; simp
  refine ⟨uz, hr, hsz, by rw [repl_len, hz], ?_⟩
  refine VRs.of_get (by rw [repl_len, hz]; simp) fun i a u ha hu => ?_
  have hi : i < n * v.cells.length := by
    have := (List.getElem?_eq_some_iff.1 ha).1
    rw [repl_len] at this; exact this
  rw [repl_get n _ i hi] at ha
  obtain ⟨u', hu', hr'⟩ := hc.get ha
  have : u = u' := by
    rw [Array.getElem?_toList] at hu hu'
    rw [Array.getElem?_map] at hu
    have hi' : i < n * z := by rw [← hz]; exact hi
    rw [Array.getElem?_range, if_pos hi'] at hu
    simp only [Option.map_some, Option.some.injEq] at hu
    rw [← hu]
    rw [hz] at hu'
    rw [hsz]
    rw [getElem!_def, hu']
  rw [this]; exact hr'
theorem setAll_get (vs : List Value) (off k : Nat) (cells : Array Value) (hb : off + k + vs.length ≤ cells.size) (i : Nat) :
    ((vs.zipIdx k).foldl (fun cs (x : Value × Nat) => cs.setIfInBounds (off + x.2) x.1) cells)[i]? = if off + k ≤ i ∧ i < off + k + vs.length then vs[i - (off + k)]? else cells[i]? := by
  induction vs generalizing k cells with
  | nil => simp; intro h1 h2; omega
  | cons v vs ih =>
    rw [List.zipIdx_cons, List.foldl_cons]
    rw [ih (k + 1) _ (by simp at hb ⊢; omega)]
    simp only [List.length_cons] at hb ⊢
    by_cases h1 : i = off + k
    · subst h1
      rw [if_neg (by omega), if_pos (by omega), Array.getElem?_setIfInBounds_self_of_lt (by omega)]
      simp
    · by_cases h2 : off + k ≤ i ∧ i < off + k + (vs.length + 1)
      · rw [if_pos (by omega), if_pos h2]
        rw [show i - (off + k) = (i - (off + (k + 1))) + 1 by omega, List.getElem?_cons_succ]
      · rw [if_neg (by omega), if_neg h2, Array.getElem?_setIfInBounds_ne (by omega)]
theorem setAll_size (vs : List Value) (off k : Nat) (cells : Array Value) :
    ((vs.zipIdx k).foldl (fun cs (x : Value × Nat) => cs.setIfInBounds (off + x.2) x.1) cells).size = cells.size := by
  induction vs generalizing k cells with
  | nil => rfl
  | cons v vs ih => rw [List.zipIdx_cons, List.foldl_cons, ih]; simp
inductive PR (e : Env) : List (Nat × AV) → List (Nat × Value) → Prop
  | nil : PR e [] []
  | cons (i : Nat) (v : AV) (u : Value) (l : List (Nat × AV)) (l' : List (Nat × Value)) (h : VR e v u) (ht : PR e l l') : PR e ((i, v) :: l) ((i, u) :: l')
theorem fill_sound {pa pm : Nat → Option (Nat × Nat)} (hp : ∀ i q, pa i = some q → pm i = some q) {ps : List (Nat × AV)} {us : List (Nat × Value)} (h : PR e ps us) {cs r : List AV} {cells : Array Value} (hc : VRs e cs cells.toList)
    (hv : fillA pa ps cs = some r) : ∃ cells', Instr.fill pm cells us = some cells' ∧ VRs e r cells'.toList ∧ r.length = cs.length := by
  induction h generalizing cs cells with
  | nil => cases hv; exact ⟨cells, rfl, hc, rfl⟩
  | cons i v u l l' hvu _ ih =>
    have hv' : bnd (pa i) (fun q => grd (Nat.beq (len v.cells) q.2) (bnd (splice cs q.1 v.cells) fun cs => fillA pa l cs)) = some r := hv
    rw [bnd_eq] at hv'
    obtain ⟨⟨off, size⟩, hq, hv'⟩ := hv'
    rw [grd_eq, beq_iff, len_eq, bnd_eq] at hv'
    obtain ⟨hsz, cs', hsp, hv'⟩ := hv'
    simp only at hsz hsp
    have hvc := vr_cells' hvu
    have hvl := hvc.length
    have hlen := hc.length
    rw [splice_eq] at hsp
    by_cases hb : off + v.cells.length ≤ cs.length
    · rw [if_pos hb] at hsp
      cases hsp
      have hus : u.cells.size = v.cells.length := by rw [hvl]; simp
      have hcs : cells.size = cs.length := by rw [hlen]; simp
      have hfold : u.cells.zipIdx.foldl (fun cs (x : Value × Nat) => cs.setIfInBounds (off + x.2) x.1) cells = (u.cells.toList.zipIdx 0).foldl (fun cs (x : Value × Nat) => cs.setIfInBounds (off + x.2) x.1) cells := by
        rw [← Array.foldl_toList, Array.toList_zipIdx]
      have hnew : VRs e (cs.take off ++ v.cells ++ cs.drop (off + v.cells.length)) ((u.cells.toList.zipIdx 0).foldl (fun cs (x : Value × Nat) => cs.setIfInBounds (off + x.2) x.1) cells).toList := by
        have hlt : (cs.take off ++ v.cells ++ cs.drop (off + v.cells.length)).length = cs.length := by
          simp; omega
        refine VRs.of_get (by rw [hlt]; simp only [Array.length_toList]; rw [setAll_size, hcs]) fun j a b ha hb' => ?_
        rw [Array.getElem?_toList, setAll_get _ _ _ _ (by rw [Array.length_toList, hus, hcs]; omega)] at hb'
        by_cases h1 : j < off
        · rw [if_neg (by omega)] at hb'
          rw [List.append_assoc, List.getElem?_append_left (by simp; omega), List.getElem?_take_of_lt h1] at ha
          obtain ⟨u', hu', hr'⟩ := hc.get ha
          rw [Array.getElem?_toList, hb'] at hu'
          cases hu'; exact hr'
        · by_cases h2 : j < off + v.cells.length
          · rw [if_pos (by rw [← hvl]; omega)] at hb'
            rw [List.append_assoc, List.getElem?_append_right (by simp; omega), List.getElem?_append_left (by simp; omega)] at ha
            have ho : (cs.take off).length = off := by simp; omega
            rw [ho] at ha
            obtain ⟨u', hu', hr'⟩ := hvc.get ha
            rw [Nat.add_zero, hu'] at hb'
            cases hb'; exact hr'
          · rw [if_neg (by rw [← hvl]; omega)] at hb'
            rw [List.getElem?_append_right (by simp; omega)] at ha
            have ho : (cs.take off ++ v.cells).length = off + v.cells.length := by simp; omega
            rw [ho, List.getElem?_drop, show off + v.cells.length + (j - (off + v.cells.length)) = j by omega] at ha
            obtain ⟨u', hu', hr'⟩ := hc.get ha
            rw [Array.getElem?_toList, hb'] at hu'
            cases hu'; exact hr'
      obtain ⟨cells', hf, hr, hl⟩ := ih hnew hv'
      refine ⟨cells', ?_, hr, ?_⟩
      · unfold Instr.fill
        rw [hp _ _ hq]
        simp only []
        rw [if_neg (by simp only [ne_eq, Bool.or_eq_true, decide_eq_true_eq, not_or, Decidable.not_not]; omega)]
        rw [hfold]; exact hf
      · rw [hl]; simp; omega
    · rw [if_neg hb] at hsp; cases hsp
theorem pr_zip {ps : List (Nat × Operand)} {vs : List AV} {f : Operand → Value} (h : VRs e vs (ps.map fun p => f p.2)) : PR e (zipI ps vs) (ps.map fun p => (p.1, f p.2)) := by
  induction ps generalizing vs with
  | nil => exact .nil
  | cons p ps ih =>
    cases h with
    | cons v u l l' h ht => exact .cons _ _ _ _ _ h (ih ht)
theorem elemA_eq {t el z : Nat} (h : elemA P t = some (el, z)) : P.underlying t = some (.slice el) ∧ sizeA P el = some z ∧ 0 < z := by
  unfold elemA at h
  rw [bnd_eq] at h
  obtain ⟨d, hd, h⟩ := h
  rw [bnd_eq] at h
  obtain ⟨el', he, h⟩ := h
  rw [bnd_eq] at h
  obtain ⟨z', hz, h⟩ := h
  rw [grd_eq, blt_iff] at h
  obtain ⟨h0, h⟩ := h
  cases h
  rw [sliceD_eq he] at hd
  exact ⟨hd, hz, h0⟩
theorem buildSlice_sound {h : AH} (s : Sat e h w.heap) {t : TypeId} {n : Nat} {ps : List (Nat × AV)} {us : Array (Nat × Value)} {v : AV} {h' : AH} (hp : PR e ps us.toList) (hv : buildSliceA P t n ps h = some (v, h')) :
    Runs P (Instr.buildSlice t n us) w fun u' w' => Out e h w v h' u' w' := by
  unfold buildSliceA at hv
  rw [bnd_eq] at hv
  obtain ⟨⟨el, z⟩, he, hv⟩ := hv
  rw [grd_eq, ble_iff, bnd_eq] at hv
  obtain ⟨hsz, zs, hzs, hv⟩ := hv
  rw [bnd_eq] at hv
  obtain ⟨l, hl, hv⟩ := hv
  rw [AH.new_eq] at hv
  cases hv
  simp only at hsz hzs hl
  obtain ⟨hd, hsize, hz0⟩ := elemA_eq he
  obtain ⟨uz, hr, hus, hlz, hvz⟩ := zeroRow_sound (P := P) (w := w) (e := e) hzs
  obtain ⟨cells, hf, hvc, hlc⟩ := fill_sound (pm := fun i => some (i * z, z)) (fun i q h => h) hp hvz hl
  obtain ⟨e', s', hloc, hle, st⟩ := new_row s hvc el
  have hlen : l.length = n * z := by rw [hlc, hlz]
  refine ⟨.slice (some ⟨w.heap.size, 0, none⟩) n n, _, ?_, e', s', ?_, st⟩
  · unfold Instr.buildSlice
    rw [runs_under' hd]
    show Sem.run P (sizeOf el >>= _) w = _
    rw [runM_bind, run_size hsize]
    have hsz' : n * z ≤ 2 ^ 24 := hsz
    simp only []
    rw [if_neg (by omega)]
    by_cases hn : n * z = 0
    · simp only [hn, if_true]
      have hc0 : cells.size = 0 := by
        have := hvc.length; simp at this; omega
      have hr0 : ∀ f : Nat → Value, (Array.range 0).map f = #[] := fun f => Array.eq_empty_of_size_eq_zero (by simp)
      rw [hn, hr0] at hf
      simp only [hr0]
      rw [runM_bind]
      show Sem.run P (match Instr.fill (fun i => some (i * z, z)) #[] us.toList with | some cells => _ | _ => _) w = _
      rw [hf]; rfl
    · simp only [hn, if_false]
      show Sem.run P (zeroValue el >>= _) w = _
      rw [runM_bind, hr]
      show Sem.run P (match Instr.fill (fun i => some (i * z, z)) ((Array.range (n * z)).map (uz.cells[· % uz.cells.size]!)) us.toList with | some cells => _ | _ => _) w = _
      rw [hf]; rfl
  · exact .sl h.next 0 n z n _ hloc hz0 (by simp only; omega) (Nat.le_refl n)
end
end
end Go.Xe
end
