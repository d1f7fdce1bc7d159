/-
  Elements, strings, slices: the executor against the model; Strings as numbers: equality, order, sums, parts; Equality: the executor against the model;. Conditions: none.
-/
import Derived.Test.YtfkeeieoapimlaaGreatDoorXaToXg
import Derived.Laws.Strings
set_option linter.unusedVariables false
set_option linter.unusedSimpArgs false
set_option linter.unusedSectionVars false
section
namespace Go.Xe
noncomputable section
theorem zbq (n c : Nat) : (zay n c).length = n := by simp [zay]
theorem zaI (n c : Nat) : (zae n c).size = n := by
 show (zay n c).toArray.size = n
 simp [zbq]
theorem listOf_get {n c i : Nat} (h : i < n) : (zay n c)[i]? = some (UInt8.ofNat (c / 256 ^ i % 256)) := by
 unfold zay
 simp [h]
theorem bytesOf_get {n c i : Nat} (h : i < n) : (zae n c)[i]? = some (UInt8.ofNat (c / 256 ^ i % 256)) := by
 have hs := zaI n c
 have : (zae n c)[i]? = (zae n c).data[i]? := by
  simp only [getElem?_def]
  by_cases h1 : i < (zae n c).size
  ·rw [dif_pos h1, dif_pos (show i < (zae n c).data.size from h1)]
   rfl
  ·rw [dif_neg h1, dif_neg (show ¬ i < (zae n c).data.size from h1)]
 rw [this]
 show (zay n c).toArray[i]? = _
 rw [List.getElem?_toArray]; exact listOf_get h
theorem runs_pure {α β : Type} {P : Program} {w : World} {a : α} {f : α → Sem β} {Q : β → World → Prop} (h : Runs P (f a) w Q) : Runs P ((pure a : Sem α) >>= f) w Q :=
 Runs.bind' ⟨a, w, rfl, h⟩
theorem zdK {P : Program} {e : Env} {w : World} {t : TypeId} {x ix v : AV} {ux ui : Value} (hx : VR e x ux) (hi : VR e ix ui) (hv : indexAddr P t x ix = some v) :
  Runs P (Instr.indexAt t ux ui) w fun u w' => VR e v u ∧ w' = w := by
 unfold indexAddr at hv
 rw [zew] at hv
 obtain ⟨kd, i, rfl, hv⟩ := hv
 rw [zab] at hv
 obtain ⟨d, hd, hv⟩ := hv
 cases vr_int hi
 unfold Instr.indexAt
 refine asIntOf_int _ _ ?_
 simp only []
 refine zcw hd ?_
 cases d <;> try (simp [zfu] at hv; done)
 case array n el =>
  have hv' : ptrV x (fun b o => grd (Nat.blt i n) (bnd (zaQ P el) fun z => some (frc (Nat.add o (Nat.mul i z)) fun o => .ptr b o))) = some v := hv
  rw [zdH] at hv'
  obtain ⟨b, o, rfl, hv'⟩ := hv'
  rw [zaf, zat, zab] at hv'
  obtain ⟨hin, z, hz, hv'⟩ := hv'
  rw [zaG] at hv'; cases hv'
  obtain ⟨L, hl, rfl⟩ := zcG hx
  simp only []
  refine Runs.bind' ⟨⟨L.blk, L.off + o, none⟩, w, rfl, ?_⟩
  refine runs_pure ?_
  simp only []
  refine zcw hd ?_
  simp only []
  rw [if_pos ⟨Int.natCast_nonneg i, by exact_mod_cast hin⟩]
  refine zcF hz ?_
  refine Runs.pure' ⟨?_, rfl⟩
  rw [Addr.add_eq, Int.toNat_natCast, Nat.add_assoc]
  exact .ptr b _ L hl
 case slice el =>
  cases x <;> try (simp [zfu] at hv; done)
  rename_i b o l z
  have hv' : grd (Nat.blt i l) (bnd (zaQ P el) fun z' => grd (Nat.beq z z') (some (frc (Nat.add o (Nat.mul i z)) fun o => .ptr b o))) = some v := hv
  rw [zaf, zat, zab] at hv'
  obtain ⟨hin, z', hz, hv'⟩ := hv'
  rw [zaf, zah, zaG] at hv'
  obtain ⟨rfl, hv'⟩ := hv'
  cases hv'
  obtain ⟨L, c, hl, h0, h1, h2, rfl⟩ := vr_sl hx
  simp only []
  refine runs_pure ?_
  simp only []
  refine zcw hd ?_
  simp only []
  rw [if_pos ⟨Int.natCast_nonneg i, by exact_mod_cast hin⟩]
  refine zcF hz ?_
  refine Runs.pure' ⟨?_, rfl⟩
  rw [Addr.add_eq, Int.toNat_natCast, Nat.add_assoc]
  exact .ptr b _ L hl
theorem index_sound {P : Program} {e : Env} {w : World} {t : TypeId} {x ix v : AV} {ux ui : Value} (hx : VR e x ux) (hi : VR e ix ui) (hv : index P t x ix = some v) :
  Runs P (Instr.index t ux ui) w fun u w' => VR e v u ∧ w' = w := by
 unfold index at hv
 rw [zew] at hv
 obtain ⟨kd, i, rfl, hv⟩ := hv
 rw [zab] at hv
 obtain ⟨d, hd, hv⟩ := hv
 cases vr_int hi
 unfold Instr.index
 refine asIntOf_int _ _ ?_
 simp only []
 refine zcw hd ?_
 cases d <;> try (simp [indexD] at hv; done)
 case array n el =>
  have hv' : aggV x (fun cs => grd (Nat.blt i n) (bnd (zaQ P el) fun z => partA P el cs (Nat.mul i z))) = some v := hv
  rw [zdi] at hv'
  obtain ⟨l, rfl, hv'⟩ := hv'
  rw [zaf, zat, zab] at hv'
  obtain ⟨hin, z, hz, hv'⟩ := hv'
  obtain ⟨us, rfl, hc⟩ := vr_agg hx
  simp only []
  rw [if_pos ⟨Int.natCast_nonneg i, by exact_mod_cast hin⟩]
  refine zcF hz ?_
  rw [Int.toNat_natCast]
  exact zfI hc hv'
 case string =>
  have hv' : strV x (fun n c => grd (Nat.blt i n) (some (byteAt c i))) = some v := hv
  rw [zex] at hv'
  obtain ⟨n, c, rfl, hv'⟩ := hv'
  rw [zaf, zat] at hv'
  obtain ⟨hin, hv'⟩ := hv'
  cases hv'
  cases zbm hx
  simp only [Int.natCast_nonneg, if_true, Int.toNat_natCast, bytesOf_get hin]
  refine Runs.pure' ⟨?_, rfl⟩
  unfold byteAt
  rw [zaG]
  have : (UInt8.ofNat (c / 256 ^ i % 256)).toNat = c / 256 ^ i % 256 := by
   simp [UInt8.toNat_ofNat']
  rw [this]
  exact .int _ _
end
end Go.Xe
end
section
namespace Go.Xe
noncomputable section
theorem zey (c : Nat) : zay 0 c = [] := rfl
theorem za6 (n c : Nat) : zay (n + 1) c = UInt8.ofNat (c % 256) :: zay n (c / 256) := by
 unfold zay
 rw [List.range_succ_eq_map, List.map_cons, List.map_map]
 congr 1
 ·simp
 ·apply List.map_congr_left
  intro i _
  simp only [Function.comp]
  rw [Nat.div_div_eq_div_mul, Nat.pow_succ, Nat.mul_comm 256]
theorem codeOf_nil : zbJ [] = 0 := rfl
theorem zcI (b : UInt8) (l : List UInt8) : zbJ (b :: l) = b.toNat + 256 * zbJ l := rfl
theorem zbA (c : Nat) : (UInt8.ofNat (c % 256)).toNat = c % 256 := by simp [UInt8.toNat_ofNat']
theorem zbL (n c : Nat) : zbJ (zay n c) = c % 256 ^ n := by
 induction n generalizing c with
 | zero => rw [zey, codeOf_nil]; simp [Nat.mod_one]
 | succ n ih => rw [za6, zcI, ih, zbA, Nat.pow_succ, Nat.mul_comm (256 ^ n), Nat.mod_mul]
theorem zcr (l : List UInt8) : zay l.length (zbJ l) = l := by
 induction l with
 | nil => rfl
 | cons b l ih =>
   rw [List.length_cons, za6, zcI]
   have h1 : (b.toNat + 256 * zbJ l) % 256 = b.toNat := by have := b.toNat_lt; omega
   have h2 : (b.toNat + 256 * zbJ l) / 256 = zbJ l := by have := b.toNat_lt; omega
   rw [h1, h2, ih]
   simp
theorem codeOf_app (l r : List UInt8) : zbJ (l ++ r) = zbJ l + 256 ^ l.length * zbJ r := by
 induction l with
 | nil => simp [codeOf_nil]
 | cons b l ih => rw [List.cons_append, zcI, zcI, ih, List.length_cons, Nat.pow_succ, Nat.mul_comm (256 ^ l.length) 256, Nat.mul_assoc, Nat.mul_add]; omega
theorem zea (n c : Nat) : zay n (c % 256 ^ n) = zay n c := by
 have h := zcr (zay n c)
 rw [zbq, zbL] at h
 exact h
theorem zfJ {n c n' c' : Nat} : zay n c = zay n' c' ↔ n = n' ∧ c % 256 ^ n = c' % 256 ^ n' := by
 constructor
 ·intro h
  have hn : n = n' := by have := congrArg List.length h; simpa [zbq] using this
  subst hn
  exact ⟨rfl, by rw [← zbL, ← zbL, h]⟩
 ·rintro ⟨rfl, h⟩
  rw [← zea n c, ← zea n c', h]
theorem bytesOf_inj {n c n' c' : Nat} : zae n c = zae n' c' ↔ n = n' ∧ c % 256 ^ n = c' % 256 ^ n' := by
 rw [← zfJ]
 constructor
 ·intro h
  have := congrArg (fun b : ByteArray => b.data.toList) h
  simpa [zae] using this
 ·intro h; unfold zae; rw [h]
theorem zdL (n c n' c' : Nat) : zeh n c n' c' = true ↔ zae n c = zae n' c' := by
 unfold zeh
 rw [zaj, Bool.and_eq_true, zah, zah, bytesOf_inj]
 exact Iff.rfl
theorem eqStr_false (n c n' c' : Nat) : zeh n c n' c' = false ↔ zae n c ≠ zae n' c' := by
 rw [← Bool.not_eq_true, zdL]
theorem bytesOf_of (l : List UInt8) : zae l.length (zbJ l) = ⟨l.toArray⟩ := by unfold zae; rw [zcr]
theorem zf0 (s : ByteArray) : zae s.data.toList.length (zbJ s.data.toList) = s := by
 rw [bytesOf_of]
theorem zcJ (n c n' c' : Nat) : zae n c ++ zae n' c' = zae (n + n') (c % 256 ^ n + 256 ^ n * c') := by
 have h : zay n c ++ zay n' c' = zay (n + n') (c % 256 ^ n + 256 ^ n * c') := by
  have h1 := zcr (zay n c ++ zay n' c')
  rw [List.length_append, zbq, zbq, codeOf_app, zbL, zbL, zbq] at h1
  rw [← h1, zfJ]
  refine ⟨rfl, ?_⟩
  rw [Nat.pow_add]
  have hlt : c % 256 ^ n < 256 ^ n := Nat.mod_lt _ (Nat.pow_pos (by decide))
  rw [Nat.mod_mul, Nat.mod_mul]
  rw [Nat.add_mul_mod_self_left, Nat.add_mul_mod_self_left, Nat.mod_mod]
  rw [Nat.add_mul_div_left _ _ (Nat.pow_pos (by decide)), Nat.add_mul_div_left _ _ (Nat.pow_pos (by decide))]
  rw [Nat.div_eq_of_lt hlt, Nat.zero_add, Nat.zero_add, Nat.mod_mod]
 apply ByteArray.ext
 rw [ByteArray.data_append]
 show (zay n c).toArray ++ (zay n' c').toArray = (zay (n + n') _).toArray
 rw [← h]
 simp
theorem listOf_drop (n c l : Nat) (h : l ≤ n) : (zay n c).drop l = zay (n - l) (c / 256 ^ l) := by
 induction l generalizing n c with
 | zero => simp
 | succ l ih =>
   cases n with
   | zero => omega
   | succ n =>
     rw [za6, List.drop_succ_cons, ih n _ (by omega), Nat.div_div_eq_div_mul, Nat.pow_succ, Nat.mul_comm 256]
     congr 1; omega
theorem listOf_take (n c k : Nat) (h : k ≤ n) : (zay n c).take k = zay k c := by
 unfold zay
 rw [← List.map_take, List.take_range, Nat.min_eq_left h]
theorem zdM (n c l hh : Nat) (h1 : l ≤ hh) (h2 : hh ≤ n) : (zae n c).extract l hh = zae (hh - l) (c / 256 ^ l % 256 ^ (hh - l)) := by
 apply ByteArray.ext
 rw [ByteArray.data_extract]
 apply Array.ext'
 rw [Array.toList_extract, List.extract_eq_take_drop]
 show ((zay n c).drop l).take (hh - l) = zay (hh - l) _
 rw [listOf_drop _ _ _ (by omega), listOf_take _ _ _ (by omega), zea]
theorem ltStr_r0 (f n c c' : Nat) : zgb (f + 1) n c 0 c' = false := rfl
theorem ltStr_l0 (f c n' c' : Nat) : zgb (f + 1) 0 c (n' + 1) c' = true := rfl
theorem ltStr_ss (f n c n' c' : Nat) : zgb (f + 1) (n + 1) c (n' + 1) c' =
  ite' (Nat.blt (c % 256) (c' % 256)) true (ite' (Nat.beq (c % 256) (c' % 256)) (zgb f n (c / 256) n' (c' / 256)) false) := rfl
theorem ltStr_iff (f n c n' c' : Nat) (h : n < f) : zgb f n c n' c' = Op.bytesLess (zay n c) (zay n' c') := by
 induction f generalizing n c n' c' with
 | zero => omega
 | succ f ih =>
   cases n' with
   | zero =>
     rw [ltStr_r0, zey]
     cases n with
     | zero => rfl
     | succ n => rw [za6]; rfl
   | succ n' =>
     cases n with
     | zero => rw [ltStr_l0, zey, za6]; rfl
     | succ n =>
       rw [ltStr_ss, za6, za6, ih _ _ _ _ (by omega)]
       rw [zcE, zaj]
       show _ = (UInt8.ofNat (c % 256) < UInt8.ofNat (c' % 256) || (UInt8.ofNat (c % 256) == UInt8.ofNat (c' % 256) && _))
       congr 1
       ·rw [Bool.eq_iff_iff, zat, decide_eq_true_iff, UInt8.lt_iff_toNat_lt, zbA, zbA]
       ·congr 1
        rw [Bool.eq_iff_iff, zah, beq_iff_eq]
        constructor
        ·intro h; rw [h]
        ·intro h
         have := congrArg UInt8.toNat h
         rwa [zbA, zbA] at this
end
end Go.Xe
end
section
namespace Go.Xe
noncomputable section
theorem bytes_beq' (a b : ByteArray) : (a == b) = true ↔ a = b := by
 obtain ⟨a⟩ := a
 obtain ⟨b⟩ := b
 show (a == b) = true ↔ _
 rw [beq_iff_eq]
 exact ⟨fun h => by rw [h], fun h => by cases h; rfl⟩
theorem bytes_beq (a b : ByteArray) : (a == b) = decide (a = b) := by
 rw [Bool.eq_iff_iff, bytes_beq', decide_eq_true_iff]
theorem zfK (a b : ByteArray) : (a.toList == b.toList) = decide (a = b) := by
 rw [Bool.eq_iff_iff, decide_eq_true_iff, beq_iff_eq, ByteArray.toList_eq, ByteArray.toList_eq]
 exact ⟨fun h => ByteArray.ext (Array.ext' h), fun h => by rw [h]⟩
theorem kindN_inj {a b : IntKind} (h : kindN a = kindN b) : a = b := by cases a <;> cases b <;> first | rfl | (simp [kindN] at h)
theorem zbY {a b : IntKind} : zck a b = true ↔ a = b := by
 unfold zck
 rw [zah]
 exact ⟨kindN_inj, fun h => by rw [h]⟩
theorem zcs (a b : Int) : zdA a b = (a == b) := by
 cases a with
 | ofNat m =>
   cases b with
   | ofNat n =>
     show Nat.beq m n = _
     rw [Bool.eq_iff_iff, zah, beq_iff_eq]
     exact ⟨fun h => by rw [h], fun h => Int.ofNat.inj h⟩
   | negSucc n =>
     show false = _
     symm; rw [beq_eq_false_iff_ne]; simp
 | negSucc m =>
   cases b with
   | ofNat n =>
     show false = _
     symm; rw [beq_eq_false_iff_ne]; simp
   | negSucc n =>
     show Nat.beq m n = _
     rw [Bool.eq_iff_iff, zah, beq_iff_eq]
     exact ⟨fun h => by rw [h], fun h => Int.negSucc.inj h⟩
theorem zc9 (a b : Int) : ltInt a b = decide (a < b) := by
 cases a with
 | ofNat m =>
   cases b with
   | ofNat n =>
     show Nat.blt m n = _
     rw [Bool.eq_iff_iff, zat, decide_eq_true_iff]
     simp
   | negSucc n =>
     show false = _
     symm; rw [decide_eq_false_iff_not]
     have := Int.negSucc_lt_zero n
     have h2 : (0 : Int) ≤ Int.ofNat m := Int.natCast_nonneg m
     omega
 | negSucc m =>
   cases b with
   | ofNat n =>
     show true = _
     symm; rw [decide_eq_true_iff]
     have := Int.negSucc_lt_zero m
     have h2 : (0 : Int) ≤ Int.ofNat n := Int.natCast_nonneg n
     omega
   | negSucc n =>
     show Nat.blt n m = _
     rw [Bool.eq_iff_iff, zat, decide_eq_true_iff]
     omega
theorem outside_iff {a : Int} {lo hi : Nat} (h : zgt a lo hi = true) : ∀ v : Nat, lo ≤ v → v < hi → a ≠ (v : Int) := by
 intro v h1 h2 he
 subst he
 have : ite' (Nat.blt v lo) true (Nat.ble hi v) = true := h
 rw [zcE, Bool.or_eq_true, zat, zaV] at this
 omega
theorem farFrom_iff {pn pc n c : Nat} {fam : List ME} (h : zfv pn pc n c fam = true) :
  ∀ kv ∈ fam, ∀ kn kc, kv.k = .str kn kc → zae pn pc ++ zae kn kc ≠ zae n c := by
 induction fam with
 | nil => simp
 | cons x fam ih =>
   intro kv hkv kn kc hk
   have h' : (match x.k with | .str kn kc => ite' (zeh (preS pn pc kn kc).1 (preS pn pc kn kc).2 n c) false (zfv pn pc n c fam) | _ => false) = true := h
   rcases List.mem_cons.1 hkv with rfl | hkv
   ·rw [hk] at h'
    simp only [] at h'
    cases he : zeh (preS pn pc kn kc).1 (preS pn pc kn kc).2 n c with
    | true => rw [he] at h'; simp at h'
    | false =>
      rw [eqStr_false] at he
      rw [zcJ]; exact he
   ·cases hx : x.1 <;> rw [hx] at h' <;> try (simp at h'; done)
    simp only [] at h'
    rename_i a b
    cases he : zeh (preS pn pc a b).1 (preS pn pc a b).2 n c with
    | true => rw [he] at h'; simp at h'
    | false => rw [he, ite'_false] at h'; exact ih h' kv hkv kn kc hk
inductive Cmp : Value → Value → Bool → Prop
 | bool (a b : Bool) : Cmp (.bool a) (.bool b) (a == b)
 | int (k : IntKind) (a b : Int) : Cmp (.int k a) (.int k b) (a == b)
 | string (a b : ByteArray) : Cmp (.string a) (.string b) (decide (a = b))
def zaW : AV → Bool
 | .bool _ => true
 | .int _ _ => true
 | .num .. => true
 | .str _ _ => true
 | .sstr .. => true
 | _ => false
theorem append_inj_left {a b c : ByteArray} (h : a ++ b = a ++ c) : b = c := by
 have h1 := congrArg (fun x : ByteArray => x.data.toList) h
 simp only [ByteArray.data_append, Array.toList_append, List.append_cancel_left_eq] at h1
 exact ByteArray.ext (Array.ext' h1)
theorem zaS {e : Env} {h : AH} {H : Array Obj} (s : Sat e h H) {x y : AV} {ux uy : Value} (hx : VR e x ux) (hy : VR e y uy) {q : Bool} (hq : zas h x y = some q)
  (hs : zaW x = true) (hs' : zaW y = true) : Cmp ux uy q := by
 cases x <;> simp [zaW] at hs
 case bool a =>
  cases y <;> simp [zaW] at hs' <;> try (simp [zas, eqB] at hq; done)
  rename_i b
  cases vr_bool hx; cases vr_bool hy
  have : some (ite' a b (ite' b false true)) = some q := hq
  cases this
  have : ite' a b (ite' b false true) = (a == b) := by cases a <;> cases b <;> rfl
  rw [this]; exact .bool a b
 case int k a =>
  cases vr_int hx
  cases y <;> simp [zaW] at hs' <;> try (simp [zas, eqI] at hq; done)
  case int k' b =>
   cases vr_int hy
   have hq' : grd (zck k k') (some (zdA a b)) = some q := hq
   rw [zaf, zbY] at hq'
   obtain ⟨rfl, hq'⟩ := hq'
   cases hq'
   rw [zcs]; exact .int k a b
  case num g j lo hi =>
   cases hy with
   | num _ _ _ _ v hv h1 h2 =>
     have hq' : grd (zck k .i64) (grd (zgt a lo hi) (some false)) = some q := hq
     rw [zaf, zbY, zaf] at hq'
     obtain ⟨rfl, ho, hq'⟩ := hq'
     cases hq'
     have := outside_iff ho v h1 h2
     rw [show false = (a == (v : Int)) by symm; rw [beq_eq_false_iff_ne]; exact this]
     exact .int _ _ _
 case num g j lo hi =>
  cases hx with
  | num _ _ _ _ v hv h1 h2 =>
    cases y <;> simp [zaW] at hs' <;> try (simp [zas, eqN] at hq; done)
    case int k a =>
     cases vr_int hy
     have hq' : grd (zck k .i64) (grd (zgt a lo hi) (some false)) = some q := hq
     rw [zaf, zbY, zaf] at hq'
     obtain ⟨rfl, ho, hq'⟩ := hq'
     cases hq'
     have := outside_iff ho v h1 h2
     rw [show false = ((v : Int) == a) by symm; rw [beq_eq_false_iff_ne]; exact fun he => this he.symm]
     exact .int _ _ _
    case num g' j' lo' hi' =>
     cases hy with
     | num _ _ _ _ v' hv' h1' h2' =>
       have hq' : ite' (Nat.beq g g') (some (Nat.beq j j')) (grd (ite' (Nat.ble hi lo') true (Nat.ble hi' lo)) (some false)) = some q := hq
       rw [zav] at hq'
       rcases hq' with ⟨hg, hq'⟩ | ⟨_, hq'⟩
       ·rw [zah] at hg; subst hg
        cases hq'
        have : Nat.beq j j' = ((v : Int) == (v' : Int)) := by
         rw [Bool.eq_iff_iff, zah, beq_iff_eq]
         constructor
         ·rintro rfl; rw [hv] at hv'; cases hv'; rfl
         ·intro he
          have : v = v' := by exact_mod_cast he
          subst this
          exact s.numI g j j' v hv hv'
        rw [this]; exact .int _ _ _
       ·rw [zaf, zcE, Bool.or_eq_true, zaV, zaV] at hq'
        obtain ⟨hd, hq'⟩ := hq'
        cases hq'
        rw [show false = ((v : Int) == (v' : Int)) by symm; rw [beq_eq_false_iff_ne]; intro he; have : v = v' := by exact_mod_cast he
                                                      omega]
        exact .int _ _ _
 case str n c =>
  cases zbm hx
  cases y <;> simp [zaW] at hs' <;> try (simp [zas, eqS] at hq; done)
  case str n' c' =>
   cases zbm hy
   have hq' : some (zeh n c n' c') = some q := hq
   cases hq'
   rw [show zeh n c n' c' = decide (zae n c = zae n' c') by rw [Bool.eq_iff_iff, zdL, decide_eq_true_iff]]
   exact .string _ _
  case sstr pn pc i =>
   cases hy with
   | sstr _ _ _ t ht =>
     have hq' : grd (zb9 h.fb h.fam i) (grd (zfv pn pc n c h.fam) (some false)) = some q := hq
     rw [zaf, zaf] at hq'
     obtain ⟨hi, hf, hq'⟩ := hq'
     cases hq'
     obtain ⟨kv, hkv, kn, kc, hk, rfl, _⟩ := s.fam.key i t hi ht
     have := farFrom_iff hf kv hkv kn kc hk
     rw [show false = decide (zae n c = zae pn pc ++ zae kn kc) by symm; rw [decide_eq_false_iff_not]; exact fun he => this he.symm]
     exact .string _ _
 case sstr pn pc i =>
  cases hx with
  | sstr _ _ _ t ht =>
    cases y <;> simp [zaW] at hs' <;> try (simp [zas, eqSS] at hq; done)
    case str n c =>
     cases zbm hy
     have hq' : grd (zb9 h.fb h.fam i) (grd (zfv pn pc n c h.fam) (some false)) = some q := hq
     rw [zaf, zaf] at hq'
     obtain ⟨hi, hf, hq'⟩ := hq'
     cases hq'
     obtain ⟨kv, hkv, kn, kc, hk, rfl, _⟩ := s.fam.key i t hi ht
     have := farFrom_iff hf kv hkv kn kc hk
     rw [show false = decide (zae pn pc ++ zae kn kc = zae n c) by symm; rw [decide_eq_false_iff_not]; exact this]
     exact .string _ _
    case sstr pn' pc' j =>
     cases hy with
     | sstr _ _ _ t' ht' =>
       have hq' : grd (zeh pn pc pn' pc') (ite' (Nat.beq i j) (some true) (grd (zb9 h.fb h.fam i) (grd (zb9 h.fb h.fam j) (some false)))) = some q := hq
       rw [zaf, zdL, zav] at hq'
       obtain ⟨hp, hq'⟩ := hq'
       rw [hp]
       rcases hq' with ⟨hij, hq'⟩ | ⟨hij, hq'⟩
       ·rw [zah] at hij; subst hij
        cases hq'
        rw [ht] at ht'; cases ht'
        rw [show true = decide (zae pn' pc' ++ t = zae pn' pc' ++ t) by simp]
        exact .string _ _
       ·rw [zaf, zaf] at hq'
        obtain ⟨hi, hj, hq'⟩ := hq'
        cases hq'
        have hne : i ≠ j := fun he => by rw [(zah i j).2 he] at hij; cases hij
        rw [show false = decide (zae pn' pc' ++ t = zae pn' pc' ++ t') by
         symm; rw [decide_eq_false_iff_not]
         intro he
         have := append_inj_left he
         subst this
         exact hne (s.fam.inj i j t hi hj ht ht')]
        exact .string _ _
end
end Go.Xe
end
section
namespace Go.Xe
noncomputable section
section
variable {P : Program} {e : Env} {h : AH} {w : World}
theorem zez {t : TypeId} {td : TypeDesc} (ht : P.underlying t = some td) {ux uy : Value} {q : Bool} (hc : Cmp ux uy q) (d : Nat)
  (hk : (∃ a, ux = .bool a) ∧ td = .bool ∨ (∃ k a kk, ux = .int k a ∧ td = .int kk) ∨ (∃ a, ux = .string a) ∧ td = .string) :
  (Op.equalIn (d + 1) t ux uy).run P w = .ok q w := by
 unfold Op.equalIn
 have hb : ∀ {α : Type} (f : TypeDesc → Sem α), (underlying t >>= f).run P w = (f td).run P w := fun f => by
  rw [Sem.run_bind, zdG ht]; rfl
 rw [hb]
 cases hc with
 | bool a b => rcases hk with ⟨_, rfl⟩ | ⟨k, c, kk, h, _⟩ | ⟨⟨c, h⟩, _⟩ <;> first | rfl | cases h
 | int k a b =>
   rcases hk with ⟨⟨c, h⟩, _⟩ | ⟨k', c, kk, h, rfl⟩ | ⟨⟨c, h⟩, _⟩
   ·cases h
   ·simp only [if_true]; rfl
   ·cases h
 | string a b =>
   rcases hk with ⟨⟨c, h⟩, _⟩ | ⟨k', c, kk, h, rfl⟩ | ⟨_, rfl⟩
   ·cases h
   ·cases h
   ·simp only []
    rw [bytes_beq]; rfl
theorem zda {i : Nat} {l : List Nat} : zei i l = true ↔ i ∉ l := by
 induction l with
 | nil => simp [zei]
 | cons j l ih =>
   show ite' (Nat.beq i j) false (zei i l) = true ↔ _
   rw [zaB]
   by_cases hij : i = j
   ·subst hij; rw [if_pos ((zah i i).2 rfl)]; simp
   ·rw [if_neg (fun h => hij ((zah i j).1 h)), ih]; simp [hij]
theorem ptrE_eq {en : Ent} {l : List Nat} (hp : ptrE en = some l) : ∃ cs ty wr, en = .cells cs ty wr 0 l ∧ ty ≠ 0 := by
 cases en <;> try (simp [ptrE] at hp; done)
 rename_i cs ty wr fz olds
 have hp' : grd (Nat.blt 0 ty) (grd (Nat.beq fz 0) (some olds)) = some l := hp
 rw [zaf, zat, zaf, zah] at hp'
 obtain ⟨h1, rfl, h2⟩ := hp'
 cases h2
 exact ⟨cs, ty, wr, rfl, by omega⟩
theorem plain_row (s : Sat e h w.heap) {b : Nat} {cs : List AV} {ty : Nat} {wr : Bool} {olds : List Nat} {L : Loc} (hb : h.get b = some (.cells cs ty wr 0 olds)) (hty : ty ≠ 0) (hl : e.loc b = some L) :
  ∃ arr T, w.heap[L.blk]? = some (.cells arr T (0, 0)) := by
 obtain ⟨arr, T, lo, hi, hH, hR⟩ := s.row hb hl
 obtain ⟨_, hz0, hz1, hz2⟩ := hR.ty hty
 have hz : L.off = 0 ∧ ((0 : Nat) = 0 → lo = 0 ∧ hi = 0) := ⟨hz0, fun h => ⟨hz1, hz2 h⟩⟩
 obtain ⟨rfl, rfl⟩ := hz.2 rfl
 exact ⟨arr, T, hH⟩
theorem zcg {α : Type} {B o : Nat} {arr : Array Value} {T : TypeId} (hH : w.heap[B]? = some (.cells arr T (0, 0))) (f : Bool → Sem α) :
  (frozen ⟨B, o, none⟩ >>= f).run P w = (f false).run P w := by
 rw [Sem.run_bind]
 have : (frozen ⟨B, o, none⟩).run P w = .ok false w := by
  show Result.ok (w.frozen? ⟨B, o, none⟩) w = _
  simp [World.frozen?, hH]
 rw [this]; rfl
theorem zbM {α : Type} {B : Nat} {arr : Array Value} {T : TypeId} {fr : Nat × Nat} (hH : w.heap[B]? = some (.cells arr T fr)) (f : Option (TypeId × Nat) → Sem α) :
  (Go.shape B >>= f).run P w = (f (some (T, arr.size))).run P w := by
 rw [Sem.run_bind]
 have : (Go.shape B).run P w = .ok (some (T, arr.size)) w := by
  show Result.ok (w.shape? B) w = _
  simp [World.shape?, hH]
 rw [this]; rfl
theorem zcK {B o : Nat} {arr : Array Value} {T : TypeId} (hH : w.heap[B]? = some (.cells arr T (0, 0))) : (stringish ⟨B, o, none⟩).run P w = .ok false w := by
 unfold stringish
 rw [zcg hH]
 simp only [Bool.false_eq_true, if_false]
 rw [zbM hH]
 show Result.ok (w.frozen? ⟨B, arr.size, none⟩) w = _
 simp [World.frozen?, hH]
theorem zdt {B o : Nat} {arr : Array Value} {T : TypeId} {fr : Nat × Nat} (hH : w.heap[B]? = some (.cells arr T fr)) : (noView ⟨B, o, none⟩).run P w = .ok () w := by
 unfold noView viewAt
 rw [Sem.run_bind, zbM hH]
 rfl
theorem sameAddr_plain {B B' o o' : Nat} {arr arr' : Array Value} {T T' : TypeId} (hne : B ≠ B') (hH : w.heap[B]? = some (.cells arr T (0, 0))) (hH' : w.heap[B']? = some (.cells arr' T' (0, 0))) :
  (sameAddr ⟨B, o, none⟩ ⟨B', o', none⟩).run P w = .ok false w := by
 unfold sameAddr
 have hb : ((⟨B, o, none⟩ : Addr).block == (⟨B', o', none⟩ : Addr).block) = false := by
  simp; exact hne
 rw [hb]
 simp only [Bool.false_eq_true, if_false]
 rw [zcg hH]
 simp only [Bool.false_and]
 rw [zcg hH']
 simp only [Bool.false_eq_true, if_false]
 rw [Sem.run_bind, zdt hH]
 show Sem.run P (noView ⟨B', o', none⟩ >>= _) w = _
 rw [Sem.run_bind, zdt hH']
 show Sem.run P (mayBeOne ⟨B, o, none⟩ ⟨B', o', none⟩ >>= _) w = _
 have hm : (mayBeOne ⟨B, o, none⟩ ⟨B', o', none⟩).run P w = .ok false w := by
  unfold mayBeOne
  rw [Sem.run_bind, zcK hH]
  show Sem.run P (stringish ⟨B', o', none⟩ >>= _) w = _
  rw [Sem.run_bind, zcK hH']
  show Sem.run P ((Go.shape B >>= fun r => pure (match r with | some (_, 0) => true | _ => false)) >>= _) w = _
  rw [Sem.run_bind, zbM hH]
  show Sem.run P ((Go.shape B' >>= fun r => pure (match r with | some (_, 0) => true | _ => false)) >>= _) w = _
  rw [Sem.run_bind, zbM hH']
  rfl
 rw [Sem.run_bind, hm]
 rfl
theorem sameAddr_same {B o o' : Nat} : (sameAddr ⟨B, o, none⟩ ⟨B, o', none⟩).run P w = .ok (Nat.beq o o') w := by
 unfold sameAddr
 have hb : ((⟨B, o, none⟩ : Addr).block == (⟨B, o', none⟩ : Addr).block) = true := by simp
 rw [hb]
 simp only [if_true]
 show Result.ok ((⟨B, o, none⟩ : Addr) == ⟨B, o', none⟩) w = _
 congr 1
 rw [Bool.eq_iff_iff, beq_iff_eq, zah]
 exact ⟨fun h => by injection h, fun h => by rw [h]⟩
theorem zb7 {α : Type} {t : TypeId} {td : TypeDesc} (ht : P.underlying t = some td) (f : TypeDesc → Sem α) : (underlying t >>= f).run P w = (f td).run P w := by
 rw [Sem.run_bind, zdG ht]; rfl
theorem zgd (s : Sat e h w.heap) {t el z : Nat} (ht : P.underlying t = some (.pointer el)) (hz : zaQ P el = some z) (h0 : 0 < z) {x y : AV} {ux uy : Value} (hx : VR e x ux) (hy : VR e y uy)
  (hkx : zar (.pointer el) x = true) (hky : zar (.pointer el) y = true) {q : Bool} (hq : zas h x y = some q) (d : Nat) : (Op.equalIn (d + 1) t ux uy).run P w = .ok q w := by
 unfold Op.equalIn
 rw [zb7 ht]
 have hsz : ∀ {α : Type} (f : Nat → Sem α), (sizeOf el >>= f).run P w = (f z).run P w := fun f => by rw [Sem.run_bind, zbh hz]; rfl
 cases x <;> simp [zar] at hkx
 case pnil =>
  cases hx
  cases y <;> simp [zar] at hky
  case pnil => cases hy; cases hq; rfl
  case ptr b o =>
   obtain ⟨l, _, rfl⟩ := zcG hy
   cases hq; rfl
  case gptr g => cases hy; cases hq; rfl
 case gptr g =>
  cases hx
  cases y <;> simp [zar] at hky <;> try (simp [zas] at hq; done)
  case pnil => cases hy; cases hq; rfl
 case ptr b o =>
  obtain ⟨l, hl, rfl⟩ := zcG hx
  cases y <;> simp [zar] at hky <;> try (simp [zas, eqP] at hq; done)
  case pnil => cases hy; cases hq; rfl
  case ptr b' o' =>
   obtain ⟨l', hl', rfl⟩ := zcG hy
   have hq' : ite' (Nat.beq b b') (some (Nat.beq o o')) (bnd (bnd (h.get b) ptrE) fun l => bnd (bnd (h.get b') ptrE) fun l' => grd (zei b l') (grd (zei b' l) (some false))) = some q := hq
   simp only []
   rw [hsz]
   rw [if_pos (by omega)]
   rw [zav] at hq'
   rcases hq' with ⟨hbb, hq'⟩ | ⟨hbb, hq'⟩
   ·rw [zah] at hbb; subst hbb
    rw [hl] at hl'; cases hl'
    cases hq'
    rw [sameAddr_same]
    congr 1
    rw [Bool.eq_iff_iff, zah, zah]; omega
   ·have hne : b ≠ b' := fun hb => by rw [(zah b b').2 hb] at hbb; cases hbb
    rw [zab] at hq'
    obtain ⟨o1, ho1, hq'⟩ := hq'
    rw [zab] at hq'
    obtain ⟨o2, ho2, hq'⟩ := hq'
    rw [zaf, zda, zaf, zda] at hq'
    obtain ⟨hn1, hn2, hq'⟩ := hq'
    cases hq'
    rw [zab] at ho1 ho2
    obtain ⟨en1, he1, hp1⟩ := ho1
    obtain ⟨en2, he2, hp2⟩ := ho2
    obtain ⟨cs1, ty1, wr1, rfl, hty1⟩ := ptrE_eq hp1
    obtain ⟨cs2, ty2, wr2, rfl, hty2⟩ := ptrE_eq hp2
    obtain ⟨arr1, T1, hH1⟩ := plain_row s he1 hty1 hl
    obtain ⟨arr2, T2, hH2⟩ := plain_row s he2 hty2 hl'
    have hblk : l.blk ≠ l'.blk := fun hb => by
     rcases s.sep b b' _ _ l l' he1 he2 hl hl' hne hb with h1 | h1
     ·exact hn2 h1
     ·exact hn1 h1
    exact sameAddr_plain hblk hH1 hH2
theorem zdj {t : TypeId} {td : TypeDesc} (ht : P.underlying t = some td) (htd : (∃ a, td = .slice a) ∨ (∃ a b, td = .map a b) ∨ (∃ a b c, td = .func a b c)) {x y : AV} {ux uy : Value} (hx : VR e x ux) (hy : VR e y uy)
  (hkx : zar td x = true) (hky : zar td y = true) {q : Bool} (hq : zas h x y = some q) (d : Nat) : (Op.equalIn (d + 1) t ux uy).run P w = .ok q w := by
 unfold Op.equalIn
 rw [zb7 ht]
 rcases htd with ⟨a, rfl⟩ | ⟨a, b, rfl⟩ | ⟨a, b, c, rfl⟩ <;> cases x <;> simp [zar] at hkx <;> cases y <;> simp [zar] at hky <;>
  first
  | (simp [zas, eqNils, nilKind, isNilV, ite'] at hq; done)
  | (cases hx; cases hy; cases hq <;> rfl)
  | (cases hx; cases hy; cases hq)
theorem zac {α β : Type} (s : Sem α) (f : α → Sem β) : (s >>= f).run P w = match s.run P w with | .ok a w' => (f a).run P w' | .halt h w' => .halt h w' := run_bind P s f w
theorem runs_part {t off : Nat} {cs : List AV} {us : Array Value} (hc : VRs e cs us.toList) {v : AV} (hv : partA P t cs off = some v) : ∃ u, (part t us off).run P w = .ok u w ∧ VR e v u := by
 obtain ⟨u, w', hr, hv, rfl⟩ := zfI (P := P) (w := w) hc hv
 exact ⟨u, hr, hv⟩
theorem goF_sound {d : Nat} {eq : TypeId → AV → AV → Option Bool} (heq : ∀ {t : TypeId} {x y : AV} {ux uy : Value}, VR e x ux → VR e y uy → ∀ {q : Bool}, eq t x y = some q → (Op.equalIn d t ux uy).run P w = .ok q w)
  {xs ys : List AV} {us vs : Array Value} (hx : VRs e xs us.toList) (hy : VRs e ys vs.toList) :
  ∀ (fs : List Field) {q : Bool}, goF P eq xs ys fs = some q →
    ((forIn fs ((none, ()) : Option Bool × Unit) fun f _ =>
      if f.name ≠ "_" then do
       let a ← part f.type us f.offset
       let b ← part f.type vs f.offset
       let r ← Op.equalIn d f.type a b
       if (!r) = true then pure (ForInStep.done (some false, ())) else pure (ForInStep.yield (none, ()))
      else pure (ForInStep.yield (none, ()))) : Sem (Option Bool × Unit)).run P w = .ok (if q then (none, ()) else (some false, ())) w := by
 intro fs
 induction fs with
 | nil => intro q hq; cases hq; rfl
 | cons f fs ih =>
   intro q hq
   have hq' : ite' (decide (f.name = "_")) none (bnd (partA P f.type xs f.offset) fun a => bnd (partA P f.type ys f.offset) fun b => bnd (eq f.type a b) fun q => ite' q (goF P eq xs ys fs) (some false)) = some q := hq
   rw [zav] at hq'
   rcases hq' with ⟨_, hq'⟩ | ⟨hn, hq'⟩
   ·cases hq'
   rw [decide_eq_false_iff_not] at hn
   rw [zab] at hq'
   obtain ⟨a, ha, hq'⟩ := hq'
   rw [zab] at hq'
   obtain ⟨b, hb, hq'⟩ := hq'
   rw [zab] at hq'
   obtain ⟨r, hr, hq'⟩ := hq'
   obtain ⟨ua, hua, hva⟩ := runs_part (P := P) (w := w) hx ha
   obtain ⟨ub, hub, hvb⟩ := runs_part (P := P) (w := w) hy hb
   have hrr := heq hva hvb hr
   rw [List.forIn_cons]
   rw [if_pos hn]
   have hbody : ((do
      let a ← part f.type us f.offset
      let b ← part f.type vs f.offset
      let r ← Op.equalIn d f.type a b
      if (!r) = true then pure (ForInStep.done (some false, ())) else pure (ForInStep.yield (none, ())) : Sem (ForInStep (Option Bool × Unit)))).run P w
     = .ok (if r then ForInStep.yield (none, ()) else ForInStep.done (some false, ())) w := by
    rw [zac, hua]
    show Sem.run P (part f.type vs f.offset >>= _) w = _
    rw [zac, hub]
    show Sem.run P (Op.equalIn d f.type ua ub >>= _) w = _
    rw [zac, hrr]
    cases r <;> rfl
   rw [zac, hbody]
   rw [zav] at hq'
   rcases hq' with ⟨rfl, hq'⟩ | ⟨rfl, hq'⟩
   ·exact ih hq'
   ·cases hq'; rfl
theorem equalA_sound (s : Sat e h w.heap) : ∀ (d : Nat) {t : TypeId} {x y : AV} {ux uy : Value}, VR e x ux → VR e y uy → ∀ {q : Bool}, zcl P h d t x y = some q → ∀ D, d ≤ D → (Op.equalIn D t ux uy).run P w = .ok q w := by
 intro d
 induction d with
 | zero => intro t x y ux uy _ _ q hq; cases hq
 | succ d ih =>
   intro t x y ux uy hx hy q hq D hD
   obtain ⟨D, rfl⟩ : ∃ D', D = D' + 1 := ⟨D - 1, by omega⟩
   have hq' : bnd (P.underlying t) (fun td => zgu P h (zcl P h d) t x y td) = some q := hq
   rw [zab] at hq'
   obtain ⟨td, ht, hq'⟩ := hq'
   have plain : ∀ (hk : grd (zar td x) (grd (zar td y) (zas h x y)) = some q), zar td x = true ∧ zar td y = true ∧ zas h x y = some q := fun hk => by
    rw [zaf, zaf] at hk; exact hk
   cases td
   case struct fs =>
    have hs : aggV x (fun xs => aggV y fun ys => ite' (P.stoodInHeld t) none (goF P (zcl P h d) xs ys fs.toList)) = some q := hq'
    rw [zdi] at hs
    obtain ⟨xs, rfl, hs⟩ := hs
    rw [zdi] at hs
    obtain ⟨ys, rfl, hs⟩ := hs
    rw [zav] at hs
    rcases hs with ⟨_, hs⟩ | ⟨hst, hs⟩
    ·cases hs
    obtain ⟨us, rfl, hcx⟩ := vr_agg hx
    obtain ⟨vs, rfl, hcy⟩ := vr_agg hy
    unfold Op.equalIn
    rw [zb7 ht]
    simp only []
    have hp : ∀ {α : Type} (f : Program → Sem α), (program >>= f).run P w = (f P).run P w := fun f => by rw [zac]; rfl
    rw [hp, hst]
    simp only [Bool.false_eq_true, if_false]
    have := goF_sound (P := P) (w := w) (d := D) (fun hx hy _ hq => ih hx hy hq D (by omega)) hcx hcy fs.toList hs
    rw [zac]
    rw [← Array.forIn_toList, this]
    cases q <;> rfl
   case interface ms =>
    have hs : zbV P (zcl P h d) x y = some q := hq'
    unfold Op.equalIn
    rw [zb7 ht]
    cases x <;> try (simp [zbV] at hs; done)
    case inil =>
     cases hx
     cases y <;> try (simp [zbV] at hs; done)
     case inil => cases hy; cases hs; rfl
     case ifc ty vy => cases hy; cases hs; rfl
    case ifc tx vx =>
     cases hx with
     | ifc _ _ ux hvx =>
       cases y <;> try (simp [zbV] at hs; done)
       case inil => cases hy; cases hs; rfl
       case ifc ty vy =>
        cases hy with
        | ifc _ _ uy hvy =>
          have hs' : ite' (Nat.beq tx ty) (bnd (P.info? tx) fun i => grd i.comparable (zcl P h d tx vx vy)) (some false) = some q := hs
          rw [zav] at hs'
          rcases hs' with ⟨hb, hs'⟩ | ⟨hb, hs'⟩
          ·rw [zah] at hb; subst hb
           rw [zab] at hs'
           obtain ⟨i, hi, hs'⟩ := hs'
           rw [zaf] at hs'
           simp only [ne_eq, not_true_eq_false, if_false]
           rw [zac, zb6 hi]
           simp only [hs'.1, Bool.not_true, Bool.false_eq_true, if_false]
           exact ih hvx hvy hs'.2 D (by omega)
          ·cases hs'
           have hne : tx ≠ ty := fun he => by rw [(zah tx ty).2 he] at hb; cases hb
           simp only [ne_eq, hne, not_false_eq_true, if_true]
           rfl
   case pointer el =>
    have hs : bnd (zaQ P el) (fun z => grd (Nat.blt 0 z) (grd (zar (.pointer el) x) (grd (zar (.pointer el) y) (zas h x y)))) = some q := hq'
    rw [zab] at hs
    obtain ⟨z, hz, hs⟩ := hs
    rw [zaf, zat] at hs
    obtain ⟨h1, h2, h3⟩ := plain hs.2
    exact zgd s ht hz hs.1 hx hy h1 h2 h3 D
   case slice a =>
    obtain ⟨h1, h2, h3⟩ := plain hq'
    exact zdj ht (.inl ⟨a, rfl⟩) hx hy h1 h2 h3 D
   case map a b =>
    obtain ⟨h1, h2, h3⟩ := plain hq'
    exact zdj ht (.inr (.inl ⟨a, b, rfl⟩)) hx hy h1 h2 h3 D
   case func a b c =>
    obtain ⟨h1, h2, h3⟩ := plain hq'
    exact zdj ht (.inr (.inr ⟨a, b, c, rfl⟩)) hx hy h1 h2 h3 D
   case bool =>
    obtain ⟨h1, h2, h3⟩ := plain hq'
    have hsx : zaW x = true := by cases x <;> simp [zar] at h1 <;> rfl
    have hsy : zaW y = true := by cases y <;> simp [zar] at h2 <;> rfl
    refine zez ht (zaS s hx hy h3 hsx hsy) D (.inl ⟨?_, rfl⟩)
    cases x <;> simp [zar] at h1
    exact ⟨_, vr_bool hx⟩
   case int k =>
    obtain ⟨h1, h2, h3⟩ := plain hq'
    have hsx : zaW x = true := by cases x <;> simp [zar] at h1 <;> rfl
    have hsy : zaW y = true := by cases y <;> simp [zar] at h2 <;> rfl
    refine zez ht (zaS s hx hy h3 hsx hsy) D (.inr (.inl ?_))
    cases x <;> simp [zar] at h1
    ·exact ⟨_, _, _, vr_int hx, rfl⟩
    ·cases hx; exact ⟨_, _, _, rfl, rfl⟩
   case string =>
    obtain ⟨h1, h2, h3⟩ := plain hq'
    have hsx : zaW x = true := by cases x <;> simp [zar] at h1 <;> rfl
    have hsy : zaW y = true := by cases y <;> simp [zar] at h2 <;> rfl
    refine zez ht (zaS s hx hy h3 hsx hsy) D (.inr (.inr ⟨?_, rfl⟩))
    cases x <;> simp [zar] at h1
    ·exact ⟨_, zbm hx⟩
    ·cases hx; exact ⟨_, rfl⟩
   all_goals
    have := (plain hq').1
    simp [zar] at this
end
end
end Go.Xe
end
section
namespace Go.Xe
noncomputable section
theorem wrap_small {k : IntKind} {n : Int} (h : zgk k n = true) : k.wrap n = n := by
 cases k <;> simp [zgk] at h
 case i64 =>
  have hr : -9223372036854775808 ≤ n ∧ n < 9223372036854775808 := by
   cases n with
   | ofNat m => rw [iE_nat, zat] at h; simp; omega
   | negSucc m => rw [iE_neg, zat] at h; rw [Int.negSucc_eq]; omega
  have hw : IntKind.i64.wrap n = (if n % 18446744073709551616 ≥ 9223372036854775808 then n % 18446744073709551616 - 18446744073709551616 else n % 18446744073709551616) := by
   unfold IntKind.wrap
   simp [IntKind.bits, IntKind.signed]
  rw [hw]
  split <;> omega
 case u8 =>
  have hr : 0 ≤ n ∧ n < 256 := by
   cases n with
   | ofNat m => rw [iE_nat, zat] at h; simp; omega
   | negSucc m => simp at h
  have hw : IntKind.u8.wrap n = n % 256 := by
   unfold IntKind.wrap
   simp [IntKind.bits, IntKind.signed]
  rw [hw]; omega
theorem zdk (k : IntKind) (n : Int) : zfw k n = k.wrap n := by
 unfold zfw
 rw [zaB]
 by_cases h : zgk k n = true
 ·rw [if_pos h, wrap_small h]
 ·rw [if_neg h]
section
variable {P : Program} {e : Env} {w : World}
theorem binInt_sound {op : BinOp} {k : IntKind} {m n : Int} {v : AV} (hop : isShift op = false) (hv : binInt op k m n = some v) (t : TypeId) :
  Runs P (binOp op t (.int k m) (.int k n)) w fun u w' => VR e v u ∧ w' = w := by
 have key : ∀ {s : Sem Value} {u : Value}, s.run P w = .ok u w → VR e v u → Runs P s w fun u w' => VR e v u ∧ w' = w := fun h1 h2 => ⟨_, w, h1, h2, rfl⟩
 have hk : ¬ (k ≠ k) := fun h => h rfl
 cases op <;> simp [isShift] at hop
 case add =>
  cases hv
  rw [zaZ, zdk]
  refine ⟨.int k (k.wrap (m + n)), w, ?_, .int _ _, rfl⟩
  show Sem.run P (if k ≠ k then _ else _) w = _; rw [if_neg hk]; rfl
 case sub =>
  cases hv
  rw [zaZ, zdk]
  refine ⟨.int k (k.wrap (m - n)), w, ?_, .int _ _, rfl⟩
  show Sem.run P (if k ≠ k then _ else _) w = _; rw [if_neg hk]; rfl
 case mul =>
  cases hv
  rw [zaZ, zdk]
  refine ⟨.int k (k.wrap (m * n)), w, ?_, .int _ _, rfl⟩
  show Sem.run P (if k ≠ k then _ else _) w = _; rw [if_neg hk]; rfl
 case quo =>
  have hv' : ite' (zdA n 0) none (some (zbT k (zfw k (m.tdiv n)))) = some v := hv
  rw [zav] at hv'
  rcases hv' with ⟨_, hv'⟩ | ⟨hn, hv'⟩
  ·cases hv'
  cases hv'
  rw [zcs, beq_eq_false_iff_ne] at hn
  rw [zaZ, zdk]
  refine ⟨.int k (k.wrap (m.tdiv n)), w, ?_, .int _ _, rfl⟩
  show Sem.run P (if k ≠ k then _ else _) w = _; rw [if_neg hk]; show Sem.run P (if n = 0 then _ else _) w = _; rw [if_neg hn]; rfl
 case rem =>
  have hv' : ite' (zdA n 0) none (some (zbT k (m.tmod n))) = some v := hv
  rw [zav] at hv'
  rcases hv' with ⟨_, hv'⟩ | ⟨hn, hv'⟩
  ·cases hv'
  cases hv'
  rw [zcs, beq_eq_false_iff_ne] at hn
  rw [zaZ]
  refine ⟨.int k (m.tmod n), w, ?_, .int _ _, rfl⟩
  show Sem.run P (if k ≠ k then _ else _) w = _; rw [if_neg hk]; show Sem.run P (if n = 0 then _ else _) w = _; rw [if_neg hn]; rfl
 case and =>
  have hv' : some (zbT k (k.wrap (BitVec.ofInt k.bits m &&& BitVec.ofInt k.bits n).toNat)) = some v := hv
  cases hv'
  rw [zaZ]
  refine ⟨_, w, ?_, .int _ _, rfl⟩
  show Sem.run P (if k ≠ k then _ else _) w = _; rw [if_neg hk]; rfl
 case or =>
  have hv' : some (zbT k (k.wrap (BitVec.ofInt k.bits m ||| BitVec.ofInt k.bits n).toNat)) = some v := hv
  cases hv'
  rw [zaZ]
  refine ⟨_, w, ?_, .int _ _, rfl⟩
  show Sem.run P (if k ≠ k then _ else _) w = _; rw [if_neg hk]; rfl
 case xor =>
  have hv' : some (zbT k (k.wrap (BitVec.ofInt k.bits m ^^^ BitVec.ofInt k.bits n).toNat)) = some v := hv
  cases hv'
  rw [zaZ]
  refine ⟨_, w, ?_, .int _ _, rfl⟩
  show Sem.run P (if k ≠ k then _ else _) w = _; rw [if_neg hk]; rfl
 case andNot =>
  have hv' : some (zbT k (k.wrap (BitVec.ofInt k.bits m &&& ~~~(BitVec.ofInt k.bits n)).toNat)) = some v := hv
  cases hv'
  rw [zaZ]
  refine ⟨_, w, ?_, .int _ _, rfl⟩
  show Sem.run P (if k ≠ k then _ else _) w = _; rw [if_neg hk]; rfl
 case eql =>
  cases hv
  rw [zaM, zcs]
  refine ⟨.bool (m == n), w, ?_, .bool _, rfl⟩
  show Sem.run P (if k ≠ k then _ else _) w = _; rw [if_neg hk]; rfl
 case neq =>
  cases hv
  rw [zaM, zcs, ite'_ft]
  refine ⟨.bool (m != n), w, ?_, .bool _, rfl⟩
  show Sem.run P (if k ≠ k then _ else _) w = _; rw [if_neg hk]; rfl
 case lss =>
  cases hv
  rw [zaM, zc9]
  refine ⟨_, w, ?_, .bool _, rfl⟩
  show Sem.run P (if k ≠ k then _ else _) w = _; rw [if_neg hk]; rfl
 case leq =>
  cases hv
  rw [zaM]
  have : leInt m n = decide (m ≤ n) := by
   unfold leInt; rw [ite'_ft, zc9, Bool.eq_iff_iff]; simp
  rw [this]
  refine ⟨_, w, ?_, .bool _, rfl⟩
  show Sem.run P (if k ≠ k then _ else _) w = _; rw [if_neg hk]; rfl
 case gtr =>
  cases hv
  rw [zaM, zc9]
  refine ⟨_, w, ?_, .bool _, rfl⟩
  show Sem.run P (if k ≠ k then _ else _) w = _; rw [if_neg hk]; rfl
 case geq =>
  cases hv
  rw [zaM]
  have : leInt n m = decide (m ≥ n) := by
   unfold leInt; rw [ite'_ft, zc9, Bool.eq_iff_iff]; simp
  rw [this]
  refine ⟨_, w, ?_, .bool _, rfl⟩
  show Sem.run P (if k ≠ k then _ else _) w = _; rw [if_neg hk]; rfl
theorem shiftA_sound {op : BinOp} {k k' : IntKind} {m : Int} {n : Nat} {v : AV} (hv : shiftA op k m n = some v) (t : TypeId) :
  Runs P (binOp op t (.int k m) (.int k' (n : Int))) w fun u w' => VR e v u ∧ w' = w := by
 have hn : ¬ ((n : Int) < 0) := by omega
 cases op <;> try (simp [shiftA] at hv; done)
 case shl =>
  cases hv
  rw [zaZ]
  refine ⟨.int k (k.wrap (m * 2 ^ (min n k.bits))), w, ?_, .int _ _, rfl⟩
  show Sem.run P (Op.shift .shl k m k' (n : Int)) w = _
  unfold Op.shift; rw [if_neg hn]; rfl
 case shr =>
  cases hv
  rw [zaZ]
  refine ⟨.int k (m.fdiv (2 ^ (min n k.bits))), w, ?_, .int _ _, rfl⟩
  show Sem.run P (Op.shift .shr k m k' (n : Int)) w = _
  unfold Op.shift; rw [if_neg hn]; rfl
theorem less_other : ∀ (a b : List UInt8), Op.bytesLess b a = !(Op.bytesLess a b || a == b)
 | [], [] => rfl
 | [], _ :: _ => rfl
 | _ :: _, [] => rfl
 | x :: a, y :: b => by
   have ih := less_other a b
   show (y < x || (y == x && Op.bytesLess b a)) = !((x < y || (x == y && Op.bytesLess a b)) || (x :: a == y :: b))
   have hc : (x :: a == y :: b) = (x == y && a == b) := rfl
   rw [hc, ih]
   by_cases h1 : x = y
   ·subst h1
    have : ¬ (x < x) := UInt8.lt_irrefl x
    simp [this]
   ·have h2 : (x == y) = false := by rw [beq_eq_false_iff_ne]; exact h1
    have h3 : (y == x) = false := by rw [beq_eq_false_iff_ne]; exact fun h => h1 h.symm
    rw [h2, h3]
    simp only [Bool.false_and, Bool.or_false]
    by_cases h4 : x < y
    ·have : ¬ (y < x) := fun h => by rw [UInt8.lt_iff_toNat_lt] at h h4; omega
     simp [h4, this]
    ·have : y < x := by
      rw [UInt8.lt_iff_toNat_lt] at h4 ⊢
      have : x.toNat ≠ y.toNat := fun h => h1 (UInt8.toNat_inj.1 h)
      omega
     simp [h4, this]
theorem i64max : IntKind.i64.max = 9223372036854775807 := by decide
theorem binStr_sound {op : BinOp} {n c n' c' : Nat} {v : AV} (hv : binStr op n c n' c' = some v) (t : TypeId) :
  Runs P (binOp op t (.string (zae n c)) (.string (zae n' c'))) w fun u w' => VR e v u ∧ w' = w := by
 have hb : ∀ op, binOp op t (.string (zae n c)) (.string (zae n' c')) = Op.stringOp op (zae n c) (zae n' c') := fun op => by cases op <;> rfl
 rw [hb]
 have e1 : ((zae n c).toList == (zae n' c').toList) = zeh n c n' c' := by
  rw [zfK, Bool.eq_iff_iff, decide_eq_true_iff, zdL]
 have e2 : Op.bytesLess (zae n c).toList (zae n' c').toList = zgb (Nat.succ n) n c n' c' := by
  rw [ltStr_iff _ _ _ _ _ (Nat.lt_succ_self n), ByteArray.toList_eq, ByteArray.toList_eq]; rfl
 have e3 : zgb (Nat.succ n') n' c' n c = !(zgb (Nat.succ n) n c n' c' || zeh n c n' c') := by
  rw [ltStr_iff _ _ _ _ _ (Nat.lt_succ_self n), ltStr_iff _ _ _ _ _ (Nat.lt_succ_self n'), less_other]
  congr 2
  rw [Bool.eq_iff_iff, beq_iff_eq, zdL, bytesOf_inj, zfJ]
 cases op <;> try (simp [binStr] at hv; done)
 case add =>
  have hv' : grd (Nat.ble (n + n') 1000000000) (some (mkStr (n + n') (c % 256 ^ n + 256 ^ n * c'))) = some v := hv
  rw [zaf, zaV] at hv'
  obtain ⟨hle, hv'⟩ := hv'
  cases hv'
  rw [zd8]
  refine ⟨.string (zae n c ++ zae n' c'), w, ?_, ?_, rfl⟩
  ·simp only [Op.stringOp, zaI]
   rw [if_neg]
   ·rfl
   ·rw [i64max]; omega
  ·rw [zcJ]; exact .str _ _
 case eql =>
  cases hv
  rw [zaM, ← e1]
  exact ⟨_, w, rfl, .bool _, rfl⟩
 case neq =>
  cases hv
  rw [zaM, ite'_ft, ← e1]
  exact ⟨_, w, rfl, .bool _, rfl⟩
 case lss =>
  cases hv
  rw [zaM, ← e2]
  exact ⟨_, w, rfl, .bool _, rfl⟩
 case leq =>
  cases hv
  rw [zaM, ite'_ft, e3, Bool.not_not, ← e2, ← e1]
  exact ⟨_, w, rfl, .bool _, rfl⟩
 case gtr =>
  cases hv
  rw [zaM, e3, ← e2, ← e1]
  exact ⟨_, w, rfl, .bool _, rfl⟩
 case geq =>
  cases hv
  rw [zaM, ite'_ft, ← e2]
  exact ⟨_, w, rfl, .bool _, rfl⟩
theorem ze0 {op : BinOp} {t : TypeId} {x y : Operand} {ua ub : Value} (h1 : ¬ (ua = .nilIface ∧ ub = .nilIface)) (h2 : ¬ ((∃ l, ua = .agg l) ∧ ∃ l, ub = .agg l)) :
  (eqGuard op t x y ua ub).run P w = .ok () w := by
 by_cases hop : op = .eql ∨ op = .neq
 ·rcases hop with rfl | rfl <;> cases ua <;> cases ub <;> first | rfl | exact absurd ⟨rfl, rfl⟩ h1 | exact absurd ⟨⟨_, rfl⟩, ⟨_, rfl⟩⟩ h2
 ·cases op <;> first | rfl | exact absurd (Or.inl rfl) hop | exact absurd (Or.inr rfl) hop
theorem emptyIface_eq {d : TypeDesc} (h : zd1 d = true) : ∃ ms : Array (String × TypeId), d = .interface ms ∧ ms.isEmpty = true := by
 cases d <;> simp [zd1] at h
 rename_i ms
 refine ⟨ms, rfl, ?_⟩
 rw [zaD] at h
 simpa using h
def ByEqual (t : TypeId) (ua ub : Value) : Prop :=
 binOp .eql t ua ub = (do let r ← Op.equal t ua ub; pure (.bool r)) ∧ binOp .neq t ua ub = (do let r ← Op.equal t ua ub; pure (.bool (!r)))
theorem byEqual_of {h : AH} {t : TypeId} {d : Nat} {a b : AV} {ua ub : Value} (ha : VR e a ua) (hb : VR e b ub) {q : Bool} (hq : zcl P h (d + 1) t a b = some q) :
  (zaW a = true ∧ zaW b = true) ∨ ByEqual t ua ub := by
 have hq' : bnd (P.underlying t) (fun td => zgu P h (zcl P h d) t a b td) = some q := hq
 rw [zab] at hq'
 obtain ⟨td, ht, hq'⟩ := hq'
 have plain : ∀ (hk : grd (zar td a) (grd (zar td b) (zas h a b)) = some q), zar td a = true ∧ zar td b = true := fun hk => by
  rw [zaf, zaf] at hk; exact ⟨hk.1, hk.2.1⟩
 cases td
 case struct fs =>
  have hs : aggV a (fun xs => aggV b fun ys => ite' (P.stoodInHeld t) none (goF P (zcl P h d) xs ys fs.toList)) = some q := hq'
  rw [zdi] at hs
  obtain ⟨xs, rfl, hs⟩ := hs
  rw [zdi] at hs
  obtain ⟨ys, rfl, _⟩ := hs
  obtain ⟨us, rfl, _⟩ := vr_agg ha
  obtain ⟨vs, rfl, _⟩ := vr_agg hb
  exact .inr ⟨rfl, rfl⟩
 case interface ms =>
  have hs : zbV P (zcl P h d) a b = some q := hq'
  cases a <;> try (simp [zbV] at hs; done)
  case inil =>
   cases ha
   cases b <;> try (simp [zbV] at hs; done)
   case inil => cases hb; exact .inr ⟨rfl, rfl⟩
   case ifc => cases hb; exact .inr ⟨rfl, rfl⟩
  case ifc =>
   cases ha
   cases b <;> try (simp [zbV] at hs; done)
   case inil => cases hb; exact .inr ⟨rfl, rfl⟩
   case ifc => cases hb; exact .inr ⟨rfl, rfl⟩
 case pointer el =>
  have hs : bnd (zaQ P el) (fun z => grd (Nat.blt 0 z) (grd (zar (.pointer el) a) (grd (zar (.pointer el) b) (zas h a b)))) = some q := hq'
  rw [zab] at hs
  obtain ⟨z, hz, hs⟩ := hs
  rw [zaf] at hs
  obtain ⟨h1, h2⟩ := plain hs.2
  cases a <;> simp [zar] at h1 <;> cases b <;> simp [zar] at h2 <;> cases ha <;> cases hb <;> exact .inr ⟨rfl, rfl⟩
 case slice =>
  obtain ⟨h1, h2⟩ := plain hq'
  cases a <;> simp [zar] at h1 <;> cases b <;> simp [zar] at h2 <;> cases ha <;> cases hb <;> exact .inr ⟨rfl, rfl⟩
 case map =>
  obtain ⟨h1, h2⟩ := plain hq'
  cases a <;> simp [zar] at h1 <;> cases b <;> simp [zar] at h2 <;> cases ha <;> cases hb <;> exact .inr ⟨rfl, rfl⟩
 case func =>
  obtain ⟨h1, h2⟩ := plain hq'
  cases a <;> simp [zar] at h1 <;> cases b <;> simp [zar] at h2 <;> cases ha <;> cases hb <;> exact .inr ⟨rfl, rfl⟩
 case bool =>
  obtain ⟨h1, h2⟩ := plain hq'
  cases a <;> simp [zar] at h1 <;> cases b <;> simp [zar] at h2 <;> cases ha <;> cases hb <;> exact .inr ⟨rfl, rfl⟩
 case int =>
  obtain ⟨h1, h2⟩ := plain hq'
  cases a <;> simp [zar] at h1 <;> cases b <;> simp [zar] at h2 <;> exact .inl ⟨rfl, rfl⟩
 case string =>
  obtain ⟨h1, h2⟩ := plain hq'
  cases a <;> simp [zar] at h1 <;> cases b <;> simp [zar] at h2 <;> exact .inl ⟨rfl, rfl⟩
 all_goals
  have := (plain hq').1
  simp [zar] at this
theorem eqOp_eq {op : BinOp} {q : Bool} {v : AV} (h : eqOp op q = some v) : (op = .eql ∧ v = .bool q) ∨ (op = .neq ∧ v = .bool (!q)) := by
 cases op <;> try (simp [eqOp] at h; done)
 case eql => left; cases h; exact ⟨rfl, zaM q⟩
 case neq => right; cases h; exact ⟨rfl, by rw [ite'_ft, zaM]⟩
theorem binEq_val {h : AH} (s : Sat e h w.heap) {op : BinOp} {t : TypeId} {a b v : AV} {ua ub : Value} (ha : VR e a ua) (hb : VR e b ub) {d : Nat} (hd : d + 1 ≤ Op.maxDepth) {q : Bool}
  (hq : zcl P h (d + 1) t a b = some q) (hop : eqOp op q = some v) : Runs P (binOp op t ua ub) w fun u w' => VR e v u ∧ w' = w := by
 have heq := equalA_sound (P := P) (w := w) s (d + 1) ha hb hq Op.maxDepth hd
 have heq' : (Op.equal t ua ub).run P w = .ok q w := heq
 rcases byEqual_of ha hb hq with ⟨h1, h2⟩ | ⟨h1, h2⟩
 ·have hq' : bnd (P.underlying t) (fun td => zgu P h (zcl P h d) t a b td) = some q := hq
  rw [zab] at hq'
  obtain ⟨td, ht, hq'⟩ := hq'
  have hc : Cmp ua ub q := by
   have hs : ∃ r : Option Bool, zas h a b = r := ⟨_, rfl⟩
   cases td
   case interface => cases a <;> simp [zaW] at h1 <;> (simp [zgu, zbV] at hq')
   case struct => cases a <;> simp [zaW] at h1 <;> (simp [zgu, aggV] at hq')
   case pointer el =>
    have hs : bnd (zaQ P el) (fun z => grd (Nat.blt 0 z) (grd (zar (.pointer el) a) (grd (zar (.pointer el) b) (zas h a b)))) = some q := hq'
    rw [zab] at hs
    obtain ⟨z, hz, hs⟩ := hs
    rw [zaf, zaf, zaf] at hs
    exact zaS s ha hb hs.2.2.2 h1 h2
   all_goals
    have hs : grd _ (grd _ (zas h a b)) = some q := hq'
    rw [zaf, zaf] at hs
    exact zaS s ha hb hs.2.2 h1 h2
  cases hc with
  | bool x y =>
    rcases eqOp_eq hop with ⟨rfl, rfl⟩ | ⟨rfl, rfl⟩
    ·refine ⟨.bool (x == y), w, ?_, .bool _, rfl⟩
     show Sem.run P (Op.equal t (.bool x) (.bool y) >>= fun r => pure (Value.bool r)) w = _
     rw [zac, heq']; rfl
    ·refine ⟨.bool (!(x == y)), w, ?_, .bool _, rfl⟩
     show Sem.run P (Op.equal t (.bool x) (.bool y) >>= fun r => pure (Value.bool (!r))) w = _
     rw [zac, heq']; rfl
  | int k x y =>
    have hk : ¬ (k ≠ k) := fun h => h rfl
    rcases eqOp_eq hop with ⟨rfl, rfl⟩ | ⟨rfl, rfl⟩
    ·refine ⟨.bool (x == y), w, ?_, .bool _, rfl⟩
     show Sem.run P (if k ≠ k then _ else _) w = _; rw [if_neg hk]; rfl
    ·refine ⟨.bool (!(x == y)), w, ?_, .bool _, rfl⟩
     show Sem.run P (if k ≠ k then _ else _) w = _; rw [if_neg hk]; rfl
  | string x y =>
    rcases eqOp_eq hop with ⟨rfl, rfl⟩ | ⟨rfl, rfl⟩
    ·refine ⟨.bool (x.toList == y.toList), w, rfl, ?_, rfl⟩
     rw [zfK]; exact .bool _
    ·refine ⟨.bool (!(x.toList == y.toList)), w, rfl, ?_, rfl⟩
     rw [zfK]; exact .bool _
 ·rcases eqOp_eq hop with ⟨rfl, rfl⟩ | ⟨rfl, rfl⟩
  ·rw [h1]
   refine Runs.bind' ⟨q, w, heq', Runs.pure' ⟨.bool _, rfl⟩⟩
  ·rw [h2]
   refine Runs.bind' ⟨q, w, heq', Runs.pure' ⟨.bool _, rfl⟩⟩
end
end
end Go.Xe
end
section
namespace Go.Xe
noncomputable section
section
variable {P : Program} {e : Env} {w : World}
theorem equalA_shape {h : AH} {d : Nat} {t : TypeId} {a b : AV} {q : Bool} (hq : zcl P h (d + 1) t a b = some q) : (∀ i, a ≠ .sval i) ∧ ∀ i, b ≠ .sval i := by
 have hq' : bnd (P.underlying t) (fun td => zgu P h (zcl P h d) t a b td) = some q := hq
 rw [zab] at hq'
 obtain ⟨td, ht, hq'⟩ := hq'
 have plain : ∀ (hk : grd (zar td a) (grd (zar td b) (zas h a b)) = some q), (∀ i, a ≠ .sval i) ∧ ∀ i, b ≠ .sval i := fun hk => by
  rw [zaf, zaf] at hk
  obtain ⟨h1, h2, _⟩ := hk
  constructor <;> rintro i rfl
  ·cases td <;> simp [zar] at h1
  ·cases td <;> simp [zar] at h2
 cases td
 case struct fs =>
  have hs : aggV a (fun xs => aggV b fun ys => ite' (P.stoodInHeld t) none (goF P (zcl P h d) xs ys fs.toList)) = some q := hq'
  rw [zdi] at hs
  obtain ⟨xs, rfl, hs⟩ := hs
  rw [zdi] at hs
  obtain ⟨ys, rfl, _⟩ := hs
  exact ⟨(fun _ h => by cases h), (fun _ h => by cases h)⟩
 case interface ms =>
  have hs : zbV P (zcl P h d) a b = some q := hq'
  cases a <;> try (simp [zbV] at hs; done)
  all_goals (cases b <;> try (simp [zbV] at hs; done))
  all_goals exact ⟨(fun _ h => by cases h), (fun _ h => by cases h)⟩
 case pointer el =>
  have hs : bnd (zaQ P el) (fun z => grd (Nat.blt 0 z) (grd (zar (.pointer el) a) (grd (zar (.pointer el) b) (zas h a b)))) = some q := hq'
  rw [zab] at hs
  obtain ⟨z, hz, hs⟩ := hs
  rw [zaf] at hs
  exact plain hs.2
 all_goals exact plain hq'
theorem vr_nilIface {a : AV} (ha : VR e a .nilIface) (hn : ∀ i, a ≠ .sval i) : a = .inil := by
 cases ha with
 | inil => rfl
 | sval i v h hc => exact absurd rfl (hn i)
theorem vr_aggIs {a : AV} {l : Array Value} (ha : VR e a (.agg l)) (hn : ∀ i, a ≠ .sval i) : ∃ x, a = .agg x := by
 cases ha with
 | agg x => exact ⟨x, rfl⟩
 | sval i v h hc => exact absurd rfl (hn i)
theorem guard_sound {op : BinOp} {t : TypeId} {x y : Operand} {a b : AV} {ua ub : Value} (ha : VR e a ua) (hb : VR e b ub) (na : ∀ i, a ≠ .sval i) (nb : ∀ i, b ≠ .sval i)
  (hg : guardA P t (ite' (zaL x) true (zaL y)) a b = true) : (eqGuard op t x y ua ub).run P w = .ok () w := by
 by_cases h1 : ua = .nilIface ∧ ub = .nilIface
 ·obtain ⟨rfl, rfl⟩ := h1
  obtain rfl := vr_nilIface ha na
  obtain rfl := vr_nilIface hb nb
  have hg' : ite' (ite' (zaL x) true (zaL y)) true (oE false zd1 (P.underlying t)) = true := hg
  rw [zcE, zcE] at hg'
  have hcst : (zaL x || zaL y) = true → (eqGuard op t x y .nilIface .nilIface).run P w = .ok () w := fun hc => by
   cases op <;> try rfl
   all_goals
    cases x <;> simp [zaL] at hc <;> first | rfl | (cases y <;> simp at hc <;> rfl)
  cases hc : (zaL x || zaL y) with
  | true => exact hcst hc
  | false =>
    rw [hc, Bool.false_or] at hg'
    cases hu : P.underlying t with
    | none => rw [hu] at hg'; cases hg'
    | some d =>
      rw [hu] at hg'
      obtain ⟨ms, rfl, he⟩ := emptyIface_eq hg'
      have hgi : (Op.eqGuardIn Op.maxDepth t .nilIface .nilIface).run P w = .ok false w := by
       rw [show Op.maxDepth = 9999 + 1 from rfl]
       show Sem.run P ((underlying t).bind _) w = _
       rw [run_bind, zdG hu]
       show Sem.run P (pure !ms.isEmpty) w = _
       rw [he]; rfl
      have ht : (do if ← Op.eqGuardIn Op.maxDepth t .nilIface .nilIface then unsupported (.noEntry "binop/eql: two nil values of an interface type with methods, neither of them the literal nil") : Sem Unit).run P w = .ok () w := by
       rw [zac, hgi]; rfl
      cases op <;> try rfl
      all_goals
       cases x <;> simp [zaL] at hc <;> first | exact ht | (cases y <;> simp at hc <;> exact ht)
 ·by_cases h2 : (∃ l, ua = .agg l) ∧ ∃ l, ub = .agg l
  ·obtain ⟨⟨l, rfl⟩, ⟨l', rfl⟩⟩ := h2
   obtain ⟨xs, rfl⟩ := vr_aggIs ha na
   obtain ⟨ys, rfl⟩ := vr_aggIs hb nb
   have hg' : ite' (P.eqGuardType P.depth t) false true = true := hg
   rw [ite'_ft] at hg'
   have hm : P.eqGuardType P.depth t = false := by simpa using hg'
   cases op <;> simp [eqGuard, run_program, hm]
  ·exact ze0 h1 h2
theorem under_iff {i : Int} {lo : Nat} (h : under i lo = true) : i < (lo : Int) := by
 cases i with
 | ofNat n => have h' : Nat.blt n lo = true := h; rw [zat] at h'; simp; omega
 | negSucc n => rw [Int.negSucc_eq]; omega
theorem fits_iff {m : Nat} {fam : List ME} (h : fits m fam = true) : ∀ kv ∈ fam, ∀ kn kc, kv.k = .str kn kc → m + kn ≤ 1000000000 := by
 induction fam with
 | nil => simp
 | cons x fam ih =>
   intro kv hkv kn kc hk
   have h' : (match x.k with | .str n _ => ite' (Nat.ble (Nat.add m n) 1000000000) (fits m fam) false | _ => false) = true := h
   rcases List.mem_cons.1 hkv with rfl | hkv
   ·rw [hk] at h'
    simp only [] at h'
    rw [zaj] at h'
    have := (Bool.and_eq_true_iff.1 h').1
    rw [zaV] at this
    exact this
   ·cases hx : x.1 <;> rw [hx] at h' <;> simp only [] at h' <;> try (cases h'; done)
    rw [zaj] at h'
    exact ih (Bool.and_eq_true_iff.1 h').2 kv hkv kn kc hk
theorem zcL {h : AH} (s : Sat e h w.heap) {op : BinOp} {t : TypeId} {x y : Operand} {a b v : AV} {ua ub : Value} (ha : VR e a ua) (hb : VR e b ub)
  (hv : binEq P op t (ite' (zaL x) true (zaL y)) a b h = some v) :
  Runs P (do eqGuard op t x y ua ub; binOp op t ua ub) w fun u w' => VR e v u ∧ w' = w := by
 unfold binEq at hv
 rw [zaf, zab] at hv
 obtain ⟨hg, q, hq, hop⟩ := hv
 obtain ⟨na, nb⟩ := equalA_shape (d := 39) hq
 exact Runs.bind' ⟨(), w, guard_sound ha hb na nb hg, binEq_val s ha hb (d := 39) (by decide) hq hop⟩
theorem binA_sound {h : AH} (s : Sat e h w.heap) {op : BinOp} {t : TypeId} {x y : Operand} {a b v : AV} {ua ub : Value} (ha : VR e a ua) (hb : VR e b ub)
  (hv : binA P op t (ite' (zaL x) true (zaL y)) a b h = some v) :
  Runs P (do eqGuard op t x y ua ub; binOp op t ua ub) w fun u w' => VR e v u ∧ w' = w := by
 have plain : ∀ {Q : Value → World → Prop}, ¬ (ua = .nilIface ∧ ub = .nilIface) → ¬ ((∃ l, ua = .agg l) ∧ ∃ l, ub = .agg l) → Runs P (binOp op t ua ub) w Q →
   Runs P (do eqGuard op t x y ua ub; binOp op t ua ub) w Q := fun h1 h2 k => Runs.bind' ⟨(), w, ze0 h1 h2, k⟩
 cases a <;> try (exact zcL s ha hb hv)
 case int k m =>
  cases b <;> try (exact zcL s ha hb hv)
  case int k' n =>
   cases vr_int ha
   cases vr_int hb
   have hv' : ite' (isShift op) (natI n fun n => shiftA op k m n) (grd (zck k k') (binInt op k m n)) = some v := hv
   refine plain (by rintro ⟨h, _⟩; cases h) (by rintro ⟨⟨_, h⟩, _⟩; cases h) ?_
   rw [zav] at hv'
   rcases hv' with ⟨_, hv'⟩ | ⟨hn, hv'⟩
   ·rw [natI_eq] at hv'
    obtain ⟨n, rfl, hv'⟩ := hv'
    exact shiftA_sound hv' t
   ·rw [zaf, zbY] at hv'
    obtain ⟨rfl, hv'⟩ := hv'
    exact binInt_sound hn hv' t
 case str n c =>
  cases b <;> try (simp [binA] at hv; done)
  case str n' c' =>
   cases zbm ha
   cases zbm hb
   exact plain (by rintro ⟨h, _⟩; cases h) (by rintro ⟨⟨_, h⟩, _⟩; cases h) (binStr_sound hv t)
  case sstr pn pc i =>
   have hv' : ite' (isAdd op) (grd (zb9 h.fb h.fam i) (grd (fits (Nat.add n pn) h.fam) (some (frc (preS n c pn pc).1 fun n' => frc (preS n c pn pc).2 fun c' => .sstr n' c' i))))
    (binEq P op t (ite' (zaL x) true (zaL y)) (.str n c) (.sstr pn pc i) h) = some v := hv
   rw [zav] at hv'
   rcases hv' with ⟨hop, hv'⟩ | ⟨_, hv'⟩
   ·cases op <;> simp [isAdd] at hop
    rw [zaf, zaf] at hv'
    obtain ⟨hi, hf, hv'⟩ := hv'
    cases hv'
    cases zbm ha
    cases hb with
    | sstr _ _ _ s' hs' =>
      obtain ⟨kv, hkv, kn, kc, hk, rfl, _⟩ := s.fam.key i s' hi hs'
      have hlen := fits_iff hf kv hkv kn kc hk
      refine plain (by rintro ⟨h, _⟩; cases h) (by rintro ⟨⟨_, h⟩, _⟩; cases h) ?_
      refine ⟨.string (zae n c ++ (zae pn pc ++ zae kn kc)), w, ?_, ?_, rfl⟩
      ·show Sem.run P (Op.stringOp .add (zae n c) (zae pn pc ++ zae kn kc)) w = _
       simp only [Op.stringOp, ByteArray.size_append, zaI]
       rw [if_neg]
       ·rfl
       ·rw [i64max]
        have : n + pn + kn ≤ 1000000000 := hlen
        omega
      ·rw [zaG, zaG, ← ByteArray.append_assoc, zcJ]
       exact .sstr _ _ _ _ hs'
   ·exact zcL s ha hb hv'
 case num g j lo hi =>
  cases b <;> try (exact zcL s ha hb hv)
  case int k n =>
   have hv' : ite' (isGtr op) (grd (zck k .i64) (grd (under n lo) (some (.bool true)))) (binEq P op t (ite' (zaL x) true (zaL y)) (.num g j lo hi) (.int k n) h) = some v := hv
   rw [zav] at hv'
   rcases hv' with ⟨hop, hv'⟩ | ⟨_, hv'⟩
   ·cases op <;> simp [isGtr] at hop
    rw [zaf, zaf, zbY] at hv'
    obtain ⟨rfl, hu, hv'⟩ := hv'
    cases hv'
    cases vr_int hb
    cases ha with
    | num _ _ _ _ m hm h1 h2 =>
      refine plain (by rintro ⟨h, _⟩; cases h) (by rintro ⟨⟨_, h⟩, _⟩; cases h) ?_
      have hlt : n < (m : Int) := by
       have := under_iff hu
       omega
      refine ⟨.bool (decide ((m : Int) > n)), w, rfl, ?_, rfl⟩
      rw [decide_eq_true hlt]; exact .bool _
   ·exact zcL s ha hb hv'
theorem unA_sound {op : UnOp} {a v : AV} {ua : Value} (ha : VR e a ua) (hv : unA op a = some v) : Runs P (Op.unary op ua) w fun u w' => VR e v u ∧ w' = w := by
 cases op <;> try (simp [unA] at hv; done)
 case neg =>
  cases a <;> try (simp [unA] at hv; done)
  case int k n =>
   cases vr_int ha
   cases hv
   rw [zaZ, zdk]
   exact ⟨.int k (k.wrap (0 - n)), w, rfl, .int _ _, rfl⟩
 case not =>
  cases a <;> try (simp [unA] at hv; done)
  case bool b =>
   cases vr_bool ha
   cases hv
   rw [zaM, ite'_ft]
   exact ⟨.bool (!b), w, rfl, .bool _, rfl⟩
 case xor =>
  cases a <;> try (simp [unA] at hv; done)
  case int k n =>
   cases vr_int ha
   have hv' : bnd (intBits .xor k (if k.signed then -1 else k.max) n) (fun n => some (zbT k n)) = some v := hv
   rw [zab] at hv'
   obtain ⟨m, hm, hv'⟩ := hv'
   cases hv'
   cases hm
   rw [zaZ]
   exact ⟨_, w, rfl, .int _ _, rfl⟩
end
end
end Go.Xe
end
