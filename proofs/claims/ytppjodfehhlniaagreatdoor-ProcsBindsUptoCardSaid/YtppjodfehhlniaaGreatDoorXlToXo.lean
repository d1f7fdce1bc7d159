/-
  Arithmetic and comparisons: the executor against the model; The two-place and the one-place operators, whole; Conversions; Slicing. Conditions: none.
-/
import Derived.Test.YtppjodfehhlniaaGreatDoorXdToXk
set_option linter.unusedVariables false
set_option linter.unusedSimpArgs false
set_option linter.unusedSectionVars false
section
namespace Go.Xe
noncomputable section
theorem zjI {k : IntKind} {n : Int} (h : zht k n = true) : k.wrap n = n := by
 cases k <;> simp [zht] at h
 case i64 =>
  have hr : -9223372036854775808 ≤ n ∧ n < 9223372036854775808 := by
   cases n with
   | ofNat m => rw [iE_nat, zau] at h; simp; omega
   | negSucc m => rw [iE_neg, zau] at h; rw [Int.negSucc_eq]; omega
  have hw : IntKind.i64.wrap n = (if n % 18446744073709551616 ≥ 9223372036854775808 then n % 18446744073709551616 - 18446744073709551616 else n % 18446744073709551616) := by
   unfold IntKind.wrap
   simp [IntKind.bits, IntKind.signed]
  rw [hw]
  split <;> omega
 case u8 =>
  have hr : 0 ≤ n ∧ n < 256 := by
   cases n with
   | ofNat m => rw [iE_nat, zau] at h; simp; omega
   | negSucc m => simp at h
  have hw : IntKind.u8.wrap n = n % 256 := by
   unfold IntKind.wrap
   simp [IntKind.bits, IntKind.signed]
  rw [hw]; omega
theorem zdR (k : IntKind) (n : Int) : zgp k n = k.wrap n := by
 unfold zgp
 rw [zaK]
 by_cases h : zht k n = true
 ·rw [if_pos h, zjI h]
 ·rw [if_neg h]
section
variable {P : Program} {e : Env} {w : World}
theorem zlJ {op : BinOp} {k : IntKind} {m n : Int} {v : AV} (hop : zkj op = false) (hv : zqn op k m n = some v) (t : TypeId) :
  Runs P (binOp op t (.int k m) (.int k n)) w fun u w' => VR e v u ∧ w' = w := by
 have key : ∀ {s : Sem Value} {u : Value}, s.run P w = .ok u w → VR e v u → Runs P s w fun u w' => VR e v u ∧ w' = w := fun h1 h2 => ⟨_, w, h1, h2, rfl⟩
 have hk : ¬ (k ≠ k) := fun h => h rfl
 cases op <;> simp [zkj] at hop
 case add =>
  cases hv
  rw [za6, zdR]
  refine ⟨.int k (k.wrap (m + n)), w, ?_, .int _ _, rfl⟩
  show Sem.run P (if k ≠ k then _ else _) w = _; rw [if_neg hk]; rfl
 case sub =>
  cases hv
  rw [za6, zdR]
  refine ⟨.int k (k.wrap (m - n)), w, ?_, .int _ _, rfl⟩
  show Sem.run P (if k ≠ k then _ else _) w = _; rw [if_neg hk]; rfl
 case mul =>
  cases hv
  rw [za6, zdR]
  refine ⟨.int k (k.wrap (m * n)), w, ?_, .int _ _, rfl⟩
  show Sem.run P (if k ≠ k then _ else _) w = _; rw [if_neg hk]; rfl
 case quo =>
  have hv' : ite' (zgn n 0) none (some (zca k (zgp k (m.tdiv n)))) = some v := hv
  rw [zav] at hv'
  rcases hv' with ⟨_, hv'⟩ | ⟨hn, hv'⟩
  ·cases hv'
  cases hv'
  rw [zdP, beq_eq_false_iff_ne] at hn
  rw [za6, zdR]
  refine ⟨.int k (k.wrap (m.tdiv n)), w, ?_, .int _ _, rfl⟩
  show Sem.run P (if k ≠ k then _ else _) w = _; rw [if_neg hk]; show Sem.run P (if n = 0 then _ else _) w = _; rw [if_neg hn]; rfl
 case rem =>
  have hv' : ite' (zgn n 0) none (some (zca k (m.tmod n))) = some v := hv
  rw [zav] at hv'
  rcases hv' with ⟨_, hv'⟩ | ⟨hn, hv'⟩
  ·cases hv'
  cases hv'
  rw [zdP, beq_eq_false_iff_ne] at hn
  rw [za6]
  refine ⟨.int k (m.tmod n), w, ?_, .int _ _, rfl⟩
  show Sem.run P (if k ≠ k then _ else _) w = _; rw [if_neg hk]; show Sem.run P (if n = 0 then _ else _) w = _; rw [if_neg hn]; rfl
 case and =>
  have hv' : some (zca k (k.wrap (BitVec.ofInt k.bits m &&& BitVec.ofInt k.bits n).toNat)) = some v := hv
  cases hv'
  rw [za6]
  refine ⟨_, w, ?_, .int _ _, rfl⟩
  show Sem.run P (if k ≠ k then _ else _) w = _; rw [if_neg hk]; rfl
 case or =>
  have hv' : some (zca k (k.wrap (BitVec.ofInt k.bits m ||| BitVec.ofInt k.bits n).toNat)) = some v := hv
  cases hv'
  rw [za6]
  refine ⟨_, w, ?_, .int _ _, rfl⟩
  show Sem.run P (if k ≠ k then _ else _) w = _; rw [if_neg hk]; rfl
 case xor =>
  have hv' : some (zca k (k.wrap (BitVec.ofInt k.bits m ^^^ BitVec.ofInt k.bits n).toNat)) = some v := hv
  cases hv'
  rw [za6]
  refine ⟨_, w, ?_, .int _ _, rfl⟩
  show Sem.run P (if k ≠ k then _ else _) w = _; rw [if_neg hk]; rfl
 case andNot =>
  have hv' : some (zca k (k.wrap (BitVec.ofInt k.bits m &&& ~~~(BitVec.ofInt k.bits n)).toNat)) = some v := hv
  cases hv'
  rw [za6]
  refine ⟨_, w, ?_, .int _ _, rfl⟩
  show Sem.run P (if k ≠ k then _ else _) w = _; rw [if_neg hk]; rfl
 case eql =>
  cases hv
  rw [zaV, zdP]
  refine ⟨.bool (m == n), w, ?_, .bool _, rfl⟩
  show Sem.run P (if k ≠ k then _ else _) w = _; rw [if_neg hk]; rfl
 case neq =>
  cases hv
  rw [zaV, zdP, ite'_ft]
  refine ⟨.bool (m != n), w, ?_, .bool _, rfl⟩
  show Sem.run P (if k ≠ k then _ else _) w = _; rw [if_neg hk]; rfl
 case lss =>
  cases hv
  rw [zaV, zdv]
  refine ⟨_, w, ?_, .bool _, rfl⟩
  show Sem.run P (if k ≠ k then _ else _) w = _; rw [if_neg hk]; rfl
 case leq =>
  cases hv
  rw [zaV]
  have : zpo m n = decide (m ≤ n) := by
   unfold zpo; rw [ite'_ft, zdv, Bool.eq_iff_iff]; simp
  rw [this]
  refine ⟨_, w, ?_, .bool _, rfl⟩
  show Sem.run P (if k ≠ k then _ else _) w = _; rw [if_neg hk]; rfl
 case gtr =>
  cases hv
  rw [zaV, zdv]
  refine ⟨_, w, ?_, .bool _, rfl⟩
  show Sem.run P (if k ≠ k then _ else _) w = _; rw [if_neg hk]; rfl
 case geq =>
  cases hv
  rw [zaV]
  have : zpo n m = decide (m ≥ n) := by
   unfold zpo; rw [ite'_ft, zdv, Bool.eq_iff_iff]; simp
  rw [this]
  refine ⟨_, w, ?_, .bool _, rfl⟩
  show Sem.run P (if k ≠ k then _ else _) w = _; rw [if_neg hk]; rfl
theorem zlK {op : BinOp} {k k' : IntKind} {m : Int} {n : Nat} {v : AV} (hv : zoC op k m n = some v) (t : TypeId) :
  Runs P (binOp op t (.int k m) (.int k' (n : Int))) w fun u w' => VR e v u ∧ w' = w := by
 have hn : ¬ ((n : Int) < 0) := by omega
 cases op <;> try (simp [zoC] at hv; done)
 case shl =>
  cases hv
  rw [za6]
  refine ⟨.int k (k.wrap (m * 2 ^ (min n k.bits))), w, ?_, .int _ _, rfl⟩
  show Sem.run P (Op.shift .shl k m k' (n : Int)) w = _
  unfold Op.shift; rw [if_neg hn]; rfl
 case shr =>
  cases hv
  rw [za6]
  refine ⟨.int k (m.fdiv (2 ^ (min n k.bits))), w, ?_, .int _ _, rfl⟩
  show Sem.run P (Op.shift .shr k m k' (n : Int)) w = _
  unfold Op.shift; rw [if_neg hn]; rfl
theorem zjJ : ∀ (a b : List UInt8), Op.bytesLess b a = !(Op.bytesLess a b || a == b)
 | [], [] => rfl
 | [], _ :: _ => rfl
 | _ :: _, [] => rfl
 | x :: a, y :: b => by
   have ih := zjJ a b
   show (y < x || (y == x && Op.bytesLess b a)) = !((x < y || (x == y && Op.bytesLess a b)) || (x :: a == y :: b))
   have hc : (x :: a == y :: b) = (x == y && a == b) := rfl
   rw [hc, ih]
   by_cases h1 : x = y
   ·subst h1
    have : ¬ (x < x) := UInt8.lt_irrefl x
    simp [this]
   ·have h2 : (x == y) = false := by rw [beq_eq_false_iff_ne]; exact h1
    have h3 : (y == x) = false := by rw [beq_eq_false_iff_ne]; exact fun h => h1 h.symm
    rw [h2, h3]
    simp only [Bool.false_and, Bool.or_false]
    by_cases h4 : x < y
    ·have : ¬ (y < x) := fun h => by rw [UInt8.lt_iff_toNat_lt] at h h4; omega
     simp [h4, this]
    ·have : y < x := by
      rw [UInt8.lt_iff_toNat_lt] at h4 ⊢
      have : x.toNat ≠ y.toNat := fun h => h1 (UInt8.toNat_inj.1 h)
      omega
     simp [h4, this]
theorem zt3 : IntKind.i64.max = 9223372036854775807 := by decide
theorem zlL {op : BinOp} {n c n' c' : Nat} {v : AV} (hv : zqo op n c n' c' = some v) (t : TypeId) :
  Runs P (binOp op t (.string (zad n c)) (.string (zad n' c'))) w fun u w' => VR e v u ∧ w' = w := by
 have hb : ∀ op, binOp op t (.string (zad n c)) (.string (zad n' c')) = Op.stringOp op (zad n c) (zad n' c') := fun op => by cases op <;> rfl
 rw [hb]
 have e1 : ((zad n c).toList == (zad n' c').toList) = zeY n c n' c' := by
  rw [zgD, Bool.eq_iff_iff, decide_eq_true_iff, zeo]
 have e2 : Op.bytesLess (zad n c).toList (zad n' c').toList = zhj (Nat.succ n) n c n' c' := by
  rw [zh8 _ _ _ _ _ (Nat.lt_succ_self n), ByteArray.toList_eq, ByteArray.toList_eq]; rfl
 have e3 : zhj (Nat.succ n') n' c' n c = !(zhj (Nat.succ n) n c n' c' || zeY n c n' c') := by
  rw [zh8 _ _ _ _ _ (Nat.lt_succ_self n), zh8 _ _ _ _ _ (Nat.lt_succ_self n'), zjJ]
  congr 2
  rw [Bool.eq_iff_iff, beq_iff_eq, zeo, zh6, zgC]
 cases op <;> try (simp [zqo] at hv; done)
 case add =>
  have hv' : grd (Nat.ble (n + n') 1000000000) (some (zlq (n + n') (c % 256 ^ n + 256 ^ n * c'))) = some v := hv
  rw [zac, za1] at hv'
  obtain ⟨hle, hv'⟩ := hv'
  cases hv'
  rw [zeN]
  refine ⟨.string (zad n c ++ zad n' c'), w, ?_, ?_, rfl⟩
  ·simp only [Op.stringOp, zaM]
   rw [if_neg]
   ·rfl
   ·rw [zt3]; omega
  ·rw [zcW]; exact .str _ _
 case eql =>
  cases hv
  rw [zaV, ← e1]
  exact ⟨_, w, rfl, .bool _, rfl⟩
 case neq =>
  cases hv
  rw [zaV, ite'_ft, ← e1]
  exact ⟨_, w, rfl, .bool _, rfl⟩
 case lss =>
  cases hv
  rw [zaV, ← e2]
  exact ⟨_, w, rfl, .bool _, rfl⟩
 case leq =>
  cases hv
  rw [zaV, ite'_ft, e3, Bool.not_not, ← e2, ← e1]
  exact ⟨_, w, rfl, .bool _, rfl⟩
 case gtr =>
  cases hv
  rw [zaV, e3, ← e2, ← e1]
  exact ⟨_, w, rfl, .bool _, rfl⟩
 case geq =>
  cases hv
  rw [zaV, ite'_ft, ← e2]
  exact ⟨_, w, rfl, .bool _, rfl⟩
theorem zfK {op : BinOp} {t : TypeId} {x y : Operand} {ua ub : Value} (h1 : ¬ (ua = .nilIface ∧ ub = .nilIface)) (h2 : ¬ ((∃ l, ua = .agg l) ∧ ∃ l, ub = .agg l)) :
  (eqGuard op t x y ua ub).run P w = .ok () w := by
 by_cases hop : op = .eql ∨ op = .neq
 ·rcases hop with rfl | rfl <;> cases ua <;> cases ub <;> first | rfl | exact absurd ⟨rfl, rfl⟩ h1 | exact absurd ⟨⟨_, rfl⟩, ⟨_, rfl⟩⟩ h2
 ·cases op <;> first | rfl | exact absurd (Or.inl rfl) hop | exact absurd (Or.inr rfl) hop
theorem zkK {d : TypeDesc} (h : zeG d = true) : ∃ ms : Array (String × TypeId), d = .interface ms ∧ ms.isEmpty = true := by
 cases d <;> simp [zeG] at h
 rename_i ms
 refine ⟨ms, rfl, ?_⟩
 rw [zaG] at h
 simpa using h
def zux (t : TypeId) (ua ub : Value) : Prop :=
 binOp .eql t ua ub = (do let r ← Op.equal t ua ub; pure (.bool r)) ∧ binOp .neq t ua ub = (do let r ← Op.equal t ua ub; pure (.bool (!r)))
theorem zpA {h : AH} {t : TypeId} {d : Nat} {a b : AV} {ua ub : Value} (ha : VR e a ua) (hb : VR e b ub) {q : Bool} (hq : zcC P h (d + 1) t a b = some q) :
  (za2 a = true ∧ za2 b = true) ∨ zux t ua ub := by
 have hq' : bnd (P.underlying t) (fun td => zhH P h (zcC P h d) t a b td) = some q := hq
 rw [zaa] at hq'
 obtain ⟨td, ht, hq'⟩ := hq'
 have plain : ∀ (hk : grd (zaq td a) (grd (zaq td b) (zar h a b)) = some q), zaq td a = true ∧ zaq td b = true := fun hk => by
  rw [zac, zac] at hk; exact ⟨hk.1, hk.2.1⟩
 cases td
 case struct fs =>
  have hs : aggV a (fun xs => aggV b fun ys => ite' (P.stoodInHeld t) none (goF P (zcC P h d) xs ys fs.toList)) = some q := hq'
  rw [zdM] at hs
  obtain ⟨xs, rfl, hs⟩ := hs
  rw [zdM] at hs
  obtain ⟨ys, rfl, _⟩ := hs
  obtain ⟨us, rfl, _⟩ := zh1 ha
  obtain ⟨vs, rfl, _⟩ := zh1 hb
  exact .inr ⟨rfl, rfl⟩
 case interface ms =>
  have hs : zcb P (zcC P h d) a b = some q := hq'
  cases a <;> try (simp [zcb] at hs; done)
  case inil =>
   cases ha
   cases b <;> try (simp [zcb] at hs; done)
   case inil => cases hb; exact .inr ⟨rfl, rfl⟩
   case ifc => cases hb; exact .inr ⟨rfl, rfl⟩
  case ifc =>
   cases ha
   cases b <;> try (simp [zcb] at hs; done)
   case inil => cases hb; exact .inr ⟨rfl, rfl⟩
   case ifc => cases hb; exact .inr ⟨rfl, rfl⟩
 case pointer el =>
  have hs : bnd (zaX P el) (fun z => grd (Nat.blt 0 z) (grd (zaq (.pointer el) a) (grd (zaq (.pointer el) b) (zar h a b)))) = some q := hq'
  rw [zaa] at hs
  obtain ⟨z, hz, hs⟩ := hs
  rw [zac] at hs
  obtain ⟨h1, h2⟩ := plain hs.2
  cases a <;> simp [zaq] at h1 <;> cases b <;> simp [zaq] at h2 <;> cases ha <;> cases hb <;> exact .inr ⟨rfl, rfl⟩
 case slice =>
  obtain ⟨h1, h2⟩ := plain hq'
  cases a <;> simp [zaq] at h1 <;> cases b <;> simp [zaq] at h2 <;> cases ha <;> cases hb <;> exact .inr ⟨rfl, rfl⟩
 case map =>
  obtain ⟨h1, h2⟩ := plain hq'
  cases a <;> simp [zaq] at h1 <;> cases b <;> simp [zaq] at h2 <;> cases ha <;> cases hb <;> exact .inr ⟨rfl, rfl⟩
 case func =>
  obtain ⟨h1, h2⟩ := plain hq'
  cases a <;> simp [zaq] at h1 <;> cases b <;> simp [zaq] at h2 <;> cases ha <;> cases hb <;> exact .inr ⟨rfl, rfl⟩
 case bool =>
  obtain ⟨h1, h2⟩ := plain hq'
  cases a <;> simp [zaq] at h1 <;> cases b <;> simp [zaq] at h2 <;> cases ha <;> cases hb <;> exact .inr ⟨rfl, rfl⟩
 case int =>
  obtain ⟨h1, h2⟩ := plain hq'
  cases a <;> simp [zaq] at h1 <;> cases b <;> simp [zaq] at h2 <;> exact .inl ⟨rfl, rfl⟩
 case string =>
  obtain ⟨h1, h2⟩ := plain hq'
  cases a <;> simp [zaq] at h1 <;> cases b <;> simp [zaq] at h2 <;> exact .inl ⟨rfl, rfl⟩
 all_goals
  have := (plain hq').1
  simp [zaq] at this
theorem zkL {op : BinOp} {q : Bool} {v : AV} (h : eqOp op q = some v) : (op = .eql ∧ v = .bool q) ∨ (op = .neq ∧ v = .bool (!q)) := by
 cases op <;> try (simp [eqOp] at h; done)
 case eql => left; cases h; exact ⟨rfl, zaV q⟩
 case neq => right; cases h; exact ⟨rfl, by rw [ite'_ft, zaV]⟩
theorem zqK {h : AH} (s : Sat e h w.heap) {op : BinOp} {t : TypeId} {a b v : AV} {ua ub : Value} (ha : VR e a ua) (hb : VR e b ub) {d : Nat} (hd : d + 1 ≤ Op.maxDepth) {q : Bool}
  (hq : zcC P h (d + 1) t a b = some q) (hop : eqOp op q = some v) : Runs P (binOp op t ua ub) w fun u w' => VR e v u ∧ w' = w := by
 have heq := zlI (P := P) (w := w) s (d + 1) ha hb hq Op.maxDepth hd
 have heq' : (Op.equal t ua ub).run P w = .ok q w := heq
 rcases zpA ha hb hq with ⟨h1, h2⟩ | ⟨h1, h2⟩
 ·have hq' : bnd (P.underlying t) (fun td => zhH P h (zcC P h d) t a b td) = some q := hq
  rw [zaa] at hq'
  obtain ⟨td, ht, hq'⟩ := hq'
  have hc : Cmp ua ub q := by
   have hs : ∃ r : Option Bool, zar h a b = r := ⟨_, rfl⟩
   cases td
   case interface => cases a <;> simp [za2] at h1 <;> (simp [zhH, zcb] at hq')
   case struct => cases a <;> simp [za2] at h1 <;> (simp [zhH, aggV] at hq')
   case pointer el =>
    have hs : bnd (zaX P el) (fun z => grd (Nat.blt 0 z) (grd (zaq (.pointer el) a) (grd (zaq (.pointer el) b) (zar h a b)))) = some q := hq'
    rw [zaa] at hs
    obtain ⟨z, hz, hs⟩ := hs
    rw [zac, zac, zac] at hs
    exact zaY s ha hb hs.2.2.2 h1 h2
   all_goals
    have hs : grd _ (grd _ (zar h a b)) = some q := hq'
    rw [zac, zac] at hs
    exact zaY s ha hb hs.2.2 h1 h2
  cases hc with
  | bool x y =>
    rcases zkL hop with ⟨rfl, rfl⟩ | ⟨rfl, rfl⟩
    ·refine ⟨.bool (x == y), w, ?_, .bool _, rfl⟩
     show Sem.run P (Op.equal t (.bool x) (.bool y) >>= fun r => pure (Value.bool r)) w = _
     rw [zab, heq']; rfl
    ·refine ⟨.bool (!(x == y)), w, ?_, .bool _, rfl⟩
     show Sem.run P (Op.equal t (.bool x) (.bool y) >>= fun r => pure (Value.bool (!r))) w = _
     rw [zab, heq']; rfl
  | int k x y =>
    have hk : ¬ (k ≠ k) := fun h => h rfl
    rcases zkL hop with ⟨rfl, rfl⟩ | ⟨rfl, rfl⟩
    ·refine ⟨.bool (x == y), w, ?_, .bool _, rfl⟩
     show Sem.run P (if k ≠ k then _ else _) w = _; rw [if_neg hk]; rfl
    ·refine ⟨.bool (!(x == y)), w, ?_, .bool _, rfl⟩
     show Sem.run P (if k ≠ k then _ else _) w = _; rw [if_neg hk]; rfl
  | string x y =>
    rcases zkL hop with ⟨rfl, rfl⟩ | ⟨rfl, rfl⟩
    ·refine ⟨.bool (x.toList == y.toList), w, rfl, ?_, rfl⟩
     rw [zgD]; exact .bool _
    ·refine ⟨.bool (!(x.toList == y.toList)), w, rfl, ?_, rfl⟩
     rw [zgD]; exact .bool _
 ·rcases zkL hop with ⟨rfl, rfl⟩ | ⟨rfl, rfl⟩
  ·rw [h1]
   refine Runs.bind' ⟨q, w, heq', Runs.pure' ⟨.bool _, rfl⟩⟩
  ·rw [h2]
   refine Runs.bind' ⟨q, w, heq', Runs.pure' ⟨.bool _, rfl⟩⟩
end
end
end Go.Xe
end
section
namespace Go.Xe
noncomputable section
section
variable {P : Program} {e : Env} {w : World}
theorem zlM {h : AH} {d : Nat} {t : TypeId} {a b : AV} {q : Bool} (hq : zcC P h (d + 1) t a b = some q) : (∀ i, a ≠ .sval i) ∧ ∀ i, b ≠ .sval i := by
 have hq' : bnd (P.underlying t) (fun td => zhH P h (zcC P h d) t a b td) = some q := hq
 rw [zaa] at hq'
 obtain ⟨td, ht, hq'⟩ := hq'
 have plain : ∀ (hk : grd (zaq td a) (grd (zaq td b) (zar h a b)) = some q), (∀ i, a ≠ .sval i) ∧ ∀ i, b ≠ .sval i := fun hk => by
  rw [zac, zac] at hk
  obtain ⟨h1, h2, _⟩ := hk
  constructor <;> rintro i rfl
  ·cases td <;> simp [zaq] at h1
  ·cases td <;> simp [zaq] at h2
 cases td
 case struct fs =>
  have hs : aggV a (fun xs => aggV b fun ys => ite' (P.stoodInHeld t) none (goF P (zcC P h d) xs ys fs.toList)) = some q := hq'
  rw [zdM] at hs
  obtain ⟨xs, rfl, hs⟩ := hs
  rw [zdM] at hs
  obtain ⟨ys, rfl, _⟩ := hs
  exact ⟨(fun _ h => by cases h), (fun _ h => by cases h)⟩
 case interface ms =>
  have hs : zcb P (zcC P h d) a b = some q := hq'
  cases a <;> try (simp [zcb] at hs; done)
  all_goals (cases b <;> try (simp [zcb] at hs; done))
  all_goals exact ⟨(fun _ h => by cases h), (fun _ h => by cases h)⟩
 case pointer el =>
  have hs : bnd (zaX P el) (fun z => grd (Nat.blt 0 z) (grd (zaq (.pointer el) a) (grd (zaq (.pointer el) b) (zar h a b)))) = some q := hq'
  rw [zaa] at hs
  obtain ⟨z, hz, hs⟩ := hs
  rw [zac] at hs
  exact plain hs.2
 all_goals exact plain hq'
theorem zid {a : AV} (ha : VR e a .nilIface) (hn : ∀ i, a ≠ .sval i) : a = .inil := by
 cases ha with
 | inil => rfl
 | sval i v h hc => exact absurd rfl (hn i)
theorem zoR {a : AV} {l : Array Value} (ha : VR e a (.agg l)) (hn : ∀ i, a ≠ .sval i) : ∃ x, a = .agg x := by
 cases ha with
 | agg x => exact ⟨x, rfl⟩
 | sval i v h hc => exact absurd rfl (hn i)
theorem znt {op : BinOp} {t : TypeId} {x y : Operand} {a b : AV} {ua ub : Value} (ha : VR e a ua) (hb : VR e b ub) (na : ∀ i, a ≠ .sval i) (nb : ∀ i, b ≠ .sval i)
  (hg : ztU P t (ite' (zaQ x) true (zaQ y)) a b = true) : (eqGuard op t x y ua ub).run P w = .ok () w := by
 by_cases h1 : ua = .nilIface ∧ ub = .nilIface
 ·obtain ⟨rfl, rfl⟩ := h1
  obtain rfl := zid ha na
  obtain rfl := zid hb nb
  have hg' : ite' (ite' (zaQ x) true (zaQ y)) true (oE false zeG (P.underlying t)) = true := hg
  rw [zcR, zcR] at hg'
  have hcst : (zaQ x || zaQ y) = true → (eqGuard op t x y .nilIface .nilIface).run P w = .ok () w := fun hc => by
   cases op <;> try rfl
   all_goals
    cases x <;> simp [zaQ] at hc <;> first | rfl | (cases y <;> simp at hc <;> rfl)
  cases hc : (zaQ x || zaQ y) with
  | true => exact hcst hc
  | false =>
    rw [hc, Bool.false_or] at hg'
    cases hu : P.underlying t with
    | none => rw [hu] at hg'; cases hg'
    | some d =>
      rw [hu] at hg'
      obtain ⟨ms, rfl, he⟩ := zkK hg'
      have hgi : (Op.eqGuardIn Op.maxDepth t .nilIface .nilIface).run P w = .ok false w := by
       rw [show Op.maxDepth = 9999 + 1 from rfl]
       show Sem.run P ((underlying t).bind _) w = _
       rw [run_bind, zej hu]
       show Sem.run P (pure !ms.isEmpty) w = _
       rw [he]; rfl
      have ht : (do if ← Op.eqGuardIn Op.maxDepth t .nilIface .nilIface then unsupported (.noEntry "binop/eql: two nil values of an interface type with methods, neither of them the literal nil") : Sem Unit).run P w = .ok () w := by
       rw [zab, hgi]; rfl
      cases op <;> try rfl
      all_goals
       cases x <;> simp [zaQ] at hc <;> first | exact ht | (cases y <;> simp at hc <;> exact ht)
 ·by_cases h2 : (∃ l, ua = .agg l) ∧ ∃ l, ub = .agg l
  ·obtain ⟨⟨l, rfl⟩, ⟨l', rfl⟩⟩ := h2
   obtain ⟨xs, rfl⟩ := zoR ha na
   obtain ⟨ys, rfl⟩ := zoR hb nb
   have hg' : ite' (P.eqGuardType P.depth t) false true = true := hg
   rw [ite'_ft] at hg'
   have hm : P.eqGuardType P.depth t = false := by simpa using hg'
   cases op <;> simp [eqGuard, run_program, hm]
  ·exact zfK h1 h2
theorem zqL {i : Int} {lo : Nat} (h : under i lo = true) : i < (lo : Int) := by
 cases i with
 | ofNat n => have h' : Nat.blt n lo = true := h; rw [zau] at h'; simp; omega
 | negSucc n => rw [Int.negSucc_eq]; omega
theorem zsI {m : Nat} {fam : List ME} (h : fits m fam = true) : ∀ kv ∈ fam, ∀ kn kc, kv.k = .str kn kc → m + kn ≤ 1000000000 := by
 induction fam with
 | nil => simp
 | cons x fam ih =>
   intro kv hkv kn kc hk
   have h' : (match x.k with | .str n _ => ite' (Nat.ble (Nat.add m n) 1000000000) (fits m fam) false | _ => false) = true := h
   rcases List.mem_cons.1 hkv with rfl | hkv
   ·rw [hk] at h'
    simp only [] at h'
    rw [zai] at h'
    have := (Bool.and_eq_true_iff.1 h').1
    rw [za1] at this
    exact this
   ·cases hx : x.1 <;> rw [hx] at h' <;> simp only [] at h' <;> try (cases h'; done)
    rw [zai] at h'
    exact ih (Bool.and_eq_true_iff.1 h').2 kv hkv kn kc hk
theorem zcY {h : AH} (s : Sat e h w.heap) {op : BinOp} {t : TypeId} {x y : Operand} {a b v : AV} {ua ub : Value} (ha : VR e a ua) (hb : VR e b ub)
  (hv : zkk P op t (ite' (zaQ x) true (zaQ y)) a b h = some v) :
  Runs P (do eqGuard op t x y ua ub; binOp op t ua ub) w fun u w' => VR e v u ∧ w' = w := by
 unfold zkk at hv
 rw [zac, zaa] at hv
 obtain ⟨hg, q, hq, hop⟩ := hv
 obtain ⟨na, nb⟩ := zlM (d := 39) hq
 exact Runs.bind' ⟨(), w, znt ha hb na nb hg, zqK s ha hb (d := 39) (by decide) hq hop⟩
theorem zjK {h : AH} (s : Sat e h w.heap) {op : BinOp} {t : TypeId} {x y : Operand} {a b v : AV} {ua ub : Value} (ha : VR e a ua) (hb : VR e b ub)
  (hv : binA P op t (ite' (zaQ x) true (zaQ y)) a b h = some v) :
  Runs P (do eqGuard op t x y ua ub; binOp op t ua ub) w fun u w' => VR e v u ∧ w' = w := by
 have plain : ∀ {Q : Value → World → Prop}, ¬ (ua = .nilIface ∧ ub = .nilIface) → ¬ ((∃ l, ua = .agg l) ∧ ∃ l, ub = .agg l) → Runs P (binOp op t ua ub) w Q →
   Runs P (do eqGuard op t x y ua ub; binOp op t ua ub) w Q := fun h1 h2 k => Runs.bind' ⟨(), w, zfK h1 h2, k⟩
 cases a <;> try (exact zcY s ha hb hv)
 case int k m =>
  cases b <;> try (exact zcY s ha hb hv)
  case int k' n =>
   cases zbd ha
   cases zbd hb
   have hv' : ite' (zkj op) (natI n fun n => zoC op k m n) (grd (zcB k k') (zqn op k m n)) = some v := hv
   refine plain (by rintro ⟨h, _⟩; cases h) (by rintro ⟨⟨_, h⟩, _⟩; cases h) ?_
   rw [zav] at hv'
   rcases hv' with ⟨_, hv'⟩ | ⟨hn, hv'⟩
   ·rw [zkI] at hv'
    obtain ⟨n, rfl, hv'⟩ := hv'
    exact zlK hv' t
   ·rw [zac, zcd] at hv'
    obtain ⟨rfl, hv'⟩ := hv'
    exact zlJ hn hv' t
 case str n c =>
  cases b <;> try (simp [binA] at hv; done)
  case str n' c' =>
   cases zbX ha
   cases zbX hb
   exact plain (by rintro ⟨h, _⟩; cases h) (by rintro ⟨⟨_, h⟩, _⟩; cases h) (zlL hv t)
  case sstr pn pc i =>
   have hv' : ite' (zuj op) (grd (zc8 h.fb h.fam i) (grd (fits (Nat.add n pn) h.fam) (some (frc (preS n c pn pc).1 fun n' => frc (preS n c pn pc).2 fun c' => .sstr n' c' i))))
    (zkk P op t (ite' (zaQ x) true (zaQ y)) (.str n c) (.sstr pn pc i) h) = some v := hv
   rw [zav] at hv'
   rcases hv' with ⟨hop, hv'⟩ | ⟨_, hv'⟩
   ·cases op <;> simp [zuj] at hop
    rw [zac, zac] at hv'
    obtain ⟨hi, hf, hv'⟩ := hv'
    cases hv'
    cases zbX ha
    cases hb with
    | sstr _ _ _ s' hs' =>
      obtain ⟨kv, hkv, kn, kc, hk, rfl, _⟩ := s.fam.key i s' hi hs'
      have hlen := zsI hf kv hkv kn kc hk
      refine plain (by rintro ⟨h, _⟩; cases h) (by rintro ⟨⟨_, h⟩, _⟩; cases h) ?_
      refine ⟨.string (zad n c ++ (zad pn pc ++ zad kn kc)), w, ?_, ?_, rfl⟩
      ·show Sem.run P (Op.stringOp .add (zad n c) (zad pn pc ++ zad kn kc)) w = _
       simp only [Op.stringOp, ByteArray.size_append, zaM]
       rw [if_neg]
       ·rfl
       ·rw [zt3]
        have : n + pn + kn ≤ 1000000000 := hlen
        omega
      ·rw [zaL, zaL, ← ByteArray.append_assoc, zcW]
       exact .sstr _ _ _ _ hs'
   ·exact zcY s ha hb hv'
 case num g j lo hi =>
  cases b <;> try (exact zcY s ha hb hv)
  case int k n =>
   have hv' : ite' (zuk op) (grd (zcB k .i64) (grd (under n lo) (some (.bool true)))) (zkk P op t (ite' (zaQ x) true (zaQ y)) (.num g j lo hi) (.int k n) h) = some v := hv
   rw [zav] at hv'
   rcases hv' with ⟨hop, hv'⟩ | ⟨_, hv'⟩
   ·cases op <;> simp [zuk] at hop
    rw [zac, zac, zcd] at hv'
    obtain ⟨rfl, hu, hv'⟩ := hv'
    cases hv'
    cases zbd hb
    cases ha with
    | num _ _ _ _ m hm h1 h2 =>
      refine plain (by rintro ⟨h, _⟩; cases h) (by rintro ⟨⟨_, h⟩, _⟩; cases h) ?_
      have hlt : n < (m : Int) := by
       have := zqL hu
       omega
      refine ⟨.bool (decide ((m : Int) > n)), w, rfl, ?_, rfl⟩
      rw [decide_eq_true hlt]; exact .bool _
   ·exact zcY s ha hb hv'
theorem zlN {op : UnOp} {a v : AV} {ua : Value} (ha : VR e a ua) (hv : unA op a = some v) : Runs P (Op.unary op ua) w fun u w' => VR e v u ∧ w' = w := by
 cases op <;> try (simp [unA] at hv; done)
 case neg =>
  cases a <;> try (simp [unA] at hv; done)
  case int k n =>
   cases zbd ha
   cases hv
   rw [za6, zdR]
   exact ⟨.int k (k.wrap (0 - n)), w, rfl, .int _ _, rfl⟩
 case not =>
  cases a <;> try (simp [unA] at hv; done)
  case bool b =>
   cases zdN ha
   cases hv
   rw [zaV, ite'_ft]
   exact ⟨.bool (!b), w, rfl, .bool _, rfl⟩
 case xor =>
  cases a <;> try (simp [unA] at hv; done)
  case int k n =>
   cases zbd ha
   have hv' : bnd (zm9 .xor k (if k.signed then -1 else k.max) n) (fun n => some (zca k n)) = some v := hv
   rw [zaa] at hv'
   obtain ⟨m, hm, hv'⟩ := hv'
   cases hv'
   cases hm
   rw [za6]
   exact ⟨_, w, rfl, .int _ _, rfl⟩
end
end
end Go.Xe
end
section
namespace Go.Xe
noncomputable section
def Out (e : Env) (h : AH) (w : World) (v : AV) (h' : AH) (u : Value) (w' : World) : Prop := ∃ e', Sat e' h' w'.heap ∧ VR e' v u ∧ Step e h w e' h' w'
def OutH (e : Env) (h : AH) (w : World) (h' : AH) (w' : World) : Prop := ∃ e', Sat e' h' w'.heap ∧ Step e h w e' h' w'
theorem Out.same {e : Env} {h : AH} {w : World} {v : AV} {u : Value} (s : Sat e h w.heap) (hv : VR e v u) : Out e h w v h u w := ⟨e, s, hv, .refl e h w⟩
theorem Runs.same {P : Program} {e : Env} {h : AH} {w : World} {v : AV} {c : Sem Value} (s : Sat e h w.heap) (r : Runs P c w fun u w' => VR e v u ∧ w' = w) :
  Runs P c w fun u w' => Out e h w v h u w' := r.mono fun _ _ ⟨hv, hw⟩ => by subst hw; exact Out.same s hv
section
variable {P : Program} {e : Env} {w : World}
theorem zag {t : TypeId} {d : TypeDesc} (h : P.underlying t = some d) {α : Type} {f : TypeDesc → Sem α} {w : World} : (underlying t >>= f).run P w = (f d).run P w := by
 rw [zab, zej h]
theorem zfL (n c : Nat) : zb0 (n + 1) c = .int .u8 (.ofNat (c % 256)) :: zb0 n (c / 256) := by
 show (frc (Nat.mod c 256) fun b => AV.int .u8 (.ofNat b)) :: zb0 n (Nat.div c 256) = _
 rw [zaL]; rfl
theorem zg3 (e : Env) (n c : Nat) : VRs e (zb0 n c) ((zaC n c).map fun b => Value.int .u8 (b.toNat : Int)) := by
 induction n generalizing c with
 | zero => exact .nil
 | succ n ih =>
   rw [zfL, zbj, List.map_cons]
   refine .cons _ _ _ _ ?_ (ih _)
   have : (UInt8.ofNat (c % 256)).toNat = c % 256 := by simp
   rw [this]; exact .int _ _
theorem zeq (n c : Nat) : (zb0 n c).length = n := by
 induction n generalizing c with
 | zero => rfl
 | succ n ih => rw [zfL, List.length_cons, ih]
theorem zoS {α : Type} {a : AV} {k : Nat → Option α} {y : α} : zna a k = some y ↔ ∃ b : Nat, a = .int .u8 (b : Int) ∧ b < 256 ∧ k b = some y := by
 constructor
 ·intro h
  cases a <;> try (simp [zna] at h; done)
  case int kd i =>
   cases kd <;> try (simp [zna] at h; done)
   have h' : natI i (fun b => grd (Nat.blt b 256) (k b)) = some y := h
   rw [zkI] at h'
   obtain ⟨b, rfl, h'⟩ := h'
   rw [zac, zau] at h'
   exact ⟨b, rfl, h'⟩
 ·rintro ⟨b, rfl, hb, hk⟩
  show grd (Nat.blt b 256) (k b) = some y
  rw [zac, zau]; exact ⟨hb, hk⟩
theorem zlO {l : List AV} {c : Nat} (h : zhI l = some c) {us : List Value} (hr : VRs e l us) :
  ∃ bs : List UInt8, us = bs.map (fun b => Value.int .u8 (b.toNat : Int)) ∧ bs.length = l.length ∧ zcp bs = c := by
 induction l generalizing c us with
 | nil => cases hr; cases h; exact ⟨[], rfl, rfl, rfl⟩
 | cons a l ih =>
   have h' : zna a (fun b => bnd (zhI l) fun c => some (Nat.add b (Nat.mul 256 c))) = some c := h
   rw [zoS] at h'
   obtain ⟨b, rfl, hb, h'⟩ := h'
   rw [zaa] at h'
   obtain ⟨c', hc', h'⟩ := h'
   cases h'
   cases hr with
   | cons _ _ _ _ hv ht =>
     obtain ⟨bs, rfl, hl, hc⟩ := ih hc' ht
     cases zbd hv
     have : (UInt8.ofNat b).toNat = b := by simp; omega
     refine ⟨UInt8.ofNat b :: bs, ?_, by simp [hl], ?_⟩
     ·rw [List.map_cons, this]
     ·rw [zcV, this, hc]; rfl
theorem zie {l : List AV} {v : AV} (h : zeH l = some v) {us : List Value} (hr : VRs e l us) :
  ∃ bs : List UInt8, us = bs.map (fun b => Value.int .u8 (b.toNat : Int)) ∧ VR e v (.string ⟨bs.toArray⟩) := by
 unfold zeH at h
 rw [zaa] at h
 obtain ⟨c, hc, h⟩ := h
 cases h
 obtain ⟨bs, hb, hl, hcode⟩ := zlO hc hr
 refine ⟨bs, hb, ?_⟩
 rw [zeN, ← zjH, hcode, hl, zaU]
 exact .str _ _
theorem zkM (bs : List UInt8) (acc : ByteArray) :
  ((forIn (bs.map fun b => Value.int .u8 (b.toNat : Int)) acc fun c s => (match c with
    | .int .u8 n => pure (ForInStep.yield (s.push (UInt8.ofNat n.toNat)))
    | _ => stuck "bytesToString: byte expected") : Sem ByteArray)).run P w = .ok ⟨acc.data ++ bs.toArray⟩ w := by
 induction bs generalizing acc with
 | nil => simp [List.forIn_nil]
 | cons b bs ih =>
   rw [List.map_cons, List.forIn_cons]
   show Sem.run P (forIn (bs.map fun b => Value.int .u8 (b.toNat : Int)) (acc.push (UInt8.ofNat (Int.toNat (b.toNat : Int)))) _) w = _
   rw [ih]
   congr 1
   apply ByteArray.ext
   simp [ByteArray.push]
theorem zgE {b : Addr} {n c : Nat} {us : Array Value} (hl : (loadCells b n).run P w = .ok us w) {bs : List UInt8} (hu : us.toList = bs.map (fun b => Value.int .u8 (b.toNat : Int))) :
  (Conv.bytesToString (.slice (some b) n c)).run P w = .ok (.string ⟨bs.toArray⟩) w := by
 show Sem.run P (loadCells b n >>= fun us => (forIn us ByteArray.empty fun c s => (match c with
   | .int .u8 n => pure (ForInStep.yield (s.push (UInt8.ofNat n.toNat)))
   | _ => stuck "bytesToString: byte expected")) >>= fun s => pure (Value.string s)) w = _
 rw [zab, hl]
 show Sem.run P ((forIn us ByteArray.empty _) >>= _) w = _
 rw [zab, ← Array.forIn_toList, hu, zkM]
 simp
theorem zfM {h : AH} (s : Sat e h w.heap) {x v : AV} {u : Value} (hx : VR e x u) (hv : zbW x h = some v) :
  Runs P (Conv.bytesToString u) w fun u' w' => VR e v u' ∧ w' = w := by
 cases x <;> try (simp [zbW] at hv; done)
 case snil => cases hx; cases hv; exact ⟨_, w, rfl, .str 0 0, rfl⟩
 case sle =>
  cases hx with
  | sle a c => cases hv; exact ⟨_, w, rfl, .str 0 0, rfl⟩
 case sl b o l z =>
  have hv' : grd (Nat.beq z 1) (bnd (zbo h b o l) zeH) = some v := hv
  rw [zac, zaa] at hv'
  obtain ⟨hz, r, hr, hv'⟩ := hv'
  obtain ⟨L, c, hL, _, _, _, rfl⟩ := zlE hx
  obtain ⟨us, hus, hvr⟩ := zbz (P := P) s hL hr
  obtain ⟨bs, hb, hvv⟩ := zie hv' hvr
  exact ⟨_, w, zgE hus hb, hvv, rfl⟩
theorem zuy (need old : Nat) (el : TypeId) : ∃ cap, need ≤ cap ∧ (choose (.appendCap need old el)).run P w = .ok cap { w with drawn := w.drawn + 1 } :=
 ⟨need + w.tape w.drawn (.appendCap need old el) % (2 ^ 63 - need), Nat.le_add_right _ _, rfl⟩
theorem zhm {α : Type} (a : Array α) (x : α) (f : α → α) : (a.push x).modify a.size f = a.push (f x) := by
 apply Array.ext
 ·simp
 ·intro i h1 h2
  rw [Array.getElem_modify, Array.getElem_push, Array.getElem_push]
  by_cases hi : i < a.size
  ·rw [dif_pos hi, dif_pos hi, if_neg (by omega)]
  ·rw [dif_neg hi, dif_neg hi, if_pos (by simp at h1; omega)]
theorem zgF (el : TypeId) (st : ByteArray) : ∃ cap, st.size ≤ cap ∧
  (Conv.stringToBytes el st).run P w = .ok (.slice (some ⟨w.heap.size, 0, none⟩) st.size cap)
   { w with drawn := w.drawn + 1, heap := w.heap.push (.cells ((st.data.map fun b => Value.int .u8 b.toNat) ++ Array.replicate (cap - st.size) (.int .u8 0)) el (cap, cap + 1)) } := by
 obtain ⟨cap, hle, h1⟩ := zuy (P := P) (w := w) st.size 0 el
 refine ⟨cap, hle, ?_⟩
 unfold Conv.stringToBytes
 rw [zab, h1]
 simp only []
 generalize hrow : ((st.data.map fun b => Value.int .u8 b.toNat) ++ Array.replicate (cap - st.size) (.int .u8 0)) = row
 have hsz : row.size = cap := by
  rw [← hrow, Array.size_append, Array.size_map, Array.size_replicate]
  have : st.data.size = st.size := rfl
  omega
 have h2 : ∀ w : World, (newRow el row).run P w = .ok ⟨w.heap.size, 0, none⟩ { w with heap := w.heap.push (.cells row el (0, 0)) } := fun _ => rfl
 rw [zab, h2]
 simp only []
 have h3 : ∀ w : World, (markStringish ⟨w.heap.size, 0, none⟩).run P { w with heap := w.heap.push (.cells row el (0, 0)) } = .ok () { w with heap := w.heap.push (.cells row el (cap, cap + 1)) } := fun w => by
  have hs : World.shape? { w with heap := w.heap.push (.cells row el (0, 0)) } w.heap.size = some (el, cap) := by
   simp [World.shape?, hsz]
  unfold markStringish
  rw [zab, run_shape]
  simp only [hs]
  rw [run_freeze]
  have hf : World.freeze { w with heap := w.heap.push (.cells row el (0, 0)) } { block := w.heap.size, off := cap } 1 = { w with heap := w.heap.push (.cells row el (cap, cap + 1)) } := by
   unfold World.freeze
   rw [if_neg (by decide)]
   simp only []
   congr 1
   rw [zhm]
   rfl
  rw [hf]
 have h4 := h3 { w with drawn := w.drawn + 1 }
 simp only [] at h4
 rw [zab, h4]
 rfl
theorem zpB {a : Nat} {arr : Array Value} {T : TypeId} {lo hi : Nat} (hH : w.heap[a]? = some (.cells arr T (lo, hi))) : (viewAt a).run P w = .ok none w := by
 have : w.shape? a = some (T, arr.size) := by simp [World.shape?, hH]
 show Sem.run P (shape a >>= _) w = _
 rw [zab, run_shape, this]; rfl
theorem zjL {a : Addr} {arr : Array Value} {T : TypeId} {lo hi : Nat} (hH : w.heap[a.block]? = some (.cells arr T (lo, hi))) : (Conv.seenAt a).run P w = .ok a w := by
 unfold Conv.seenAt
 rw [zab, zpB hH]; rfl
theorem znu {a : Nat} {arr : Array Value} {T : TypeId} {lo hi : Nat} (hH : w.heap[a]? = some (.cells arr T (lo, hi))) : (cellsIn a).run P w = .ok (some arr.size) w := by
 have : w.shape? a = some (T, arr.size) := by simp [World.shape?, hH]
 unfold cellsIn
 rw [zab, run_shape, this]; rfl
theorem zhn {h : AH} (s : Sat e h w.heap) {src dst t : TypeId} {x v : AV} {h' : AH} {u : Value} (hs : P.underlying src = some (.pointer t)) (hd : P.underlying dst = some .unsafePointer)
  (hx : VR e x u) (hv : zds P h t x = some (v, h')) : Runs P (Conv.unsafePointer src dst u) w fun u' w' => Out e h w v h' u' w' := by
 cases x <;> try (simp [zds] at hv; done)
 case pnil =>
  cases hx; cases hv
  refine ⟨.pointer none, w, ?_, .same s .pnil⟩
  unfold Conv.unsafePointer
  rw [zag hs, zag hd]; rfl
 case ptr b o =>
  have hv' : bnd (zaX P t) (fun n => grd (Nat.blt 0 n) (bnd (h.cells b) fun l => grd (Nat.blt o (len l)) (some (AV.ptr b o, h)))) = some (v, h') := hv
  rw [zaa] at hv'
  obtain ⟨n, hn, hv'⟩ := hv'
  rw [zac, zaa] at hv'
  obtain ⟨hn0, l, hl, hv'⟩ := hv'
  rw [zac] at hv'
  obtain ⟨hol, hv'⟩ := hv'
  cases hv'
  rw [zau] at hn0 hol
  rw [zaU] at hol
  obtain ⟨L, hL, rfl⟩ := zcT hx
  obtain ⟨ty, wr, fz, olds, hb⟩ := zeM hl
  obtain ⟨arr, T, lo, hi, hH, hR⟩ := s.row hb hL
  have hlt : L.off + o < arr.size := by have := hR.room; have := hR.len; omega
  refine ⟨_, w, ?_, .same s (.ptr b o L hL)⟩
  unfold Conv.unsafePointer
  rw [zag hs, zag hd]
  show Sem.run P (Conv.seenAt ⟨L.blk, L.off + o, none⟩ >>= _) w = _
  rw [zab, zjL hH]
  show Sem.run P (cellsIn L.blk >>= _) w = _
  rw [zab, znu hH]
  show Sem.run P (sizeOf t >>= _) w = _
  rw [zab, zbx hn]
  have h1 : ¬ (n = 0 ∨ (decide (L.off + o ≥ arr.size) && (none : Option Nat).isNone) = true) := by
   simp; omega
  simp only []
  split
  ·next h => simp at h; omega
  ·rfl
theorem zjh {h : AH} (s : Sat e h w.heap) {src dst t : TypeId} {x v : AV} {h' : AH} {u : Value} (hs : P.underlying src = some .unsafePointer) (hd : P.underlying dst = some (.pointer t))
  (hx : VR e x u) (hv : zfE P h t x = some (v, h')) : Runs P (Conv.unsafePointer src dst u) w fun u' w' => Out e h w v h' u' w' := by
 cases x <;> try (simp [zfE] at hv; done)
 case pnil =>
  cases hx; cases hv
  refine ⟨.pointer none, w, ?_, .same s .pnil⟩
  unfold Conv.unsafePointer
  rw [zag hs, zag hd]; rfl
 case ptr b o =>
  have hv' : grd (Nat.beq o 0) (bnd (zaX P t) fun n => grd (Nat.blt 0 n) (bnd (h.get b) fun e => grd (Nat.beq (tyE e) t) (grd (Nat.blt 0 t) (bnd (h.cells b) fun l => grd (Nat.ble n (len l)) (some (AV.ptr b o, h)))))) = some (v, h') := hv
  rw [zac, zaa] at hv'
  obtain ⟨ho, n, hn, hv'⟩ := hv'
  rw [zac, zaa] at hv'
  obtain ⟨hn0, en, hen, hv'⟩ := hv'
  rw [zac, zac, zaa] at hv'
  obtain ⟨hty, ht0, l, hl, hv'⟩ := hv'
  rw [zac] at hv'
  obtain ⟨hnl, hv'⟩ := hv'
  cases hv'
  rw [zau] at hn0 ht0
  rw [za1, zaU] at hnl
  obtain rfl : o = 0 := by simpa using ho
  obtain ⟨L, hL, rfl⟩ := zcT hx
  obtain ⟨ty, wr, fz, olds, hb⟩ := zeM hl
  rw [hen] at hb; cases hb
  have hty' : ty = t := by simpa [tyE] using hty
  subst hty'
  obtain ⟨arr, T, lo, hi, hH, hR⟩ := s.row hen hL
  obtain ⟨rfl, hoff, _⟩ := hR.ty (by omega)
  have hsz : n ≤ arr.size := by have := hR.room; have := hR.len; omega
  have hcell : P.cellsOf T = n := by
   obtain ⟨i, hi, hin⟩ := zkH hn
   unfold Program.cellsOf; rw [hi]; exact hin
  have hvar : (variablesAt ⟨L.blk, L.off + 0, none⟩ T 1).run P w = .ok true w := by
   have hsh : w.shape? L.blk = some (T, arr.size) := by simp [World.shape?, hH]
   show Sem.run P (shape L.blk >>= _) w = _
   rw [zab, run_shape, hsh]
   show Result.ok (liesAt P P.depth T (arr.size / P.cellsOf T) (L.off + 0) T 1) w = _
   congr 1
   have hd : ∃ d, P.depth = d + 1 := ⟨2 * (P.types.size + Made.depth) + 1, rfl⟩
   obtain ⟨d, hd⟩ := hd
   have h1 : sameLayout P P.depth T T = true := by rw [hd]; simp [sameLayout]
   have h2 : 1 ≤ arr.size / n := (Nat.one_le_div_iff hn0).2 hsz
   have h3 : rowAt P (sameLayout P P.depth · T) P.depth T (arr.size / P.cellsOf T) (L.off + 0) 1 = true := by
    rw [hd]
    unfold rowAt
    rw [← hd, hcell, hoff]
    simp [show n ≠ 0 by omega, h1]
    left; omega
   rw [hd]
   unfold liesAt
   rw [h3]; rfl
  refine ⟨_, w, ?_, .same s (.ptr b 0 L hL)⟩
  unfold Conv.unsafePointer
  rw [zag hs, zag hd]
  show Sem.run P (Conv.seenAt ⟨L.blk, L.off + 0, none⟩ >>= _) w = _
  rw [zab, zjL hH]
  show Sem.run P (sizeOf T >>= _) w = _
  rw [zab, zbx hn]
  show Sem.run P (variablesAt ⟨L.blk, L.off + 0, none⟩ T 1 >>= _) w = _
  rw [zab, hvar]
  simp only []
  split
  ·rfl
  ·next h => simp at h
theorem Runs.run_eq {α : Type} {a b : Sem α} {w : World} {Q : α → World → Prop} (he : a.run P w = b.run P w) (h : Runs P b w Q) : Runs P a w Q :=
 let ⟨x, w', hr, hq⟩ := h; ⟨x, w', he.trans hr, hq⟩
theorem zif {el : Nat} (h : zdJ P el = true) : P.underlying el = some (.int .u8) := by
 unfold zdJ at h
 cases hu : P.underlying el with
 | none => rw [hu] at h; cases h
 | some d =>
   rw [hu] at h
   have h' : isU8 d = true := h
   cases d <;> try (simp [isU8] at h'; done)
   rename_i k
   cases k <;> simp [isU8] at h' <;> rfl
theorem zlP {d : TypeDesc} {el : Nat} (h : zjs d = some el) : d = .slice el := by
 cases d <;> simp [zjs] at h
 rw [h]
theorem zsJ (T n c cap : Nat) (hcap : n ≤ cap) : CellsR e (zb0 n c) 0 0 ⟨w.heap.size, 0, cap⟩
  (((zad n c).data.map fun b => Value.int .u8 b.toNat) ++ Array.replicate (cap - (zad n c).size) (.int .u8 0)) T cap (cap + 1) := by
 have hsz : (zad n c).size = n := zaM n c
 have hds : (zad n c).data.size = n := hsz
 refine ⟨by simp only [Array.size_append, Array.size_map, Array.size_replicate, hds, hsz]; omega, by rw [zeq]; exact hcap, fun i v hv => ?_, fun i _ hi => (by have hi' : i < cap := hi; show ¬ (cap ≤ 0 + i ∧ 0 + i < cap + 1); omega), fun h => absurd rfl h⟩
 have hi : i < n := by
  have := (List.getElem?_eq_some_iff.1 hv).1
  rw [zeq] at this; exact this
 obtain ⟨u, hu, hr⟩ := (zg3 e n c).get hv
 refine ⟨u, ?_, hr⟩
 rw [Array.getElem?_append_left (by simp [hds]; exact hi)]
 rw [Nat.zero_add, ← Array.getElem?_toList, Array.toList_map]
 exact hu
theorem znv {h : AH} (s : Sat e h w.heap) {src dst : TypeId} {sd : TypeDesc} {x v : AV} {h' : AH} {u : Value} (hs : P.underlying src = some sd) (hd : P.underlying dst = some .string) (hx : VR e x u)
  (hv : (bnd (zjs sd) fun e => grd (zdJ P e) (bnd (zbW x h) fun s => some (s, h))) = some (v, h')) : Runs P (convert src dst u) w fun u' w' => Out e h w v h' u' w' := by
 rw [zaa] at hv
 obtain ⟨el, hel, hv⟩ := hv
 obtain rfl := zlP hel
 rw [zac, zaa] at hv
 obtain ⟨h8, sv, hsv, hv⟩ := hv
 cases hv
 have hb := Runs.same s (zfM (P := P) s hx hsv)
 have h8' := zif h8
 unfold convert
 refine Runs.run_eq ((zag hs).trans (zag hd)) (Runs.run_eq ?_ hb)
 cases x <;> try (simp [zbW] at hsv; done)
 all_goals (cases hx; exact zag h8')
theorem znw {h : AH} (s : Sat e h w.heap) {src dst : TypeId} {x v : AV} {h' : AH} {u : Value} (hx : VR e x u) (hv : zlt P src dst x h = some (v, h')) :
  Runs P (convert src dst u) w fun u' w' => Out e h w v h' u' w' := by
 unfold zlt at hv
 rw [zaa] at hv
 obtain ⟨sd, hs, hv⟩ := hv
 rw [zaa] at hv
 obtain ⟨dd, hd, hv⟩ := hv
 unfold convert
 refine Runs.run_eq ((zag hs).trans (zag hd)) ?_
 cases dd <;> try (simp [zqp] at hv; done)
 case int k =>
  have hv' : intV x (fun n => some (zca k (zgp k n), h)) = some (v, h') := hv
  rw [zgz] at hv'
  obtain ⟨k', n, rfl, hv'⟩ := hv'
  cases hv'
  cases zbd hx
  rw [za6, zdR]
  refine ⟨.int k (k.wrap n), w, ?_, .same s (.int _ _)⟩
  cases sd <;> rfl
 case string =>
  have slices : (bnd (zjs sd) fun e => grd (zdJ P e) (bnd (zbW x h) fun s => some (s, h))) = some (v, h') → _ := znv s hs hd hx
  cases x <;> try (exact Runs.run_eq (((zag hs).trans (zag hd)).symm.trans (by unfold convert; rfl)) (slices hv))
  case int k n =>
   cases zbd hx
   have hv' : some (zgq n, h) = some (v, h') := hv
   cases hv'
   refine ⟨.string (Utf8.encode n), w, ?_, .same s ?_⟩
   ·cases sd <;> rfl
   ·unfold zgq zqi
    rw [zeN, zaU]
    have := zg2 (Utf8.encode n)
    have q := VR.str (e := e) (Utf8.encode n).data.toList.length (zcp (Utf8.encode n).data.toList)
    rw [this] at q
    exact q
  case str n c =>
   cases zbX hx
   have hv' : some (AV.str n c, h) = some (v, h') := hv
   cases hv'
   refine ⟨_, w, ?_, .same s (.str n c)⟩
   cases sd <;> rfl
  case sstr pn pc i =>
   have hv' : some (AV.sstr pn pc i, h) = some (v, h') := hv
   cases hv'
   cases hx with
   | sstr _ _ _ t ht =>
     refine ⟨_, w, ?_, .same s (.sstr pn pc i t ht)⟩
     cases sd <;> rfl
 case slice el =>
  have hv' : strV x (fun n c => grd (zdJ P el) (h.new (.cells (zb0 n c) 0 true 0 []) fun b h => some (AV.sl b 0 n 1, h))) = some (v, h') := hv
  rw [zfi] at hv'
  obtain ⟨n, c, rfl, hv'⟩ := hv'
  rw [zac, AH.new_eq] at hv'
  obtain ⟨h8, hv'⟩ := hv'
  cases hv'
  cases zbX hx
  have h8' := zif h8
  obtain ⟨cap, hcap, hrun⟩ := zgF (P := P) (w := w) el (zad n c)
  rw [zaM] at hcap
  have hsat := s.add (w := w) (en := .cells (zb0 n c) 0 true 0 []) (o := .cells (((zad n c).data.map fun b => Value.int .u8 b.toNat) ++ Array.replicate (cap - (zad n c).size) (.int .u8 0)) el (cap, cap + 1)) cap rfl
   (.cells _ _ _ _ _ _ _ _ _ _ (zsJ _ n c cap hcap))
  refine Runs.run_eq (b := Conv.stringToBytes el (zad n c)) ?_ (Runs.of hrun ⟨_, hsat.1, ?_, hsat.2.drawn (w.drawn + 1)⟩)
  ·cases sd <;> exact zag h8'
  ·rw [zaM]
   exact .sl _ 0 n 1 cap _ (Env.at_self _ _ _) (by decide) (by simp) hcap
 case unsafePointer =>
  cases sd <;> try (simp [zqp] at hv; done)
  case pointer t =>
   have hv' : zds P h t x = some (v, h') := hv
   have hc := zhn (P := P) s hs hd hx hv'
   refine Runs.run_eq ?_ hc
   cases x <;> try (simp [zds] at hv'; done)
   all_goals (cases hx; rfl)
 case pointer t =>
  have hv' : grd (zkl sd) (zfE P h t x) = some (v, h') := hv
  rw [zac] at hv'
  obtain ⟨hu, hv'⟩ := hv'
  cases sd <;> try (simp [zkl] at hu; done)
  have hc := zjh (P := P) s hs hd hx hv'
  refine Runs.run_eq ?_ hc
  cases x <;> try (simp [zfE] at hv'; done)
  all_goals (cases hx; rfl)
end
end
end Go.Xe
end
section
namespace Go.Xe
noncomputable section
section
variable {P : Program} {e : Env} {w : World}
inductive OR (e : Env) : Option AV → Option Value → Prop
 | none : OR e none none
 | some (a : AV) (u : Value) (h : VR e a u) : OR e (some a) (some u)
theorem zji {n i y : Nat} {k : IntKind} {code : BoundsCode} (h : i ≤ y) : (Instr.sliceBound (.int k (i : Int)) y code).run P w = .ok i w := by
 unfold Instr.sliceBound
 show Sem.run P (if 0 ≤ (i : Int) ∧ (i : Int) ≤ (y : Int) then pure (Int.toNat (i : Int)) else boundsPanic k (i : Int) y code) w = _
 rw [if_pos ⟨Int.natCast_nonneg i, by exact_mod_cast h⟩]
 rfl
def zoT (uv : Option Value) (dflt y : Nat) (code : BoundsCode) : Sem Nat := match uv with
 | some v => Instr.sliceBound v y code
 | none => pure dflt
theorem zjM {v : Option AV} {uv : Option Value} {dflt n y r : Nat} (hv : OR e v uv) (h : zcN v dflt n = some r) (hn : n ≤ y) (code : BoundsCode) :
  (zoT uv dflt y code).run P w = .ok r w ∧ (r = dflt ∧ v = none ∨ r ≤ n) := by
 cases hv with
 | none => cases h; exact ⟨rfl, .inl ⟨rfl, rfl⟩⟩
 | some a u ha =>
   have h' : natV a (fun i => grd (Nat.ble i n) (some i)) = some r := h
   rw [zfh] at h'
   obtain ⟨k, i, rfl, h'⟩ := h'
   rw [zac, za1] at h'
   obtain ⟨hi, h'⟩ := h'
   cases h'
   cases zbd ha
   exact ⟨zji (n := n) (by omega), .inr hi⟩
theorem zeQ {lo hi : Option AV} {ul uh : Option Value} {len n y hh l : Nat} (hl : OR e lo ul) (hu : OR e hi uh) (h1 : zcN hi len n = some hh) (h2 : zcN lo 0 hh = some l) (hn : n ≤ y) (isSlice : Bool) :
  (Instr.sliceBounds isSlice len y ul uh none).run P w = .ok (l, hh, y) w ∧ (hh = len ∨ hh ≤ n) ∧ l ≤ hh := by
 obtain ⟨r1, b1⟩ := zjM (P := P) (w := w) hu h1 hn (if isSlice then .sliceAcap else .sliceAlen)
 obtain ⟨r2, b2⟩ := zjM (P := P) (w := w) hl h2 (Nat.le_refl hh) .sliceB
 refine ⟨?_, ?_, ?_⟩
 ·have e0 : Instr.sliceBounds isSlice len y ul uh none = (zoT uh len y (if isSlice then .sliceAcap else .sliceAlen) >>= fun h =>
    zoT ul 0 h .sliceB >>= fun l => pure (l, h, y)) := by cases uh <;> cases ul <;> rfl
  rw [e0, zab, r1]
  show Sem.run P (zoT ul 0 hh .sliceB >>= _) w = _
  rw [zab, r2]
  rfl
 ·rcases b1 with ⟨h, _⟩ | h
  ·exact .inl h
  ·exact .inr h
 ·rcases b2 with ⟨h, _⟩ | h
  ·omega
  ·exact h
theorem zig {t : TypeId} {d : TypeDesc} (hd : P.underlying t = some d) (hn : ∀ n el, d ≠ .array n el) (x : Value) (ul uh um : Option Value) : (Instr.sliceAt t x ul uh um).run P w = (Instr.slice t x ul uh um).run P w := by
 unfold Instr.sliceAt
 rw [zag hd]
 cases d <;> first | rfl | exact absurd rfl (hn _ _)
theorem zde {h : AH} (s : Sat e h w.heap) {t : TypeId} {x v : AV} {lo hi : Option AV} {u : Value} {ul uh : Option Value} (hx : VR e x u) (hl : OR e lo ul) (hu : OR e hi uh) (hv : ze2 P t x lo hi h = some v) :
  Runs P (Instr.sliceAt t u ul uh none) w fun u' w' => VR e v u' ∧ w' = w := by
 unfold ze2 at hv
 rw [zaa] at hv
 obtain ⟨d, hd, hv⟩ := hv
 cases d <;> try (simp [znc] at hv; done)
 case string =>
  refine Runs.run_eq (zig hd (fun _ _ h => by cases h) _ _ _ _) ?_
  have hv' : strV x (fun n c => zkm n c lo hi) = some v := hv
  rw [zfi] at hv'
  obtain ⟨n, c, rfl, hv'⟩ := hv'
  unfold zkm at hv'
  rw [zaa] at hv'
  obtain ⟨hh, h1, hv'⟩ := hv'
  rw [zaa] at hv'
  obtain ⟨l, h2, hv'⟩ := hv'
  cases hv'
  cases zbX hx
  obtain ⟨hb, hc, hle⟩ := zeQ (P := P) (w := w) hl hu h1 h2 (Nat.le_refl n) false
  have hhn : hh ≤ n := by rcases hc with h | h <;> omega
  rw [zeN]
  refine ⟨.string ((zad n c).extract l hh), w, ?_, ?_, rfl⟩
  ·unfold Instr.slice
   rw [zag hd]
   show Sem.run P (Instr.sliceBounds false (zad n c).size (zad n c).size ul uh none >>= _) w = _
   rw [zaM, zab, hb]
   rfl
  ·rw [zep n c l hh hle hhn]
   exact .str _ _
 case slice el =>
  refine Runs.run_eq (zig hd (fun _ _ h => by cases h) _ _ _ _) ?_
  cases x <;> try (simp [znc] at hv; done)
  case sl b o len z =>
   have hv' : bnd (zaX P el) (fun z' => grd (Nat.beq z z') (grd (Nat.blt 0 z) (bnd (h.cells b) fun cs => znb b o len z (Go.Xe.len cs) lo hi))) = some v := hv
   rw [zaa] at hv'
   obtain ⟨z', hz, hv'⟩ := hv'
   rw [zac, zac, zaa, zae] at hv'
   obtain ⟨rfl, hz0, cs, hcs, hv'⟩ := hv'
   unfold znb at hv'
   rw [zaa] at hv'
   obtain ⟨hh, h1, hv'⟩ := hv'
   rw [zaa] at hv'
   obtain ⟨l, h2, hv'⟩ := hv'
   obtain ⟨L, c, hL, h0, hext, hlc, rfl⟩ := zlE hx
   obtain ⟨ty, wr, fz, olds, hb⟩ := zeM hcs
   obtain ⟨arr, T, flo, fhi, hH, hR⟩ := s.row hb hL
   have hlen := hR.len
   rw [zaU] at h1 hv'
   have hnc : (cs.length - o) / z ≤ c := by
    have : cs.length - o ≤ c * z := by omega
    calc (cs.length - o) / z ≤ (c * z) / z := Nat.div_le_div_right this
     _ = c := Nat.mul_div_cancel _ h0
   obtain ⟨hbr, hc, hle⟩ := zeQ (P := P) (w := w) hl hu h1 h2 hnc true
   have hc' : hh = len ∨ hh ≤ (cs.length - o) / z := hc
   have hhc : hh ≤ c := by rcases hc' with h | h <;> omega
   have hrun : (Instr.slice t (.slice (some ⟨L.blk, L.off + o, none⟩) len c) ul uh none).run P w =
     .ok (.slice (if c = l then some ⟨L.blk, L.off + o, none⟩ else some ((⟨L.blk, L.off + o, none⟩ : Addr).add (l * z))) (hh - l) (c - l)) w := by
    unfold Instr.slice
    rw [zag hd]
    show Sem.run P (Instr.sliceBounds true len c ul uh none >>= _) w = _
    rw [zab, hbr]
    show Sem.run P (sizeOf el >>= _) w = _
    rw [zab, zbx hz]
    rfl
   rw [zav] at hv'
   rcases hv' with ⟨hl0, hv'⟩ | ⟨hl0, hv'⟩
   ·cases hv'
    obtain rfl : l = 0 := by simpa using hl0
    refine ⟨_, w, hrun, ?_, rfl⟩
    have : (if c = 0 then some (⟨L.blk, L.off + o, none⟩ : Addr) else some ((⟨L.blk, L.off + o, none⟩ : Addr).add (0 * z))) = some ⟨L.blk, L.off + o, none⟩ := by
     split
     ·rfl
     ·rw [Addr.add_eq]; simp
    rw [this]
    exact .sl b o hh z c L hL h0 hext hhc
   ·have hl0' : l ≠ 0 := fun h => by subst h; simp at hl0
    rw [zav] at hv'
    rcases hv' with ⟨hlt, hv'⟩ | ⟨_, hv'⟩
    ·rw [zaL, zaL] at hv'
     cases hv'
     have hlt' : o + l * z < cs.length := by rw [zau] at hlt; exact hlt
     have hlc' : l < c := by
      have : l * z < c * z := by omega
      exact Nat.lt_of_mul_lt_mul_right this
     refine ⟨_, w, hrun, ?_, rfl⟩
     rw [if_neg (by omega), Addr.add_eq]
     have hext' : o + l * z + (c - l) * z = L.ext := by
      rw [Nat.sub_mul]
      have : l * z ≤ c * z := Nat.mul_le_mul_right z (Nat.le_of_lt hlc')
      omega
     have := VR.sl (e := e) b (o + l * z) (hh - l) z (c - l) L hL h0 hext' (by omega)
     rw [Nat.add_assoc]
     exact this
    ·rw [zac, zae] at hv'
     obtain ⟨rfl, hv'⟩ := hv'
     cases hv'
     refine ⟨_, w, hrun, ?_, rfl⟩
     rw [Nat.sub_self]
     split
     ·exact .sle _ _
     ·exact .sle _ _
  case sle =>
   have hv' : bnd (zaX P el) (fun _ => bnd (zcN hi 0 0) (fun hh => bnd (zcN lo 0 hh) fun _ => some AV.sle)) = some v := hv
   rw [zaa] at hv'
   obtain ⟨z, hz, hv'⟩ := hv'
   rw [zaa] at hv'
   obtain ⟨hh, h1, hv'⟩ := hv'
   rw [zaa] at hv'
   obtain ⟨l, h2, hv'⟩ := hv'
   cases hv'
   cases hx with
   | sle a c =>
     obtain ⟨hbr, hc, hle⟩ := zeQ (P := P) (w := w) hl hu h1 h2 (Nat.zero_le c) true
     obtain rfl : hh = 0 := by rcases hc with h | h <;> omega
     obtain rfl : l = 0 := by omega
     refine ⟨.slice (if c = 0 then some a else some (a.add (0 * z))) 0 c, w, ?_, ?_, rfl⟩
     ·unfold Instr.slice
      rw [zag hd]
      show Sem.run P (Instr.sliceBounds true 0 c ul uh none >>= _) w = _
      rw [zab, hbr]
      show Sem.run P (sizeOf el >>= _) w = _
      rw [zab, zbx hz]
      rfl
     ·split
      ·exact .sle _ _
      ·exact .sle _ _
  case snil =>
   have hv' : bnd (zaX P el) (fun _ => bnd (zcN hi 0 0) (fun hh => bnd (zcN lo 0 hh) fun _ => some AV.snil)) = some v := hv
   rw [zaa] at hv'
   obtain ⟨z, hz, hv'⟩ := hv'
   rw [zaa] at hv'
   obtain ⟨hh, h1, hv'⟩ := hv'
   rw [zaa] at hv'
   obtain ⟨l, h2, hv'⟩ := hv'
   cases hv'
   cases hx
   obtain ⟨hbr, hc, hle⟩ := zeQ (P := P) (w := w) hl hu h1 h2 (Nat.zero_le 0) true
   obtain rfl : hh = 0 := by rcases hc with h | h <;> omega
   obtain rfl : l = 0 := by omega
   refine ⟨.slice none 0 0, w, ?_, .snil, rfl⟩
   unfold Instr.slice
   rw [zag hd]
   show Sem.run P (Instr.sliceBounds true 0 0 ul uh none >>= _) w = _
   rw [zab, hbr]
   show Sem.run P (sizeOf el >>= _) w = _
   rw [zab, zbx hz]
   rfl
end
end
end Go.Xe
end
