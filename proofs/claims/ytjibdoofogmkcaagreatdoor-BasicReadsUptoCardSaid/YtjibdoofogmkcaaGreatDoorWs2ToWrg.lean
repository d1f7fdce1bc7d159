/-
  The document's Conditions and Rounds: the functions that stand before the others; The program's table of commands: a literal of fifteen names; The document's list of commands; The program's Commands: the names of its table, sorted; What the law asks of its parts; The law BasicReads, where its lists are great; The law BasicReads, where its lists are small; The closed facts of the second form's row: the types lie as they should; The closed facts of the row, together; No goroutine is begun. Conditions: none.
-/
import Derived.Test.YtjibdoofogmkcaaGreatDoorWs1
import Derived.Test.YtjibdoofogmkcaaGreatDoorWx
import Derived.Test.YtjibdoofogmkcaaGreatDoorWr2ToWr6
import Derived.Sort.KeysCollected
import Derived.Maps.Range
import Derived.Maps.RangeWalk
import Derived.Maps.Own
import Derived.WideMake
import Derived.Laws.OwnMore
import Derived.Shelf.Sort.Plain
import Derived.Test.YtjibdoofogmkcaaGreatDoorProg
import Derived.Sort.OwnSorted
import Derived.Test.YtjibdoofogmkcaaGreatDoorWy
import Derived.Test.YtjibdoofogmkcaaGreatDoorWr5ToWs0
import Derived.Deep.RegionWith
import Derived.Test.YtjibdoofogmkcaaGreatDoorRows
import Derived.ClosedOfChecked
import Derived.Test.YtjibdoofogmkcaaGreatDoorWkinPlace
import Derived.Test.YtjibdoofogmkcaaGreatDoorWkunf
import Derived.Test.YtjibdoofogmkcaaGreatDoorWkrec
import Derived.Test.YtjibdoofogmkcaaGreatDoorWknamed
import Derived.Test.YtjibdoofogmkcaaGreatDoorWkkeys
import Derived.Test.YtjibdoofogmkcaaGreatDoorWklifts
import Derived.Test.YtjibdoofogmkcaaGreatDoorWkenter
import Derived.Test.YtjibdoofogmkcaaGreatDoorWkwf
import Derived.JoinedCond
import GoSem.ClaimGoes
set_option linter.unusedVariables false
set_option linter.unusedSimpArgs false
set_option linter.unusedSectionVars false
set_option linter.deprecated false
section
namespace Go.Proofs.YtjibdoofogmkcaaGreatDoor
open Go.RowKit Go.Shelf
open Go.ChangeShapes Go.WideShapes Go.ChangeAt
set_option maxRecDepth 100000
set_option maxHeartbeats 1000000 in
theorem cond_ref (w : World) (t : Value) (l : List (List UInt8)) (ht : StrRow w t l) (hl : l.length ≤ 1000) : Calls Tryz.prog 7 #[t] w (CondR w l) := by
  have HC := Lib.hid (rcond_any w t l ht hl)
  obtain ⟨a, c, rfl, ha⟩ := ht.form
  clear ha ht
  cases h : cnd l with
  | none =>
    have H := Lib.hid h
    clear h
    go_enter Tryz.func7, Tryz.ntmps7
    go_wp2_with (go_at_call 16; refine HC.out.mono ?_; rintro e w1 ⟨h1, h2, h3⟩; have e1 := h2 H.out; subst e1; dsimp only; have H3 := Lib.hid h3; clear h1 h2 h3)
    refine bodyPost_ret (results_tmp3 rfl _ _ _) rfl ?_
    exact CondR.none H.out H3.out
  | some p =>
    obtain ⟨cs, bs⟩ := p
    have H := Lib.hid h
    clear h
    go_enter Tryz.func7, Tryz.ntmps7
    go_wp2_with (go_at_call 16; refine HC.out.mono ?_; rintro e w1 ⟨h1, h2, h3⟩; obtain ⟨u, v, rfl, g1, g2⟩ := h1 _ _ H.out; dsimp only; have H3 := Lib.hid h3; have G1 := Lib.hid g1; have G2 := Lib.hid g2; clear h1 h2 h3 g1 g2)
    refine bodyPost_ret (results_tmp3 rfl _ _ _) rfl ?_
    exact CondR.some H.out G1.out G2.out H3.out
set_option maxHeartbeats 1000000 in
theorem rounds_19 (w : World) (u v : Value) (names lists : List (List UInt8)) (hu : StrRow w u names) (hv : StrRow w v lists) (hn : names.length ≤ 1000) (hb1 : ∀ x ∈ names, x.length ≤ 1000) (hb2 : ∀ x ∈ lists, x.length ≤ 1000) :
    Calls Tryz.prog 19 #[u, v] w (RoundsR w names lists) := by
  by_cases hlen : names.length = lists.length
  · by_cases h0 : names.length = 0
    · have HE := Lib.hid (show rnd names lists = .error 1 by unfold rnd; rw [if_pos (.inr h0)])
      have e1 : ((names.length : Int) != (lists.length : Int)) = false := by simp [hlen]
      have e0 : ((names.length : Int) == 0) = true := by simp [h0]
      obtain ⟨a, c, rfl, ha⟩ := hu.form
      obtain ⟨b, d, rfl, hb⟩ := hv.form
      clear hlen h0 ha hb hu hv
      go_enter Tryz.func19, Tryz.ntmps19
      go_wp2
      refine bodyPost_ret (results_tmp2 rfl _ _ _) rfl ?_
      exact RoundsR.error HE.out (Below.refl _ _)
    · have HC := Lib.hid (rrounds_any w u v names lists hu hv hlen h0 hn hb1 hb2)
      have e1 : ((names.length : Int) != (lists.length : Int)) = false := by simp [hlen]
      have e0 : ((names.length : Int) == 0) = false := beq_eq_false_iff_ne.2 (by omega)
      obtain ⟨a, c, rfl, ha⟩ := hu.form
      obtain ⟨b, d, rfl, hb⟩ := hv.form
      clear hlen h0 ha hb hu hv
      cases hr : rnd names lists with
      | error k =>
        have HR := Lib.hid hr
        clear hr
        go_enter Tryz.func19, Tryz.ntmps19
        go_wp2_with (go_at_call 30; refine HC.out.mono ?_; rintro e w1 ⟨h1, h2, h3⟩; obtain ⟨av, s, rfl⟩ := h2 _ HR.out; dsimp only; have H3 := Lib.hid h3; clear h1 h2 h3)
        refine bodyPost_ret (results_tmp2 rfl _ _ _) rfl ?_
        exact RoundsR.error HR.out H3.out
      | ok rs =>
        have HR := Lib.hid hr
        clear hr
        go_enter Tryz.func19, Tryz.ntmps19
        go_wp2_with (go_at_call 30; refine HC.out.mono ?_; rintro e w1 ⟨h1, h2, h3⟩; obtain ⟨rv, av, s, rfl, g1⟩ := h1 _ HR.out; dsimp only; have H3 := Lib.hid h3; have G1 := Lib.hid g1; clear h1 h2 h3 g1)
        refine bodyPost_ret (results_tmp2 rfl _ _ _) rfl ?_
        exact RoundsR.ok HR.out G1.out H3.out
  · have HE := Lib.hid (show rnd names lists = .error 1 by unfold rnd; rw [if_pos (.inl hlen)])
    have e1 : ((names.length : Int) != (lists.length : Int)) = true := bne_iff_ne.2 (by omega)
    obtain ⟨a, c, rfl, ha⟩ := hu.form
    obtain ⟨b, d, rfl, hb⟩ := hv.form
    clear hlen ha hb hu hv
    go_enter Tryz.func19, Tryz.ntmps19
    go_wp2
    refine bodyPost_ret (results_tmp2 rfl _ _ _) rfl ?_
    exact RoundsR.error HE.out (Below.refl _ _)
set_option maxHeartbeats 1000000 in
theorem rounds_ref (w : World) (u v : Value) (names lists : List (List UInt8)) (hu : StrRow w u names) (hv : StrRow w v lists) (hn : names.length ≤ 1000) (hb1 : ∀ x ∈ names, x.length ≤ 1000) (hb2 : ∀ x ∈ lists, x.length ≤ 1000) :
    Calls Tryz.prog 9 #[u, v] w (RoundsR w names lists) := by
  have HC := Lib.hid (rounds_19 w u v names lists hu hv hn hb1 hb2)
  obtain ⟨a, c, rfl, ha⟩ := hu.form
  obtain ⟨b, d, rfl, hb⟩ := hv.form
  clear ha hb hu hv
  cases hr : rnd names lists with
  | error k =>
    have HR := Lib.hid hr
    clear hr
    go_enter Tryz.func9, Tryz.ntmps9
    go_wp2_with (go_at_call 19; refine HC.out.mono ?_; rintro e w1 ⟨h1, h2, h3⟩; have e1 := h2 _ HR.out; subst e1; dsimp only; have H3 := Lib.hid h3; clear h1 h2 h3)
    refine bodyPost_ret (results_tmp2 rfl _ _ _) rfl ?_
    exact RoundsR.error HR.out H3.out
  | ok rs =>
    have HR := Lib.hid hr
    clear hr
    go_enter Tryz.func9, Tryz.ntmps9
    go_wp2_with (go_at_call 19; refine HC.out.mono ?_; rintro e w1 ⟨h1, h2, h3⟩; obtain ⟨rv, rfl, g1⟩ := h1 _ HR.out; dsimp only; have H3 := Lib.hid h3; have G1 := Lib.hid g1; clear h1 h2 h3 g1)
    refine bodyPost_ret (results_tmp2 rfl _ _ _) rfl ?_
    exact RoundsR.ok HR.out G1.out H3.out
end Go.Proofs.YtjibdoofogmkcaaGreatDoor
end
section
namespace Go.Proofs.YtjibdoofogmkcaaGreatDoor
open Go.RowKit Go.Shelf
open Go.ChangeShapes Go.WideShapes Go.ChangeAt
open Go.Maps (Keyed string_keyed)
open Go.WideMaps (keyOf_string_mk)
set_option maxRecDepth 100000
theorem law9 : Keyed Tryz.prog 9 := string_keyed Tryz.underlying9
def cmdR (v : Value) : Option (DataW Unit × List MemPlace) := match v with
  | .func f a b => if a = #[] ∧ b = #[] then (match f with
    | .func i => some (.lit (.int .i64 i), [])
    | _ => none) else none
  | _ => none
theorem cmdR_inv {v : Value} {y : DataW Unit × List MemPlace} (h : cmdR v = some y) : ∃ i : Nat, v = .func (.func i) #[] #[] := by
  unfold cmdR at h
  split at h
  · split at h
    · rename_i f a b hab
      obtain ⟨rfl, rfl⟩ := hab
      split at h
      · exact ⟨_, rfl⟩
      · cases h
    · cases h
  · cases h
theorem wpList_insert_own {H : Type} {P : Program} (w : World) {ops : Array Oper} {rest : List Oper} {o : Oper} {a : Act} {Q : Exit → Act → World → Prop}
    (hg : o.guard = none) (m x v : Operand) (t : TypeId) (hop : o.op = Op.insert t m x v)
    (k e : TypeId) (K : Keyed P k) (ht : P.underlying t = some (.map k e)) (R : Value → Option (DataW H × List MemPlace)) (b n : Nat) (D : DataW H)
    (hm : a.eval m = .map (some b)) (hown : w.ownsMap P k R b n D) (hn : n < maxLen) (key val : Value) (kl : Lit) (hx : a.eval x = key) (hv : a.eval v = val) (hkey : keyOf P k key = some kl)
    (d : DataW H) (ps : List MemPlace) (hval : R val = some (d, ps))
    (hK : ∀ w', w'.ownsMap P k R b (n + 1) (D.put kl d) → w.grownBy w' (some b) → wpList P ops Q rest (a.put o.dst undef) w') :
    wpList P ops Q (o :: rest) a w := by
  refine wpList_plain hg fun K' hK' => ?_
  obtain ⟨w', hrun, r1, r2⟩ := hown.update K ht hn hkey hval
  unfold Oper.wp
  simp [execOp, hop, hm, hx, hv, hrun, Result.andThen]
  exact hK' _ _ (hK w' r1 r2)
theorem key9 (s : ByteArray) (hs : s.size ≤ maxLen) : keyOf Tryz.prog 9 (.string s) = some (.string s.data.toList) := keyOf_string_mk Tryz.underlying9 hs
theorem run_mk (t : TypeId) (P : Program) (w : World) : (Instr.makeMap t none).run P w = .ok (.map (some w.heap.size)) (w.alloc (.map #[] 0)) := by simp [Instr.makeMap]
attribute [local go_sem] run_mk
def names20 : List (List UInt8) := [[97, 112, 112, 101, 110, 100], [98, 114, 101, 97, 107], [99, 111, 110, 99, 97, 116], [99, 111, 110, 116, 105, 110, 117, 101], [102, 111, 114], [102, 111, 114, 101, 97, 99, 104], [105, 102], [105, 110, 99, 114], [108, 109, 97, 112], [110, 111, 112], [115, 117, 98, 115, 116], [115, 119, 105, 116, 99, 104], [116, 104, 114, 111, 119], [116, 114, 121], [119, 104, 105, 108, 101]]
set_option maxHeartbeats 1000000 in
theorem table_made (w : World) : Calls Tryz.prog 20 #[] w fun e w' => e = .returned (.map (some w.heap.size)) ∧ (∃ D n, w'.ownsMap Tryz.prog 9 cmdR w.heap.size n D ∧ (strKeys D).Perm names20 ∧ n ≤ 15) ∧ Below w.heap.size w w' := by
  have HO := Lib.hid (World.ownsMap_made w Tryz.prog 9 cmdR)
  have HB := Lib.hid ((Below.refl w.heap.size w).alloc (Nat.le_refl _) (.map #[] 0))
  go_enter Tryz.func20, Tryz.ntmps20
  go_wp2_with (refine wpList_insert_own _ rfl _ _ _ 43 rfl 9 _ law9 Tryz.underlying43 cmdR w.heap.size _ _ rfl HO.out (by decide) _ _ _ rfl rfl (key9 _ (by decide)) _ [] rfl ?_; clear HO; intro wn o g; have HO := Lib.hid o; have HB2 := Lib.hid (HB.out.grown g (by have := HB.out.size; exact this) (fun k e => by cases e; exact Nat.le_refl _)); clear o g HB; have HB := Lib.hid HB2.out; clear HB2)
  go_ret
  exact ⟨rfl, ⟨_, _, HO.out, List.isPerm_iff.1 (by kernel_rfl), by decide⟩, HB.out⟩
end Go.Proofs.YtjibdoofogmkcaaGreatDoor
end
section
namespace Go.Proofs.YtjibdoofogmkcaaGreatDoor
open Go.RowKit Go.Shelf
open Go.ChangeShapes Go.WideShapes Go.ChangeAt
set_option maxRecDepth 100000
theorem own_lit (w : World) (l : List (List UInt8)) (n : Nat) (cs : Array Value) (hn : l.length = n) (hc : cs.toList = l.map strV) (hm : n ≤ maxLen) (m : Nat) (h : m ≤ w.heap.size) : OwnTx (w.alloc (.cells cs 9)) m (.slice (some ⟨w.heap.size, 0, none⟩) n n) l := by
  have hs : cs.size = n * 1 := by rw [← Array.length_toList, hc, List.length_map, hn, Nat.mul_one]
  have h2 := World.ownsRow_lit (e := 9) (size := 1) w cs n h hm hs
  unfold OwnTx
  rw [hn, ← hc]
  exact h2
set_option maxHeartbeats 1000000 in
theorem names_51 (w : World) : Calls Tryz.prog 51 #[.agg #[]] w fun e w' => ∃ v, e = .returned v ∧ OwnTx w' w.heap.size v names20 ∧ Below w.heap.size w w' := by
  go_enter Tryz.func51, Tryz.ntmps51
  go_wp2
  go_ret
  have h := fun cs hc => own_lit (w.alloc (.cells #[] 66)) names20 15 cs rfl hc (by decide) w.heap.size (by simp)
  simp only [World.size_alloc] at h
  refine ⟨_, rfl, h _ rfl, ?_⟩
  exact ((Below.refl w.heap.size w).alloc (Nat.le_refl _) _).alloc (by simp) _
set_option maxHeartbeats 1000000 in
theorem names_22 (w : World) : Calls Tryz.prog 22 #[.int .i64 20] w fun e w' => ∃ v, e = .returned v ∧ OwnTx w' w.heap.size v names20 ∧ Below w.heap.size w w' := by
  have HC := Lib.hid (names_51 w)
  go_enter Tryz.func22, Tryz.ntmps22
  go_wp2_with (go_at_call 51; refine HC.out.mono ?_; rintro e w1 ⟨v, rfl, h1, h2⟩; dsimp only; have H1 := Lib.hid h1; have H2 := Lib.hid h2; clear h1 h2)
  go_ret
  exact ⟨_, rfl, H1.out, H2.out⟩
set_option maxHeartbeats 1000000 in
theorem names_ref (w : World) : Calls Tryz.prog 12 #[] w fun e w' => ∃ v, e = .returned v ∧ OwnTx w' w.heap.size v names20 ∧ Below w.heap.size w w' := by
  have HC := Lib.hid (names_22 w)
  go_enter Tryz.func12, Tryz.ntmps12
  go_wp2_with (go_at_call 22; refine HC.out.mono ?_; rintro e w1 ⟨v, rfl, h1, h2⟩; dsimp only; have H1 := Lib.hid h1; have H2 := Lib.hid h2; clear h1 h2)
  go_ret
  exact ⟨_, rfl, H1.out, H2.out⟩
end Go.Proofs.YtjibdoofogmkcaaGreatDoor
end
section
namespace Go.Proofs
open Go.Shelf
def Tryz.lays190_ren : Go.Shelf.Ren := ⟨fun | 190 => 21 | 125 => 49 | 258 => 48 | 128 => 118 | 129 => 119 | 302 => 109 | 303 => 110 | 304 => 111 | 305 => 112 | 306 => 113 | 307 => 114 | 308 => 115 | 309 => 116 | 310 => 117 | 333 => 173 | 329 => 174 | 330 => 175 | 334 => 176 | 335 => 177 | 336 => 178 | 344 => 251 | n => n, fun | 31 => 22 | 9 => 9 | 3 => 3 | 46 => 63 | 0 => 0 | 51 => 164 | 53 => 166 | 4 => 4 | 183 => 157 | 182 => 156 | 131 => 161 | 5 => 5 | 218 => 237 | 222 => 241 | 228 => 336 | 229 => 337 | n => n, fun | n => n⟩
theorem Tryz.lays190 : Go.Proofs.Lays.n190 Tryz.prog Tryz.lays190_ren := {
  mixed := by kernel_rfl
  f125 := Tryz.func49.trans (congrArg some (by kernel_rfl))
  f128 := Tryz.func118.trans (congrArg some (by kernel_rfl))
  f129 := Tryz.func119.trans (congrArg some (by kernel_rfl))
  f190 := Tryz.func21.trans (congrArg some (by kernel_rfl))
  f258 := Tryz.func48.trans (congrArg some (by kernel_rfl))
  f302 := Tryz.func109.trans (congrArg some (by kernel_rfl))
  f303 := Tryz.func110.trans (congrArg some (by kernel_rfl))
  f304 := Tryz.func111.trans (congrArg some (by kernel_rfl))
  f305 := Tryz.func112.trans (congrArg some (by kernel_rfl))
  f306 := Tryz.func113.trans (congrArg some (by kernel_rfl))
  f307 := Tryz.func114.trans (congrArg some (by kernel_rfl))
  f308 := Tryz.func115.trans (congrArg some (by kernel_rfl))
  f309 := Tryz.func116.trans (congrArg some (by kernel_rfl))
  f310 := Tryz.func117.trans (congrArg some (by kernel_rfl))
  f329 := Tryz.func174.trans (congrArg some (by kernel_rfl))
  f330 := Tryz.func175.trans (congrArg some (by kernel_rfl))
  f333 := Tryz.func173.trans (congrArg some (by kernel_rfl))
  f334 := Tryz.func176.trans (congrArg some (by kernel_rfl))
  f335 := Tryz.func177.trans (congrArg some (by kernel_rfl))
  f336 := Tryz.func178.trans (congrArg some (by kernel_rfl))
  f344 := Tryz.func251.trans (congrArg some (by kernel_rfl))
  t0 := Tryz.underlying0
  a0 := Tryz.isAgg0
  z0 := Tryz.sizeOf0
  v0 := Tryz.zeroValue0
  t3 := Tryz.underlying3
  a3 := Tryz.isAgg3
  z3 := Tryz.sizeOf3
  v3 := Tryz.zeroValue3
  t4 := Tryz.underlying4
  a4 := Tryz.isAgg4
  z4 := Tryz.sizeOf4
  v4 := Tryz.zeroValue4
  t5 := Tryz.underlying5
  a5 := Tryz.isAgg5
  z5 := Tryz.sizeOf5
  v5 := Tryz.zeroValue5
  t9 := Tryz.underlying9
  a9 := Tryz.isAgg9
  z9 := Tryz.sizeOf9
  v9 := Tryz.zeroValue9
  t31 := Tryz.underlying22
  a31 := Tryz.isAgg22
  z31 := Tryz.sizeOf22
  v31 := Tryz.zeroValue22
  t46 := Tryz.underlying63
  a46 := Tryz.isAgg63
  z46 := Tryz.sizeOf63
  v46 := Tryz.zeroValue63
  t51 := Tryz.underlying164
  a51 := Tryz.isAgg164
  z51 := Tryz.sizeOf164
  v51 := Tryz.zeroValue164
  t53 := Tryz.underlying166
  a53 := Tryz.isAgg166
  z53 := Tryz.sizeOf166
  v53 := Tryz.zeroValue166
  t131 := Tryz.underlying161
  a131 := Tryz.isAgg161
  z131 := Tryz.sizeOf161
  v131 := Tryz.zeroValue161
  t182 := Tryz.underlying156
  a182 := Tryz.isAgg156
  z182 := Tryz.sizeOf156
  v182 := Tryz.zeroValue156
  t183 := Tryz.underlying157
  a183 := Tryz.isAgg157
  z183 := Tryz.sizeOf157
  v183 := Tryz.zeroValue157
  t218 := Tryz.underlying237
  a218 := Tryz.isAgg237
  z218 := Tryz.sizeOf237
  v218 := Tryz.zeroValue237
  t222 := Tryz.underlying241
  a222 := Tryz.isAgg241
  z222 := Tryz.sizeOf241
  v222 := Tryz.zeroValue241
  t228 := Tryz.underlying336
  a228 := Tryz.isAgg336
  z228 := Tryz.sizeOf336
  v228 := Tryz.zeroValue336
  t229 := Tryz.underlying337
  a229 := Tryz.isAgg337
  z229 := Tryz.sizeOf337
  v229 := Tryz.zeroValue337 }
open Go.Sort Go.RowKit in
theorem Tryz.slices_Sort_string (blk off cap : Nat) (ss : List (List UInt8)) (w : World) (hH : Holds encStr w blk off ss.toArray) (hblk : blk < w.heap.size) (hsz : ss.length < 4611686018427387904) :
    Calls Tryz.prog 21 #[.slice (some ⟨blk, off, none⟩) ss.length cap] w fun e w' =>
      e = .returned (.tuple #[]) ∧ ∃ n os, w' = grow (putRow encStr (Sort.ahead w n) blk off (ss.mergeSort fun x y => decide (x ≤ y)).toArray) os := Any.slices_Sort_string Tryz.lays190 blk off cap ss w hH hblk hsz
end Go.Proofs
end
section
namespace Go.Proofs.YtjibdoofogmkcaaGreatDoor
open Go.RowKit Go.Shelf Go.Sort
open Go.ChangeShapes Go.WideShapes Go.ChangeAt
set_option maxRecDepth 100000
theorem sorted20 {ss : List (List UInt8)} (h : ss.Perm names20) : (ss.mergeSort fun x y => decide (x ≤ y)) = names20 := by
  rw [mergeSort_of_perm h]
  first
    | exact List.mergeSort_of_pairwise (by decide)
    | exact List.mergeSort_of_sorted (by decide)
set_option maxHeartbeats 400000 in
theorem commands_made (w : World) : Calls Tryz.prog 11 #[] w fun e w' => ∃ v, e = .returned v ∧ OwnTx w' w.heap.size v names20 ∧ Below w.heap.size w w' := by
  obtain ⟨j0, hj, hy0, hy1, hy2⟩ := info_parts info9
  have HC := Lib.hid (table_made w)
  go_enter Tryz.func11, Tryz.ntmps11
  go_wp2_with (first | (at_range; refine wpList_range_own _ rfl _ 43 rfl 9 _ law9 Tryz.underlying43 cmdR w.heap.size n D rfl HO.out ?_; intro w2 hrg hg hs; have HRG := Lib.hid hrg; have HG := Lib.hid hg; have HS := Lib.hid hs; clear hrg hg hs; go_frame) | (go_at_call 20; refine HC.out.mono ?_; clear HC; rintro e w1 ⟨rfl, ⟨D, n, h1, h2, h3⟩, h4⟩; dsimp only; have HO := Lib.hid h1; have HP := Lib.hid h2; have HB := Lib.hid h4; clear h1 h2 h4))
  have hsz1 := HB.out.size
  have HB2 := Lib.hid (HB.out.grown HG.out hsz1 (fun k e => by cases e))
  go_loopg [1] (Maps.size D) (fun k v wr => ∃ left cnt ss, k = cnt ∧ wr.ranges Tryz.prog 9 cmdR w.heap.size w1.heap.size n D left cnt ∧ OwnTx wr w.heap.size v ss ∧ Collected D left ss ∧ Below w.heap.size w wr ∧ ss.length + cnt ≤ 15)
  case atStart => exact ⟨_, _, [], rfl, HRG.out, OwnTx.nil _ _, Collected.start D, HB2.out, by have := HO.out.size_le; simp; omega⟩
  case round =>
    obtain ⟨left, cnt, ss, hk, hrg, hrow, hcol, hbel, hcs⟩ := hrel
    rename World => w3
    have HK := Lib.hid hk
    have HR := Lib.hid hrg
    have HW := Lib.hid hrow
    have HC := Lib.hid hcol
    have HBL := Lib.hid hbel
    have hsz3 := hbel.size
    have hlt3 := hrg.lt
    clear hk hrg hrow hcol hbel
    go_wp2_with (first | (at_next; refine wpList_next_ranges _ rfl _ rfl 9 law9 cmdR encStr (fun i : Nat => .func (.func i) #[] #[]) (fun key kl hk => by obtain ⟨x, hx, _⟩ := Maps.keyOf_str Tryz.underlying9 hk; exact ⟨x, hx⟩) (fun v y hv => cmdR_inv hv) w.heap.size w1.heap.size n _ _ _ rfl HR.out ?_ ?_))
    · intro hc0 hl0
      have hperm := (HC.out.perm HR.out.owns law9 Tryz.underlying9 hl0).trans HP.out
      have hl15 : ss.length = 15 := hperm.length_eq
      rcases HW.out.2 with ⟨hnil, h0⟩ | ⟨g, cap, cur, rfl, hbase, hb, h1, h2, h3', h4⟩
      · exact absurd h0 (by omega)
      · have hH : Holds encStr w3 g 0 ss.toArray := holds_of_block hb (by have := h4; simp only [Nat.mul_one] at this; exact this)
        have hgl : g < w3.heap.size := (Array.getElem?_eq_some_iff.1 hb).1
        have hc := Tryz.slices_Sort_string g 0 cap ss w3 hH hgl (by omega)
        have HS2 := Lib.hid hc
        have HP2 := Lib.hid hperm
        have HX := Lib.hid (And.intro hb (And.intro h1 (And.intro h2 h3')))
        have HL15 := Lib.hid hl15
        clear hl15 hc hperm hb h1 h2 h3' h4 hH
        go_wp2_with (go_at_call 21; refine HS2.out.mono ?_; rintro e w9 ⟨rfl, nn, os, hw9⟩; dsimp only; have HW9 := Lib.hid hw9; clear hw9)
        go_ret
        obtain ⟨hb, h1, h2, h3'⟩ := HX.out
        rw [HW9.out, sorted20 HP2.out]
        refine ⟨_, rfl, ?_, HBL.out.grown (grownBy_sorted _) hsz3 (fun j hj => by cases hj; exact hbase)⟩
        have e9 : ss.length = names20.length := by rw [HL15.out]; rfl
        unfold OwnTx
        rw [← e9]
        exact ownsRow_sorted (ss := ss) (ts := names20) e9.symm hbase hb h1 h2 h3'
    · intro x c kl yd yp w2' cnt2 hkey hlk hv hat hrg2 hlt hg2 hs2 hen
      obtain ⟨x', ex, rfl, _⟩ := Maps.keyOf_str Tryz.underlying9 hkey
      obtain rfl : x = x' := encStr_inj ex
      have hub : some w.heap.size ≠ u1.ownBlock := fun e => by
        obtain ⟨c0, hc0⟩ := ownsRow_blk HW.out e.symm
        obtain ⟨es, clk, hmb, _⟩ := HR.out.owns
        rw [hmb] at hc0; cases hc0
      have hur : some w1.heap.size ≠ u1.ownBlock := fun e => by
        obtain ⟨c0, hc0⟩ := ownsRow_blk HW.out e.symm
        obtain ⟨_, _, _, _, _, _, _, _, _, hit, _⟩ := HR.out
        rw [hit] at hc0; cases hc0
      have hrow2 : OwnTx w2' w.heap.size u1 ss := ownsRow_agree HW.out fun k hk => hg2.block k (HW.out.lt k hk).2 (fun e => hur (by rw [← e, hk]))
      have HR2 := Lib.hid hrg2
      have HW2 := Lib.hid hrow2
      have HC2 := Lib.hid (HC.out.step hlk hat)
      have HB3 := Lib.hid (HBL.out.grown hg2 hsz3 (fun k e => by cases e; exact hsz1))
      have hsz4 := HB3.out.size
      have HUB := Lib.hid hub
      have HUR := Lib.hid hur
      clear hkey hlk hat hrg2 hg2 hs2 hub hur hrow2 hv
      go_wp2_with (at_builtin; refine wpList_append_tag rfl _ _ 22 rfl w.heap.size 9 j0 (.string ⟨#[]⟩) 1 16 Tryz.underlying22 hj hy0 hy1 hy2 rfl (by decide) _ _ _ rfl (HW2.out.alloc _) ⟨w2'.heap.size, 0, none⟩ 1 1 [encStr x] rfl rfl (cell_one_new _ _ _) (by simp [Value.oneCell', encStr]) (by simp only [maxLen]; omega) (by omega) (by simp; omega) ?_; intro v' w6 o g _; have HO6 := Lib.hid (OwnTx.snoc (x := x) o); have HR6 := Lib.hid ((HR2.out.alloc _).kept g HUB.out HUR.out); have HB6 := Lib.hid ((HB3.out.alloc hsz4 _).grown g (by simp; omega) (fun k hk => (HW2.out.lt k hk).1)); clear o g)
      go_roundg cnt2
      case measure => rw [HK.out]; exact hlt
      case rel => exact ⟨_, cnt2, ss ++ [x], rfl, HR6.out, HO6.out, HC2.out, HB6.out, by simp; omega⟩
end Go.Proofs.YtjibdoofogmkcaaGreatDoor
end
section
namespace Go.Proofs.YtjibdoofogmkcaaGreatDoor
open Go.RowKit Go.Shelf
open Go.ChangeShapes Go.WideShapes Go.ChangeAt
def cn (l : List (List UInt8)) : List (List UInt8) × List (List UInt8) := (cnd l).getD ([], [])
def ce (l : List (List UInt8)) : Int := if (cnd l).isSome then 0 else 2
def rn (a b : List (List UInt8)) : List (List (List UInt8)) := match rnd a b with
  | .ok rs => rs
  | .error _ => []
def re (a b : List (List UInt8)) : Int := match rnd a b with
  | .ok _ => 0
  | .error k => k
def CondA (w : World) (l : List (List UInt8)) (e : Ending) (w' : World) : Prop :=
  ∃ a c b d, e = .returned (.tuple #[.slice a (cn l).1.length c, .slice b (cn l).2.length d, .int .i64 (ce l)]) ∧ OwnTx w' w.heap.size (.slice a (cn l).1.length c) (cn l).1 ∧ OwnTx w' w.heap.size (.slice b (cn l).2.length d) (cn l).2 ∧ Below w.heap.size w w'
theorem condA {w w' : World} {l : List (List UInt8)} {e : Ending} (h : CondR w l e w') : CondA w l e w' := by
  obtain ⟨h1, h2, h3⟩ := h
  cases hc : cnd l with
  | none =>
    have e0 := h2 hc
    refine ⟨none, 0, none, 0, ?_, ?_, ?_, h3⟩
    · rw [e0]; simp [cn, ce, hc]
    · simp only [cn, hc]; exact OwnTx.nil _ _
    · simp only [cn, hc]; exact OwnTx.nil _ _
  | some p =>
    obtain ⟨cs, bs⟩ := p
    obtain ⟨u, v, e0, g1, g2⟩ := h1 cs bs hc
    obtain ⟨a, c, rfl⟩ := ownsRow_form g1
    obtain ⟨b, d, rfl⟩ := ownsRow_form g2
    exact ⟨a, c, b, d, by rw [e0]; simp [cn, ce, hc], by simp only [cn, hc]; exact g1, by simp only [cn, hc]; exact g2, h3⟩
def RoundsA (w : World) (x y : List (List UInt8)) (e : Ending) (w' : World) : Prop :=
  ∃ a c, e = .returned (.tuple #[.slice a (rn x y).length c, .int .i64 (re x y)]) ∧ OwnRows w' w.heap.size (.slice a (rn x y).length c) (rn x y) ∧ Below w.heap.size w w'
theorem roundsA {w w' : World} {x y : List (List UInt8)} {e : Ending} (h : RoundsR w x y e w') : RoundsA w x y e w' := by
  obtain ⟨h1, h2, h3⟩ := h
  cases hc : rnd x y with
  | error k =>
    have e0 := h2 k hc
    refine ⟨none, 0, ?_, ?_, h3⟩
    · rw [e0]; simp [rn, re, hc]
    · simp only [rn, hc]; exact OwnRows.nil _ _
  | ok rs =>
    obtain ⟨v, e0, g1⟩ := h1 rs hc
    obtain ⟨us, g2, _⟩ := id g1
    obtain ⟨a, c, rfl⟩ := ownsRow_form g2
    exact ⟨a, c, by rw [e0]; simp [rn, re, hc], by simp only [rn, hc]; exact g1, h3⟩
theorem cn_len (l : List (List UInt8)) : (cn l).2.length = (cn l).1.length ∨ (cn l).2.length = (cn l).1.length + 1 := by
  unfold cn
  cases hc : cnd l with
  | none => exact .inl rfl
  | some p => exact cnd_len l.length l (Nat.le_refl _) p hc
theorem bulk_len (l : List (List UInt8)) : l.length ≤ bulk l := by
  induction l with
  | nil => simp
  | cons x l ih => simp [bulk] at ih ⊢; omega
theorem bulk_all {l : List (List UInt8)} {n : Nat} (h : bulk l ≤ n) : ∀ x ∈ l, x.length ≤ n := by
  intro x hx
  obtain ⟨i, hi⟩ := List.mem_iff_getElem?.1 hx
  have := bulk_get hi
  omega
theorem splAll_length : ∀ (l : List (List UInt8)) (vs : List (List (List UInt8))), splAll l = some vs → vs.length = l.length := by
  intro l
  induction l with
  | nil => intro vs h; cases h; rfl
  | cons t l ih =>
    intro vs e
    rw [splAll] at e
    cases h1 : spl t with
    | none => rw [h1] at e; cases e
    | some y =>
      cases h2 : splAll l with
      | none => rw [h1, h2] at e; cases e
      | some z => rw [h1, h2] at e; cases e; simp [ih z h2]
theorem rn_len {x y : List (List UInt8)} (hx : x.length ≤ 1000) (hy : y.length ≤ 1000) (h1 : ∀ t ∈ x, t.length ≤ 1000) (h2 : ∀ t ∈ y, t.length ≤ 1000) : (rn x y).length ≤ 2000 ∧ ∀ r ∈ rn x y, r.length ≤ 1000000 := by
  unfold rn rnd
  split
  · rename_i rs hrs
    split at hrs
    · cases hrs
    · split at hrs
      · rename_i vs ls e1 e2
        split at hrs
        · cases hrs
        · cases hrs
          have l1 := splAll_length _ _ e1
          have l2 := splAll_length _ _ e2
          have hv := splAll_len h1 e1
          refine ⟨by simpa using most_le hv (splAll_len h2 e2), fun r hr => ?_⟩
          obtain ⟨k, _, rfl⟩ := List.mem_map.1 hr
          have hxy : x.length = y.length := by omega
          rw [← rowUp_all (k := k) (vs := vs) (ls := ls) (by omega)]
          have := rowUp_len (k := k) (ls := ls) hv ls.length
          have : ls.length * 1000 ≤ 1000 * 1000 := Nat.mul_le_mul_right _ (by omega)
          omega
      · cases hrs
  · exact ⟨Nat.zero_le _, fun r hr => by cases hr⟩
theorem cnd_size : ∀ (n : Nat) (l : List (List UInt8)), l.length ≤ n → ∀ p, cnd l = some p → p.1.length ≤ l.length := by
  intro n
  induction n with
  | zero => intro l h p hp; have : l = [] := List.eq_nil_of_length_eq_zero (by omega); subst this; simp [cnd] at hp
  | succ n ih =>
    intro l h p hp
    rw [cnd.eq_def] at hp
    cases l with
    | nil => cases hp
    | cons c r =>
      simp only at hp
      split at hp
      · cases hp
      · cases hp; simp
      · rename_i b x r3 hd
        have h9 := dropIf_len wThen r
        rw [hd] at h9
        simp only [List.length_cons] at h h9 ⊢
        split at hp
        · obtain ⟨q, hq, rfl⟩ := Option.map_eq_some_iff.1 hp
          have := ih r3 (by omega) q hq
          simp only [List.length_cons]
          omega
        · split at hp
          · cases hp; simp
          · cases hp
theorem cn_size (l : List (List UInt8)) : (cn l).1.length ≤ l.length := by
  unfold cn
  cases hc : cnd l with
  | none => exact Nat.zero_le _
  | some p => exact cnd_size l.length l (Nat.le_refl _) p hc
end Go.Proofs.YtjibdoofogmkcaaGreatDoor
end
section
namespace Go.Proofs.YtjibdoofogmkcaaGreatDoor
open Go.RowKit Go.Shelf
open Go.ChangeShapes Go.WideShapes Go.ChangeAt
set_option maxRecDepth 100000
def AwakeOk : Prop := ∀ w : World, Calls Tryz.prog 5 #[] w fun e w' => e = .returned (.bool true) ∧ Below w.heap.size w w'
set_option maxHeartbeats 1000000 in
theorem reads_great (hA : AwakeOk) (w : World) (u v : Value) (x y : List (List UInt8)) (hu : StrRow w u x) (hv : StrRow w v y) (h1 : bulk x ≤ 10000000) (h2 : bulk y ≤ 10000000) (hb : ¬ (bulk x ≤ 800 ∧ bulk y ≤ 800)) :
    Calls Tryz.prog 3 #[u, v] w fun e w' => e = .returned (.bool true) ∧ Below w.heap.size w w' := by
  have HS1 := Lib.hid (small_any w u x hu h1)
  have HS2 := Lib.hid (small_any w v y hv h2)
  have HAW := Lib.hid (hA w)
  obtain ⟨a, c, rfl, ha⟩ := hu.form
  obtain ⟨b, d, rfl, hb'⟩ := hv.form
  clear hu hv ha hb' h1 h2 hA
  by_cases hw : bulk x ≤ 800
  · have hw2 : ¬ bulk y ≤ 800 := fun h => hb ⟨hw, h⟩
    have e1 : decide (bulk x ≤ 800) = true := by simp [hw]
    have e2 : decide (bulk y ≤ 800) = false := by simp [hw2]
    rw [e1] at HS1
    rw [e2] at HS2
    clear hb hw hw2 e1 e2
    go_enter Tryz.func3, Tryz.ntmps3
    go_wp2_with (first | (go_at_call 4; refine HS1.out.mono ?_; clear HS1; rintro e w1 ⟨rfl, rfl⟩; dsimp only) | (go_at_call 4; refine HS2.out.mono ?_; clear HS2; rintro e w1 ⟨rfl, rfl⟩; dsimp only) | (go_at_call 5; refine HAW.out.mono ?_; clear HAW; rintro e w1 ⟨rfl, hb⟩; dsimp only; have HB := Lib.hid hb; clear hb))
    go_ret
    exact ⟨rfl, HB.out⟩
  · have e1 : decide (bulk x ≤ 800) = false := by simp [hw]
    rw [e1] at HS1
    clear hb hw e1
    go_enter Tryz.func3, Tryz.ntmps3
    go_wp2_with (first | (go_at_call 4; refine HS1.out.mono ?_; clear HS1; rintro e w1 ⟨rfl, rfl⟩; dsimp only) | (go_at_call 5; refine HAW.out.mono ?_; clear HAW; rintro e w1 ⟨rfl, hb⟩; dsimp only; have HB := Lib.hid hb; clear hb))
    go_ret
    exact ⟨rfl, HB.out⟩
end Go.Proofs.YtjibdoofogmkcaaGreatDoor
end
section
namespace Go.Proofs.YtjibdoofogmkcaaGreatDoor
open Go.RowKit Go.Shelf
open Go.ChangeShapes Go.WideShapes Go.ChangeAt
set_option maxRecDepth 100000
theorem same_self (w : World) (u v : Value) (l : List (List UInt8)) (hu : StrRow w u l) (hv : StrRow w v l) (hl : l.length ≤ 1000000) : Calls Tryz.prog 10 #[u, v] w fun e w' => e = .returned (.bool true) ∧ Below w.heap.size w w' := by
  refine (same_any w u v l l hu hv hl hl).mono ?_
  rintro e w' ⟨rfl, h⟩
  exact ⟨by simp, h⟩
set_option maxHeartbeats 2000000 in
theorem reads_small (hA : AwakeOk) (w : World) (u v : Value) (x y : List (List UInt8)) (hu : StrRow w u x) (hv : StrRow w v y) (h1 : bulk x ≤ 800) (h2 : bulk y ≤ 800) :
    Calls Tryz.prog 3 #[u, v] w fun e w' => e = .returned (.bool true) ∧ Below w.heap.size w w' := by
  have s1 := small_any w u x hu (by omega)
  have s2 := small_any w v y hv (by omega)
  rw [show decide (bulk x ≤ 800) = true by simp [h1]] at s1
  rw [show decide (bulk y ≤ 800) = true by simp [h2]] at s2
  have HS1 := Lib.hid s1
  have HS2 := Lib.hid s2
  have HAW := Lib.hid hA
  have x1 : x.length ≤ 800 := Nat.le_trans (bulk_len x) h1
  have y1 : y.length ≤ 800 := Nat.le_trans (bulk_len y) h2
  have X2 := Lib.hid (fun t ht => Nat.le_trans (bulk_all h1 t ht) (by decide) : ∀ t ∈ x, t.length ≤ 1000)
  have Y2 := Lib.hid (fun t ht => Nat.le_trans (bulk_all h2 t ht) (by decide) : ∀ t ∈ y, t.length ≤ 1000)
  obtain ⟨a, c, rfl, ha⟩ := hu.form
  obtain ⟨b, d, rfl, hb'⟩ := hv.form
  have HU := Lib.hid hu
  have HV := Lib.hid hv
  obtain ⟨hr1, hr2⟩ := rn_len (x := x) (y := y) (by omega) (by omega) X2.out Y2.out
  have HR2 := Lib.hid hr2
  have hcl : (cn x).1.length ≤ 1000000 ∧ (cn x).2.length ≤ 1000000 := by
    have h := cn_size x
    have h' := cn_len x
    omega
  obtain ⟨c1, c2⟩ := hcl
  clear hu hv ha hb' h1 h2 hA s1 s2 hr2
  go_enter Tryz.func3, Tryz.ntmps3
  go_wp2_with (first
    | (go_at_call 4; refine HS1.out.mono ?_; clear HS1; rintro e w0 ⟨rfl, rfl⟩; dsimp only)
    | (go_at_call 4; refine HS2.out.mono ?_; clear HS2; rintro e w0 ⟨rfl, rfl⟩; dsimp only)
    | (go_at_call 6; refine (cond_any w _ x HU.out (by omega)).mono ?_; rintro e w1 g; obtain ⟨a1, c1', b1, d1, rfl, k1, k2, k3⟩ := condA g; dsimp only; have A1 := Lib.hid k1; have B1 := Lib.hid k2; have L1 := Lib.hid k3; clear g k1 k2 k3)
    | (go_at_call 7; refine (cond_ref w1 _ x (HU.out.later L1.out) (by omega)).mono ?_; rintro e w2 g; obtain ⟨a2, c2', b2, d2, rfl, k1, k2, k3⟩ := condA g; dsimp only; have A2 := Lib.hid k1; have B2 := Lib.hid k2; have A1' := Lib.hid (A1.out.later k3); have B1' := Lib.hid (B1.out.later k3); have L2 := Lib.hid (L1.out.trans (k3.mono L1.out.size)); clear g k1 k2 k3 A1 B1)
    | (go_at_call 8; refine (rounds_made w2 _ _ x y (HU.out.later L2.out) (HV.out.later L2.out) (by omega) X2.out Y2.out).mono ?_; rintro e w3 g; obtain ⟨a3, c3, rfl, k1, k3⟩ := roundsA g; dsimp only; have R3 := Lib.hid k1; have A1 := Lib.hid (A1'.out.later k3); have B1 := Lib.hid (B1'.out.later k3); have A2' := Lib.hid (A2.out.later k3); have B2' := Lib.hid (B2.out.later k3); have L3 := Lib.hid (L2.out.trans (k3.mono L2.out.size)); clear g k1 k3 A1' B1' A2 B2)
    | (go_at_call 9; refine (rounds_ref w3 _ _ x y (HU.out.later L3.out) (HV.out.later L3.out) (by omega) X2.out Y2.out).mono ?_; rintro e w4 g; obtain ⟨a4, c4, rfl, k1, k3⟩ := roundsA g; dsimp only; have R4 := Lib.hid k1.rows; have R3' := Lib.hid (R3.out.later k3).rows; have A1' := Lib.hid (A1.out.later k3); have B1' := Lib.hid (B1.out.later k3); have A2 := Lib.hid (A2'.out.later k3); have B2 := Lib.hid (B2'.out.later k3); have L4 := Lib.hid (L3.out.trans (k3.mono L3.out.size)); have T1 := Lib.hid True.intro; clear g k1 k3 A1 B1 A2' B2' R3)
    | (go_at_call 10; clear T1; refine (same_self w4 _ _ (cn x).1 A1'.out.str A2.out.str (by omega)).mono ?_; rintro e w5 ⟨rfl, k3⟩; dsimp only; have R4' := Lib.hid (R4.out.later k3); have R3 := Lib.hid (R3'.out.later k3); have B1 := Lib.hid (B1'.out.later k3); have B2' := Lib.hid (B2.out.later k3); have L5 := Lib.hid (L4.out.trans (k3.mono L4.out.size)); have T2 := Lib.hid True.intro; clear k3 A1' A2 B1' B2 R4 R3')
    | (go_at_call 10; clear T2; refine (same_self w5 _ _ (cn x).2 B1.out.str B2'.out.str (by omega)).mono ?_; rintro e w6 ⟨rfl, k3⟩; dsimp only; have R4 := Lib.hid (R4'.out.later k3); have R3' := Lib.hid (R3.out.later k3); have L6 := Lib.hid (L5.out.trans (k3.mono L5.out.size)); clear k3 B1 B2' R4' R3))
  obtain ⟨a9, c9, e9, h3⟩ := R3'.out
  obtain ⟨b9, d9, f9, h4⟩ := R4.out
  simp only [Value.slice.injEq, true_and] at e9 f9
  obtain ⟨rfl, rfl⟩ := e9
  obtain ⟨rfl, rfl⟩ := f9
  have H3 := Lib.hid h3
  have H4 := Lib.hid h4
  have HCN := Lib.hid (cn_len x)
  clear h3 h4 R3' R4
  go_loopg [78] (rn x y).length (fun k iv wr => ∃ i : Nat, iv = .int .i64 (i : Int) ∧ k = (rn x y).length - i ∧ i ≤ (rn x y).length ∧ Below w6.heap.size w6 wr)
  case atStart => exact ⟨0, rfl, by omega, by omega, Below.refl _ _⟩
  case round =>
    obtain ⟨i, rfl, hk, hi2, hbel⟩ := hrel
    rename World => w7
    have HK := Lib.hid hk
    have HB7 := Lib.hid hbel
    clear hk hbel
    by_cases hlt : i < (rn x y).length
    · have t1 : (i : Int) < ((rn x y).length : Int) := by omega
      obtain ⟨r, hr⟩ : ∃ r, (rn x y)[i]? = some r := ⟨_, List.getElem?_eq_getElem hlt⟩
      obtain ⟨p, up, rfl, hp, hop⟩ := H3.out i r hr
      obtain ⟨q, uq, rfl, hq, hoq⟩ := H4.out i r hr
      have g1 := cell_later hp HB7.out
      have g2 := cell_later hq HB7.out
      have O1 := Lib.hid (fun W hb => ((hop.later HB7.out).later hb).str : ∀ W, Below w7.heap.size w7 W → StrRow W _ r)
      have O2 := Lib.hid (fun W hb => ((hoq.later HB7.out).later hb).str : ∀ W, Below w7.heap.size w7 W → StrRow W _ r)
      have hrl := HR2.out r (List.mem_of_getElem? hr)
      have T3 := Lib.hid (fun W hb => same_self W _ _ r (O1.out W hb) (O2.out W hb) hrl : ∀ W, Below w7.heap.size w7 W → Calls Tryz.prog 10 #[_, _] W fun e w' => e = .returned (.bool true) ∧ Below W.heap.size W w')
      clear hr hp hop hq hoq
      go_wp2
      go_region_with (go_at_call 10; refine (T3.out _ (by first | exact Below.refl _ _ | exact (Below.refl _ _).drew)).mono ?_; rintro e w8 ⟨rfl, k3⟩)
      all_goals
        have HK3 := Lib.hid k3
        clear k3
        go_wp2
        go_roundg ((rn x y).length - (i + 1))
        case measure => rw [HK.out]; omega
        case rel => exact ⟨i + 1, by go_num, rfl, by omega, HB7.out.trans (by first | exact HK3.out.mono HB7.out.size | exact (((Below.refl _ w7).drew).trans (HK3.out.mono (Nat.le_refl _))).mono HB7.out.size)⟩
    · have t1 : ¬ (i : Int) < ((rn x y).length : Int) := by omega
      have L7 := Lib.hid (L6.out.trans (HB7.out.mono L6.out.size))
      have hq : (((cn x).2.length : Int) == ((cn x).1.length : Int)) = true ∨ ((((cn x).2.length : Int) == ((cn x).1.length : Int)) = false ∧ (((cn x).2.length : Int) == ((cn x).1.length : Int) + 1) = true) := by
        rcases HCN.out with h | h
        · exact .inl (by simp [h])
        · refine .inr ⟨beq_eq_false_iff_ne.2 (by omega), beq_iff_eq.2 (by omega)⟩
      cases hce : (ce x != 0) with
      | false =>
        rcases hq with q1 | ⟨q1, q2⟩
        · have HX := Lib.hid hce
          go_wp2_with (first
            | (go_at_call 11; refine (commands_made w7).mono ?_; rintro e w8 ⟨v8, rfl, k1, k3⟩; dsimp only; have N1 := Lib.hid k1; have L8 := Lib.hid (L7.out.trans (k3.mono L7.out.size)); clear k1 k3)
            | (go_at_call 12; refine (names_ref w8).mono ?_; rintro e w9 ⟨v9, rfl, k1, k3⟩; dsimp only; have N2 := Lib.hid k1; have N1' := Lib.hid (N1.out.later k3); have L9 := Lib.hid (L8.out.trans (k3.mono L8.out.size)); clear k1 k3 N1)
            | (go_at_call 10; refine (same_self w9 _ _ names20 N1'.out.str N2.out.str (by decide)).mono ?_; rintro e w10 ⟨rfl, k3⟩; dsimp only; have L10 := Lib.hid (L9.out.trans (k3.mono L9.out.size)); clear k3)
            | (go_at_call 5; refine (HAW.out w10).mono ?_; rintro e w11 ⟨rfl, k3⟩; dsimp only; have L11 := Lib.hid (L10.out.trans (k3.mono L10.out.size)); clear k3))
          go_ret
          exact ⟨rfl, L11.out⟩
        · have HX := Lib.hid hce
          go_wp2_with (first
            | (go_at_call 11; refine (commands_made w7).mono ?_; rintro e w8 ⟨v8, rfl, k1, k3⟩; dsimp only; have N1 := Lib.hid k1; have L8 := Lib.hid (L7.out.trans (k3.mono L7.out.size)); clear k1 k3)
            | (go_at_call 12; refine (names_ref w8).mono ?_; rintro e w9 ⟨v9, rfl, k1, k3⟩; dsimp only; have N2 := Lib.hid k1; have N1' := Lib.hid (N1.out.later k3); have L9 := Lib.hid (L8.out.trans (k3.mono L8.out.size)); clear k1 k3 N1)
            | (go_at_call 10; refine (same_self w9 _ _ names20 N1'.out.str N2.out.str (by decide)).mono ?_; rintro e w10 ⟨rfl, k3⟩; dsimp only; have L10 := Lib.hid (L9.out.trans (k3.mono L9.out.size)); clear k3)
            | (go_at_call 5; refine (HAW.out w10).mono ?_; rintro e w11 ⟨rfl, k3⟩; dsimp only; have L11 := Lib.hid (L10.out.trans (k3.mono L10.out.size)); clear k3))
          go_ret
          exact ⟨rfl, L11.out⟩
      | true =>
        clear hq
        go_wp2_with (first
          | (go_at_call 11; refine (commands_made w7).mono ?_; rintro e w8 ⟨v8, rfl, k1, k3⟩; dsimp only; have N1 := Lib.hid k1; have L8 := Lib.hid (L7.out.trans (k3.mono L7.out.size)); clear k1 k3)
          | (go_at_call 12; refine (names_ref w8).mono ?_; rintro e w9 ⟨v9, rfl, k1, k3⟩; dsimp only; have N2 := Lib.hid k1; have N1' := Lib.hid (N1.out.later k3); have L9 := Lib.hid (L8.out.trans (k3.mono L8.out.size)); clear k1 k3 N1)
          | (go_at_call 10; refine (same_self w9 _ _ names20 N1'.out.str N2.out.str (by decide)).mono ?_; rintro e w10 ⟨rfl, k3⟩; dsimp only; have L10 := Lib.hid (L9.out.trans (k3.mono L9.out.size)); clear k3)
          | (go_at_call 5; refine (HAW.out w10).mono ?_; rintro e w11 ⟨rfl, k3⟩; dsimp only; have L11 := Lib.hid (L10.out.trans (k3.mono L10.out.size)); clear k3))
        go_ret
        exact ⟨rfl, L11.out⟩
end Go.Proofs.YtjibdoofogmkcaaGreatDoor
end
section
namespace Go.Proofs.YtjibdoofogmkcaaGreatDoor
set_option maxRecDepth 100000
theorem allSpec : ClosedOfChecked.AllSpec Tryz.prog := ClosedOfChecked.allSpec_of Tryz.checked.wellFormed (by kernel_rfl)
theorem Tryz.laidOut : laidOutB Tryz.prog = true := ClosedOfChecked.laidOutB_of allSpec (by kernel_rfl)
theorem Tryz.mapsRowed : mapsRowed Tryz.prog = true := ClosedOfChecked.mapsRowed_of allSpec
end Go.Proofs.YtjibdoofogmkcaaGreatDoor
end
section
namespace Go.Proofs.YtjibdoofogmkcaaGreatDoor
set_option maxRecDepth 100000
theorem fact_stops : Tryz.prog.stopsHeard = true := (Bool.and_eq_true_iff.1 fact_enter).1
theorem fact_may : Tryz.prog.mayEnter = true := (Bool.and_eq_true_iff.1 fact_enter).2
theorem joined3 : joinedFacts Tryz.prog 3 Tryz.f3 (Rows.OpenSpec.upto Rows.basicReadsSpec).bare Rows.basicReadsUptoRow = true := by
  unfold joinedFacts
  rw [fact_wf, Tryz.laidOut, Tryz.mapsRowed, fact_inPlace, fact_unf, fact_rec, fact_named, fact_keys, fact_lifts, fact_stops, fact_may]
  kernel_rfl
end Go.Proofs.YtjibdoofogmkcaaGreatDoor
end
section
namespace Go.Proofs.YtjibdoofogmkcaaGreatDoor
theorem no_goes : Tryz.prog.funcs.any Func.goes = false := by kernel_rfl
theorem goes_none {P : Program} (h : P.funcs.any Func.goes = false) (g : Nat) : (P.funcs[g]?).any Func.goes = false := by
  cases hg : P.funcs[g]? with
  | none => rfl
  | some fn =>
    obtain ⟨hlt, he⟩ := Array.getElem?_eq_some_iff.1 hg
    have := Array.any_eq_false.1 h g hlt
    rw [he] at this
    simpa using this
theorem goes_false {P : Program} (h : P.funcs.any Func.goes = false) (f : FuncId) : P.goes f = false := by
  unfold Program.goes
  rw [h, Bool.and_false, Bool.or_false, Bool.eq_false_iff]
  intro hc
  simp [goes_none h] at hc
theorem goesFrom_false {P : Program} (h : P.funcs.any Func.goes = false) (s : String) : P.goesFrom s = false := by
  unfold Program.goesFrom
  cases P.funcNamed s with
  | none => rfl
  | some f => exact goes_false h f
theorem goesAt_false {P : Program} (h : P.funcs.any Func.goes = false) (s : String) : P.goesAt .entering s = false := by
  unfold Program.goesAt
  rw [goesFrom_false h]
  rfl
set_option maxRecDepth 100000 in
theorem row_goes : false = Rows.basicReadsUptoRow.goesBy Tryz.pinned.checked.prog :=
  (goesAt_false (P := Tryz.prog) no_goes Rows.basicReadsUptoRow.func).symm
end Go.Proofs.YtjibdoofogmkcaaGreatDoor
end
