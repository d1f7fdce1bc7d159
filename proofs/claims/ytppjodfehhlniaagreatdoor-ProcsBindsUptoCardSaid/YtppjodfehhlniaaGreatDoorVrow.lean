/-
  ProcsBinds: the second form's row and its card. Conditions: none.
-/
import Derived.Test.YtppjodfehhlniaaGreatDoorVssToV35
import Derived.Test.YtppjodfehhlniaaGreatDoorUnaToVt3
import Derived.Test.YtppjodfehhlniaaGreatDoorWrg
import Derived.Test.YtppjodfehhlniaaGreatDoorCards
import Derived.Deep.DeepHandedRow
import Derived.SliceStrings
import Derived.ProofKit
import Derived.OpenShut
import Derived.SevenTiedAt
import Derived.ChangeMaps5
set_option linter.unusedVariables false
set_option linter.unusedSimpArgs false
set_option linter.unusedSectionVars false
set_option linter.deprecated false
section
namespace Go.Proofs.YtppjodfehhlniaaGreatDoor
open Go.ChangeShapes Go.WideShapes Go.ChangeAt Go.RowKit
theorem Tryz.own : ownKnob Tryz.prog.godebug = none := by kernel_rfl
theorem Tryz.cells9 : Tryz.prog.cellsOf 9 = 1 := by kernel_rfl
def zvc : List (DataW Unit) → List Value
 | [] => []
 | .lit (.int k n) :: r => .int k n :: zvc r
 | _ :: r => undef :: zvc r
def zm6 : DataW Unit → List Value
 | .agg l => zvc l
 | _ => []
def zv1 : DataW Unit → List Value
 | .agg l => l.flatMap zm6
 | _ => []
def lay (h : Array Obj) (g : Nat) (l : List Value) : Array Obj := h.modify g fun
 | .cells _ t frozen => .cells l.toArray t frozen
 | o => o
noncomputable def zui : Nat := (World.holding Tryz.prog default ⟨#[], #[], []⟩).heap.size
def zst : Array Obj := #[.cells #[.string ⟨#[105, 110, 118, 97, 108, 105, 100, 32, 115, 121, 110, 116, 97, 120]⟩] 390, .cells #[.string ⟨#[118, 97, 108, 117, 101, 32, 111, 117, 116, 32, 111, 102, 32, 114, 97, 110, 103, 101]⟩] 390]
noncomputable def zgk (os : Os) : World :=
 { World.holding Tryz.prog os ⟨zst, #[], []⟩ with heap := lay (lay (lay (lay (lay (lay (lay (World.holding Tryz.prog os ⟨zst, #[], []⟩).heap 0 [.iface 388 (.pointer (some ⟨zui, 0, none⟩))]) 1 [.iface 388 (.pointer (some ⟨zui + 1, 0, none⟩))]) 3 (zm6 Rows.laid_unicode_utf8_first)) 4 (zv1 Rows.laid_unicode_utf8_acceptRanges)) 5 (zm6 Rows.laid_internal_strconv_uint64pow10)) 6 (zm6 Rows.laid_math_bits_deBruijn32tab)) 7 (zm6 Rows.laid_math_bits_deBruijn64tab) }
theorem ztM (os : Os) (args : Array Value) : laidMet Tryz.prog Rows.procsBindsUptoRow.laid ((zgk os).forCall (fun _ _ => 0) ⟨#[], args, []⟩).memory :=
 laidMet_of_run' 8 (by kernel_rfl) (by kernel_rfl)
theorem zoz (os : Os) {H : Type} (enc : TypeId × Value → H) :
  (Rows.OpenSpec.upto Rows.procsBindsSpec).preRow enc Tryz.prog Tryz.f3 Rows.procsBindsUptoRow.domain false Rows.procsBindsUptoRow.laid ((zgk os).forCall (fun _ _ => 0) ⟨#[], #[.string ⟨#[]⟩, .slice none 0 0, .int .i64 0], []⟩).memory #[.string ⟨#[]⟩, .slice none 0 0, .int .i64 0] := by
 have hw : (DataW.whole enc Tryz.prog ((zgk os).forCall (fun _ _ => 0) ⟨#[], #[.string ⟨#[]⟩, .slice none 0 0, .int .i64 0], []⟩).memory Tryz.f3.params.toList Rows.procsBindsSpec.vars false #[Value.string ⟨#[]⟩, Value.slice none 0 0, Value.int .i64 0].toList 8).map (fun x => (x.1, x.2.1)) =
   some ([.lit (.string []), .nil, .lit (.int .i64 0)], []) := by kernel_rfl
 obtain ⟨⟨x1, x2, x3⟩, hx, hx1⟩ := Option.map_eq_some_iff.1 hw
 simp only [Prod.mk.injEq] at hx1
 obtain ⟨rfl, rfl⟩ := hx1
 exact OpenSpec.preRow_of_cond 8 hx (by kernel_rfl) (fun k hk => by cases hk; kernel_rfl) (by kernel_rfl) (ztM os _)
theorem zsu {H : Type} (ss : List ByteArray) : bulk (ss.map (·.data.toList)) = Rows.uptoBulkAll (H := H) (strs ss) := by
 induction ss with
 | nil => rfl
 | cons s ss ih =>
   show bulk (s.data.toList :: ss.map (·.data.toList)) = Rows.uptoBulkAll (H := H) (DataW.lit (.string s.data.toList) :: strs ss)
   rw [Rows.uptoBulkAll, ← ih]
   simp [bulk, Rows.uptoBulk]
theorem ztN {H : Type} {enc : TypeId × Value → H} {W : World} {a0 : Option Addr} {len cap fuel : Nat} {x : DataW H × List MemPlace}
  (hf : DataW.trod enc Tryz.prog W 0 (fun _ => true) true fuel 22 [.slice a0 len cap] = some x) :
  ∃ l : List (List UInt8), StrRow W (.slice a0 len cap) l ∧ CapOk (.slice a0 len cap) ∧ bulk l ≤ Rows.uptoBulk x.1 := by
 rcases open_strings Tryz.underlying22 Tryz.underlying9 Tryz.cells9 hf with ⟨hcs, hx⟩ | ⟨a, len', cap', ss, hcs, _, hl, hm, hz, hx, hcell, _⟩
 ·simp at hcs
  obtain ⟨rfl, rfl, rfl⟩ := hcs
  exact ⟨[], .inl ⟨rfl, rfl⟩, CapOk.nil, Nat.zero_le _⟩
 ·simp at hcs
  obtain ⟨rfl, rfl, rfl⟩ := hcs
  subst hx
  simp only [if_true] at hz
  refine ⟨(ss.take len).map (·.data.toList), .inr ⟨a, cap, by simp; omega, fun i t hi => ?_⟩, by intro a' n' c' h'; cases h'; omega, ?_⟩
  ·rw [List.getElem?_map] at hi
   obtain ⟨X, hX, rfl⟩ := Option.map_eq_some_iff.1 hi
   have hj : i < len := by
    have := (List.getElem?_eq_some_iff.1 hX).1
    simp at this
    omega
   have hX' : ss.getD i ByteArray.empty = X := by
    rw [List.getElem?_take_of_lt hj] at hX
    simp [List.getD, hX]
   rw [hcell i (by omega), hX']
   simp [strV]
  ·rw [zsu (H := H)]
   simp only [Rows.uptoBulk]
   omega
theorem ztO {W : World} (h : W.ShapedOpen Tryz.prog) : ∃ m, Boxed W 2 3 (.int .i64 m) := by
 have h0 : ((begin Tryz.prog (fun _ _ => 0) default).world.heap[2]?).bind Obj.row? = some (#[.int .i64 0], 3) := by kernel_rfl
 obtain ⟨cs, hh, hs, hr⟩ := h.1 2 #[.int .i64 0] 3 (of_decide_eq_true (by kernel_rfl)) h0
 obtain ⟨m, hm⟩ := cell_of_shapedOpen_int (P := Tryz.prog) (g := 2) (t := 3) (zero := #[.int .i64 0]) h (of_decide_eq_true (by kernel_rfl)) h0 rfl (by kernel_rfl) (by kernel_rfl) Tryz.underlying3
 refine ⟨m, ?_⟩
 have hs1 : cs.size = 1 := hs
 obtain ⟨x, rfl⟩ : ∃ x, cs = #[x] := by
  refine ⟨cs[0]'(by omega), ?_⟩
  apply Array.ext
  ·simp [hs1]
  ·intro i h1 h2
   have : i = 0 := by simp at h2; omega
   subst this; rfl
 have e : W.cell? ⟨2, 0, none⟩ = some x := by simp [World.cell?, hh]
 rw [e] at hm
 cases hm
 exact hh
theorem zsv {n : Int} (h : (Lit.int .i64 n).wf = true) : -9223372036854775808 ≤ n ∧ n ≤ 9223372036854775807 := by
 simp [Lit.wf] at h
 first | omega | exact h | exact ⟨by omega, by omega⟩
set_option maxRecDepth 100000 in
set_option maxHeartbeats 2000000 in
theorem zm7 (hAw : zfC) (os : Os) (started : os.Started) (H : Type) (enc : TypeId × Value → H) (F : Stop.Interp) :
  ReturnsInHanded {} Tryz.checked os 3 .any ((Rows.OpenSpec.upto Rows.procsBindsSpec).preRow enc Tryz.prog Tryz.f3 Rows.procsBindsUptoRow.domain false Rows.procsBindsUptoRow.laid) (((Rows.OpenSpec.upto Rows.procsBindsSpec).at F).post enc Tryz.prog Tryz.f3 false true false false) := by
 refine returnsInHanded_of_row (C := Tryz.checked) (s := Rows.OpenSpec.upto Rows.procsBindsSpec) Tryz.own started (by kernel_rfl) Tryz.func3
  (witness_row_at (enc := enc) (C := Tryz.checked) false (zgk os) #[.string ⟨#[]⟩, .slice none 0 0, .int .i64 0] rfl (by kernel_rfl) (by kernel_rfl) (by kernel_rfl) (zoz os enc)) ?_
 intro W base args ds gs before hval0 hW _ hcond0 _ _ hsh _
 obtain ⟨m0, hG⟩ := ztO hsh
 have hcond : Rows.uptoSmall H (ds ++ gs) = true := hcond0 _ rfl
 clear hcond0
 have hval : ∀ (j : Nat) t v, Tryz.f3.params[j]? = some t → args[j]? = some v → Value.okWide Tryz.prog W .any base t v := hval0
 have hW' := hW
 obtain ⟨p, q, hA0, hV0, rfl, _, _⟩ := hW
 have hA : DataW.TrodAll enc Tryz.prog W 0 (fun _ => true) true Tryz.f3.params.toList args.toList ds p := hA0
 rw [Tryz.params3] at hA hval
 obtain ⟨v0, v1, v2, d0, d1, d2, p0, p1, p2, rfl, rfl, rfl, h0, h1, h2⟩ := trodAll_three hA
 obtain ⟨rfl, rfl⟩ := trodVars_none hV0
 obtain ⟨s, rfl, rfl, rfl, hss⟩ := Go.ChangeMaps.open_string Tryz.underlying9 (hval 0 9 v0 rfl rfl) h0
 obtain ⟨a1, lb, cb, rfl⟩ := okWide_slice Tryz.underlying22 (hval 1 22 v1 rfl rfl)
 obtain ⟨now, rfl, rfl, rfl, hwf⟩ := open_int Tryz.underlying3 (hval 2 3 v2 rfl rfl) h2
 have h1k := h1
 obtain ⟨fuel1, hf1⟩ := h1
 clear hA0 hV0 hval0
 simp only [List.append_nil, List.nil_append] at hW' hcond
 have hlt : ∀ x ∈ p1, x.block < W.heap.size := fun x hx => by simpa using hW'.lt x (by simpa using hx)
 obtain ⟨y, hy, hcy, hby⟩ := ztN hf1
 have hsum : Rows.uptoBulkAll [.lit (.string s.data.toList), d1, .lit (.int .i64 now)] ≤ 1048576 := of_decide_eq_true hcond
 simp only [Rows.uptoBulkAll, Rows.uptoBulk] at hsum
 simp only at hby
 have hb1 : bulk [L s] ≤ 10000000 := by
  have : bulk [L s] = s.data.toList.length + 1 := by simp [bulk, L]
  omega
 have hr := zsv hwf
 refine (zso hAw W 3 m0 hG s _ y now hr.1 hr.2 hy hcy hb1 (by omega)).mono ?_
 rintro e W' ⟨rfl, bel⟩
 have e1 : ((Rows.OpenSpec.upto Rows.procsBindsSpec).at F).fn H ([.lit (.string s.data.toList), d1, .lit (.int .i64 now)] ++ []) = { results := [.lit (.bool true)], args := [.lit (.string s.data.toList), d1, .lit (.int .i64 now)] } := rfl
 refine ⟨_, rfl, _, _, _, [], [] ++ (p1 ++ []), [], hW', ?_, ?_, ?_, bel.frame _, fun h => by cases h⟩
 ·rw [e1]; exact trodAll_mk1 (shut_bool Tryz.underlying4 true)
 ·rw [e1]; exact trodAll_mk3 (Go.ChangeMaps.shut_string Tryz.underlying9 hss) (Below.trod Tryz.laidOut (by kernel_rfl) (of_decide_eq_true (by kernel_rfl)) h1k bel (fun x hx => hlt x hx)) (shut_int Tryz.underlying3 hwf)
 ·rw [e1]; rfl
theorem zsw (hAw : zfC) : Rows.ProcsBindsUptoSaid :=
 OpenClaim.holds_of_cond 3 Tryz.f3 rfl rfl rfl rfl rfl rfl rfl ⟨rfl, rfl, rfl, rfl, rfl⟩ rfl rfl rfl rfl rfl (by kernel_rfl) Tryz.func3 zu8
  (of_decide_eq_true (by kernel_rfl)) (by unfold Func.isWrapper; first | (rw [if_pos (by decide +kernel)]; kernel_rfl) | (rw [if_neg (by decide +kernel)]; exact ⟨rfl, rfl⟩))
  (fun os started H enc _ F => by rw [OpenClaim.pre_eq_preRow]; exact zm7 hAw os started H enc F)
theorem zqg (f : FuncId) (fn : Func) (hf : Tryz.pinned.checked.prog.funcNamed "threadbare/threadbarelaw21.ProcsBinds" = some f) (hfn : Tryz.pinned.checked.prog.funcs[f]? = some fn) :
  true = Tryz.pinned.checked.prog.looks [] ∧ ∀ (j : Nat) t, fn.params[j]? = some t → Tryz.pinned.checked.prog.wantsStandIn t = false := by
 obtain rfl : f = 3 := Option.some.inj ((show Tryz.prog.funcNamed "threadbare/threadbarelaw21.ProcsBinds" = some 3 by kernel_rfl).symm.trans hf) |>.symm
 obtain rfl : fn = Tryz.f3 := (Option.some.inj (Tryz.func3.symm.trans hfn)).symm
 refine ⟨by kernel_rfl, fun j t ht => ?_⟩
 rw [Tryz.params3] at ht
 have ht' : t = 9 ∨ t = 22 ∨ t = 3 := by simpa using Array.mem_of_getElem? ht
 rcases ht' with rfl | rfl | rfl
 ·exact (show Tryz.prog.wantsStandIn 9 = false by kernel_rfl)
 ·exact (show Tryz.prog.wantsStandIn 22 = false by kernel_rfl)
 ·exact (show Tryz.prog.wantsStandIn 3 = false by kernel_rfl)
theorem zsx (hAw : zfC) : Rows.ProcsBindsUptoCardSaid :=
 Claim7.holds_tied_plain_at .later [] _ _ _ _ (zsw hAw) (fun _ h => by cases h) (by kernel_rfl) (fun _ h => by cases h) zm5 rfl ⟨rfl, rfl⟩ (by kernel_rfl) rfl zqg ztJ
end Go.Proofs.YtppjodfehhlniaaGreatDoor
end
