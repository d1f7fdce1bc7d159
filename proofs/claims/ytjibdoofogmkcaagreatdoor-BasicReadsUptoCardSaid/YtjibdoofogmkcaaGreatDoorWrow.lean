/-
  BasicReads: the second form's row and its card. Conditions: none.
-/
import Derived.Test.YtjibdoofogmkcaaGreatDoorWs2ToWrg
import Derived.Test.YtjibdoofogmkcaaGreatDoorCards
import Derived.Test.YtjibdoofogmkcaaGreatDoorTie
import Derived.Deep.DeepHandedRow
import Derived.SliceStrings
import Derived.ProofKit
import Derived.OpenShut
import Derived.SevenTiedAt
set_option linter.unusedVariables false
set_option linter.unusedSimpArgs false
set_option linter.unusedSectionVars false
set_option linter.deprecated false
section
namespace Go.Proofs.YtjibdoofogmkcaaGreatDoor
open Go.ChangeShapes Go.WideShapes Go.ChangeAt Go.RowKit
theorem Tryz.own : ownKnob Tryz.prog.godebug = none := by kernel_rfl
theorem Tryz.cells9 : Tryz.prog.cellsOf 9 = 1 := by kernel_rfl
def flat1 : List (DataW Unit) → List Value
  | [] => []
  | .lit (.int k n) :: r => .int k n :: flat1 r
  | _ :: r => undef :: flat1 r
def flatOf : DataW Unit → List Value
  | .agg l => flat1 l
  | _ => []
def flat2 : DataW Unit → List Value
  | .agg l => l.flatMap flatOf
  | _ => []
def lay (h : Array Obj) (g : Nat) (l : List Value) : Array Obj := h.modify g fun
  | .cells _ t frozen => .cells l.toArray t frozen
  | o => o
noncomputable def laidWorld (os : Os) : World :=
  { World.holding Tryz.prog os ⟨#[], #[], []⟩ with heap := lay (lay (lay (lay (lay (World.holding Tryz.prog os ⟨#[], #[], []⟩).heap 1 (flatOf Rows.laid_internal_strconv_uint64pow10)) 2 (flatOf Rows.laid_unicode_utf8_first)) 3 (flat2 Rows.laid_unicode_utf8_acceptRanges)) 4 (flatOf Rows.laid_math_bits_deBruijn32tab)) 5 (flatOf Rows.laid_math_bits_deBruijn64tab) }
theorem laid_met (os : Os) (args : Array Value) : laidMet Tryz.prog Rows.basicReadsUptoRow.laid ((laidWorld os).forCall (fun _ _ => 0) ⟨#[], args, []⟩).memory :=
  laidMet_of_run' 8 (by kernel_rfl) (by kernel_rfl)
theorem witness_row (os : Os) {H : Type} (enc : TypeId × Value → H) :
    (Rows.OpenSpec.upto Rows.basicReadsSpec).preRow enc Tryz.prog Tryz.f3 Rows.basicReadsUptoRow.domain false Rows.basicReadsUptoRow.laid ((laidWorld os).forCall (fun _ _ => 0) ⟨#[], #[.slice none 0 0, .slice none 0 0], []⟩).memory #[.slice none 0 0, .slice none 0 0] := by
  have hw : (DataW.whole enc Tryz.prog ((laidWorld os).forCall (fun _ _ => 0) ⟨#[], #[.slice none 0 0, .slice none 0 0], []⟩).memory Tryz.f3.params.toList Rows.basicReadsSpec.vars false #[Value.slice none 0 0, Value.slice none 0 0].toList 8).map (fun x => (x.1, x.2.1)) =
      some ([.nil, .nil], []) := by kernel_rfl
  obtain ⟨⟨x1, x2, x3⟩, hx, hx1⟩ := Option.map_eq_some_iff.1 hw
  simp only [Prod.mk.injEq] at hx1
  obtain ⟨rfl, rfl⟩ := hx1
  exact OpenSpec.preRow_of_cond 8 hx (by kernel_rfl) (fun k hk => by cases hk; kernel_rfl) (by kernel_rfl) (laid_met os _)
theorem bulk_strs {H : Type} (ss : List ByteArray) : bulk (ss.map (·.data.toList)) = Rows.uptoBulkAll (H := H) (strs ss) := by
  induction ss with
  | nil => rfl
  | cons s ss ih =>
    show bulk (s.data.toList :: ss.map (·.data.toList)) = Rows.uptoBulkAll (H := H) (DataW.lit (.string s.data.toList) :: strs ss)
    rw [Rows.uptoBulkAll, ← ih]
    simp [bulk, Rows.uptoBulk]
theorem open_arg {H : Type} {enc : TypeId × Value → H} {W : World} {a0 : Option Addr} {len cap fuel : Nat} {x : DataW H × List MemPlace}
    (hf : DataW.trod enc Tryz.prog W 0 (fun _ => true) true fuel 22 [.slice a0 len cap] = some x) :
    ∃ l : List (List UInt8), StrRow W (.slice a0 len cap) l ∧ bulk l ≤ Rows.uptoBulk x.1 := by
  rcases open_strings Tryz.underlying22 Tryz.underlying9 Tryz.cells9 hf with ⟨hcs, hx⟩ | ⟨a, len', cap', ss, hcs, _, hl, hm, hz, hx, hcell, _⟩
  · simp at hcs
    obtain ⟨rfl, rfl, rfl⟩ := hcs
    exact ⟨[], .inl ⟨rfl, rfl⟩, Nat.zero_le _⟩
  · simp at hcs
    obtain ⟨rfl, rfl, rfl⟩ := hcs
    subst hx
    simp only [if_true] at hz
    refine ⟨(ss.take len).map (·.data.toList), .inr ⟨a, cap, by simp; omega, fun i t hi => ?_⟩, ?_⟩
    · rw [List.getElem?_map] at hi
      obtain ⟨X, hX, rfl⟩ := Option.map_eq_some_iff.1 hi
      have hj : i < len := by
        have := (List.getElem?_eq_some_iff.1 hX).1
        simp at this
        omega
      have hX' : ss.getD i ByteArray.empty = X := by
        rw [List.getElem?_take_of_lt hj] at hX
        simp [List.getD, hX]
      rw [hcell i (by omega), hX']
      simp [strV]
    · rw [bulk_strs (H := H)]
      simp only [Rows.uptoBulk]
      omega
theorem reads_any (hA : AwakeOk) (w : World) (u v : Value) (x y : List (List UInt8)) (hu : StrRow w u x) (hv : StrRow w v y) (h1 : bulk x ≤ 10000000) (h2 : bulk y ≤ 10000000) :
    Calls Tryz.prog 3 #[u, v] w fun e w' => e = .returned (.bool true) ∧ Below w.heap.size w w' := by
  by_cases h : bulk x ≤ 800 ∧ bulk y ≤ 800
  · exact reads_small hA w u v x y hu hv h.1 h.2
  · exact reads_great hA w u v x y hu hv h1 h2 h
set_option maxRecDepth 100000 in
set_option maxHeartbeats 2000000 in
theorem reads_lifted (hAw : AwakeOk) (os : Os) (started : os.Started) (H : Type) (enc : TypeId × Value → H) (F : Stop.Interp) :
    ReturnsInHanded {} Tryz.checked os 3 .any ((Rows.OpenSpec.upto Rows.basicReadsSpec).preRow enc Tryz.prog Tryz.f3 Rows.basicReadsUptoRow.domain false Rows.basicReadsUptoRow.laid) (((Rows.OpenSpec.upto Rows.basicReadsSpec).at F).post enc Tryz.prog Tryz.f3 false true false false) := by
  refine returnsInHanded_of_row (C := Tryz.checked) (s := Rows.OpenSpec.upto Rows.basicReadsSpec) Tryz.own started (by kernel_rfl) Tryz.func3
    (witness_row_at (enc := enc) (C := Tryz.checked) false (laidWorld os) #[.slice none 0 0, .slice none 0 0] rfl (by kernel_rfl) (by kernel_rfl) (by kernel_rfl) (witness_row os enc)) ?_
  intro W base args ds gs before hval0 hW _ hcond0 _ _ _ _
  have hcond : Rows.uptoSmall H (ds ++ gs) = true := hcond0 _ rfl
  clear hcond0
  have hval : ∀ (j : Nat) t v, Tryz.f3.params[j]? = some t → args[j]? = some v → Value.okWide Tryz.prog W .any base t v := hval0
  have hW' := hW
  obtain ⟨p, q, hA0, hV0, rfl, _, _⟩ := hW
  have hA : DataW.TrodAll enc Tryz.prog W 0 (fun _ => true) true Tryz.f3.params.toList args.toList ds p := hA0
  rw [Tryz.params3] at hA hval
  obtain ⟨v0, v1, d0, d1, p0, p1, rfl, rfl, rfl, h0, h1⟩ := trodAll_two hA
  obtain ⟨rfl, rfl⟩ := trodVars_none hV0
  obtain ⟨a0, lt, ct, rfl⟩ := okWide_slice Tryz.underlying22 (hval 0 22 v0 rfl rfl)
  obtain ⟨a1, lb, cb, rfl⟩ := okWide_slice Tryz.underlying22 (hval 1 22 v1 rfl rfl)
  have h0k := h0
  have h1k := h1
  obtain ⟨fuel0, hf0⟩ := h0
  obtain ⟨fuel1, hf1⟩ := h1
  clear hA0 hV0 hval0
  simp only [List.append_nil] at hW' hcond
  have hlt : ∀ x ∈ p0 ++ p1, x.block < W.heap.size := fun x hx => by simpa using hW'.lt x hx
  obtain ⟨x, hx, hbx⟩ := open_arg hf0
  obtain ⟨y, hy, hby⟩ := open_arg hf1
  have hsum : Rows.uptoBulkAll [d0, d1] ≤ 1048576 := of_decide_eq_true hcond
  simp only [Rows.uptoBulkAll] at hsum
  simp only at hbx hby
  refine (reads_any hAw W _ _ x y hx hy (by omega) (by omega)).mono ?_
  rintro e W' ⟨rfl, bel⟩
  have e1 : ((Rows.OpenSpec.upto Rows.basicReadsSpec).at F).fn H ([d0, d1] ++ []) = { results := [.lit (.bool true)], args := [d0, d1] } := rfl
  refine ⟨_, rfl, _, _, _, [], p0 ++ p1, [], hW', ?_, ?_, ?_, bel.frame _, fun h => by cases h⟩
  · rw [e1]; exact trodAll_mk1 (shut_bool Tryz.underlying4 true)
  · rw [e1]; exact trodAll_mk2 (Below.trod Tryz.laidOut (by kernel_rfl) (of_decide_eq_true (by kernel_rfl)) h0k bel (fun x hx => hlt x (by simp [hx]))) (Below.trod Tryz.laidOut (by kernel_rfl) (of_decide_eq_true (by kernel_rfl)) h1k bel (fun x hx => hlt x (by simp [hx])))
  · rw [e1]; rfl
theorem said_upto (hAw : AwakeOk) : Rows.BasicReadsUptoSaid :=
  OpenClaim.holds_of_cond 3 Tryz.f3 rfl rfl rfl rfl rfl rfl rfl ⟨rfl, rfl, rfl, rfl, rfl⟩ rfl rfl rfl rfl rfl (by kernel_rfl) Tryz.func3 joined3
    (of_decide_eq_true (by kernel_rfl)) (by unfold Func.isWrapper; first | (rw [if_pos (by decide +kernel)]; kernel_rfl) | (rw [if_neg (by decide +kernel)]; exact ⟨rfl, rfl⟩))
    (fun os started H enc _ F => by rw [OpenClaim.pre_eq_preRow]; exact reads_lifted hAw os started H enc F)
theorem plain_card (f : FuncId) (fn : Func) (hf : Tryz.pinned.checked.prog.funcNamed "threadbare/threadbarelaw20.BasicReads" = some f) (hfn : Tryz.pinned.checked.prog.funcs[f]? = some fn) :
    true = Tryz.pinned.checked.prog.looks [] ∧ ∀ (j : Nat) t, fn.params[j]? = some t → Tryz.pinned.checked.prog.wantsStandIn t = false := by
  obtain rfl : f = 3 := Option.some.inj ((show Tryz.prog.funcNamed "threadbare/threadbarelaw20.BasicReads" = some 3 by kernel_rfl).symm.trans hf) |>.symm
  obtain rfl : fn = Tryz.f3 := (Option.some.inj (Tryz.func3.symm.trans hfn)).symm
  refine ⟨by kernel_rfl, fun j t ht => ?_⟩
  rw [Tryz.params3] at ht
  obtain rfl : t = 22 := by simpa using Array.mem_of_getElem? ht
  exact (show Tryz.prog.wantsStandIn 22 = false by kernel_rfl)
theorem card_upto (hAw : AwakeOk) : Rows.BasicReadsUptoCardSaid :=
  Claim7.holds_tied_plain_at .later [] _ _ _ _ (said_upto hAw) (fun _ h => by cases h) (by kernel_rfl) (fun _ h => by cases h) basicReadsUpto_row_tie rfl ⟨rfl, rfl⟩ (by kernel_rfl) rfl plain_card row_goes
end Go.Proofs.YtjibdoofogmkcaaGreatDoor
end
