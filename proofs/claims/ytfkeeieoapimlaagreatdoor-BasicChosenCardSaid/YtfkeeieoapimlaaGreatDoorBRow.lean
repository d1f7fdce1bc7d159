/-
  BasicChosen: the row and its card. Conditions: none.
-/
import Derived.Test.YtfkeeieoapimlaaGreatDoorBL3
import Derived.Test.YtfkeeieoapimlaaGreatDoorWkrecToWrg
import Derived.Test.YtfkeeieoapimlaaGreatDoorCards
import Derived.Test.YtfkeeieoapimlaaGreatDoorTie
import Derived.Deep.DeepHandedRow
import Derived.Deep.Grids
import Derived.ProofKit
import Derived.OpenShut
import Derived.SevenTiedAt
import Derived.Shelf.Vars
set_option linter.unusedVariables false
set_option linter.unusedSimpArgs false
set_option linter.unusedSectionVars false
set_option linter.deprecated false
section
namespace Go.Proofs.YtfkeeieoapimlaaGreatDoor
open Go.ChangeShapes Go.WideShapes Go.ChangeAt Go.RowKit
theorem Tryz.own : ownKnob Tryz.prog.godebug = none := by kernel_rfl
theorem Tryz.cells4 : Tryz.prog.cellsOf 4 = 1 := by kernel_rfl
def flat1 : List (DataW Unit) → List Value
 | [] => []
 | .lit (.int k n) :: r => .int k n :: flat1 r
 | _ :: r => undef :: flat1 r
def flatOf : DataW Unit → List Value
 | .agg l => flat1 l
 | _ => []
def flat2 : DataW Unit → List Value
 | .agg l => l.flatMap flatOf
 | _ => []
def lay (h : Array Obj) (g : Nat) (l : List Value) : Array Obj := h.modify g fun
 | .cells _ t frozen => .cells l.toArray t frozen
 | o => o
noncomputable def zfs (os : Os) : World :=
 { World.holding Tryz.prog os ⟨#[], #[], []⟩ with heap := lay (lay (lay (lay (lay (World.holding Tryz.prog os ⟨#[], #[], []⟩).heap 1 (flatOf Rows.laid_internal_strconv_uint64pow10)) 2 (flatOf Rows.laid_math_bits_deBruijn32tab)) 3 (flatOf Rows.laid_math_bits_deBruijn64tab)) 4 (flatOf Rows.laid_unicode_utf8_first)) 5 (flat2 Rows.laid_unicode_utf8_acceptRanges) }
theorem laid_met (os : Os) (args : Array Value) : laidMet Tryz.prog Rows.basicChosenRow.laid ((zfs os).forCall (fun _ _ => 0) ⟨#[], args, []⟩).memory :=
 laidMet_of_run' 8 (by kernel_rfl) (by kernel_rfl)
theorem witness_row (os : Os) {H : Type} (enc : TypeId × Value → H) :
  (_root_.Go.OpenSpec.ofChange Rows.basicChosenSpec).preRow enc Tryz.prog Tryz.f3 Rows.basicChosenRow.domain false Rows.basicChosenRow.laid ((zfs os).forCall (fun _ _ => 0) ⟨#[], #[.slice none 0 0, .bool false], []⟩).memory #[.slice none 0 0, .bool false] := by
 have hw : (DataW.whole enc Tryz.prog ((zfs os).forCall (fun _ _ => 0) ⟨#[], #[.slice none 0 0, .bool false], []⟩).memory Tryz.f3.params.toList Rows.basicChosenSpec.vars false #[Value.slice none 0 0, Value.bool false].toList 8).map (fun x => (x.1, x.2.1)) =
   some ([.nil, .lit (.bool false)], []) := by kernel_rfl
 obtain ⟨⟨x1, x2, x3⟩, hx, hx1⟩ := Option.map_eq_some_iff.1 hw
 simp only [Prod.mk.injEq] at hx1
 obtain ⟨rfl, rfl⟩ := hx1
 exact OpenSpec.preRow_of_cond 8 hx (by kernel_rfl) (fun k hk => by cases hk) (by kernel_rfl) (laid_met os _)
theorem open_arg {H : Type} {enc : TypeId × Value → H} {W : World} {a0 : Option Addr} {len cap fuel : Nat} {x : DataW H × List MemPlace}
  (hf : DataW.trod enc Tryz.prog W 0 (fun _ => true) true fuel 22 [.slice a0 len cap] = some x) : ∃ l : List Bool, BRow W (.slice a0 len cap) l := by
 rcases Go.Deep.open_bools Tryz.underlying22 Tryz.underlying4 Tryz.cells4 hf with ⟨hcs, hx⟩ | ⟨a, len', cap', B, hcs, _, hl, hm, hx, hcell⟩
 ·simp at hcs
  obtain ⟨rfl, rfl, rfl⟩ := hcs
  exact ⟨[], .inl ⟨rfl, rfl⟩⟩
 ·simp at hcs
  obtain ⟨rfl, rfl, rfl⟩ := hcs
  refine ⟨(List.range len).map B, .inr ⟨a, cap, by simp, fun i t hi => ?_⟩⟩
  rw [List.getElem?_map] at hi
  obtain ⟨X, hX, rfl⟩ := Option.map_eq_some_iff.1 hi
  obtain ⟨hj, he⟩ := List.getElem?_eq_some_iff.1 hX
  rw [List.getElem_range] at he
  subst he
  rw [List.length_range] at hj
  exact hcell i (by omega)
theorem glob_int {W : World} (h : W.ShapedOpen Tryz.prog) : ∃ m, W.heap[0]? = some (.cells #[.int .i64 m] 3) := by
 have h0 : ((begin Tryz.prog (fun _ _ => 0) default).world.heap[0]?).bind Obj.row? = some (#[.int .i64 0], 3) := by kernel_rfl
 obtain ⟨cs, hh, hs, hr⟩ := h.1 0 #[.int .i64 0] 3 (of_decide_eq_true (by kernel_rfl)) h0
 obtain ⟨m, hm⟩ := cell_of_shapedOpen_int (P := Tryz.prog) (g := 0) (t := 3) (zero := #[.int .i64 0]) h (of_decide_eq_true (by kernel_rfl)) h0 rfl (by kernel_rfl) (by kernel_rfl) Tryz.underlying3
 refine ⟨m, ?_⟩
 have hs1 : cs.size = 1 := hs
 obtain ⟨x, rfl⟩ : ∃ x, cs = #[x] := by
  refine ⟨cs[0]'(by omega), ?_⟩
  apply Array.ext
  ·simp [hs1]
  ·intro i h1 h2
   have : i = 0 := by simp at h2; omega
   subst this; rfl
 have e : W.cell? ⟨0, 0, none⟩ = some x := by simp [World.cell?, hh]
 rw [e] at hm
 cases hm
 exact hh
set_option maxRecDepth 100000 in
set_option maxHeartbeats 2000000 in
theorem chosen_lifted (os : Os) (started : os.Started) (H : Type) (enc : TypeId × Value → H) (F : Stop.Interp) :
  ReturnsInHanded {} Tryz.checked os 3 .any ((_root_.Go.OpenSpec.ofChange Rows.basicChosenSpec).preRow enc Tryz.prog Tryz.f3 Rows.basicChosenRow.domain false Rows.basicChosenRow.laid) (((_root_.Go.OpenSpec.ofChange Rows.basicChosenSpec).at F).post enc Tryz.prog Tryz.f3 false true false false) := by
 refine returnsInHanded_of_row (C := Tryz.checked) (s := _root_.Go.OpenSpec.ofChange Rows.basicChosenSpec) Tryz.own started (by kernel_rfl) Tryz.func3
  (witness_row_at (enc := enc) (C := Tryz.checked) false (zfs os) #[.slice none 0 0, .bool false] rfl (by kernel_rfl) (by kernel_rfl) (by kernel_rfl) (witness_row os enc)) ?_
 intro W base args ds gs before hval0 hW _ _ _ _ hsh _
 obtain ⟨m0, hG⟩ := glob_int hsh
 have hval : ∀ (j : Nat) t v, Tryz.f3.params[j]? = some t → args[j]? = some v → Value.okWide Tryz.prog W .any base t v := hval0
 have hW' := hW
 obtain ⟨p, q, hA0, hV0, rfl, _, _⟩ := hW
 have hA : DataW.TrodAll enc Tryz.prog W 0 (fun _ => true) true Tryz.f3.params.toList args.toList ds p := hA0
 rw [Tryz.params3] at hA hval
 obtain ⟨v0, v1, d0, d1, p0, p1, rfl, rfl, rfl, h0, h1⟩ := trodAll_two hA
 obtain ⟨rfl, rfl⟩ := trodVars_none hV0
 obtain ⟨a0, lt, ct, rfl⟩ := okWide_slice Tryz.underlying22 (hval 0 22 v0 rfl rfl)
 obtain ⟨b, rfl, rfl, rfl⟩ := open_bool Tryz.underlying4 (hval 1 4 v1 rfl rfl) h1
 have h0k := h0
 obtain ⟨fuel0, hf0⟩ := h0
 clear hA0 hV0 hval0
 simp only [List.append_nil] at hW'
 have hlt : ∀ x ∈ p0, x.block < W.heap.size := fun x hx => by simpa using hW'.lt x (by simpa using hx)
 obtain ⟨x, hx⟩ := open_arg hf0
 refine (chosen_any W ⟨m0, 3, hG⟩ _ x b hx).mono ?_
 rintro e W' ⟨rfl, bel⟩
 have e1 : ((_root_.Go.OpenSpec.ofChange Rows.basicChosenSpec).at F).fn H ([d0, .lit (.bool b)] ++ []) = { results := [.lit (.bool true)], args := [d0, .lit (.bool b)] } := rfl
 refine ⟨_, rfl, _, _, _, [], p0 ++ [], [], hW', ?_, ?_, ?_, bel.frame _, fun h => by cases h⟩
 ·rw [e1]; exact trodAll_mk1 (shut_bool Tryz.underlying4 true)
 ·rw [e1]; exact trodAll_mk2 (Below.trod Tryz.laidOut (by kernel_rfl) (of_decide_eq_true (by kernel_rfl)) h0k bel (fun x hx => hlt x hx)) (shut_bool Tryz.underlying4 b)
 ·rw [e1]; rfl
theorem said_bare : Rows.BasicChosenSaid :=
 OpenClaim.holds_of_cond 3 Tryz.f3 rfl rfl rfl rfl rfl rfl rfl ⟨rfl, rfl, rfl, rfl, rfl⟩ rfl rfl rfl rfl rfl (by kernel_rfl) Tryz.func3 joined3
  (of_decide_eq_true (by kernel_rfl)) (by unfold Func.isWrapper; first | (rw [if_pos (by decide +kernel)]; kernel_rfl) | (rw [if_neg (by decide +kernel)]; exact ⟨rfl, rfl⟩))
  (fun os started H enc _ F => by rw [OpenClaim.pre_eq_preRow]; exact chosen_lifted os started H enc F)
theorem plain_card (f : FuncId) (fn : Func) (hf : Tryz.pinned.checked.prog.funcNamed "threadbare/threadbarelaw20.BasicChosen" = some f) (hfn : Tryz.pinned.checked.prog.funcs[f]? = some fn) :
  true = Tryz.pinned.checked.prog.looks [] ∧ ∀ (j : Nat) t, fn.params[j]? = some t → Tryz.pinned.checked.prog.wantsStandIn t = false := by
 obtain rfl : f = 3 := Option.some.inj ((show Tryz.prog.funcNamed "threadbare/threadbarelaw20.BasicChosen" = some 3 by kernel_rfl).symm.trans hf) |>.symm
 obtain rfl : fn = Tryz.f3 := (Option.some.inj (Tryz.func3.symm.trans hfn)).symm
 refine ⟨by kernel_rfl, fun j t ht => ?_⟩
 rw [Tryz.params3] at ht
 have ht' : t = 22 ∨ t = 4 := by simpa using Array.mem_of_getElem? ht
 rcases ht' with rfl | rfl
 ·exact (show Tryz.prog.wantsStandIn 22 = false by kernel_rfl)
 ·exact (show Tryz.prog.wantsStandIn 4 = false by kernel_rfl)
theorem card_bare : Rows.BasicChosenCardSaid :=
 Claim7.holds_tied_plain_at .later [] _ _ _ _ said_bare (fun _ h => by cases h) (by kernel_rfl) (fun _ h => by cases h) basicChosen_row_tie rfl ⟨rfl, rfl⟩ (by kernel_rfl) rfl plain_card row_goes
end Go.Proofs.YtfkeeieoapimlaaGreatDoor
end
