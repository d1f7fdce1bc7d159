/-
  A card of the second form: what the program does at one call, shown by the kernel. Conditions: none.
-/
import Derived.Test.YtjibdoofogmkcaaGreatDoorKca
import Derived.Test.YtjibdoofogmkcaaGreatDoorKcb
import Derived.Test.YtjibdoofogmkcaaGreatDoorKcc
import Derived.Test.YtjibdoofogmkcaaGreatDoorKc31
import Derived.Test.YtjibdoofogmkcaaGreatDoorKc34
import Derived.Test.YtjibdoofogmkcaaGreatDoorKc41
import Derived.Test.YtjibdoofogmkcaaGreatDoorKc86
import Derived.Test.YtjibdoofogmkcaaGreatDoorKc27a
set_option linter.unusedVariables false
set_option linter.unusedSimpArgs false
set_option linter.unusedSectionVars false
section
open Go Go.Proofs Go.Xe Go.Xe.Cards
noncomputable section
namespace Go.Xe.Cards
theorem c27b_ok : cardOk c27b (run Tryz.prog none0 27 c27b.args (heapOf c27b.n c27b.l)) = true := by kernel_rfl
theorem names_ok : Tryz.prog.funcs.toList.all (fun fn => !(fn.name == "runtime.NumGoroutine")) = true := by kernel_rfl
theorem pok : POk Tryz.prog := ⟨fun f fn h => by
  have := List.all_eq_true.1 names_ok fn (by rw [← Array.getElem?_toList] at h; exact List.mem_of_getElem? h)
  simpa using this⟩
def IX : Known := withCards (withReix 24) 14 [ca, cb, cc]
theorem i27 : KnownOk Tryz.prog I27 := withCards_ok pok (none0_ok _) fun c hc => by
  simp only [List.mem_cons, List.not_mem_nil, or_false] at hc
  rcases hc with rfl | rfl
  · exact ⟨_, none0_ok _, c27a_ok⟩
  · exact ⟨_, none0_ok _, c27b_ok⟩
theorem i34 : KnownOk Tryz.prog I34 := withCards_ok pok (none0_ok _) fun c hc => by
  simp only [List.mem_cons, List.not_mem_nil, or_false] at hc
  subst hc
  exact ⟨_, i27, c34_ok⟩
theorem i86 : KnownOk Tryz.prog I86 := withCards_ok pok (none0_ok _) fun c hc => by
  simp only [List.mem_cons, List.not_mem_nil, or_false] at hc
  subst hc
  exact ⟨_, none0_ok _, c86_ok⟩
theorem i31 : KnownOk Tryz.prog I31 := withCards_ok pok (none0_ok _) fun c hc => by
  simp only [List.mem_cons, List.not_mem_nil, or_false] at hc
  subst hc
  exact ⟨_, i86, c31_ok⟩
theorem i41 : KnownOk Tryz.prog I41 := withCards_ok pok (none0_ok _) fun c hc => by
  simp only [List.mem_cons, List.not_mem_nil, or_false] at hc
  subst hc
  exact ⟨_, none0_ok _, c41_ok⟩
theorem iX : KnownOk Tryz.prog IX := withCards_ok pok (withReix_ok _ _) fun c hc => by
  simp only [List.mem_cons, List.not_mem_nil, or_false] at hc
  rcases hc with rfl | rfl | rfl
  · exact ⟨_, i34, ca_ok⟩
  · exact ⟨_, i31, cb_ok⟩
  · exact ⟨_, i41, cc_ok⟩
theorem tX : oE false (fun r => sameD 0 (.bool true) r.1) (run Tryz.prog IX 5 [] heap0) = true := by kernel_rfl
theorem awake_true (w : World) : CallsIn Fence.wide 0 Tryz.prog 5 #[] w fun en w' => en = .returned (.bool true) ∧ RowKit.Below w.heap.size w w' := by
  have h := tX
  cases hr : run Tryz.prog IX 5 [] heap0 with
  | none => rw [hr] at h; cases h
  | some r =>
    rw [hr, oE_some] at h
    obtain ⟨v, h'⟩ := r
    have hv : AV.bool true = v := sameD_eq _ _ h
    subst hv
    exact run0_sound pok iX hr w
end Go.Xe.Cards
end
end
