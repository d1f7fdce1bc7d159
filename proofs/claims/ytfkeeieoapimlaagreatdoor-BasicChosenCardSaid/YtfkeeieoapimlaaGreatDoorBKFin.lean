/-
  The document's examples run to true (by cards). Conditions: none.
-/
import Derived.Test.YtfkeeieoapimlaaGreatDoorBKca
import Derived.Test.YtfkeeieoapimlaaGreatDoorBKcb
import Derived.Test.YtfkeeieoapimlaaGreatDoorBKcc
import Derived.Test.YtfkeeieoapimlaaGreatDoorBKc31
import Derived.Test.YtfkeeieoapimlaaGreatDoorBKc34
import Derived.Test.YtfkeeieoapimlaaGreatDoorBKc41
import Derived.Test.YtfkeeieoapimlaaGreatDoorBKc86
import Derived.Test.YtfkeeieoapimlaaGreatDoorBKc27a
import Derived.Test.YtfkeeieoapimlaaGreatDoorBKc27b
import Derived.Test.YtfkeeieoapimlaaGreatDoorB23ToBJ0
import Derived.Test.YtfkeeieoapimlaaGreatDoorBM1
set_option linter.unusedVariables false
set_option linter.unusedSimpArgs false
set_option linter.unusedSectionVars false
set_option linter.deprecated false
section
open Go Go.Proofs Go.Proofs.YtfkeeieoapimlaaGreatDoor Go.Xe Go.Xe.Cards
noncomputable section
namespace Go.Xe.Cards
def IXa : zaR := zbB (zfh 11) 7 [ca, cb, cc]
theorem i27 : KnownOk Tryz.prog I27 := zbG pok (zcu _) fun c hc => by
 simp only [List.mem_cons, List.not_mem_nil, or_false] at hc
 rcases hc with rfl | rfl
 ·exact ⟨_, zcu _, c27a_ok⟩
 ·exact ⟨_, zcu _, c27b_ok⟩
theorem i34 : KnownOk Tryz.prog I34 := zbG pok (zcu _) fun c hc => by
 simp only [List.mem_cons, List.not_mem_nil, or_false] at hc
 subst hc
 exact ⟨_, i27, c34_ok⟩
theorem i86 : KnownOk Tryz.prog I86 := zbG pok (zcu _) fun c hc => by
 simp only [List.mem_cons, List.not_mem_nil, or_false] at hc
 subst hc
 exact ⟨_, zcu _, c86_ok⟩
theorem i31 : KnownOk Tryz.prog I31 := zbG pok (zcu _) fun c hc => by
 simp only [List.mem_cons, List.not_mem_nil, or_false] at hc
 subst hc
 exact ⟨_, i86, c31_ok⟩
theorem i41 : KnownOk Tryz.prog I41 := zbG pok (zcu _) fun c hc => by
 simp only [List.mem_cons, List.not_mem_nil, or_false] at hc
 subst hc
 exact ⟨_, zcu _, c41_ok⟩
theorem iXa : KnownOk Tryz.prog IXa := zbG pok (withReix_ok _ _) fun c hc => by
 simp only [List.mem_cons, List.not_mem_nil, or_false] at hc
 rcases hc with rfl | rfl | rfl
 ·exact ⟨_, i34, ca_ok⟩
 ·exact ⟨_, i31, cb_ok⟩
 ·exact ⟨_, i41, cc_ok⟩
theorem tX : oE false (fun r => sameD 0 (.bool true) r.1) (run Tryz.prog IXa 4 [] heap0) = true := by kernel_rfl
theorem awake_true (w : World) (hG : HasG w.heap) : CallsIn Fence.wide 0 Tryz.prog 4 #[] w fun en w' => en = .returned (.bool true) ∧ RowKit.Below w.heap.size w w' := by
 have h := tX
 cases hr : run Tryz.prog IXa 4 [] heap0 with
 | none => rw [hr] at h; cases h
 | some r =>
   rw [hr, oE_some] at h
   obtain ⟨v, h'⟩ := r
   have hv : AV.bool true = v := zdq _ _ h
   subst hv
   exact run0_sound pok iXa hr w hG
end Go.Xe.Cards
end
end
