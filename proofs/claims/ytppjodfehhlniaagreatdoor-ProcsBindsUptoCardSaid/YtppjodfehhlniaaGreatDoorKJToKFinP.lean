/-
  The one call that asks a table of the machine's: strings.Index of args and two colons; The document's examples run to true in every world whose one gl. Conditions: none.
-/
import Derived.Test.YtppjodfehhlniaaGreatDoorKDefs
import Derived.Test.YtppjodfehhlniaaGreatDoorWkToV2
import Derived.CallsIn
import Derived.Test.YtppjodfehhlniaaGreatDoorZgToKA
import Derived.Test.YtppjodfehhlniaaGreatDoorKca
import Derived.Test.YtppjodfehhlniaaGreatDoorKcb
import Derived.Test.YtppjodfehhlniaaGreatDoorKc97a
import Derived.Test.YtppjodfehhlniaaGreatDoorKc97b
import Derived.Test.YtppjodfehhlniaaGreatDoorKc97d
import Derived.Test.YtppjodfehhlniaaGreatDoorKc34a
import Derived.Test.YtppjodfehhlniaaGreatDoorKc34b
set_option linter.unusedVariables false
set_option linter.unusedSimpArgs false
set_option linter.unusedSectionVars false
section
open Go Go.Proofs Go.Xe Go.Xe.Cards
noncomputable section
namespace Go.Xe.Cards
theorem zsy {w : World} {m : Int} {t : TypeId} (h : w.heap[theG]? = some (.cells #[.int .i64 m] t)) : w.cell? ⟨2, 0, none⟩ = some (.int .i64 m) := by
 have h' : w.heap[2]? = some (.cells #[.int .i64 m] t) := h
 simp [World.cell?, h']
theorem zm8 : KnownOk Tryz.prog J0 := by
 refine ⟨fun f k h => ?_, fun f k hk args h e w us s ha => ?_, fun f k h => ?_⟩
 ·unfold J0 at h; split at h <;> cases h
 ·unfold J0 at hk
  split at hk
  ·rename_i hf
   subst hf
   cases hk
   intro v h' hv
   have hv' : ite' (zkw args [.str 4 1936159329, .str 2 14906]) (some (AV.int .i64 (-1), h)) none = some (v, h') := hv
   cases hq : zkw args [.str 4 1936159329, .str 2 14906] with
   | false => rw [hq, ite'_false] at hv'; cases hv'
   | true =>
     rw [hq, ite'_true] at hv'
     cases hv'
     have hx := zhw hq
     subst hx
     obtain ⟨us⟩ := us
     cases ha with
     | cons _ u1 _ l1 h1 h2 =>
       cases h2 with
       | cons _ u2 _ l2 h3 h4 =>
         cases h4
         have e1 := zbX h1
         have e2 := zbX h3
         subst e1 e2
         obtain ⟨m, t, hm⟩ := s.glob.1
         refine CallsIn.mono (callsIn_wide.2 (Tryz.stringslite_Index (zad 4 1936159329) (zad 2 14906) m w (by decide) (zsy hm))) fun en w' hen => ?_
         obtain ⟨rfl, rfl⟩ := hen
         have hz : Lib.index (zad 4 1936159329).data.toList (zad 2 14906).data.toList = -1 := by decide
         rw [hz]
         exact ⟨e, s, .int _ _, .refl e h w'⟩
  ·cases hk
 ·unfold J0 at h; split at h <;> cases h
end Go.Xe.Cards
end
end
section
open Go Go.Proofs Go.Xe Go.Xe.Cards
noncomputable section
namespace Go.Xe.Cards
theorem ztP : Tryz.prog.funcs.toList.all (fun fn => !(fn.name == "runtime.NumGoroutine")) = true := by kernel_rfl
theorem pok : POk Tryz.prog := ⟨fun f fn h => by
 have := List.all_eq_true.1 ztP fn (by rw [← Array.getElem?_toList] at h; exact List.mem_of_getElem? h)
 simpa using this⟩
theorem zgl {I J : zba} {f : Nat} {c : Card} (hI : KnownOk Tryz.prog I) (hJ : KnownOk Tryz.prog J) (h : zd8 c (run Tryz.prog J f c.args (zbw c.n c.l)) = true) : KnownOk Tryz.prog (zbC I f [c]) :=
 zhb pok hI fun d hd => by
  simp only [List.mem_cons, List.not_mem_nil, or_false] at hd
  subst hd
  exact ⟨_, hJ, h⟩
theorem i97d : KnownOk Tryz.prog J97d := zgl zm8 zm8 zvg
theorem i34b : KnownOk Tryz.prog J34b := zgl zm8 i97d zvi
theorem i97b : KnownOk Tryz.prog J97b := zgl zm8 i34b zvf
theorem i34a : KnownOk Tryz.prog J34a := zgl zm8 zm8 zvh
theorem i97a : KnownOk Tryz.prog J97a := zgl zm8 i34a zve
def IX : zba := zbC (zgY (zgY J0 30) 31) 16 [ca, cb]
theorem iX : KnownOk Tryz.prog IX := zhb pok (zkg (zkg zm8 _) _) fun c hc => by
 simp only [List.mem_cons, List.not_mem_nil, or_false] at hc
 rcases hc with rfl | rfl
 ·exact ⟨_, i97a, zv2⟩
 ·exact ⟨_, i97b, zv3⟩
theorem tX : oE false (fun r => zky 0 (.bool true) r.1) (run Tryz.prog IX 5 [] heap0) = true := by kernel_rfl
theorem zqh (w : World) (hG : HasG w.heap) : CallsIn Fence.wide 0 Tryz.prog 5 #[] w fun en w' => en = .returned (.bool true) ∧ RowKit.Below w.heap.size w w' := by
 have h := tX
 cases hr : run Tryz.prog IX 5 [] heap0 with
 | none => rw [hr] at h; cases h
 | some r =>
   rw [hr, oE_some] at h
   obtain ⟨v, h'⟩ := r
   have hv : AV.bool true = v := zdX _ _ h
   subst hv
   exact zpT pok iX hr w hG
end Go.Xe.Cards
end
end
