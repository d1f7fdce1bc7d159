/-
  matches' iterator, at a machine that finds twice.
-/
import Derived.RangeFuncNested
import Derived.RangeFuncBound
import Derived.RangeFuncCalls
import Derived.RangeFuncLeaves
import Derived.Shelf.Abstract
import Derived.Shelf.RegionOpen
import Derived.WalkKit
import Derived.OwnWalkIn
import Derived.TacticsInMore
import Derived.LoopNIn
import Derived.LoopIn
import Derived.Test.YtfgghbideoehjaaVmSToVmT
namespace Go.Proofs.Ytfgghbideoehjaa
open Go.RowKit Go.Shelf
attribute [local go_sem] Oper.semAt_some
set_option linter.unusedVariables false
set_option linter.unusedSimpArgs false
set_option maxRecDepth 100000

abbrev gs0 : List Int := [0, 2, 0, 1, 1, 2]
abbrev gs1 : List Int := [2, 4, 2, 3, 3, 4]

set_option maxHeartbeats 2000000 in
theorem matches_twice (n : Nat) (hn : 1 ≤ n) (mp tp : Nat) (prog : List Ins) (marks groups : Nat) (refs : List Bool) (s : ByteArray) (pg pcap : Nat) (ra : Option Addr) (rc : Nat) (J : Nat → World → Prop) (l B : Nat)
    (hJM : ∀ k W, J k W → MAt W mp tp prog marks groups refs s pg pcap ra rc ∧ (∃ tr, MapAt W tp tr) ∧ W.cell? ⟨B, 0, none⟩ = some (.pointer (some ⟨mp, 0, none⟩)))
    (hJB : ∀ k W W', J k W → But tp W W' → (∃ tr, MapAt W' tp tr) → J k W')
    (f0 : VFound prog s groups marks 0 [] (some gs0)) (f1 : VFound prog s groups marks 2 [] (some gs1)) (f2 : VFound prog s groups marks 4 [] none) (hs4 : s.size = 4)
    (hY : ∀ k W sv gs, J k W → (k = 0 ∧ gs = gs0 ∨ k = 1 ∧ gs = gs1) → W.ownsRow 0 30 2 sv 3 (gs.map intV) → YieldAt Fence.wide (n - 1) Try.prog l #[sv] W fun e W' => e = .returned (.bool true) ∧ J (k + 1) W' ∧ W'.ownsRow 0 30 2 sv 3 (gs.map intV))
    (W : World) (h0 : J 0 W) : CallsIn Fence.wide n Try.prog 64 #[.func (.yield l) #[] #[], .pointer (some ⟨B, 0, none⟩)] W fun e W' => (∃ v, e = .returned v) ∧ J 2 W' := by
  have HJM := Lib.hid hJM
  have HJB := Lib.hid hJB
  have HY := Lib.hid hY
  have F0 := Lib.hid f0
  have F1 := Lib.hid f1
  have F2 := Lib.hid f2
  have HS4 := Lib.hid hs4
  clear hJM hJB hY f0 f1 f2 hs4
  refine callsIn_of_wp Try.func64 rfl trivial ?_ rfl
  simp only [Try.ntmps64, List.size_toArray, List.length_cons, List.length_nil, Nat.reduceAdd, Nat.reduceSub, Array.replicate_succ, Array.replicate_zero, List.push_toArray, List.append_toArray, List.nil_append, List.cons_append]
  gi_wp2
  gi_loopw [3] (fun from' wr => ∃ k : Nat, from' = .int .i64 ((2 * k : Nat) : Int) ∧ k ≤ 2 ∧ J k wr) (fun from' wr => 5 - (intOf from').toNat)
  case atStart => exact ⟨0, rfl, by omega, h0⟩
  case round =>
    obtain ⟨k, rfl, hk, hJ⟩ := hrel
    obtain ⟨hM, ⟨tr, hmap⟩, hcB⟩ := HJM.out k _ hJ
    obtain ⟨root, deep, hblk⟩ := hM.blk
    have m6 : wr.cell? ⟨mp, 6, none⟩ = some (.string s) := (cell_of_blk hblk 6).trans rfl
    have hsi : ((2 * k : Nat) : Int) ≤ (s.size : Int) := by have := HS4.out; omega
    have HMm := Lib.hid hM
    have HMAP := Lib.hid hmap
    have HJ := Lib.hid hJ
    have hcase : k = 2 ∨ ∃ gs, (k = 0 ∧ gs = gs0 ∨ k = 1 ∧ gs = gs1) ∧ VFound prog s groups marks (2 * k) [] (some gs) ∧ gs.length = 6 ∧ gs[0]? = some ((2 * k : Nat) : Int) ∧ gs[1]? = some ((2 * k + 2 : Nat) : Int) := by
      have h3 : k = 0 ∨ k = 1 ∨ k = 2 := by omega
      rcases h3 with rfl | rfl | rfl
      · exact .inr ⟨gs0, .inl ⟨rfl, rfl⟩, F0.out, rfl, rfl, rfl⟩
      · exact .inr ⟨gs1, .inr ⟨rfl, rfl⟩, F1.out, rfl, rfl, rfl⟩
      · exact .inl rfl
    clear hM hmap hJ hblk
    rcases hcase with rfl | ⟨gs, hgs, hf, hgl, hg0, hg1⟩
    · have hfo := found_any wr mp tp prog marks groups refs s pg pcap ra rc HMm.out tr HMAP.out 4 (by omega) none F2.out
      have HFO := Lib.hid hfo
      clear hfo
      gi_wp2_with (refine ⟨trivial, ?_⟩; gi_at_call 26; refine (callsIn_wide.2 HFO.out).mono ?_; rintro e w2 ⟨hb2, htr2, rfl⟩; dsimp only; have HB2 := Lib.hid hb2; have HTR2 := Lib.hid htr2; clear hb2 htr2)
      refine ⟨fun _ h => (by cases h), ?_⟩
      gi_wp2
      refine bodyPost_ret (results_none rfl _ _ _) rfl ?_
      exact ⟨⟨_, rfl⟩, HJB.out _ _ _ HJ.out HB2.out HTR2.out⟩
    · have hfo := found_any wr mp tp prog marks groups refs s pg pcap ra rc HMm.out tr HMAP.out (2 * k) (by omega) (some gs) hf
      have HFO := Lib.hid hfo
      have HGS := Lib.hid hgs
      have HGL := Lib.hid hgl
      have HG0 := Lib.hid hg0
      have HG1 := Lib.hid hg1
      have hlt : k < 2 := by rcases hgs with ⟨h, _⟩ | ⟨h, _⟩ <;> omega
      clear hfo hf hgs hgl hg0 hg1
      gi_wp2_with (refine ⟨trivial, ?_⟩; gi_at_call 26; refine (callsIn_wide.2 HFO.out).mono ?_; rintro e w2 ⟨hb2, htr2, sv, rfl, hrow⟩; dsimp only; have hrow3 : w2.ownsRow 0 30 2 sv 3 (gs.map intV) := (by have h := ownsRow_mono hrow (Nat.zero_le _); rw [HGL.out] at h; exact h); obtain ⟨g, cc, rfl⟩ := ownsRow_succ' (n := 2) hrow3; obtain ⟨fn, tmps, assign, body, hy, hR⟩ := HY.out k w2 _ gs (HJB.out _ _ _ HJ.out hb2 htr2) HGS.out hrow3; have HRR := Lib.hid hR; have HB2 := Lib.hid hb2; clear hb2 htr2 hrow hrow3 hR)
      refine HRR.out.mono ?_
      rintro e W3 ⟨rfl, hJ3, hrow4⟩
      dsimp only
      have hx0 : ((2 * k : Nat) : Int) = 2 * (k : Int) := by omega
      have hx1 : ((2 * k + 2 : Nat) : Int) = 2 * (k : Int) + 2 := by omega
      have x0 : W3.cell? ⟨g, 0, none⟩ = some (.int .i64 (2 * (k : Int))) := by
        rw [World.ownsRow.cellAt hrow4 0 (by omega), List.getElem?_map, HG0.out, hx0]; rfl
      have x1 : W3.cell? ⟨g, 1, none⟩ = some (.int .i64 (2 * (k : Int) + 2)) := by
        rw [World.ownsRow.cellAt hrow4 1 (by omega), List.getElem?_map, HG1.out, hx1]; rfl
      have e5 : ((2 * (k : Int)) == (2 * (k : Int) + 2)) = false := by simp; omega
      clear hx0 hx1
      have HJ3 := Lib.hid hJ3
      clear hJ3 hrow4 m6 hcB hy
      gi_wp2
      gi_region
      gi_wp2
      go_roundw
      case rel => exact ⟨k + 1, by go_num, by omega, HJB.out _ _ _ HJ3.out (But.refl tp W3).drew (HJM.out _ _ HJ3.out).2.1⟩
      case measure => simp [intOf]; omega

end Go.Proofs.Ytfgghbideoehjaa
