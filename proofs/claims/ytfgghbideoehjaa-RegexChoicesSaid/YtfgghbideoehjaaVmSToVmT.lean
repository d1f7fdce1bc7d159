/-
  The machine: from's inner round, from, whole.
  The machine: found.
-/
import Derived.Test.YtfgghbideoehjaaVmR
import Derived.IntWalk
namespace Go.Proofs.Ytfgghbideoehjaa
open Go.ChangeShapes Go.WideShapes Go.ChangeAt Go.RowKit
set_option linter.unusedVariables false
set_option linter.unusedSimpArgs false
set_option maxRecDepth 1000000

set_option maxHeartbeats 4000000 in
theorem from_any (w : World) (mp tp : Nat) (prog : List Ins) (marks groups : Nat) (refs : List Bool) (s : ByteArray) (pg pcap : Nat) (ra : Option Addr) (rc : Nat) (hM : MAt w mp tp prog marks groups refs s pg pcap ra rc)
    (tr : List (Nat × Nat)) (hmap : MapAt w tp tr) (pos : Nat) (hpos : pos ≤ s.size) (whole : Bool) (k : Nat) (res : Option (List Int) × List (Nat × Nat))
    (hrun : vrun prog s whole k none [⟨0, pos, (filled (2 * groups + 2) (2 * groups + 2)).set 0 pos, List.replicate marks 0⟩] tr = some res) :
    Calls Try.prog 28 #[.pointer (some ⟨mp, 0, none⟩), .int .i64 0, .int .i64 (pos : Int), .bool whole] w (FromR w tp res) := by
  obtain ⟨i3, h3, h30, h31, h32⟩ := info_parts info3
  obtain ⟨root, deep, hblk⟩ := hM.blk
  have lmp := (Array.getElem?_eq_some_iff.1 hblk).1
  have c1 : w.cell? ⟨mp, 1, none⟩ = some (.int .i64 (groups : Int)) := (cell_of_blk hblk 1).trans rfl
  have c5 : w.cell? ⟨mp, 5, none⟩ = some (.int .i64 (marks : Int)) := (cell_of_blk hblk 5).trans rfl
  have ltp : tp < w.heap.size := by obtain ⟨es, m, h, _⟩ := hmap; exact (Array.getElem?_eq_some_iff.1 h).1
  have hgl := hM.glen
  have hml := hM.mlen
  have HM := Lib.hid hM
  have HMAP := Lib.hid hmap
  have HRUN := Lib.hid hrun
  clear hM hmap hrun hblk
  obtain ⟨N, hN⟩ : ∃ N, 2 * groups + 2 = N := ⟨_, rfl⟩
  rw [hN] at HRUN
  have hNi : (2 : Int) * (groups : Int) + 2 = (N : Int) := by omega
  have t0 : (0 : Int) < (N : Int) := by omega
  go_enter Try.func28, Try.ntmps28
  go_wp2_with (at_make; go_loud (refine wpList_make_full _ rfl _ _ 58 rfl w.heap.size 3 i3 _ 1 Try.underlying58 h3 h30 h31 .i64 .i64 _ _ N rfl rfl (by go_num) (by go_num) (by rw [h32]; omega) (by simp only [maxLen]; omega) (Nat.le_refl _) ?_; intro A hA hgA))
  have hA0 : A.ownsRow w.heap.size 3 1 (.slice (some ⟨w.heap.size, 0, none⟩) N N) N ((filled N 0).map intV) := by
    have e : (madeCells (Value.int IntKind.i64 0).cells (N * 1)).toList = (filled N 0).map intV := by
      rw [Nat.mul_one]
      simp only [Value.cells]
      rw [toList_madeCells_one]; simp [filled]
    rw [← e]; exact hA
  have hbA : Below w.heap.size w A := ⟨hgA.os, hgA.tape, hgA.output, hgA.size, fun b hb => hgA.block b hb (fun e => by cases e)⟩
  have HA0 := Lib.hid hA0
  have HBA := Lib.hid hbA
  clear hA hgA hA0 hbA
  go_loopg [31] N (fun k i wr => ∃ (j : Nat), j ≤ N ∧ k = N - j ∧ i = .int .i64 (j : Int) ∧ wr.ownsRow w.heap.size 3 1 (.slice (some ⟨w.heap.size, 0, none⟩) N N) N ((filled N j).map intV) ∧ Below w.heap.size w wr)
  case atStart => exact ⟨0, Nat.zero_le _, rfl, rfl, HA0.out, HBA.out⟩
  case round =>
    obtain ⟨j, hj, hk, rfl, hrow, hbel⟩ := hrel
    by_cases hlt : j < N
    · have t1 : (j : Int) < (N : Int) := by omega
      obtain ⟨g', cap', hge, u1, hc1⟩ := row_at hrow hlt
      cases hge
      have f1 := row_free hrow
      have HR := Lib.hid hrow
      have HB := Lib.hid hbel
      have HK := Lib.hid hk
      clear hrow hbel hk
      go_wp2
      go_roundg (N - (j + 1))
      case measure => rw [HK.out]; omega
      case rel =>
        refine ⟨j + 1, by omega, rfl, by go_num, ?_, HB.out.setCell (by simp) _⟩
        have hs := (HR.out.stored j (intV (-1))).1
        rw [← List.map_set, filled_set hlt] at hs
        exact hs
    · have t1 : ¬ (j : Int) < (N : Int) := by omega
      have hjN : N = j := by omega
      subst hjN
      obtain ⟨g', cap', hge, u1, hc1⟩ := row_at (i := 0) hrow (by omega)
      cases hge
      have f1 := row_free hrow
      have d5 := (hbel.cell (p := ⟨mp, 5, none⟩) lmp).trans c5
      have HR := Lib.hid hrow
      have HB := Lib.hid hbel
      have hlw := hbel.size
      have hws : w.heap.size < wr.heap.size := (hrow.lt _ rfl).2
      clear hrow hbel hk
      go_wp2_with (at_make; go_loud (refine wpList_make_full _ rfl _ _ 58 rfl (wr.heap.size) 3 i3 _ 1 Try.underlying58 h3 h30 h31 .i64 .i64 _ _ marks rfl rfl (by go_num) (by go_num) (by rw [h32]; omega) (by simp only [maxLen]; omega) (by simp) ?_; intro A2 hA2 hgA2))
      have hst := from_start (tr := tr) (n := s.size) (pos := pos) (by omega) (by omega) hml hpos HR.out HB.out hA2 hgA2 ltp HMAP.out
      have HST := Lib.hid hst
      clear hst hA2 hgA2 d5 f1 hc1
      refine wp_loop_rounds (k + 1) (outer_rounds w mp tp prog marks groups refs s pg pcap ra rc HM.out whole res _ _ _ _ _ _ _ _ _ _ _ _ _ _ _ _ _ _ _ _ _ _ _ _ _ _ _ _ _ _ _ _ _ _ _ _ _ _ _ ?_ ?_ k _ _ _ _ _ _ _ _ _ _ _ _ _ _ _ _ _ _ _ _ _ _ _ _ _ _ _ _ _ _ _ _ _ _ _ _ _ _ _ _ _ _ _ _ _ _ _ _ _ _ _ _ _ _ _ _ _ _ _ _ _ _ _ _ _ _ _ _ _ _ _ _ _ _ _ _ _ _ _ _ _ _ _ _ _ _ _ _ _ _ _ _ _ _ _ _ _ _ _ _ _ _ _ _ _ _ _ _ _ _ _ _ _ _ _ _ _ _ _ _ _ _ _ _ _ _ _ _ _ _ _ _ _ _ _ _ _ _ _ _ _ _ _ _ _ _ _ _ _ _ _ _ _ _ _ _ _ _ _ _ _ _ _ _ _ _ _ _ _ _ _ _ _ _ _ _ _ _ _ _ _ _ _ _ _ _ _ _ _ _ _ _ _ _ _ _ _ _ _ _ _ _ _ _ _ _ _ _ _ _ _ _ _ _ _ _ _ _ _ _ _ _ _ _ _ _ _ _ _ _ _ _ _ _ _ _ _ _ _ _ _ _ _ _ _ _ _ _ _ _ _ _ _ _ _ _ _ _ _ _ _ _ _ _ _ _ _ _ _ _ _ _ _ _ _ HST.out HRUN.out)
      · intros
        rename_i hb hmp hn
        have HB9 := Lib.hid hb
        have HM9 := Lib.hid hmp
        have HN9 := Lib.hid hn
        clear hb hmp hn
        go_wp2
        go_ret2
        refine ⟨HB9.out, HM9.out, ?_⟩
        rw [HN9.out]
        rfl
      · intros
        rename_i hf
        have HF := Lib.hid hf
        clear hf
        go_ret2
        exact HF.out

end Go.Proofs.Ytfgghbideoehjaa

namespace Go.Proofs.Ytfgghbideoehjaa
open Go.ChangeShapes Go.WideShapes Go.ChangeAt Go.RowKit
set_option linter.unusedVariables false
set_option linter.unusedSimpArgs false
set_option maxRecDepth 100000

theorem info30 : (Try.prog.info? 30).map (fun i => (i.zero, i.size, i.bytes)) = some (some (.agg #[.int .i64 0, .int .i64 0]), 2, 16) := by kernel_rfl

theorem clear_map (w : World) (tp : Nat) (tr : List (Nat × Nat)) (h : MapAt w tp tr) : ∃ n, (Builtin.clear_ #[89] (0 : TypeId) #[.map (some tp)]).run Try.prog w = .ok (.tuple #[]) { w with heap := w.heap.setIfInBounds tp (.map #[] n) } := by
  obtain ⟨es, m, h1, _⟩ := h
  refine ⟨m, ?_⟩
  simp [Builtin.clear_, run_underlying under89, MapKept.run_getObj_map h1, MapKept.run_setObj_map _ h1, Result.andThen]

/-- The thread that from begins with. -/
def Th.first (groups marks at_ : Nat) : Th := ⟨0, at_, (filled (2 * groups + 2) (2 * groups + 2)).set 0 at_, List.replicate marks 0⟩

/-- What found finds from an index on. -/
inductive VFound (prog : List Ins) (s : ByteArray) (groups marks : Nat) : Nat → List (Nat × Nat) → Option (List Int) → Prop where
  | stop {a : Nat} {tr : List (Nat × Nat)} (h : s.size < a) : VFound prog s groups marks a tr none
  | hit {a k : Nat} {tr tr' : List (Nat × Nat)} {gs : List Int} (h : a ≤ s.size) (hr : vrun prog s false k none [Th.first groups marks a] tr = some (some gs, tr')) (hl : gs.length = 2 * groups + 2) : VFound prog s groups marks a tr (some gs)
  | miss {a k : Nat} {tr tr' : List (Nat × Nat)} {res : Option (List Int)} (h : a ≤ s.size) (hr : vrun prog s false k none [Th.first groups marks a] tr = some (none, tr')) (hn : VFound prog s groups marks (a + 1) tr' res) : VFound prog s groups marks a tr res

theorem two_cell (a b : Int) : ∀ x ∈ [intV a, intV b], x.oneCell' = true := by
  intro x hx
  simp at hx
  rcases hx with rfl | rfl <;> rfl

def FoundR (w : World) (tp : Nat) (res : Option (List Int)) (e : Ending) (w' : World) : Prop :=
  But tp w w' ∧ (∃ tr, MapAt w' tp tr) ∧
    match res with
    | none => e = .returned (.tuple #[.slice none 0 0, .bool false])
    | some gs => ∃ sv, e = .returned (.tuple #[sv, .bool true]) ∧ w'.ownsRow w.heap.size 30 2 sv (gs.length / 2) (gs.map intV)

set_option maxHeartbeats 4000000 in
theorem found_any (w : World) (mp tp : Nat) (prog : List Ins) (marks groups : Nat) (refs : List Bool) (s : ByteArray) (pg pcap : Nat) (ra : Option Addr) (rc : Nat) (hM : MAt w mp tp prog marks groups refs s pg pcap ra rc)
    (tr : List (Nat × Nat)) (hmap : MapAt w tp tr) (a : Nat) (ha : a ≤ 1000000) (res : Option (List Int)) (hf : VFound prog s groups marks a [] res) :
    Calls Try.prog 26 #[.pointer (some ⟨mp, 0, none⟩), .int .i64 (a : Int)] w (FoundR w tp res) := by
  obtain ⟨root, deep, hblk⟩ := hM.blk
  obtain ⟨nn, hclr⟩ := clear_map w tp tr hmap
  have c6 : w.cell? ⟨mp, 6, none⟩ = some (.string s) := (cell_of_blk hblk 6).trans rfl
  have c9 : w.cell? ⟨mp, 9, none⟩ = some (.map (some tp)) := (cell_of_blk hblk 9).trans rfl
  have lmp := (Array.getElem?_eq_some_iff.1 hblk).1
  have ltp : tp < w.heap.size := by obtain ⟨es, m, h, _⟩ := hmap; exact (Array.getElem?_eq_some_iff.1 h).1
  have hmp := hM.ne
  have hsl := hM.slen
  have HM := Lib.hid hM
  have HMAP := Lib.hid hmap
  have HF := Lib.hid hf
  clear hM hmap hf hblk
  go_enter Try.func26, Try.ntmps26
  go_wp2
  clear hclr
  go_loopg [6] (s.size + 1 - a) (fun k av wr => ∃ (b : Nat) (tr' : List (Nat × Nat)), av = .int .i64 (b : Int) ∧ k = s.size + 1 - b ∧ b ≤ 1000001 ∧ But tp w wr ∧ MapAt wr tp tr' ∧ VFound prog s groups marks b tr' res)
  case atStart =>
    obtain ⟨es, m, h1, _⟩ := HMAP.out
    obtain ⟨h2, h3⟩ := MapKept.heap_set (o' := .map #[] nn) h1
    exact ⟨a, [], rfl, rfl, by omega, ⟨rfl, rfl, rfl, by simp, fun b hb hn => h3 b hn⟩, ⟨#[], nn, h2, rfl⟩, HF.out⟩
  case round =>
    obtain ⟨b, tr', rfl, hk, hb1, hbut, hmap, hvf⟩ := hrel
    have hM := HM.out.but hbut
    obtain ⟨root', deep', hblk⟩ := hM.blk
    have m6 : wr.cell? ⟨mp, 6, none⟩ = some (.string s) := (cell_of_blk hblk 6).trans rfl
    have HMR := Lib.hid hM
    have HBUT := Lib.hid hbut
    have HMAPR := Lib.hid hmap
    have HK := Lib.hid hk
    have hws := hbut.size
    clear hM hbut hmap hk hblk c6 c9
    have hcase : (s.size < b ∧ res = none) ∨ (∃ k gs tr2, b ≤ s.size ∧ vrun prog s false k none [Th.first groups marks b] tr' = some (some gs, tr2) ∧ gs.length = 2 * groups + 2 ∧ res = some gs) ∨ (∃ k tr2, b ≤ s.size ∧ vrun prog s false k none [Th.first groups marks b] tr' = some (none, tr2) ∧ VFound prog s groups marks (b + 1) tr2 res) := by
      cases hvf with
      | stop h => exact .inl ⟨h, rfl⟩
      | hit h hr hl => exact .inr (.inl ⟨_, _, _, h, hr, hl, rfl⟩)
      | miss h hr hn => exact .inr (.inr ⟨_, _, h, hr, hn⟩)
    rcases hcase with ⟨hgt, rfl⟩ | ⟨k, gs, tr2, hle, hr, hgl, rfl⟩ | ⟨k, tr2, hle, hr, hn⟩
    · have t1 : ¬ ((b : Int) ≤ (s.size : Int)) := by omega
      clear hvf
      go_wp2
      go_ret2
      exact ⟨HBUT.out, ⟨_, HMAPR.out⟩, rfl⟩
    · have t1 : (b : Int) ≤ (s.size : Int) := by omega
      have hfrom := from_any wr mp tp prog marks groups refs s pg pcap ra rc HMR.out tr' HMAPR.out b hle false k _ hr
      have HFROM := Lib.hid hfrom
      have HGL := Lib.hid hgl
      clear hvf hr hfrom hgl
      go_wp2_with (fail)
      refine HFROM.out.mono ?_
      rintro e w2 ⟨hb2, hm2, g, c, rfl, hrow⟩
      dsimp only
      have HB2 := Lib.hid hb2
      have HM2 := Lib.hid hm2
      have HROW := Lib.hid hrow
      have hws2 := hb2.size
      clear hb2 hm2 hrow
      go_wp2
      go_loopg [9, 10] gs.length (fun k ov iv w5 => ∃ (i : Nat), iv = .int .i64 (i : Int) ∧ k = gs.length - i ∧ i % 2 = 0 ∧ i ≤ gs.length ∧ But tp w w5 ∧ MapAt w5 tp tr2 ∧ IntsAt w5 wr.heap.size (.slice (some ⟨g, 0, none⟩) gs.length c) gs ∧
        w5.ownsRow w.heap.size 30 2 ov (i / 2) ((gs.map intV).take i) ∧ ov.ownBlock ≠ some g)
      case atStart => exact ⟨0, rfl, rfl, rfl, Nat.zero_le _, HBUT.out.trans HB2.out, HM2.out, HROW.out, World.ownsRow_nil _ _ _ _, (fun e => by cases e)⟩
      case round =>
        obtain ⟨i, rfl, hk5, hi2, hil, hbut5, hmap5, hrow5, hov, hne⟩ := hrel
        obtain ⟨w5, hw5⟩ : ∃ w5, w5 = wr := ⟨_, rfl⟩
        subst hw5
        have HBUT5 := Lib.hid hbut5
        have HMAP5 := Lib.hid hmap5
        have HROW5 := Lib.hid hrow5
        have HOV := Lib.hid hov
        have HK5 := Lib.hid hk5
        have HI2 := Lib.hid hi2
        have hws5 := hbut5.size
        by_cases hlt : i < gs.length
        · have hlt2 : i + 1 < gs.length := by have := HGL.out; omega
          have l1 : (i : Int) < (gs.length : Int) := by omega
          have l2 : (i : Int) + 1 < (gs.length : Int) := by omega
          obtain ⟨xv, hxv⟩ : ∃ xv, gs[i]? = some xv := ⟨_, List.getElem?_eq_getElem hlt⟩
          obtain ⟨yv, hyv⟩ : ∃ yv, gs[i + 1]? = some yv := ⟨_, List.getElem?_eq_getElem hlt2⟩
          have x0 : w5.cell? ⟨g, i, none⟩ = some (.int .i64 xv) := by
            rw [World.ownsRow.cellAt hrow5 i (by omega), List.getElem?_map, hxv]; rfl
          have x1 : w5.cell? ⟨g, i + 1, none⟩ = some (.int .i64 yv) := by
            rw [World.ownsRow.cellAt hrow5 (i + 1) (by omega), List.getElem?_map, hyv]; rfl
          have lg := World.block_lt_of_cell? w5 _ x0
          simp only at lg
          obtain ⟨i30, h3, h30, h31, h32⟩ := info_parts info30
          have htake : (gs.map intV).take (i + 2) = (gs.map intV).take i ++ [intV xv, intV yv] := by
            rw [show i + 2 = (i + 1) + 1 from rfl, List.take_add_one, List.take_add_one, List.getElem?_map, List.getElem?_map, hxv, hyv]
            simp
          have HT := Lib.hid htake
          have hgb : gs.length ≤ 1000000 := by have := HGL.out; have := HMR.out.glen; omega
          have hwr : IntKind.i64.wrap ((i : Int) + 1) = (i : Int) + 1 := IntWalk.i64_in _ (by omega)
          have h01 : (0 : Int) ≤ (i : Int) + 1 := by omega
          have htn : ((i : Int) + 1).toNat = i + 1 := by omega
          clear hbut5 hmap5 hrow5 hov hk5 hi2 hxv hyv htake t1
          go_wp2
          go_region_law (refine step_append_tag rfl (.tmp 39) (.tmp 50) 25 rfl w.heap.size 30 i30 _ 2 16 Try.underlying25 h3 h30 h31 h32 rfl (by decide) u9 (i / 2) _ rfl (by exact World.ownsRow.alloc (w := w5.drew) HOV.out _) ⟨w5.heap.size, 0, none⟩ 1 1 [intV xv, intV yv] rfl rfl (by exact cells_new w5.drew [intV xv, intV yv] 30) (by exact two_cell xv yv) (by simp only [maxLen]; omega) (by omega) (by simp; omega) ?_; intro v' w6 ho2 hg2 ht2; have hg3 := grown_undrew (grown_past (w := w5.drew) hg2); have ht3 := tag_past (w := w5.drew) ht2; have HG3 := Lib.hid hg3; have HT3 := Lib.hid ht3; have HO2 := Lib.hid ho2; clear hg2 ht2 hg3 ht3 ho2)
          all_goals
            go_wp2
            go_roundg (gs.length - (i + 2))
            case measure => rw [HK5.out]; omega
            case rel =>
              refine ⟨i + 2, by go_num, rfl, by have := HI2.out; omega, by omega, ?_, ?_, ?_, ?_, ?_⟩
              · exact ⟨HG3.out.os.trans HBUT5.out.os, HG3.out.tape.trans HBUT5.out.tape, HG3.out.output.trans HBUT5.out.output, Nat.le_trans hws5 HG3.out.size, fun b hb hn => (HG3.out.block b (by omega) (fun e => by have := (HOV.out.lt b e.symm).1; omega)).trans (HBUT5.out.block b hb hn)⟩
              · exact HMAP5.out.but (HG3.out.block tp (by omega) (fun e => by have := (HOV.out.lt tp e.symm).1; omega))
              · refine ownsRow_agree HROW5.out fun j hj => HG3.out.block j (World.ownsRow.lt HROW5.out j hj).2 (fun e => ?_)
                cases hj
                exact hne e.symm
              · rw [HT.out, show (i + 2) / 2 = i / 2 + 1 by omega]
                exact HO2.out
              · intro e
                rcases HT3.out with e2 | e2
                · exact hne (by rw [← e2]; exact e)
                · have h9 : w5.heap.size ≤ g := e2 g e
                  omega
        · have hie : i = gs.length := by omega
          have t2 : ¬ ((i : Int) < (gs.length : Int)) := by omega
          have HIE := Lib.hid hie
          clear hbut5 hmap5 hrow5 hov hk5 hi2 hie t1
          go_wp2
          go_ret2
          refine ⟨HBUT5.out, ⟨_, HMAP5.out⟩, _, rfl, ?_⟩
          have h9 := HOV.out
          rw [HIE.out, List.take_of_length_le (by simp)] at h9
          exact h9
    · have t1 : (b : Int) ≤ (s.size : Int) := by omega
      have hfrom := from_any wr mp tp prog marks groups refs s pg pcap ra rc HMR.out tr' HMAPR.out b hle false k _ hr
      have HFROM := Lib.hid hfrom
      have HN := Lib.hid hn
      clear hvf hr hfrom hn
      go_wp2_with (fail)
      refine HFROM.out.mono ?_
      rintro e w2 ⟨hb2, hm2, rfl⟩
      dsimp only
      have HB2 := Lib.hid hb2
      have HM2 := Lib.hid hm2
      clear hb2 hm2
      go_wp2
      go_roundg (s.size + 1 - (b + 1))
      case measure => rw [HK.out]; omega
      case rel => exact ⟨b + 1, tr2, by go_num, rfl, by omega, HBUT.out.trans HB2.out, HM2.out, HN.out⟩

end Go.Proofs.Ytfgghbideoehjaa
