/-
  The machine: a look ahead (looks), its walk.
  The machine: found, at any program.
-/
import Derived.Test.YtfgghbideoehjaaWmD
import Derived.Test.YtfgghbideoehjaaWmFToWmH
namespace Go.Proofs.Ytfgghbideoehjaa
open Go.ChangeShapes Go.WideShapes Go.ChangeAt Go.RowKit
set_option linter.unusedVariables false
set_option linter.unusedSimpArgs false
set_option maxRecDepth 1000000

set_option maxHeartbeats 1000000 in
theorem looks_walk (W : World) (mp tp : Nat) (M : Mc) (groups : Nat) (pg pcap : Nat) (ra : Option Addr) (rc : Nat) (hM : MAt W mp tp M groups pg pcap ra rc) (a p : Nat) (res : Option (List Int) × List Key)
    (hfrom : ∀ (W' : World) (np ntp : Nat), MAt W' np ntp M.sub 0 pg pcap none 0 → MapAt W' ntp [] → Calls Try.prog 28 #[.pointer (some ⟨np, 0, none⟩), .int .i64 (a : Int), .int .i64 (p : Int), .bool false] W' (FromR W' ntp res)) :
    Calls Try.prog 48 #[.pointer (some ⟨mp, 0, none⟩), .int .i64 (a : Int), .int .i64 (p : Int)] W fun e w' => e = .returned (.bool res.1.isSome) ∧ Below W.heap.size W w' := by
  obtain ⟨root, deep, hblk⟩ := hM.blk
  have lmp := (Array.getElem?_eq_some_iff.1 hblk).1
  have m4 : W.cell? ⟨mp, 4, none⟩ = some (.slice (some ⟨pg, 0, none⟩) M.prog.length pcap) := (cell_of_blk hblk 4).trans rfl
  have m5 : W.cell? ⟨mp, 5, none⟩ = some (.int .i64 (M.marks : Int)) := (cell_of_blk hblk 5).trans rfl
  have m6 : W.cell? ⟨mp, 6, none⟩ = some (.string M.s) := (cell_of_blk hblk 6).trans rfl
  have m7 : W.cell? ⟨mp, 7, none⟩ = some (.bool M.fold) := (cell_of_blk hblk 7).trans rfl
  have m8 : W.cell? ⟨mp, 8, none⟩ = some (.bool M.lines) := (cell_of_blk hblk 8).trans rfl
  have HM := Lib.hid hM
  have HFR := Lib.hid hfrom
  clear hM hfrom hblk
  go_enter Try.func48, Try.ntmps48
  have hmk := fun (w : World) => run_makeMap (P := Try.prog) 89 w
  go_wp2_with (fail)
  go_region
  go_wp2_with (fail)
  clear hmk m4 m5 m6 m7 m8
  obtain ⟨A, hA⟩ : ∃ A, W.alloc (.map #[] 0) = A := ⟨_, rfl⟩
  have hAs : A.heap.size = W.heap.size + 1 := by rw [← hA]; simp
  have hAm : A.heap[W.heap.size]? = some (.map #[] 0) := by rw [← hA]; exact heap_alloc_new W _
  have hAo : ∀ b, b < W.heap.size → A.heap[b]? = W.heap[b]? := fun b hb => by rw [← hA]; exact heap_alloc_old _ _ hb
  have hAb : Below W.heap.size W A := by rw [← hA]; exact (Below.refl _ W).alloc (Nat.le_refl _) _
  rw [hA, ← hAs]
  generalize hC : A.alloc (.cells #[Value.nilIface, .int .i64 0, .slice none 0 0, .int .i64 0, .slice (some ⟨pg, 0, none⟩) M.prog.length pcap, .int .i64 (M.marks : Int), .string M.s, .bool M.fold, .bool M.lines, .map (some W.heap.size), .bool false] 91) = C
  have hCn : C.heap[A.heap.size]? = some (.cells #[Value.nilIface, .int .i64 0, .slice none 0 0, .int .i64 0, .slice (some ⟨pg, 0, none⟩) M.prog.length pcap, .int .i64 (M.marks : Int), .string M.s, .bool M.fold, .bool M.lines, .map (some W.heap.size), .bool false] 91 (0, 0)) := by rw [← hC]; exact heap_alloc_new A _
  have hCo : ∀ b, b < A.heap.size → C.heap[b]? = A.heap[b]? := fun b hb => by rw [← hC]; exact heap_alloc_old _ _ hb
  have hCb : Below W.heap.size W C := by rw [← hC]; exact hAb.alloc (by omega) _
  have hpgl := (HM.out.row.lt pg rfl).2
  have hMC : MAt C.drew A.heap.size W.heap.size M.sub 0 pg pcap none 0 := {
    blk := ⟨.nilIface, .int .i64 0, hCn⟩
    row := ownsRow_agree HM.out.row fun j hj => by
      have hj2 := (HM.out.row.lt j hj).2
      exact (hCo j (by omega)).trans (hAo j hj2)
    refsr := World.ownsRow_nil _ _ _ _
    ne := by omega
    pne := by omega
    rne := fun k hk => by cases hk
    wf := HM.out.wf
    plen := HM.out.plen
    rlen := by simp [Mc.sub]
    glen := by omega
    mlen := HM.out.mlen
    slen := HM.out.slen
    kinds := HM.out.kinds }
  have hmp : MapAt C.drew W.heap.size [] := ⟨#[], 0, (hCo _ (by omega)).trans hAm, rfl⟩
  refine (HFR.out C.drew A.heap.size W.heap.size hMC hmp).mono ?_
  rintro e w' hF
  have hbel : Below W.heap.size W w' := by
    have hb := hF.1
    have hs := hCb.size
    exact ⟨hb.os.trans hCb.os, hb.tape.trans hCb.tape, hb.output.trans hCb.output, Nat.le_trans hCb.size hb.size, fun b hlt => (hb.block b (Nat.lt_of_lt_of_le hlt hs) (by omega)).trans (hCb.block b hlt)⟩
  obtain ⟨_, _, hres⟩ := hF
  obtain ⟨r, tr⟩ := res
  have HBEL := Lib.hid hbel
  clear hbel hmp hMC hCn hCo hCb hAm hAo hAb
  cases r with
  | none =>
    cases hres
    go_wp2_with (fail)
    go_ret
    exact ⟨rfl, HBEL.out⟩
  | some gs =>
    obtain ⟨g, c, rfl, _⟩ := hres
    go_wp2_with (fail)
    go_ret
    exact ⟨rfl, HBEL.out⟩

open Classical in
theorem lkD_sub (M : Mc) : ∀ d, lkD M.sub d = lkD M d
  | 0 => rfl
  | d + 1 => by
    funext a p
    have ih := lkD_sub M d
    have key : ∀ f, f = lkD M d → (if h : ∃ k res, grun M.sub f false k none [Gt.first 0 M.marks a p] [] = some res then some (Classical.choose (Classical.choose_spec h)).1.isSome else none) = lkD M (d + 1) a p := by
      intro f hf
      subst hf
      rfl
    exact key _ ih

end Go.Proofs.Ytfgghbideoehjaa

namespace Go.Proofs.Ytfgghbideoehjaa
open Go.ChangeShapes Go.WideShapes Go.ChangeAt Go.RowKit
set_option linter.unusedVariables false
set_option linter.unusedSimpArgs false
set_option maxRecDepth 100000

theorem info30 : (Try.prog.info? 30).map (fun i => (i.zero, i.size, i.bytes)) = some (some (.agg #[.int .i64 0, .int .i64 0]), 2, 16) := by kernel_rfl

theorem clear_map (w : World) (tp : Nat) (tr : List Key) (h : MapAt w tp tr) : ∃ n, (Builtin.clear_ #[89] (0 : TypeId) #[.map (some tp)]).run Try.prog w = .ok (.tuple #[]) { w with heap := w.heap.setIfInBounds tp (.map #[] n) } := by
  obtain ⟨es, m, h1, _⟩ := h
  refine ⟨m, ?_⟩
  simp [Builtin.clear_, run_underlying under89, MapKept.run_getObj_map h1, MapKept.run_setObj_map _ h1, Result.andThen]

theorem looks_any : ∀ (d : Nat) (M : Mc) (w : World) (mp tp groups pg pcap : Nat) (ra : Option Addr) (rc : Nat), MAt w mp tp M groups pg pcap ra rc → LooksAt w mp tp M (lkD M d)
  | 0, M, w, mp, tp, groups, pg, pcap, ra, rc, hM => fun W a p b _ _ h => by simp [lkD] at h
  | d + 1, M, w, mp, tp, groups, pg, pcap, ra, rc, hM => fun W a p b hbut hp hlk => by
    obtain ⟨k, res, hrun, hb⟩ := lkD_some hlk
    subst hb
    refine looks_walk W mp tp M groups pg pcap ra rc (hM.but hbut) a p res fun W' np ntp hM' hmap' => ?_
    have hl := looks_any d M.sub W' np ntp 0 pg pcap none 0 hM'
    rw [lkD_sub] at hl
    exact from_any W' np ntp M.sub (lkD M d) 0 pg pcap none 0 hM' hl [] hmap' a p hp false k res hrun

theorem LooksAt.but {w w' : World} {mp tp : Nat} {M : Mc} {lk : Nat → Nat → Option Bool} (h : LooksAt w mp tp M lk) (hb : But tp w w') : LooksAt w' mp tp M lk := fun W a p b hW => h W a p b (hb.trans hW)

theorem two_cell (a b : Int) : ∀ x ∈ [intV a, intV b], x.oneCell' = true := by
  intro x hx
  simp at hx
  rcases hx with rfl | rfl <;> rfl

def FoundR (w : World) (tp : Nat) (res : Option (List Int)) (e : Ending) (w' : World) : Prop :=
  But tp w w' ∧ (∃ tr, MapAt w' tp tr) ∧
    match res with
    | none => e = .returned (.tuple #[.slice none 0 0, .bool false])
    | some gs => ∃ sv, e = .returned (.tuple #[sv, .bool true]) ∧ w'.ownsRow w.heap.size 30 2 sv (gs.length / 2) (gs.map intV)

set_option maxHeartbeats 4000000 in
theorem found_any (w : World) (mp tp : Nat) (M : Mc) (lk : Nat → Nat → Option Bool) (groups : Nat) (pg pcap : Nat) (ra : Option Addr) (rc : Nat) (hM : MAt w mp tp M groups pg pcap ra rc) (hlk : LooksAt w mp tp M lk)
    (tr : List Key) (hmap : MapAt w tp tr) (a : Nat) (ha : a ≤ 1000000) (res : Option (List Int)) (hf : GFound M lk groups a [] res) :
    Calls Try.prog 26 #[.pointer (some ⟨mp, 0, none⟩), .int .i64 (a : Int)] w (FoundR w tp res) := by
  obtain ⟨root, deep, hblk⟩ := hM.blk
  obtain ⟨nn, hclr⟩ := clear_map w tp tr hmap
  have c6 : w.cell? ⟨mp, 6, none⟩ = some (.string M.s) := (cell_of_blk hblk 6).trans rfl
  have c9 : w.cell? ⟨mp, 9, none⟩ = some (.map (some tp)) := (cell_of_blk hblk 9).trans rfl
  have lmp := (Array.getElem?_eq_some_iff.1 hblk).1
  have ltp : tp < w.heap.size := by obtain ⟨es, m, h, _⟩ := hmap; exact (Array.getElem?_eq_some_iff.1 h).1
  have hmp := hM.ne
  have hsl := hM.slen
  have HM := Lib.hid hM
  have HLK := Lib.hid hlk
  have HMAP := Lib.hid hmap
  have HF := Lib.hid hf
  clear hM hlk hmap hf hblk
  go_enter Try.func26, Try.ntmps26
  go_wp2
  clear hclr
  go_loopg [6] (M.s.size + 1 - a) (fun k av wr => ∃ (b : Nat) (tr' : List Key), av = .int .i64 (b : Int) ∧ k = M.s.size + 1 - b ∧ b ≤ 1000001 ∧ But tp w wr ∧ MapAt wr tp tr' ∧ GFound M lk groups b tr' res)
  case atStart =>
    obtain ⟨es, m, h1, _⟩ := HMAP.out
    obtain ⟨h2, h3⟩ := MapKept.heap_set (o' := .map #[] nn) h1
    exact ⟨a, [], rfl, rfl, by omega, ⟨rfl, rfl, rfl, by simp, fun b hb hn => h3 b hn⟩, ⟨#[], nn, h2, rfl⟩, HF.out⟩
  case round =>
    obtain ⟨b, tr', rfl, hk, hb1, hbut, hmap, hvf⟩ := hrel
    have hM := HM.out.but hbut
    obtain ⟨root', deep', hblk⟩ := hM.blk
    have m6 : wr.cell? ⟨mp, 6, none⟩ = some (.string M.s) := (cell_of_blk hblk 6).trans rfl
    have HMR := Lib.hid hM
    have HBUT := Lib.hid hbut
    have HMAPR := Lib.hid hmap
    have HK := Lib.hid hk
    have hws := hbut.size
    clear hM hbut hmap hk hblk c6 c9
    have hcase : (M.s.size < b ∧ res = none) ∨ (∃ k gs tr2, b ≤ M.s.size ∧ grun M lk false k none [Gt.first groups M.marks 0 b] tr' = some (some gs, tr2) ∧ gs.length = 2 * groups + 2 ∧ res = some gs) ∨ (∃ k tr2, b ≤ M.s.size ∧ grun M lk false k none [Gt.first groups M.marks 0 b] tr' = some (none, tr2) ∧ GFound M lk groups (b + 1) tr2 res) := by
      cases hvf with
      | stop h => exact .inl ⟨h, rfl⟩
      | hit h hr hl => exact .inr (.inl ⟨_, _, _, h, hr, hl, rfl⟩)
      | miss h hr hn => exact .inr (.inr ⟨_, _, h, hr, hn⟩)
    rcases hcase with ⟨hgt, rfl⟩ | ⟨k, gs, tr2, hle, hr, hgl, rfl⟩ | ⟨k, tr2, hle, hr, hn⟩
    · have t1 : ¬ ((b : Int) ≤ (M.s.size : Int)) := by omega
      clear hvf
      go_wp2
      go_ret2
      exact ⟨HBUT.out, ⟨_, HMAPR.out⟩, rfl⟩
    · have t1 : (b : Int) ≤ (M.s.size : Int) := by omega
      have hfrom := from_any wr mp tp M lk groups pg pcap ra rc HMR.out (HLK.out.but HBUT.out) tr' HMAPR.out 0 b hle false k _ hr
      have HFROM := Lib.hid hfrom
      have HGL := Lib.hid hgl
      clear hvf hr hfrom hgl
      go_wp2_with (fail)
      refine HFROM.out.mono ?_
      rintro e w2 ⟨hb2, hm2, g, c, rfl, hrow⟩
      dsimp only
      have HB2 := Lib.hid hb2
      have HM2 := Lib.hid hm2
      have HROW := Lib.hid hrow
      have hws2 := hb2.size
      clear hb2 hm2 hrow
      go_wp2
      go_loopg [9, 10] gs.length (fun k ov iv w5 => ∃ (i : Nat), iv = .int .i64 (i : Int) ∧ k = gs.length - i ∧ i % 2 = 0 ∧ i ≤ gs.length ∧ But tp w w5 ∧ MapAt w5 tp tr2 ∧ IntsAt w5 wr.heap.size (.slice (some ⟨g, 0, none⟩) gs.length c) gs ∧
        w5.ownsRow w.heap.size 30 2 ov (i / 2) ((gs.map intV).take i) ∧ ov.ownBlock ≠ some g)
      case atStart => exact ⟨0, rfl, rfl, rfl, Nat.zero_le _, HBUT.out.trans HB2.out, HM2.out, HROW.out, World.ownsRow_nil _ _ _ _, (fun e => by cases e)⟩
      case round =>
        obtain ⟨i, rfl, hk5, hi2, hil, hbut5, hmap5, hrow5, hov, hne⟩ := hrel
        obtain ⟨w5, hw5⟩ : ∃ w5, w5 = wr := ⟨_, rfl⟩
        subst hw5
        have HBUT5 := Lib.hid hbut5
        have HMAP5 := Lib.hid hmap5
        have HROW5 := Lib.hid hrow5
        have HOV := Lib.hid hov
        have HK5 := Lib.hid hk5
        have HI2 := Lib.hid hi2
        have hws5 := hbut5.size
        by_cases hlt : i < gs.length
        · have hlt2 : i + 1 < gs.length := by have := HGL.out; omega
          have l1 : (i : Int) < (gs.length : Int) := by omega
          have l2 : (i : Int) + 1 < (gs.length : Int) := by omega
          obtain ⟨xv, hxv⟩ : ∃ xv, gs[i]? = some xv := ⟨_, List.getElem?_eq_getElem hlt⟩
          obtain ⟨yv, hyv⟩ : ∃ yv, gs[i + 1]? = some yv := ⟨_, List.getElem?_eq_getElem hlt2⟩
          have x0 : w5.cell? ⟨g, i, none⟩ = some (.int .i64 xv) := by
            rw [World.ownsRow.cellAt hrow5 i (by omega), List.getElem?_map, hxv]; rfl
          have x1 : w5.cell? ⟨g, i + 1, none⟩ = some (.int .i64 yv) := by
            rw [World.ownsRow.cellAt hrow5 (i + 1) (by omega), List.getElem?_map, hyv]; rfl
          have lg := World.block_lt_of_cell? w5 _ x0
          simp only at lg
          obtain ⟨i30, h3, h30, h31, h32⟩ := info_parts info30
          have htake : (gs.map intV).take (i + 2) = (gs.map intV).take i ++ [intV xv, intV yv] := by
            rw [show i + 2 = (i + 1) + 1 from rfl, List.take_add_one, List.take_add_one, List.getElem?_map, List.getElem?_map, hxv, hyv]
            simp
          have HT := Lib.hid htake
          have hgb : gs.length ≤ 1000000 := by have := HGL.out; have := HMR.out.glen; omega
          have hwr : IntKind.i64.wrap ((i : Int) + 1) = (i : Int) + 1 := IntWalk.i64_in _ (by omega)
          have h01 : (0 : Int) ≤ (i : Int) + 1 := by omega
          have htn : ((i : Int) + 1).toNat = i + 1 := by omega
          clear hbut5 hmap5 hrow5 hov hk5 hi2 hxv hyv htake t1
          go_wp2
          go_region_law (refine step_append_tag rfl (.tmp 39) (.tmp 50) 25 rfl w.heap.size 30 i30 _ 2 16 Try.underlying25 h3 h30 h31 h32 rfl (by decide) u9 (i / 2) _ rfl (by exact World.ownsRow.alloc (w := w5.drew) HOV.out _) ⟨w5.heap.size, 0, none⟩ 1 1 [intV xv, intV yv] rfl rfl (by exact cells_new w5.drew [intV xv, intV yv] 30) (by exact two_cell xv yv) (by simp only [maxLen]; omega) (by omega) (by simp; omega) ?_; intro v' w6 ho2 hg2 ht2; have hg3 := grown_undrew (grown_past (w := w5.drew) hg2); have ht3 := tag_past (w := w5.drew) ht2; have HG3 := Lib.hid hg3; have HT3 := Lib.hid ht3; have HO2 := Lib.hid ho2; clear hg2 ht2 hg3 ht3 ho2)
          all_goals
            go_wp2
            go_roundg (gs.length - (i + 2))
            case measure => rw [HK5.out]; omega
            case rel =>
              refine ⟨i + 2, by go_num, rfl, by have := HI2.out; omega, by omega, ?_, ?_, ?_, ?_, ?_⟩
              · exact ⟨HG3.out.os.trans HBUT5.out.os, HG3.out.tape.trans HBUT5.out.tape, HG3.out.output.trans HBUT5.out.output, Nat.le_trans hws5 HG3.out.size, fun b hb hn => (HG3.out.block b (by omega) (fun e => by have := (HOV.out.lt b e.symm).1; omega)).trans (HBUT5.out.block b hb hn)⟩
              · exact HMAP5.out.but (HG3.out.block tp (by omega) (fun e => by have := (HOV.out.lt tp e.symm).1; omega))
              · refine ownsRow_agree HROW5.out fun j hj => HG3.out.block j (World.ownsRow.lt HROW5.out j hj).2 (fun e => ?_)
                cases hj
                exact hne e.symm
              · rw [HT.out, show (i + 2) / 2 = i / 2 + 1 by omega]
                exact HO2.out
              · intro e
                rcases HT3.out with e2 | e2
                · exact hne (by rw [← e2]; exact e)
                · have h9 : w5.heap.size ≤ g := e2 g e
                  omega
        · have hie : i = gs.length := by omega
          have t2 : ¬ ((i : Int) < (gs.length : Int)) := by omega
          have HIE := Lib.hid hie
          clear hbut5 hmap5 hrow5 hov hk5 hi2 hie t1
          go_wp2
          go_ret2
          refine ⟨HBUT5.out, ⟨_, HMAP5.out⟩, _, rfl, ?_⟩
          have h9 := HOV.out
          rw [HIE.out, List.take_of_length_le (by simp)] at h9
          exact h9
    · have t1 : (b : Int) ≤ (M.s.size : Int) := by omega
      have hfrom := from_any wr mp tp M lk groups pg pcap ra rc HMR.out (HLK.out.but HBUT.out) tr' HMAPR.out 0 b hle false k _ hr
      have HFROM := Lib.hid hfrom
      have HN := Lib.hid hn
      clear hvf hr hfrom hn
      go_wp2_with (fail)
      refine HFROM.out.mono ?_
      rintro e w2 ⟨hb2, hm2, rfl⟩
      dsimp only
      have HB2 := Lib.hid hb2
      have HM2 := Lib.hid hm2
      clear hb2 hm2
      go_wp2
      go_roundg (M.s.size + 1 - (b + 1))
      case measure => rw [HK.out]; omega
      case rel => exact ⟨b + 1, tr2, by go_num, rfl, by omega, HBUT.out.trans HB2.out, HM2.out, HN.out⟩

end Go.Proofs.Ytfgghbideoehjaa
