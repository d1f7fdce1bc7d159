/-
  The document's first example: Find at 'a(b|c)*d' in 'xabcd'.
  SameSpans at two rows that are the same.
  awake, on the word for Replace at its example.
-/
import Derived.Test.YtfgghbideoehjaaVmUToVmV
import Derived.Test.YtfgghbideoehjaaVmAToVmE
namespace Go.Proofs.Ytfgghbideoehjaa
set_option linter.unusedVariables false
set_option linter.unusedSimpArgs false
set_option maxRecDepth 100000

abbrev pat1 : ByteArray := ⟨#[97, 40, 98, 124, 99, 41, 42, 100]⟩
abbrev txt1 : ByteArray := ⟨#[120, 97, 98, 99, 100]⟩
abbrev lit1 (c : Nat) : Nd := .one (BSet.zero.range c c) .zero

def fin1 : PSt := ⟨pat1, 8, [], ⟨0, 0, [], [lit1 97, .times (.group 1 (.branches [.pieces [lit1 98], .pieces [lit1 99]])) 0 (-1) false, lit1 100], true⟩, 1, 1, 0, [false, false]⟩

theorem read1 : runsN 20 (PSt.start pat1) 0 = some (fin1, 1) := by kernel_rfl

theorem pat1_ok : Pat pat1 fin1 1 where
  runs := runsN_runs 20 _ _ _ read1
  size := by decide
  low := rfl
  groups := by decide
  deep := by decide
  nsize := by decide +kernel
  fine := by simp [fin1, Fr.whole, Nd.fine, Nd.fines]
  cov := by simp [fin1, Fr.whole, Nd.cov, Nd.covs]
  clen := by decide +kernel
  cmarks := by decide +kernel
  norefs := by decide
  rlen := by decide
  wf := by
    have h : (comp fin1.top.whole ([], 0)).1.all (fun i => decide (i.set.a < 18446744073709551616) && decide (i.set.b < 18446744073709551616) && decide (i.set.c < 18446744073709551616) && decide (i.set.d < 18446744073709551616)) = true := by decide +kernel
    intro i hi
    have := List.all_eq_true.1 h i hi
    simp only [Bool.and_eq_true, decide_eq_true_eq] at this
    exact ⟨this.1.1.1, this.1.1.2, this.1.2, this.2⟩

theorem find1 : VFound fin1.prog txt1 fin1.groups fin1.marks 0 [] (some [1, 5, 3, 4]) := by
  refine .miss (k := 10) (tr' := []) (by decide) (by kernel_rfl) ?_
  obtain ⟨tr, h⟩ : ∃ tr, vrun fin1.prog txt1 false 60 none [Th.first fin1.groups fin1.marks 1] [] = some (some [1, 5, 3, 4], tr) := by
    refine ⟨(match vrun fin1.prog txt1 false 60 none [Th.first fin1.groups fin1.marks 1] [] with | some r => r.2 | none => []), ?_⟩
    kernel_rfl
  exact .hit (by decide) h rfl

end Go.Proofs.Ytfgghbideoehjaa

namespace Go.Proofs.Ytfgghbideoehjaa
open Go.ChangeShapes Go.WideShapes Go.ChangeAt Go.RowKit
set_option linter.unusedVariables false
set_option linter.unusedSimpArgs false
set_option maxRecDepth 100000

theorem under30 : Try.prog.underlying 30 = some (.struct (Try.prog.fieldsOf 30)) := by kernel_rfl
theorem fields30 : (Try.prog.fieldsOf 30).toList.map (fun f => (f.name, f.type, f.offset)) = [("From", 3, 0), ("To", 3, 1)] := by kernel_rfl
theorem held30 : Try.prog.stoodInHeld 30 = false := by kernel_rfl
theorem span_part0 (x y : Int) (w : World) : (part 3 #[.int .i64 x, .int .i64 y] 0).run Try.prog w = .ok (.int .i64 x) w := by kernel_rfl
theorem span_part1 (x y : Int) (w : World) : (part 3 #[.int .i64 x, .int .i64 y] 1).run Try.prog w = .ok (.int .i64 y) w := by kernel_rfl

theorem span_eq (x y : Int) (w : World) : (Op.equal 30 (.agg #[.int .i64 x, .int .i64 y]) (.agg #[.int .i64 x, .int .i64 y])).run Try.prog w = .ok true w := by
  have hf := fields30
  unfold Op.equal
  rw [show Op.maxDepth = 9999 + 1 from rfl, run_equalIn_struct w 9999 30 _ _ under30 held30]
  generalize (Try.prog.fieldsOf 30).toList = l at *
  obtain ⟨f0, l, rfl⟩ : ∃ f l', l = f :: l' := by cases l with | nil => simp at hf | cons f l => exact ⟨f, l, rfl⟩
  obtain ⟨f1, l, rfl⟩ : ∃ f l', l = f :: l' := by cases l with | nil => simp at hf | cons f l => exact ⟨f, l, rfl⟩
  simp only [List.map_cons, List.cons.injEq, Prod.mk.injEq, List.map_eq_nil_iff] at hf
  obtain ⟨⟨n0, t0, o0⟩, ⟨n1, t1, o1⟩, rfl⟩ := hf
  have c0 : "From" ≠ "_" := by decide
  have c1 : "To" ≠ "_" := by decide
  have h1 : (x == x) = true := by simp
  have h2 : (y == y) = true := by simp
  simp only [Op.eqFields, n0, t0, o0, n1, t1, o1, if_pos c0, if_pos c1, Sem.run_bind, span_part0, span_part1, eq_int3, Result.andThen_ok, h1, h2, Bool.not_true, Bool.false_eq_true, if_false, Sem.run_pure]

set_option maxHeartbeats 1000000 in
theorem sameSpans_same (w : World) (g h n c d : Nat) (xs : List Int) (hn : n ≤ 1000000) (hl : xs.length = n * 2)
    (hg : ∀ j u, (xs.map intV)[j]? = some u → w.cell? ⟨g, j, none⟩ = some u) (hh : ∀ j u, (xs.map intV)[j]? = some u → w.cell? ⟨h, j, none⟩ = some u) :
    Calls Try.prog 16 #[.slice (some ⟨g, 0, none⟩) n c, .slice (some ⟨h, 0, none⟩) n d] w fun e w' => e = .returned (.bool true) ∧ ∃ k, w' = w.drewN k := by
  have HG := Lib.hid hg
  have HH := Lib.hid hh
  have HL := Lib.hid hl
  clear hg hh hl
  go_enter Try.func16, Try.ntmps16
  go_wp2
  go_loopg [13] n (fun k iv wr => ∃ (i : Nat), iv = .int .i64 (i : Int) ∧ k = n - i ∧ i ≤ n ∧ ∃ q, wr = w.drewN q)
  case atStart => exact ⟨0, rfl, rfl, Nat.zero_le _, 0, rfl⟩
  case round =>
    obtain ⟨i, rfl, hk, hi, q, rfl⟩ := hrel
    have HK := Lib.hid hk
    clear hk
    by_cases hlt : i < n
    · have t1 : (i : Int) < (n : Int) := by omega
      obtain ⟨x, hx⟩ : ∃ x, xs[i * 2]? = some x := ⟨_, List.getElem?_eq_getElem (by have := HL.out; omega)⟩
      obtain ⟨y, hy⟩ : ∃ y, xs[i * 2 + 1]? = some y := ⟨_, List.getElem?_eq_getElem (by have := HL.out; omega)⟩
      have g0 : w.cell? ⟨g, i * 2, none⟩ = some (.int .i64 x) := HG.out _ _ (by rw [List.getElem?_map, hx]; rfl)
      have g1 : w.cell? ⟨g, i * 2 + 1, none⟩ = some (.int .i64 y) := HG.out _ _ (by rw [List.getElem?_map, hy]; rfl)
      have h0 : w.cell? ⟨h, i * 2, none⟩ = some (.int .i64 x) := HH.out _ _ (by rw [List.getElem?_map, hx]; rfl)
      have h1 : w.cell? ⟨h, i * 2 + 1, none⟩ = some (.int .i64 y) := HH.out _ _ (by rw [List.getElem?_map, hy]; rfl)
      have heq := fun (wx : World) => span_eq x y wx
      clear hx hy
      go_wp2_with (fail)
      go_quiet (fail)
      go_wp2
      go_roundg (n - (i + 1))
      case measure => rw [HK.out]; omega
      case rel => exact ⟨i + 1, by go_num, rfl, by omega, _, rfl⟩
    · have t1 : ¬ (i : Int) < (n : Int) := by omega
      go_wp2
      go_ret
      exact ⟨rfl, q, rfl⟩

end Go.Proofs.Ytfgghbideoehjaa

namespace Go.Proofs.Ytfgghbideoehjaa
open Go.ChangeShapes Go.WideShapes Go.ChangeAt Go.RowKit
set_option linter.unusedVariables false
set_option linter.unusedSimpArgs false
set_option maxRecDepth 100000

abbrev pat2 : ByteArray := ⟨#[40, 46, 41, 40, 46, 41]⟩
abbrev txt2 : ByteArray := ⟨#[97, 98, 99, 100]⟩
abbrev wth2 : ByteArray := ⟨#[92, 50, 92, 49]⟩
abbrev out2 : ByteArray := ⟨#[98, 97, 100, 99]⟩

def ReplaceOk : Prop := ∀ w : World, Calls Try.prog 24 #[.string pat2, .string txt2, .string wth2, .bool true, .bool false, .bool false] w fun e w' => e = .returned (.tuple #[.string out2, .int .i64 2, .int .i64 0]) ∧ Below w.heap.size w w'

set_option maxHeartbeats 1000000 in
theorem awake_any (hR : ReplaceOk) (w : World) : Calls Try.prog 10 #[] w fun e w' => e = .returned (.bool true) ∧ Below w.heap.size w w' := by
  have HR := Lib.hid hR
  clear hR
  go_enter Try.func10, Try.ntmps10
  go_wp2_with (fail)
  refine (find_any w pat1 txt1 fin1 1 pat1_ok (by decide) 0 (by decide) _ find1).mono ?_
  rintro e w1 ⟨hb1, sv, rfl, hrow⟩
  dsimp only
  have HB1 := Lib.hid hb1
  have hrow1 : w1.ownsRow w.heap.size 30 2 sv 2 [intV 1, intV 5, intV 3, intV 4] := by
    rw [show ([(1 : Int), 5, 3, 4].length / 2) = 2 from by simp] at hrow
    exact hrow
  obtain ⟨g, c, rfl⟩ := ownsRow_succ' (n := 1) hrow1
  have HROW := Lib.hid hrow1
  clear hb1 hrow hrow1
  go_wp2_with (fail)
  refine (HR.out w1).mono ?_
  rintro e w2 ⟨rfl, hb2⟩
  dsimp only
  obtain ⟨A, hA, sA, aN, aO, bA⟩ := alloc_pack w2 #[.int .i64 1, .int .i64 5, .int .i64 3, .int .i64 4] 30
  have hrow2 : A.ownsRow w.heap.size 30 2 (.slice (some ⟨g, 0, none⟩) 2 c) 2 [intV 1, intV 5, intV 3, intV 4] := ownsRow_agree HROW.out fun j hj => by
    have h := (HROW.out.lt j hj).2
    rw [aO j (by have := hb2.size; omega), hb2.block j h]
  have hss := sameSpans_same A g w2.heap.size 2 c 2 [1, 5, 3, 4] (by omega) rfl (fun j u hj => by
      have := World.ownsRow.cells hrow2 (g := g) rfl j u hj
      rw [show ((⟨g, 0, none⟩ : Addr).add j) = ⟨g, j, none⟩ from (by unfold Addr.add; simp; omega)] at this
      exact this) (fun j u hj => by
      rw [cell_of_blk aN j]
      simpa using hj)
  have HA := Lib.hid hA
  have HSS := Lib.hid hss
  have HB2 := Lib.hid hb2
  have HBA := Lib.hid bA
  clear hA sA aN aO bA hrow2 hss hb2
  go_wp2_with (fail)
  rw [HA.out]
  refine HSS.out.mono ?_
  rintro e w3 ⟨rfl, k, rfl⟩
  dsimp only
  go_wp2
  go_ret
  have h12 := HB1.out.trans (HB2.out.mono HB1.out.size)
  exact ⟨rfl, below_drewN (h12.trans (HBA.out.mono h12.size)) k⟩

end Go.Proofs.Ytfgghbideoehjaa
