/-
  Find at any machine; SameSpans at two rows that are the same; expand; the document's two examples at the general machine; awake on the word for Replace.
-/
import Derived.Test.YtfgghbideoehjaaWmKToPrtS
import Derived.Test.YtfgghbideoehjaaPrtK
import Derived.Test.YtfgghbideoehjaaLitCToLitF
import Derived.Deep.RegionHeld3
import Derived.IntWalk
namespace Go.Proofs.Ytfgghbideoehjaa
open Go.ChangeShapes Go.WideShapes Go.ChangeAt Go.RowKit
set_option linter.unusedVariables false
set_option linter.unusedSimpArgs false
set_option maxRecDepth 100000

def FindR (w : World) (res : Option (List Int)) (e : Ending) (w' : World) : Prop :=
  Below w.heap.size w w' ∧
    match res with
    | none => e = .returned (.tuple #[.slice none 0 0, .int .i64 8])
    | some gs => ∃ sv, e = .returned (.tuple #[sv, .int .i64 0]) ∧ w'.ownsRow w.heap.size 30 2 sv (gs.length / 2) (gs.map intV)

set_option maxHeartbeats 1000000 in
theorem find_any (w : World) (p s : ByteArray) (fin : PSt) (deep : Nat) (hP : PatG p fin deep) (hs : s.size ≤ 200) (D : Nat) (a : Nat) (ha : a ≤ s.size) (res : Option (List Int)) (hf : GFound (fin.mc false false s) (lkD (fin.mc false false s) D) fin.groups a [] res) :
    Calls Try.prog 11 #[.string p, .string s, .int .i64 (a : Int), .bool false, .bool false] w (FindR w res) := by
  have HMA := Lib.hid (machined_ok w p s false false fin deep hP hs)
  have HF := Lib.hid hf
  have t1 : ¬ ((a : Int) < 0) := by omega
  have t2 : ¬ ((a : Int) > (s.size : Int)) := by omega
  clear hf hP
  go_enter Try.func11, Try.ntmps11
  go_wp2_with (fail)
  refine HMA.out.mono ?_
  rintro e w1 ⟨mp, tp, pg, pcap, ra, rc, rfl, hM, hmap, hbel, htp⟩
  dsimp only
  have hfo := found_any w1 mp tp (fin.mc false false s) (lkD (fin.mc false false s) D) fin.groups pg pcap ra rc hM (looks_any D _ w1 mp tp _ _ _ _ _ hM) [] hmap a (by omega) res HF.out
  have HFO := Lib.hid hfo
  have HBEL := Lib.hid hbel
  clear hM hmap hfo hbel
  go_wp2_with (fail)
  refine HFO.out.mono ?_
  rintro e w2 ⟨hbut, _, hres⟩
  have hB : Below w.heap.size w w2 := HBEL.out.trans (hbut.below htp HBEL.out.size)
  have HB := Lib.hid hB
  clear hbut hB
  cases res with
  | none =>
    subst hres
    dsimp only
    go_wp2
    go_ret2
    exact ⟨HB.out, rfl⟩
  | some gs =>
    obtain ⟨sv, rfl, hrow⟩ := hres
    have HROW := Lib.hid hrow
    clear hrow
    dsimp only
    go_wp2
    go_ret2
    exact ⟨HB.out, sv, rfl, ownsRow_mono HROW.out HBEL.out.size⟩

abbrev pat1 : ByteArray := ⟨#[97, 40, 98, 124, 99, 41, 42, 100]⟩
abbrev txt1 : ByteArray := ⟨#[120, 97, 98, 99, 100]⟩
abbrev lit1 (c : Nat) : Nd := .one (BSet.zero.range c c) .zero
def fin1 : PSt := ⟨pat1, 8, [], ⟨0, 0, [], [lit1 97, .times (.group 1 (.branches [.pieces [lit1 98], .pieces [lit1 99]])) 0 (-1) false, lit1 100], true⟩, 1, 1, 0, [false, false]⟩

theorem read1 : readOf pat1 = .ok fin1 1 := by kernel_rfl
theorem pat1_ok : PatG pat1 fin1 1 := patG_of (by decide) read1

theorem grun_hit {M : Mc} {lk : Nat → Nat → Option Bool} {k : Nat} {t : Gt} {gs : List Int} (h : ((grun M lk false k none [t] []).bind fun r => r.1) = some gs) : ∃ tr, grun M lk false k none [t] [] = some (some gs, tr) := by
  cases hr : grun M lk false k none [t] [] with
  | none => rw [hr] at h; cases h
  | some r =>
    rw [hr] at h
    obtain ⟨a, b⟩ := r
    simp at h
    subst h
    exact ⟨b, rfl⟩

theorem find1 (lk : Nat → Nat → Option Bool) : GFound (fin1.mc false false txt1) lk fin1.groups 0 [] (some [1, 5, 3, 4]) := by
  refine .miss (k := 10) (tr' := []) (by decide) (by kernel_rfl) ?_
  obtain ⟨tr, h⟩ := grun_hit (M := fin1.mc false false txt1) (lk := lk) (k := 60) (t := Gt.first fin1.groups (fin1.mc false false txt1).marks 0 1) (gs := [1, 5, 3, 4]) (by kernel_rfl)
  exact .hit (by decide) h rfl

theorem under30 : Try.prog.underlying 30 = some (.struct (Try.prog.fieldsOf 30)) := by kernel_rfl
theorem fields30 : (Try.prog.fieldsOf 30).toList.map (fun f => (f.name, f.type, f.offset)) = [("From", 3, 0), ("To", 3, 1)] := by kernel_rfl
theorem held30 : Try.prog.stoodInHeld 30 = false := by kernel_rfl
theorem span_part0 (x y : Int) (w : World) : (part 3 #[.int .i64 x, .int .i64 y] 0).run Try.prog w = .ok (.int .i64 x) w := by kernel_rfl
theorem span_part1 (x y : Int) (w : World) : (part 3 #[.int .i64 x, .int .i64 y] 1).run Try.prog w = .ok (.int .i64 y) w := by kernel_rfl

theorem span_eq (x y : Int) (w : World) : (Op.equal 30 (.agg #[.int .i64 x, .int .i64 y]) (.agg #[.int .i64 x, .int .i64 y])).run Try.prog w = .ok true w := by
  have hf := fields30
  unfold Op.equal
  rw [show Op.maxDepth = 9999 + 1 from rfl, run_equalIn_struct w 9999 30 _ _ under30 held30]
  generalize (Try.prog.fieldsOf 30).toList = l at *
  obtain ⟨f0, l, rfl⟩ : ∃ f l', l = f :: l' := by cases l with | nil => simp at hf | cons f l => exact ⟨f, l, rfl⟩
  obtain ⟨f1, l, rfl⟩ : ∃ f l', l = f :: l' := by cases l with | nil => simp at hf | cons f l => exact ⟨f, l, rfl⟩
  simp only [List.map_cons, List.cons.injEq, Prod.mk.injEq, List.map_eq_nil_iff] at hf
  obtain ⟨⟨n0, t0, o0⟩, ⟨n1, t1, o1⟩, rfl⟩ := hf
  have c0 : "From" ≠ "_" := by decide
  have c1 : "To" ≠ "_" := by decide
  have h1 : (x == x) = true := by simp
  have h2 : (y == y) = true := by simp
  simp only [Op.eqFields, n0, t0, o0, n1, t1, o1, if_pos c0, if_pos c1, Sem.run_bind, span_part0, span_part1, eq_int3, Result.andThen_ok, h1, h2, Bool.not_true, Bool.false_eq_true, if_false, Sem.run_pure]

set_option maxHeartbeats 1000000 in
theorem sameSpans_same (w : World) (g h n c d : Nat) (xs : List Int) (hn : n ≤ 1000000) (hl : xs.length = n * 2)
    (hg : ∀ j u, (xs.map intV)[j]? = some u → w.cell? ⟨g, j, none⟩ = some u) (hh : ∀ j u, (xs.map intV)[j]? = some u → w.cell? ⟨h, j, none⟩ = some u) :
    Calls Try.prog 16 #[.slice (some ⟨g, 0, none⟩) n c, .slice (some ⟨h, 0, none⟩) n d] w fun e w' => e = .returned (.bool true) ∧ ∃ k, w' = w.drewN k := by
  have HG := Lib.hid hg
  have HH := Lib.hid hh
  have HL := Lib.hid hl
  clear hg hh hl
  go_enter Try.func16, Try.ntmps16
  go_wp2
  go_loopg [13] n (fun k iv wr => ∃ (i : Nat), iv = .int .i64 (i : Int) ∧ k = n - i ∧ i ≤ n ∧ ∃ q, wr = w.drewN q)
  case atStart => exact ⟨0, rfl, rfl, Nat.zero_le _, 0, rfl⟩
  case round =>
    obtain ⟨i, rfl, hk, hi, q, rfl⟩ := hrel
    have HK := Lib.hid hk
    clear hk
    by_cases hlt : i < n
    · have t1 : (i : Int) < (n : Int) := by omega
      obtain ⟨x, hx⟩ : ∃ x, xs[i * 2]? = some x := ⟨_, List.getElem?_eq_getElem (by have := HL.out; omega)⟩
      obtain ⟨y, hy⟩ : ∃ y, xs[i * 2 + 1]? = some y := ⟨_, List.getElem?_eq_getElem (by have := HL.out; omega)⟩
      have g0 : w.cell? ⟨g, i * 2, none⟩ = some (.int .i64 x) := HG.out _ _ (by rw [List.getElem?_map, hx]; rfl)
      have g1 : w.cell? ⟨g, i * 2 + 1, none⟩ = some (.int .i64 y) := HG.out _ _ (by rw [List.getElem?_map, hy]; rfl)
      have h0 : w.cell? ⟨h, i * 2, none⟩ = some (.int .i64 x) := HH.out _ _ (by rw [List.getElem?_map, hx]; rfl)
      have h1 : w.cell? ⟨h, i * 2 + 1, none⟩ = some (.int .i64 y) := HH.out _ _ (by rw [List.getElem?_map, hy]; rfl)
      have heq := fun (wx : World) => span_eq x y wx
      clear hx hy
      go_wp2_with (fail)
      go_quiet (fail)
      go_wp2
      go_roundg (n - (i + 1))
      case measure => rw [HK.out]; omega
      case rel => exact ⟨i + 1, by go_num, rfl, by omega, _, rfl⟩
    · have t1 : ¬ (i : Int) < (n : Int) := by omega
      go_wp2
      go_ret
      exact ⟨rfl, q, rfl⟩
abbrev pat2 : ByteArray := ⟨#[40, 46, 41, 40, 46, 41]⟩
abbrev txt2 : ByteArray := ⟨#[97, 98, 99, 100]⟩
abbrev wth2 : ByteArray := ⟨#[92, 50, 92, 49]⟩
abbrev out2 : ByteArray := ⟨#[98, 97, 100, 99]⟩

def ReplaceOk : Prop := ∀ w : World, Calls Try.prog 24 #[.string pat2, .string txt2, .string wth2, .bool true, .bool false, .bool false] w fun e w' => e = .returned (.tuple #[.string out2, .int .i64 2, .int .i64 0]) ∧ Below w.heap.size w w'

set_option maxHeartbeats 1000000 in
theorem awake_any (hR : ReplaceOk) (w : World) : Calls Try.prog 10 #[] w fun e w' => e = .returned (.bool true) ∧ Below w.heap.size w w' := by
  have HR := Lib.hid hR
  clear hR
  go_enter Try.func10, Try.ntmps10
  go_wp2_with (fail)
  refine (find_any w pat1 txt1 fin1 1 pat1_ok (by decide) 0 0 (by decide) _ (find1 _)).mono ?_
  rintro e w1 ⟨hb1, sv, rfl, hrow⟩
  dsimp only
  have HB1 := Lib.hid hb1
  have hrow1 : w1.ownsRow w.heap.size 30 2 sv 2 [intV 1, intV 5, intV 3, intV 4] := by
    rw [show ([(1 : Int), 5, 3, 4].length / 2) = 2 from by simp] at hrow
    exact hrow
  obtain ⟨g, c, rfl⟩ := ownsRow_succ' (n := 1) hrow1
  have HROW := Lib.hid hrow1
  clear hb1 hrow hrow1
  go_wp2_with (fail)
  refine (HR.out w1).mono ?_
  rintro e w2 ⟨rfl, hb2⟩
  dsimp only
  obtain ⟨A, hA, sA, aN, aO, bA⟩ := alloc_pack w2 #[.int .i64 1, .int .i64 5, .int .i64 3, .int .i64 4] 30
  have hrow2 : A.ownsRow w.heap.size 30 2 (.slice (some ⟨g, 0, none⟩) 2 c) 2 [intV 1, intV 5, intV 3, intV 4] := ownsRow_agree HROW.out fun j hj => by
    have h := (HROW.out.lt j hj).2
    rw [aO j (by have := hb2.size; omega), hb2.block j h]
  have hss := sameSpans_same A g w2.heap.size 2 c 2 [1, 5, 3, 4] (by omega) rfl (fun j u hj => by
      have := World.ownsRow.cells hrow2 (g := g) rfl j u hj
      rw [show ((⟨g, 0, none⟩ : Addr).add j) = ⟨g, j, none⟩ from (by unfold Addr.add; simp; omega)] at this
      exact this) (fun j u hj => by
      rw [cell_of_blk aN j]
      simpa using hj)
  have HA := Lib.hid hA
  have HSS := Lib.hid hss
  have HB2 := Lib.hid hb2
  have HBA := Lib.hid bA
  clear hA sA aN aO bA hrow2 hss hb2
  go_wp2_with (fail)
  rw [HA.out]
  refine HSS.out.mono ?_
  rintro e w3 ⟨rfl, k, rfl⟩
  dsimp only
  go_wp2
  go_ret
  have h12 := HB1.out.trans (HB2.out.mono HB1.out.size)
  exact ⟨rfl, below_drewN (h12.trans (HBA.out.mono h12.size)) k⟩

/-- The bytes of a part. -/
def partL (s : ByteArray) (f t : Nat) : List UInt8 := (s.extract f t).data.toList

theorem part_cells (bs : List UInt8) (s : ByteArray) (f t : Nat) : Lib.byteCells bs ++ Lib.strCells (s.extract f t) = Lib.byteCells (bs ++ partL s f t) := by
  rw [Lib.strCells_eq]
  simp [Lib.byteCells, partL]

set_option maxHeartbeats 1000000 in
theorem put_fn (w : World) (B b bm bs g k c n f t : Nat) (s : ByteArray) (bytes : List UInt8) (hs : s.size ≤ 1000000) (hl : bytes.length ≤ 10000000) (hn : n < k) (hk : k ≤ 1000000) (hft : f ≤ t) (hts : t ≤ s.size)
    (cm : w.cell? ⟨bm, 0, none⟩ = some (.slice (some ⟨g, 0, none⟩) k c)) (cs : w.cell? ⟨bs, 0, none⟩ = some (.string s))
    (c0 : w.cell? ⟨g, n * 2, none⟩ = some (.int .i64 (f : Int))) (c1 : w.cell? ⟨g, n * 2 + 1, none⟩ = some (.int .i64 (t : Int))) (hb : Lib.IsBuilder 76 5 B b (Lib.byteCells bytes) w) (hB : B ≤ w.heap.size) (lm : bm < B) (ls : bs < B) (lg : g < B) :
    Calls Try.prog 67 #[.int .i64 (n : Int), .pointer (some ⟨bm, 0, none⟩), .pointer (some ⟨b, 0, none⟩), .pointer (some ⟨bs, 0, none⟩)] w fun e w' => e = .returned (.tuple #[]) ∧ Lib.IsBuilder 76 5 B b (Lib.byteCells (bytes ++ partL s f t)) w' ∧ Below B w w' := by
  have t1 : (n : Int) < (k : Int) := by omega
  have t2 : (f : Int) ≥ 0 := by omega
  have t3 : (f : Int) ≤ (t : Int) := by omega
  have t4 : (t : Int) ≤ (s.size : Int) := by omega
  have hcl : (Lib.byteCells bytes).length ≤ 10000000 := by rw [Lib.byteCells_length]; omega
  have hsl : ∀ wx : World, (Instr.slice 9 (.string s) (some (.int .i64 (f : Int))) (some (.int .i64 (t : Int))) none).run Try.prog wx = .ok (.string (s.extract f t)) wx := fun wx => by
    have := run_slice_string (P := Try.prog) wx 9 s .i64 .i64 (f : Int) (t : Int) Try.underlying9 (by omega) (by omega) (by omega)
    rw [this, Int.toNat_natCast, Int.toNat_natCast]
  have hez : (s.extract f t).size ≤ 1000000 := by simp; omega
  have HB := Lib.hid hb
  clear hb
  go_enter Try.func67, Try.ntmps67
  go_wp2_with (fail)
  go_region_held3 (fun W => W.cell? ⟨bm, 0, none⟩ = some (.slice (some ⟨g, 0, none⟩) k c) ∧ W.cell? ⟨bs, 0, none⟩ = some (.string s) ∧ W.cell? ⟨g, n * 2, none⟩ = some (.int .i64 (f : Int)) ∧ W.cell? ⟨g, n * 2 + 1, none⟩ = some (.int .i64 (t : Int))) (first | exact ⟨cm, cs, c0, c1⟩ | exact ⟨p1, p2, p3, p4⟩) (first | (go_at_call 40; refine (writeString_any B b _ (s.extract f t) w.drew (by exact HB.out) (by omega) (by exact hB)).mono ?_; rintro e w' ⟨rfl, hb2, hl2⟩; dsimp only; have p1 := (hl2.cell (p := ⟨bm, 0, none⟩) lm).trans cm; have p2 := (hl2.cell (p := ⟨bs, 0, none⟩) ls).trans cs; have p3 := (hl2.cell (p := ⟨g, n * 2, none⟩) lg).trans c0; have p4 := (hl2.cell (p := ⟨g, n * 2 + 1, none⟩) lg).trans c1; have HB2 := Lib.hid hb2; have HL2 := Lib.hid hl2; clear hb2 hl2))
  all_goals
    go_wp2
    go_end0
    refine ⟨rfl, ?_, ⟨HL2.out.os, HL2.out.tape, HL2.out.output, HL2.out.size, HL2.out.block⟩⟩
    have h := HB2.out
    rw [part_cells] at h
    exact .inr h

/-- What expand writes from an index on. -/
inductive Exp (wth s : ByteArray) (gs : List Int) : Nat → List UInt8 → Prop where
  | done {i : Nat} (h : i = wth.size) : Exp wth s gs i []
  | dig {i n f t : Nat} {l : List UInt8} (h : i + 1 < wth.size) (h1 : byte wth i = 92) (h2 : byte wth (i + 1) = 48 + n) (h3 : n ≤ 9) (hf : gs[n * 2]? = some (f : Int)) (ht : gs[n * 2 + 1]? = some (t : Int)) (hft : f ≤ t) (hts : t ≤ s.size) (hr : Exp wth s gs (i + 2) l) : Exp wth s gs i (partL s f t ++ l)

set_option maxHeartbeats 1000000 in
theorem expand_fn (w : World) (wth s : ByteArray) (g k c : Nat) (gs : List Int) (l : List UInt8) (he : Exp wth s gs 0 l) (hl : l.length ≤ 1000000) (hw : wth.size ≤ 1000000) (hs : s.size ≤ 1000000) (hk : k ≤ 1000000) (hgl : gs.length = k * 2)
    (hg : ∀ j u, (gs.map intV)[j]? = some u → w.cell? ⟨g, j, none⟩ = some u) (lg : g < w.heap.size) :
    Calls Try.prog 41 #[.string wth, .string s, .slice (some ⟨g, 0, none⟩) k c] w fun e w' => e = .returned (.string ⟨l.toArray⟩) ∧ Below w.heap.size w w' := by
  have hmf : ∀ (fn : Fn) (first cap : Array Value) (w : World), (Instr.makeFunc fn first cap).run Try.prog w = .ok (.func fn first cap) w := fun _ _ _ _ => rfl
  have hby := get_byte wth
  obtain ⟨A, hA, sA, aN, aO, bA⟩ := alloc_pack w #[.string s] 9
  obtain ⟨B, hB, sB, bN, bO, bB⟩ := alloc_pack A #[.slice (some ⟨g, 0, none⟩) k c] 25
  obtain ⟨C, hC, sC, cN, cO, bC⟩ := alloc_pack B #[.pointer none, .slice none 0 0] 76
  have hbld : Lib.IsBuilder 76 5 B.heap.size B.heap.size (Lib.byteCells []) C := by rw [← hC]; exact Lib.fresh_isBuilder 76 5 B
  have hBel : Below w.heap.size w C := (bA.trans (bB.mono (by omega))).trans (bC.mono (by omega))
  have HA := Lib.hid hA
  have HB := Lib.hid hB
  have HC := Lib.hid hC
  have cs : C.cell? ⟨w.heap.size, 0, none⟩ = some (.string s) := (cell_of_blk ((cO _ (by omega)).trans ((bO _ (by omega)).trans aN)) 0).trans rfl
  have cm : C.cell? ⟨A.heap.size, 0, none⟩ = some (.slice (some ⟨g, 0, none⟩) k c) := (cell_of_blk ((cO _ (by omega)).trans bN) 0).trans rfl
  have HG := Lib.hid (show ∀ j u, (gs.map intV)[j]? = some u → C.cell? ⟨g, j, none⟩ = some u from fun j u hj => (hBel.cell (p := ⟨g, j, none⟩) lg).trans (hg j u hj))
  have HBL := Lib.hid hbld
  have HBEL := Lib.hid hBel
  have HE := Lib.hid he
  have ls : w.heap.size < B.heap.size := by omega
  have lm : A.heap.size < B.heap.size := by omega
  have lg2 : g < B.heap.size := by omega
  have lw : w.heap.size ≤ B.heap.size := by omega
  have lB : B.heap.size < C.heap.size := by omega
  have hwA : A.heap.size = w.heap.size + 1 := sA
  have hwB : B.heap.size = A.heap.size + 1 := sB
  have HWA := Lib.hid hwA
  have HWB := Lib.hid hwB
  clear hA hB hC sA sB sC aN bN cN aO bO cO bA bB bC hbld hBel he hg hwA hwB
  go_enter Try.func41, Try.ntmps41
  go_wp2_with (fail)
  rw [HA.out, HB.out, HC.out, ← HWA.out, ← HWB.out]
  go_loopg [9] wth.size (fun kk iv wr => ∃ (i : Nat) (acc l' : List UInt8), iv = .int .i64 (i : Int) ∧ kk = wth.size - i ∧ i ≤ wth.size ∧ l = acc ++ l' ∧ Exp wth s gs i l' ∧ Lib.IsBuilder 76 5 B.heap.size B.heap.size (Lib.byteCells acc) wr ∧ Below B.heap.size C wr)
  case atStart => exact ⟨0, [], l, rfl, rfl, Nat.zero_le _, rfl, HE.out, HBL.out, Below.refl _ _⟩
  case round =>
    obtain ⟨i, acc, l', rfl, hkk, hi, heq, hex, hbd, hbel⟩ := hrel
    have hsz : B.heap.size ≤ wr.heap.size := by have := hbel.size; omega
    have cm' := (hbel.cell (p := ⟨A.heap.size, 0, none⟩) lm).trans cm
    have cs' := (hbel.cell (p := ⟨w.heap.size, 0, none⟩) ls).trans cs
    have hacc : acc.length ≤ 1000000 := by have := congrArg List.length heq; simp at this; omega
    have HK := Lib.hid hkk
    have HEQ := Lib.hid heq
    have HBD := Lib.hid hbd
    have HBL2 := Lib.hid hbel
    clear hkk heq hbd hbel
    have hcase : (i = wth.size ∧ l' = []) ∨ ∃ n f t l2, i + 1 < wth.size ∧ byte wth i = 92 ∧ byte wth (i + 1) = 48 + n ∧ n ≤ 9 ∧ gs[n * 2]? = some ((f : Nat) : Int) ∧ gs[n * 2 + 1]? = some ((t : Nat) : Int) ∧ f ≤ t ∧ t ≤ s.size ∧ Exp wth s gs (i + 2) l2 ∧ l' = partL s f t ++ l2 := by
      cases hex with
      | done h => exact .inl ⟨h, rfl⟩
      | dig h h1 h2 h3 hf ht hft hts hr => exact .inr ⟨_, _, _, _, h, h1, h2, h3, hf, ht, hft, hts, hr, rfl⟩
    rcases hcase with ⟨hie, rfl⟩ | ⟨n, f, t, l2, hlt, hb1, hb2, hn9, hf, ht, hft, hts, hr, rfl⟩
    · have t1 : ¬ (i : Int) < (wth.size : Int) := by omega
      clear hex hie
      go_wp2_with (fail)
      refine (Try.Builder_String_any B.heap.size B.heap.size _ wr HBD.out hsz).mono ?_
      rintro e w' ⟨rfl, hb⟩
      dsimp only
      have HB2 := Lib.hid hb
      clear hb
      go_wp2
      go_ret
      refine ⟨?_, HBEL.out.trans ((HBL2.out.trans HB2.out).mono lw)⟩
      rw [HEQ.out, List.append_nil]
      rfl
    · have t1 : (i : Int) < (wth.size : Int) := by omega
      have t2 : (i : Int) + 1 < (wth.size : Int) := by omega
      have hx0 : n * 2 < gs.length := (List.getElem?_eq_some_iff.1 hf).1
      have c0 : wr.cell? ⟨g, n * 2, none⟩ = some (.int .i64 (f : Int)) := (HBL2.out.cell (p := ⟨g, n * 2, none⟩) lg2).trans (HG.out _ _ (by rw [List.getElem?_map, hf]; rfl))
      have c1 : wr.cell? ⟨g, n * 2 + 1, none⟩ = some (.int .i64 (t : Int)) := (HBL2.out.cell (p := ⟨g, n * 2 + 1, none⟩) lg2).trans (HG.out _ _ (by rw [List.getElem?_map, ht]; rfl))
      have hput := put_fn wr B.heap.size B.heap.size A.heap.size w.heap.size g k c n f t s acc hs (by omega) (by omega) hk hft hts cm' cs' c0 c1 HBD.out hsz lm ls lg2
      have e1 : ((byte wth i : Int) == 38) = false := by rw [hb1]; decide
      have e2 : ((byte wth i : Int) == 92) = true := by rw [hb1]; decide
      have hdg : isDigit (byte wth (i + 1)) = true := by rw [hb2]; simp [isDigit]; omega
      have hb := byte_lt wth (i + 1)
      have hwr : ((byte wth (i + 1) : Int) - 48) % 256 = (n : Int) := by omega
      have HPUT := Lib.hid hput
      have HWR := Lib.hid hwr
      have HR := Lib.hid hr
      clear hex hf ht c0 c1 hput hb1 hb2 cm' cs' hwr
      go_wp2_with (go_at_call 33; refine (digit_any _ hb _).mono ?_; rintro e w' ⟨rfl, rfl⟩; rw [hdg]; dsimp only)
      rw [HWR.out]
      refine HPUT.out.mono ?_
      rintro e w2 ⟨rfl, hb2, hl2⟩
      dsimp only
      have HB2 := Lib.hid hb2
      have HL2 := Lib.hid hl2
      clear hb2 hl2
      go_wp2
      go_roundg (wth.size - (i + 2))
      case measure => rw [HK.out]; omega
      case rel => exact ⟨i + 2, acc ++ partL s f t, l2, by go_num, rfl, by omega, by rw [HEQ.out, List.append_assoc], HR.out, HB2.out, HBL2.out.trans HL2.out⟩

abbrev dot1 : Nd := .one .zero BSet.zero.not
def fin2 : PSt := ⟨pat2, 6, [], ⟨0, 0, [], [.group 1 (.branches [.pieces [dot1]]), .group 2 (.branches [.pieces [dot1]])], true⟩, 2, 2, 0, [false, false, false]⟩

theorem read2 : readOf pat2 = .ok fin2 1 := by kernel_rfl
theorem pat2_ok : PatG pat2 fin2 1 := patG_of (by decide) read2

theorem find2a (lk : Nat → Nat → Option Bool) : GFound (fin2.mc false false txt2) lk fin2.groups 0 [] (some [0, 2, 0, 1, 1, 2]) := by
  obtain ⟨tr, h⟩ := grun_hit (M := fin2.mc false false txt2) (lk := lk) (k := 60) (t := Gt.first fin2.groups (fin2.mc false false txt2).marks 0 0) (gs := [0, 2, 0, 1, 1, 2]) (by kernel_rfl)
  exact .hit (by decide) h rfl
theorem find2b (lk : Nat → Nat → Option Bool) : GFound (fin2.mc false false txt2) lk fin2.groups 2 [] (some [2, 4, 2, 3, 3, 4]) := by
  obtain ⟨tr, h⟩ := grun_hit (M := fin2.mc false false txt2) (lk := lk) (k := 60) (t := Gt.first fin2.groups (fin2.mc false false txt2).marks 0 2) (gs := [2, 4, 2, 3, 3, 4]) (by kernel_rfl)
  exact .hit (by decide) h rfl
theorem find2c (lk : Nat → Nat → Option Bool) : GFound (fin2.mc false false txt2) lk fin2.groups 4 [] none :=
  .miss (k := 20) (tr' := []) (by decide) (by kernel_rfl) (.stop (by decide))

/-- What the first match is replaced by, and the second. -/
theorem exp2a : Exp wth2 txt2 [0, 2, 0, 1, 1, 2] 0 [98, 97] := by
  have h := Exp.dig (wth := wth2) (s := txt2) (gs := [0, 2, 0, 1, 1, 2]) (i := 0) (n := 2) (f := 1) (t := 2) (by decide) (by decide) (by decide) (by decide) rfl rfl (by decide) (by decide)
    (Exp.dig (i := 2) (n := 1) (f := 0) (t := 1) (by decide) (by decide) (by decide) (by decide) rfl rfl (by decide) (by decide) (.done (by decide)))
  exact h

theorem exp2b : Exp wth2 txt2 [2, 4, 2, 3, 3, 4] 0 [100, 99] := by
  have h := Exp.dig (wth := wth2) (s := txt2) (gs := [2, 4, 2, 3, 3, 4]) (i := 0) (n := 2) (f := 3) (t := 4) (by decide) (by decide) (by decide) (by decide) rfl rfl (by decide) (by decide)
    (Exp.dig (i := 2) (n := 1) (f := 2) (t := 3) (by decide) (by decide) (by decide) (by decide) rfl rfl (by decide) (by decide) (.done (by decide)))
  exact h

end Go.Proofs.Ytfgghbideoehjaa
