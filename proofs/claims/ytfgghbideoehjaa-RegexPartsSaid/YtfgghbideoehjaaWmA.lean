/-
  The machine's map of tried states: its keys, a look-up, a store.
  The machine: changed.
  The machine as a plain function; its states in memory.
  The machine: what each store of from does to the states in memory.
-/
import Derived.Test.YtfgghbideoehjaaGmA
import Derived.OwnWalk
namespace Go.Proofs.Ytfgghbideoehjaa
open Go.ChangeShapes Go.WideShapes Go.ChangeAt Go.RowKit
set_option linter.unusedVariables false
set_option linter.unusedSimpArgs false
set_option maxRecDepth 100000

abbrev noText : ByteArray := ⟨#[]⟩
abbrev txt (u : List UInt8) : ByteArray := ⟨u.toArray⟩
theorem txt_eq (u v : List UInt8) : (txt u == txt v) = (u == v) := by
  have h : (txt u == txt v) = (u.toArray == v.toArray) := rfl
  rw [h]
  simp
/-- A key of the map of tried states. -/
abbrev keyV (p a : Nat) (u : List UInt8) : Value := .agg #[.int .i64 (p : Int), .int .i64 (a : Int), .string (txt u)]

theorem under102 : Try.prog.underlying 102 = some (.struct (Try.prog.fieldsOf 102)) := by kernel_rfl
theorem fields102 : (Try.prog.fieldsOf 102).toList.map (fun f => (f.name, f.type, f.offset)) = [("pc", 3, 0), ("at", 3, 1), ("groups", 9, 2)] := by kernel_rfl
theorem held102 : Try.prog.stoodInHeld 102 = false := by kernel_rfl

theorem key_part0 (p a : Nat) (u : List UInt8) (w : World) : (part 3 #[.int .i64 (p : Int), .int .i64 (a : Int), .string (txt u)] 0).run Try.prog w = .ok (.int .i64 (p : Int)) w := by kernel_rfl
theorem key_part1 (p a : Nat) (u : List UInt8) (w : World) : (part 3 #[.int .i64 (p : Int), .int .i64 (a : Int), .string (txt u)] 1).run Try.prog w = .ok (.int .i64 (a : Int)) w := by kernel_rfl
theorem key_part2 (p a : Nat) (u : List UInt8) (w : World) : (part 9 #[.int .i64 (p : Int), .int .i64 (a : Int), .string (txt u)] 2).run Try.prog w = .ok (.string (txt u)) w := by kernel_rfl
theorem eq_int3 (a b : Int) (w : World) : (Op.equalIn 9999 3 (.int .i64 a) (.int .i64 b)).run Try.prog w = .ok (a == b) w := by kernel_rfl
theorem eq_str9 (a b : ByteArray) (w : World) : (Op.equalIn 9999 9 (.string a) (.string b)).run Try.prog w = .ok (a == b) w := by kernel_rfl

theorem key_eq (p a q b : Nat) (u v : List UInt8) (w : World) : (Op.equal 102 (keyV p a u) (keyV q b v)).run Try.prog w = .ok (p == q && (a == b && u == v)) w := by
  have hf := fields102
  unfold Op.equal
  rw [show Op.maxDepth = 9999 + 1 from rfl, run_equalIn_struct w 9999 102 _ _ under102 held102]
  generalize (Try.prog.fieldsOf 102).toList = l at *
  obtain ⟨f0, l, rfl⟩ : ∃ f l', l = f :: l' := by cases l with | nil => simp at hf | cons f l => exact ⟨f, l, rfl⟩
  obtain ⟨f1, l, rfl⟩ : ∃ f l', l = f :: l' := by cases l with | nil => simp at hf | cons f l => exact ⟨f, l, rfl⟩
  obtain ⟨f2, l, rfl⟩ : ∃ f l', l = f :: l' := by cases l with | nil => simp at hf | cons f l => exact ⟨f, l, rfl⟩
  simp only [List.map_cons, List.cons.injEq, Prod.mk.injEq, List.map_eq_nil_iff] at hf
  obtain ⟨⟨n0, t0, o0⟩, ⟨n1, t1, o1⟩, ⟨n2, t2, o2⟩, rfl⟩ := hf
  have c0 : "pc" ≠ "_" := by decide
  have c1 : "at" ≠ "_" := by decide
  have c2 : "groups" ≠ "_" := by decide
  have h1 : ((p : Int) == (q : Int)) = (p == q) := by rw [Bool.eq_iff_iff]; simp; omega
  have h2 : ((a : Int) == (b : Int)) = (a == b) := by rw [Bool.eq_iff_iff]; simp; omega
  have h3 := txt_eq u v
  have h4 : (if ((p : Int) == (q : Int)) = true then true else false) = (p == q) := by rw [h1]; cases p == q <;> rfl
  cases hp : (p == q)
  · rw [hp] at h1
    simp only [Op.eqFields, n0, t0, o0, if_pos c0, Sem.run_bind, key_part0, eq_int3, Result.andThen_ok, h1]
    simp
  · rw [hp] at h1
    cases ha : (a == b)
    · rw [ha] at h2
      simp only [Op.eqFields, n0, t0, o0, n1, t1, o1, if_pos c0, if_pos c1, Sem.run_bind, key_part0, key_part1, eq_int3, Result.andThen_ok, h1, h2, Bool.not_true, Bool.false_eq_true, if_false, Bool.not_false, if_true, Sem.run_pure, Bool.and_false, Bool.false_and]
    · rw [ha] at h2
      cases hu : (u == v)
      · rw [hu] at h3
        simp only [Op.eqFields, n0, t0, o0, n1, t1, o1, n2, t2, o2, if_pos c0, if_pos c1, if_pos c2, Sem.run_bind, key_part0, key_part1, key_part2, eq_int3, eq_str9, Result.andThen_ok, h1, h2, h3, Bool.not_true, Bool.false_eq_true, if_false, Bool.not_false, if_true, Sem.run_pure, Bool.and_false, Bool.and_true]
      · rw [hu] at h3
        simp only [Op.eqFields, n0, t0, o0, n1, t1, o1, n2, t2, o2, if_pos c0, if_pos c1, if_pos c2, Sem.run_bind, key_part0, key_part1, key_part2, eq_int3, eq_str9, Result.andThen_ok, h1, h2, h3, Bool.not_true, Bool.false_eq_true, if_false, Bool.not_false, if_true, Sem.run_pure, Bool.and_false, Bool.and_true]

theorem key_check (b : Bool) (p a : Nat) (u : List UInt8) (w : World) : (Instr.checkKey b 10000 102 (keyV p a u)).run Try.prog w = .ok () w := by cases b <;> kernel_rfl

theorem under89 : Try.prog.underlying 89 = some (.map 102 4) := by kernel_rfl

/-- The entries are the states that were tried. -/
def TriedAt (es : List MapEntry) (tried : List Key) : Prop := es.map (fun e => (e.key, e.val)) = tried.map fun t => (keyV t.1 t.2.1 t.2.2, .bool true)

theorem find_tried (p a : Nat) (u : List UInt8) (w : World) : ∀ (es : List MapEntry) (tried : List Key) (i : Nat), TriedAt es tried → ∃ r, (Instr.findAsking 102 (keyV p a u) es i).run Try.prog w = .ok r w ∧
    ((tried.contains (p, a, u) = true ∧ ∃ j, r = some (j, .bool true)) ∨ (tried.contains (p, a, u) = false ∧ r = none))
  | [], [], i, _ => ⟨none, by simp [Instr.findAsking], .inr ⟨by simp, rfl⟩⟩
  | [], _ :: _, i, h => by simp [TriedAt] at h
  | _ :: _, [], i, h => by simp [TriedAt] at h
  | e :: es, t :: tr, i, h => by
    simp only [TriedAt, List.map_cons, List.cons.injEq, Prod.mk.injEq] at h
    obtain ⟨⟨hk, hv⟩, h⟩ := h
    obtain ⟨r, hr, hc⟩ := find_tried p a u w es tr (i + 1) h
    simp only [Instr.findAsking, hk, Sem.run_bind, key_eq, Result.andThen_ok, List.contains_cons]
    have e0 : ((p, a, u) == t) = (p == t.1 && (a == t.2.1 && u == t.2.2)) := rfl
    rw [e0]
    cases hpa : (p == t.1 && (a == t.2.1 && u == t.2.2))
    · refine ⟨r, by simpa using hr, ?_⟩
      simpa using hc
    · exact ⟨_, by simp [hv], .inl ⟨by simp, i, rfl⟩⟩

theorem find_now (p a : Nat) (u : List UInt8) (es : List MapEntry) (tried : List Key) (h : TriedAt es tried) (fs : Array Field) : Instr.findNow (.struct fs) (keyV p a u) es 0 = if es = [] then some none else none := by
  cases es with
  | nil => rfl
  | cons e es => simp [Instr.findNow, Instr.sameNow]

theorem find_key (p a : Nat) (u : List UInt8) (w : World) (es : List MapEntry) (tried : List Key) (h : TriedAt es tried) : ∃ r, (Instr.findKey 102 (keyV p a u) es).run Try.prog w = .ok r w ∧
    ((tried.contains (p, a, u) = true ∧ ∃ j, r = some (j, .bool true)) ∨ (tried.contains (p, a, u) = false ∧ r = none)) := by
  obtain ⟨r, hr, hc⟩ := find_tried p a u w es tried 0 h
  refine ⟨r, ?_, hc⟩
  simp only [Instr.findKey, Sem.run_bind, run_underlying under102, Result.andThen_ok, find_now p a u es tried h]
  cases es with
  | nil => 
    simp [Instr.findAsking] at hr
    simp [hr]
  | cons e es => simpa using hr

theorem look_tried (w : World) (tp p a : Nat) (u : List UInt8) (es : Array MapEntry) (n : Nat) (tried : List Key) (hb : w.heap[tp]? = some (.map es n)) (h : TriedAt es.toList tried) :
    (Instr.lookup 89 (.map (some tp)) (keyV p a u) false).run Try.prog w = .ok (.bool (tried.contains (p, a, u))) w := by
  obtain ⟨r, hr, hc⟩ := find_key p a u w es.toList tried h
  have hz : (zeroValue 4).run Try.prog w = .ok (.bool false) w := by kernel_rfl
  simp only [Instr.lookup, Sem.run_bind, run_underlying under89, Result.andThen_ok, MapKept.run_getObj_map hb, Sem.run_pure, key_check, hr]
  rcases hc with ⟨hc, j, rfl⟩ | ⟨hc, rfl⟩
  · rw [hc]; simp
  · rw [hc]; simp [hz]

theorem put_tried (w : World) (tp p a : Nat) (u : List UInt8) (es : Array MapEntry) (n : Nat) (tried : List Key) (hb : w.heap[tp]? = some (.map es n)) (h : TriedAt es.toList tried) (hn : tried.contains (p, a, u) = false) :
    (Instr.mapUpdate 89 (.map (some tp)) (keyV p a u) (.bool true)).run Try.prog w = .ok () { w with heap := w.heap.setIfInBounds tp (.map (es.push { key := keyV p a u, val := .bool true, born := n }) (n + 1)) } ∧
      TriedAt (es.push { key := keyV p a u, val := .bool true, born := n }).toList (tried ++ [(p, a, u)]) := by
  obtain ⟨r, hr, hc⟩ := find_key p a u w es.toList tried h
  rcases hc with ⟨hc, _⟩ | ⟨_, rfl⟩
  · rw [hc] at hn; cases hn
  · refine ⟨?_, by simpa [TriedAt] using h⟩
    simp only [Instr.mapUpdate, Sem.run_bind, run_underlying under89, Result.andThen_ok, MapKept.run_getObj_map hb, key_check, hr, MapKept.run_setObj_map _ hb]

end Go.Proofs.Ytfgghbideoehjaa

namespace Go.Proofs.Ytfgghbideoehjaa
open Go.ChangeShapes Go.WideShapes Go.ChangeAt Go.RowKit
set_option linter.unusedVariables false
set_option linter.unusedSimpArgs false
set_option maxRecDepth 100000

abbrev intV (x : Int) : Value := .int .i64 x

/-- A row of integers. -/
def IntsAt (w : World) (base : Nat) (v : Value) (xs : List Int) : Prop := w.ownsRow base 3 1 v xs.length (xs.map intV)

theorem IntsAt.shape {w : World} {base : Nat} {v : Value} {xs : List Int} (h : IntsAt w base v xs) (hx : 0 < xs.length) : ∃ g cap, v = .slice (some ⟨g, 0, none⟩) xs.length cap ∧ base ≤ g ∧ g < w.heap.size := by
  have h0 := h
  rcases h.2 with ⟨_, h1⟩ | ⟨g, cap, cur, e, hb, hg, _⟩
  · omega
  · exact ⟨g, cap, e, hb, (World.ownsRow.lt h0 g (by rw [e]; rfl)).2⟩

theorem one_cells (xs : List Int) : ∀ x ∈ xs.map intV, x.oneCell' = true := by
  intro x hx
  obtain ⟨y, _, rfl⟩ := List.mem_map.1 hx
  rfl

theorem row_at {w : World} {base : Nat} {v : Value} {n : Nat} {ys : List Value} {i : Nat} (h : w.ownsRow base 3 1 v n ys) (hi : i < n) : ∃ g cap, v = .slice (some ⟨g, 0, none⟩) n cap ∧ ∃ u, w.cell? ⟨g, i, none⟩ = some u := by
  have h0 := h
  rcases h.2 with ⟨_, h1⟩ | ⟨g, cap, cur, e, hb, hg, h1, h2, h3, h4⟩
  · omega
  · exact ⟨g, cap, e, _, (cell_of_row w g _ cur 3 (0, 0) hg).trans (Array.getElem?_eq_getElem (by rw [h3]; omega))⟩
theorem row_free {w : World} {base : Nat} {e : TypeId} {z : Nat} {g n cap : Nat} {ys : List Value} (h : w.ownsRow base e z (.slice (some ⟨g, 0, none⟩) n cap) n ys) : ∀ j, w.frozen? ⟨g, j, none⟩ = false := by
  rcases h.2 with ⟨h1, _⟩ | ⟨g, cap, cur, e, hb, hg, h1, h2, h3, h4⟩
  · cases h1
  · cases e
    exact fun j => frozen_of_row _ _ _ _ _ hg

set_option maxHeartbeats 1000000 in
theorem changed_any (w : World) (g cap : Nat) (xs : List Int) (i : Nat) (v : Int) (hi : i < xs.length) (hx : xs.length ≤ 1000000) (h : IntsAt w 0 (.slice (some ⟨g, 0, none⟩) xs.length cap) xs) :
    Calls Try.prog 49 #[.slice (some ⟨g, 0, none⟩) xs.length cap, .int .i64 (i : Int), .int .i64 v] w fun e w' => ∃ g' cap', e = .returned (.slice (some ⟨g', 0, none⟩) xs.length cap') ∧ IntsAt w' w.heap.size (.slice (some ⟨g', 0, none⟩) xs.length cap') (xs.set i v) ∧ Below w.heap.size w w' := by
  obtain ⟨i3, h3, h30, h31, h32⟩ := info_parts info3
  have hgl := (World.ownsRow.lt h g rfl).2
  obtain ⟨A, hA, sA, aN, aO, bA⟩ := alloc_pack w #[] 3
  have hown : A.ownsRow w.heap.size 3 1 (.slice (some ⟨w.heap.size, 0, none⟩) 0 0) 0 [] := by
    rw [← hA]; exact World.ownsRow_made w #[] 0 (Nat.le_refl _) (by simp [maxLen]) (by simp)
  have hnews : ∀ j u, (xs.map intV)[j]? = some u → A.cell? ((⟨g, 0, none⟩ : Addr).add j) = some u := fun j u hj => by
    have hc := World.ownsRow.cells h (g := g) rfl j u hj
    rw [show ((⟨g, 0, none⟩ : Addr).add j) = ⟨g, j, none⟩ from (by unfold Addr.add; simp; omega)] at hc ⊢
    exact (bA.cell (p := ⟨g, j, none⟩) hgl).trans hc
  have HA := Lib.hid hA
  have HB := Lib.hid bA
  have HO := Lib.hid hown
  have HN := Lib.hid hnews
  have hi' : (i : Int) < (xs.length : Int) := by omega
  have hsz : A.heap.size = w.heap.size + 1 := sA
  clear hA sA aN aO bA hown hnews h
  go_enter Try.func49, Try.ntmps49
  go_wp2_with (at_builtin; go_loud (rw [HA.out]; refine wpList_append_tag rfl (.tmp 8) (.tmp 9) 58 rfl w.heap.size 3 i3 _ 1 8 Try.underlying58 h3 h30 h31 h32 rfl (by decide) _ 0 _ rfl HO.out ⟨g, 0, none⟩ xs.length cap (xs.map intV) rfl (by simp) HN.out (one_cells xs) (by simp only [maxLen]; omega) (by omega) (by omega) ?_; intro v' w1 ho hg ht; rw [Nat.zero_add, List.nil_append] at ho; obtain ⟨g', cap', rfl, u1, hc1⟩ := row_at ho hi; have f1 := row_free ho; have hgb := (World.ownsRow.lt ho g' rfl); have HO1 := Lib.hid ho; have HG1 := Lib.hid hg; have HT1 := Lib.hid ht; clear ho hg ht))
  go_ret
  have hs := (HO1.out.stored i (intV v)).1
  refine ⟨g', cap', rfl, ?_, ?_⟩
  · unfold IntsAt
    rw [List.length_set, List.map_set]
    exact hs
  · have hg := HG1.out
    exact ⟨hg.os.trans HB.out.os, hg.tape.trans HB.out.tape, hg.output.trans HB.out.output, by have := hg.size; simp; omega, fun b hb => by
      show (w1.setCell _ _).heap[b]? = _
      rw [heap_setCell_other _ _ _ _ (by show b ≠ g'; omega), hg.block b (by omega) (by show some b ≠ some w.heap.size; intro e; cases e; omega), HB.out.block b hb]⟩

end Go.Proofs.Ytfgghbideoehjaa

namespace Go.Proofs.Ytfgghbideoehjaa
open Go.ChangeShapes Go.WideShapes Go.ChangeAt Go.RowKit
set_option linter.unusedVariables false
set_option linter.unusedSimpArgs false
set_option maxRecDepth 100000

end Go.Proofs.Ytfgghbideoehjaa

namespace Go.Proofs.Ytfgghbideoehjaa
open Go.ChangeShapes Go.WideShapes Go.ChangeAt Go.RowKit
set_option linter.unusedVariables false
set_option linter.unusedSimpArgs false
set_option maxRecDepth 100000

/-- A thread's cells. -/
def ThAt (G : Nat → Prop) (w : World) (n : Nat) (t : Gt) (cs : List Value) : Prop :=
  ∃ gg gc ma mn mc, cs = [intV t.pc, intV t.pos, .slice (some ⟨gg, 0, none⟩) t.gs.length gc, .slice ma mn mc] ∧ IntsAt w 0 (.slice (some ⟨gg, 0, none⟩) t.gs.length gc) t.gs ∧ G gg ∧
    IntsAt w 0 (.slice ma mn mc) t.ms ∧ (∀ k, (Value.slice ma mn mc).ownBlock = some k → G k) ∧ t.pos ≤ n ∧ t.gs.length ≤ 1000000 ∧ t.ms.length ≤ 1000000

/-- The stack's cells: what is on top lies last. -/
def StAt (G : Nat → Prop) (w : World) (n : Nat) : List Gt → List Value → Prop
  | [], cs => cs = []
  | t :: l, cs => ∃ cs' tc, cs = cs' ++ tc ∧ ThAt G w n t tc ∧ StAt G w n l cs'

theorem ThAt.length {G : Nat → Prop} {w : World} {n : Nat} {t : Gt} {cs : List Value} (h : ThAt G w n t cs) : cs.length = 4 := by
  obtain ⟨_, _, _, _, _, rfl, _⟩ := h; rfl
theorem StAt.length {G : Nat → Prop} {w : World} {n : Nat} : ∀ {l : List Gt} {cs : List Value}, StAt G w n l cs → cs.length = l.length * 4
  | [], cs, h => by simp only [StAt] at h; subst h; rfl
  | t :: l, cs, h => by
    obtain ⟨cs', tc, rfl, ht, hl⟩ := h
    rw [List.length_append, ht.length, hl.length, List.length_cons]; omega

theorem ThAt.agree {G G' : Nat → Prop} {w w' : World} {n : Nat} {t : Gt} {cs : List Value} (h : ThAt G w n t cs) (ha : ∀ b, G b → w'.heap[b]? = w.heap[b]?) (hG : ∀ b, G b → G' b) : ThAt G' w' n t cs := by
  obtain ⟨gg, gc, ma, mn, mc, e, h1, h2, h3, h4, h5⟩ := h
  refine ⟨gg, gc, ma, mn, mc, e, ownsRow_agree h1 fun j hj => ?_, hG _ h2, ownsRow_agree h3 fun j hj => ha j (h4 j hj), fun k hk => hG k (h4 k hk), h5⟩
  cases hj
  exact ha _ h2
theorem StAt.agree {G G' : Nat → Prop} {w w' : World} {n : Nat} (ha : ∀ b, G b → w'.heap[b]? = w.heap[b]?) (hG : ∀ b, G b → G' b) : ∀ {l : List Gt} {cs : List Value}, StAt G w n l cs → StAt G' w' n l cs
  | [], cs, h => h
  | t :: l, cs, h => by
    obtain ⟨cs', tc, e, ht, hl⟩ := h
    exact ⟨cs', tc, e, ht.agree ha hG, hl.agree ha hG⟩

theorem info93 : (Try.prog.info? 93).map (fun i => (i.zero, i.size, i.bytes)) = some (some (.agg #[.int .i64 0, .int .i64 0, .slice none 0 0, .slice none 0 0]), 4, 64) := by kernel_rfl

/-- The machine's own cells, which from does not write (but for the map of tried states). -/
structure MAt (w : World) (mp tp : Nat) (M : Mc) (groups : Nat) (pg pcap : Nat) (ra : Option Addr) (rc : Nat) : Prop where
  blk : ∃ (root : Value) (deep : Value), w.heap[mp]? = some (.cells #[root, intV (groups : Int), .slice ra M.refs.length rc, deep, .slice (some ⟨pg, 0, none⟩) M.prog.length pcap, intV (M.marks : Int), .string M.s, .bool M.fold, .bool M.lines, .map (some tp), .bool false] 91 (0, 0))
  row : w.ownsRow 0 99 8 (.slice (some ⟨pg, 0, none⟩) M.prog.length pcap) M.prog.length (M.prog.flatMap Ins.cells)
  refsr : w.ownsRow 0 4 1 (.slice ra M.refs.length rc) M.refs.length (M.refs.map Value.bool)
  ne : mp ≠ tp
  pne : pg ≠ tp
  rne : ∀ k, (Value.slice ra M.refs.length rc).ownBlock = some k → k ≠ tp
  wf : ∀ i ∈ M.prog, i.set.WF
  plen : M.prog.length ≤ 1000000
  rlen : M.refs.length ≤ 1000000
  glen : groups ≤ 1000
  mlen : M.marks ≤ 1000000
  slen : M.s.size ≤ 1000000
  kinds : ∀ i ∈ M.prog, i.kind < 256

theorem MAt.but {w w' : World} {mp tp : Nat} {M : Mc} {groups : Nat} {pg pcap : Nat} {ra : Option Addr} {rc : Nat} (h : MAt w mp tp M groups pg pcap ra rc) (hb : But tp w w') : MAt w' mp tp M groups pg pcap ra rc := by
  obtain ⟨root, deep, hk⟩ := h.blk
  exact { h with
    blk := ⟨root, deep, (hb.block mp (Array.getElem?_eq_some_iff.1 hk).1 h.ne).trans hk⟩
    row := ownsRow_agree h.row fun j hj => hb.block j (h.row.lt j hj).2 (by cases hj; exact h.pne)
    refsr := ownsRow_agree h.refsr fun j hj => hb.block j (h.refsr.lt j hj).2 (h.rne j hj) }

theorem ins_at : ∀ (p : List Ins) (k : Nat) (x : Ins) (j : Nat), p[k]? = some x → j < 8 → (p.flatMap Ins.cells)[k * 8 + j]? = x.cells[j]?
  | [], k, x, j, h, _ => by simp at h
  | i :: p, 0, x, j, h, hj => by
    simp at h; subst h
    rw [List.flatMap_cons, List.getElem?_append_left (by simp [Ins.cells]; omega)]; simp
  | i :: p, k + 1, x, j, h, hj => by
    simp at h
    rw [List.flatMap_cons, List.getElem?_append_right (by simp [Ins.cells]; omega)]
    have e : (k + 1) * 8 + j - i.cells.length = k * 8 + j := by simp [Ins.cells]; omega
    rw [e]; exact ins_at p k x j h hj

theorem MAt.ins {w : World} {mp tp : Nat} {M : Mc} {groups : Nat} {pg pcap : Nat} {ra : Option Addr} {rc : Nat} (h : MAt w mp tp M groups pg pcap ra rc) {k : Nat} {x : Ins} (hx : M.prog[k]? = some x) (j : Nat) (hj : j < 8) : w.cell? ⟨pg, k * 8 + j, none⟩ = x.cells[j]? := by
  have hk : k < M.prog.length := (List.getElem?_eq_some_iff.1 hx).1
  rw [h.row.cellAt (k * 8 + j) (by omega)]
  exact ins_at M.prog k x j hx hj

/-- The map of tried states. -/
def MapAt (w : World) (tp : Nat) (tr : List Key) : Prop := ∃ es m, w.heap[tp]? = some (.map es m) ∧ TriedAt es.toList tr

/-- Between two threads. -/
structure OAt (w0 : World) (tp n : Nat) (G : Nat → Prop) (sv : Value) (l : List Gt) (tr : List Key) (w : World) : Prop where
  but : But tp w0 w
  tpl : tp < w0.heap.size
  stack : ∃ cs, w.ownsRow w0.heap.size 93 4 sv l.length cs ∧ StAt G w n l cs
  gs : ∀ b, G b → w0.heap.size ≤ b ∧ b < w.heap.size ∧ sv.ownBlock ≠ some b
  map : MapAt w tp tr
  llen : l.length ≤ 200000000

/-- In a thread, whose cells lie in the block bt. -/
structure IAt (w0 : World) (tp n bt : Nat) (G : Nat → Prop) (sv : Value) (t : Gt) (l : List Gt) (tr : List Key) (w : World) : Prop where
  out : OAt w0 tp n G sv l tr w
  th : ∃ c, w.heap[bt]? = some (.cells c.toArray 93 (0, 0)) ∧ ThAt G w n t c
  btl : w0.heap.size ≤ bt
  btG : ¬ G bt
  bts : sv.ownBlock ≠ some bt

end Go.Proofs.Ytfgghbideoehjaa

namespace Go.Proofs.Ytfgghbideoehjaa
open Go.ChangeShapes Go.WideShapes Go.ChangeAt Go.RowKit
set_option linter.unusedVariables false
set_option linter.unusedSimpArgs false
set_option maxRecDepth 100000

theorem fillG_len {n j : Nat} (h : j ≤ n) : (fillG n j).length = n := by simp [fillG]; omega
theorem fillG_set {n j : Nat} (h : j < n) : (fillG n j).set j (-1) = fillG n (j + 1) := by
  obtain ⟨m, rfl⟩ : ∃ m, n = j + (m + 1) := ⟨n - j - 1, by omega⟩
  simp only [fillG]
  rw [List.set_append_right _ _ (by simp)]
  have e1 : j + (m + 1) - j = m + 1 := by omega
  have e2 : j + (m + 1) - (j + 1) = m := by omega
  rw [e1, e2, List.length_replicate, Nat.sub_self, List.replicate_succ, List.set_cons_zero, List.replicate_succ' (n := j), List.append_assoc]
  rfl

/-- What from does. -/
def FromR (w : World) (tp : Nat) (res : Option (List Int) × List Key) (e : Ending) (w' : World) : Prop :=
  But tp w w' ∧ MapAt w' tp res.2 ∧
    match res.1 with
    | none => e = .returned (.tuple #[.slice none 0 0, .bool false])
    | some gs => ∃ g c, e = .returned (.tuple #[.slice (some ⟨g, 0, none⟩) gs.length c, .bool true]) ∧ IntsAt w' w.heap.size (.slice (some ⟨g, 0, none⟩) gs.length c) gs

theorem But.ofBelow {b : Nat} {w W : World} (h : Below w.heap.size w W) : But b w W := ⟨h.os, h.tape, h.output, h.size, fun k hk _ => h.block k hk⟩

theorem ownsRow_pop {w : World} {base e z n g cap : Nat} {xs ys : List Value} (h : w.ownsRow base e z (.slice (some ⟨g, 0, none⟩) (n + 1) cap) (n + 1) (xs ++ ys)) (hy : ys.length = z) : w.ownsRow base e z (.slice (some ⟨g, 0, none⟩) n cap) n xs := by
  have hl := h.1
  rcases h.2 with ⟨h, _⟩ | ⟨g', cap', cur, h1, h2, h3, h4, h5, h6, h7⟩
  · cases h
  · cases h1
    have hx : xs.length = n * z := by rw [List.length_append, hy, Nat.succ_mul] at hl; omega
    refine ⟨hx, .inr ⟨g, cap, cur, rfl, h2, h3, by omega, h5, h6, ?_⟩⟩
    have e := congrArg (List.take (n * z)) h7
    rw [List.take_take, Nat.min_eq_left (Nat.mul_le_mul_right z (Nat.le_succ n))] at e
    rw [e, List.take_append_of_le_length (by omega), List.take_of_length_le (by omega)]

theorem MapAt.but {w w' : World} {tp : Nat} {tr : List Key} (h : MapAt w tp tr) (hb : w'.heap[tp]? = w.heap[tp]?) : MapAt w' tp tr := by
  obtain ⟨es, m, h1, h2⟩ := h
  exact ⟨es, m, hb.trans h1, h2⟩

theorem ThAt.setPc {G : Nat → Prop} {w : World} {n : Nat} {t : Gt} {c : List Value} (h : ThAt G w n t c) (p : Nat) : ThAt G w n { t with pc := p } (c.set 0 (intV p)) := by
  obtain ⟨gg, gc, ma, mn, mc, rfl, h⟩ := h
  exact ⟨gg, gc, ma, mn, mc, rfl, h⟩
theorem ThAt.setPos {G : Nat → Prop} {w : World} {n : Nat} {t : Gt} {c : List Value} (h : ThAt G w n t c) (p : Nat) (hp : p ≤ n) : ThAt G w n { t with pos := p } (c.set 1 (intV p)) := by
  obtain ⟨gg, gc, ma, mn, mc, rfl, h1, h2, h3, h4, h5, h6⟩ := h
  exact ⟨gg, gc, ma, mn, mc, rfl, h1, h2, h3, h4, hp, h6⟩
theorem ThAt.setGs {G : Nat → Prop} {w : World} {n : Nat} {t : Gt} {c : List Value} (h : ThAt G w n t c) {g gc' : Nat} {gs : List Int} (hr : IntsAt w 0 (.slice (some ⟨g, 0, none⟩) gs.length gc') gs) (hG : G g) (hl : gs.length ≤ 1000000) : ThAt G w n { t with gs := gs } (c.set 2 (.slice (some ⟨g, 0, none⟩) gs.length gc')) := by
  obtain ⟨gg, gc, ma, mn, mc, rfl, h1, h2, h3, h4, h5, h6, h7⟩ := h
  exact ⟨g, gc', ma, mn, mc, rfl, hr, hG, h3, h4, h5, hl, h7⟩
theorem ThAt.setMs {G : Nat → Prop} {w : World} {n : Nat} {t : Gt} {c : List Value} (h : ThAt G w n t c) {g mc' : Nat} {ms : List Int} (hr : IntsAt w 0 (.slice (some ⟨g, 0, none⟩) ms.length mc') ms) (hG : G g) (hl : ms.length ≤ 1000000) : ThAt G w n { t with ms := ms } (c.set 3 (.slice (some ⟨g, 0, none⟩) ms.length mc')) := by
  obtain ⟨gg, gc, ma, mn, mc, rfl, h1, h2, h3, h4, h5, h6, h7⟩ := h
  exact ⟨gg, gc, _, _, _, rfl, h1, h2, hr, fun k hk => by cases hk; exact hG, h5, h6, hl⟩
theorem IntsAt.below {w w' : World} {base : Nat} {v : Value} {xs : List Int} (h : IntsAt w base v xs) (hb : Below w.heap.size w w') : IntsAt w' base v xs := ownsRow_agree h fun j hj => hb.block j (World.ownsRow.lt h j hj).2

section
variable {w0 w w' : World} {tp n bt : Nat} {G : Nat → Prop} {sv : Value} {t : Gt} {l : List Gt} {tr : List Key}

theorem OAt.below (h : OAt w0 tp n G sv l tr w) (hb : Below w.heap.size w w') : OAt w0 tp n G sv l tr w' := by
  obtain ⟨cs, h1, h2⟩ := h.stack
  have hs := h.but.size
  exact {
    but := h.but.trans (But.ofBelow hb)
    tpl := h.tpl
    stack := ⟨cs, ownsRow_agree h1 fun j hj => hb.block j (h1.lt j hj).2, h2.agree (fun b hG => hb.block b (h.gs b hG).2.1) (fun b hG => hG)⟩
    gs := fun b hG => ⟨(h.gs b hG).1, Nat.lt_of_lt_of_le (h.gs b hG).2.1 hb.size, (h.gs b hG).2.2⟩
    map := h.map.but (hb.block tp (by have := h.tpl; omega))
    llen := h.llen }

theorem IAt.below (h : IAt w0 tp n bt G sv t l tr w) (hb : Below w.heap.size w w') : IAt w0 tp n bt G sv t l tr w' := by
  obtain ⟨c, h1, h2⟩ := h.th
  exact { h with
    out := h.out.below hb
    th := ⟨c, (hb.block bt (Array.getElem?_eq_some_iff.1 h1).1).trans h1, h2.agree (fun b hG => hb.block b (h.out.gs b hG).2.1) (fun b hG => hG)⟩ }

/-- A store into a block of from's own. -/
theorem OAt.store (h : OAt w0 tp n G sv l tr w) (hb : w0.heap.size ≤ bt) (hG : ¬ G bt) (hs : sv.ownBlock ≠ some bt) (j : Nat) (v : Value) : OAt w0 tp n G sv l tr (w.setCell ⟨bt, j, none⟩ v) := by
  have htp : bt ≠ tp := fun e => by have := h.tpl; omega
  have ho : ∀ b, b ≠ bt → (w.setCell ⟨bt, j, none⟩ v).heap[b]? = w.heap[b]? := fun b hb => heap_setCell_other _ _ _ _ hb
  have hGn : ∀ b, G b → (w.setCell ⟨bt, j, none⟩ v).heap[b]? = w.heap[b]? := fun b hb => ho b (fun e => hG (by rw [← e]; exact hb))
  obtain ⟨cs, h1, h2⟩ := h.stack
  exact {
    but := ⟨h.but.os, h.but.tape, h.but.output, by simp; exact h.but.size, fun b hb2 hn => (ho b (by omega)).trans (h.but.block b hb2 hn)⟩
    tpl := h.tpl
    stack := ⟨cs, ownsRow_agree h1 fun k hk => ho k (fun e => hs (by rw [← e]; exact hk)), h2.agree hGn (fun b hG => hG)⟩
    gs := fun b hG => ⟨(h.gs b hG).1, by simp; exact (h.gs b hG).2.1, (h.gs b hG).2.2⟩
    map := h.map.but (ho tp (fun e => htp e.symm))
    llen := h.llen }

/-- A store into the thread's own cells. -/
theorem IAt.store {c : List Value} {t' : Gt} (h : IAt w0 tp n bt G sv t l tr w) (hc : w.heap[bt]? = some (.cells c.toArray 93 (0, 0))) (j : Nat) (v : Value) (ht : ThAt G w n t' (c.set j v)) : IAt w0 tp n bt G sv t' l tr (w.setCell ⟨bt, j, none⟩ v) ∧ (w.setCell ⟨bt, j, none⟩ v).heap[bt]? = some (.cells (c.set j v).toArray 93 (0, 0)) := by
  have hbt : bt < w.heap.size := (Array.getElem?_eq_some_iff.1 hc).1
  have htp : bt ≠ tp := fun e => by have := h.btl; have := h.out.tpl; omega
  have ho : ∀ b, b ≠ bt → (w.setCell ⟨bt, j, none⟩ v).heap[b]? = w.heap[b]? := fun b hb => heap_setCell_other _ _ _ _ hb
  have hnew : (w.setCell ⟨bt, j, none⟩ v).heap[bt]? = some (.cells (c.set j v).toArray 93 (0, 0)) := by
    rw [heap_setCell_same _ _ j _ _ v hc]; simp
  have hGn : ∀ b, G b → (w.setCell ⟨bt, j, none⟩ v).heap[b]? = w.heap[b]? := fun b hG => ho b (fun e => h.btG (by rw [← e]; exact hG))
  obtain ⟨cs, h1, h2⟩ := h.out.stack
  refine ⟨{ h with
    out := {
      but := ⟨h.out.but.os, h.out.but.tape, h.out.but.output, by simp; exact h.out.but.size, fun b hb hn => (ho b (by have := h.btl; omega)).trans (h.out.but.block b hb hn)⟩
      tpl := h.out.tpl
      stack := ⟨cs, ownsRow_agree h1 fun k hk => ho k (fun e => h.bts (by rw [← e]; exact hk)), h2.agree hGn (fun b hG => hG)⟩
      gs := fun b hG => ⟨(h.out.gs b hG).1, by simp; exact (h.out.gs b hG).2.1, (h.out.gs b hG).2.2⟩
      map := h.out.map.but (ho tp (fun e => htp e.symm))
      llen := h.out.llen }
    th := ⟨_, hnew, ht.agree hGn (fun b hG => hG)⟩ }, hnew⟩

/-- A thread's data in memory, with its cells. -/
structure JAt (w0 : World) (tp n bt : Nat) (G : Nat → Prop) (sv : Value) (t : Gt) (l : List Gt) (tr : List Key) (c : List Value) (w : World) : Prop where
  i : IAt w0 tp n bt G sv t l tr w
  blk : w.heap[bt]? = some (.cells c.toArray 93 (0, 0))
  th : ThAt G w n t c

theorem JAt.below {c : List Value} (h : JAt w0 tp n bt G sv t l tr c w) (hb : Below w.heap.size w w') : JAt w0 tp n bt G sv t l tr c w' :=
  ⟨h.i.below hb, (hb.block bt (Array.getElem?_eq_some_iff.1 h.blk).1).trans h.blk, h.th.agree (fun b hG => hb.block b (h.i.out.gs b hG).2.1) (fun b hG => hG)⟩
theorem JAt.store {c : List Value} {t' : Gt} (h : JAt w0 tp n bt G sv t l tr c w) (j : Nat) (v : Value) (ht : ThAt G w n t' (c.set j v)) : JAt w0 tp n bt G sv t' l tr (c.set j v) (w.setCell ⟨bt, j, none⟩ v) := by
  obtain ⟨h1, h2⟩ := h.i.store h.blk j v ht
  exact ⟨h1, h2, ht.agree (fun b hG => heap_setCell_other _ _ _ _ (fun e => h.i.btG (by have e2 : b = bt := e; rw [← e2]; exact hG))) (fun b hG => hG)⟩

/-- A row that is new is kept for good. -/
theorem IAt.frozen (h : IAt w0 tp n bt G sv t l tr w) (hb : Below w.heap.size w w') {g : Nat} (hg : w.heap.size ≤ g) (hg2 : g < w'.heap.size) : IAt w0 tp n bt (fun b => G b ∨ b = g) sv t l tr w' := by
  obtain ⟨c, h1, h2⟩ := h.th
  obtain ⟨cs, h3, h4⟩ := h.out.stack
  have hlt : bt < w.heap.size := (Array.getElem?_eq_some_iff.1 h1).1
  have hG : ∀ b, G b → w'.heap[b]? = w.heap[b]? := fun b hG => hb.block b (h.out.gs b hG).2.1
  have hsz := h.out.but.size
  exact {
    out := { h.out.below hb with
      stack := ⟨cs, ownsRow_agree h3 fun j hj => hb.block j (h3.lt j hj).2, h4.agree hG (fun b hG => .inl hG)⟩
      gs := fun b hG => by
        rcases hG with hG | rfl
        · exact ⟨(h.out.gs b hG).1, Nat.lt_of_lt_of_le (h.out.gs b hG).2.1 hb.size, (h.out.gs b hG).2.2⟩
        · exact ⟨by omega, hg2, fun e => by have := (h3.lt _ e).2; omega⟩ }
    th := ⟨c, (hb.block bt hlt).trans h1, h2.agree hG (fun b hG => .inl hG)⟩
    btl := h.btl
    btG := fun e => by
      rcases e with e | e
      · exact h.btG e
      · omega
    bts := h.bts }

theorem JAt.frozen {c : List Value} (h : JAt w0 tp n bt G sv t l tr c w) (hb : Below w.heap.size w w') {g : Nat} (hg : w.heap.size ≤ g) (hg2 : g < w'.heap.size) : JAt w0 tp n bt (fun b => G b ∨ b = g) sv t l tr c w' :=
  ⟨h.i.frozen hb hg hg2, (hb.block bt (Array.getElem?_eq_some_iff.1 h.blk).1).trans h.blk, h.th.agree (fun b hG => hb.block b (h.i.out.gs b hG).2.1) (fun b hG => .inl hG)⟩

/-- A state more was tried. -/
theorem IAt.tried {es : Array MapEntry} {m : Nat} (h : IAt w0 tp n bt G sv t l tr w) (hm : w.heap[tp]? = some (.map es m)) {es' : Array MapEntry} {m' : Nat} {tr' : List Key} (ht : TriedAt es'.toList tr') :
    IAt w0 tp n bt G sv t l tr' { w with heap := w.heap.setIfInBounds tp (.map es' m') } := by
  obtain ⟨h1, h2⟩ := MapKept.heap_set (o' := .map es' m') hm
  obtain ⟨c, h3, h4⟩ := h.th
  obtain ⟨cs, h5, h6⟩ := h.out.stack
  have htp := h.out.tpl
  have hG : ∀ b, G b → (w.heap.setIfInBounds tp (.map es' m'))[b]? = w.heap[b]? := fun b hG => h2 b (by have := (h.out.gs b hG).1; omega)
  exact { h with
    out := {
      but := ⟨h.out.but.os, h.out.but.tape, h.out.but.output, by simp; exact h.out.but.size, fun b hb hn => (h2 b hn).trans (h.out.but.block b hb hn)⟩
      tpl := htp
      stack := ⟨cs, ownsRow_agree h5 fun j hj => h2 j (by have := (h5.lt j hj).1; omega), h6.agree hG (fun b hG => hG)⟩
      gs := fun b hG => ⟨(h.out.gs b hG).1, by simp; exact (h.out.gs b hG).2.1, (h.out.gs b hG).2.2⟩
      map := ⟨es', m', h1, ht⟩
      llen := h.out.llen }
    th := ⟨c, (h2 bt (by have := h.btl; omega)).trans h3, h4.agree hG (fun b hG => hG)⟩ }

theorem JAt.tried {c : List Value} {es : Array MapEntry} {m : Nat} (h : JAt w0 tp n bt G sv t l tr c w) (hm : w.heap[tp]? = some (.map es m)) {es' : Array MapEntry} {m' : Nat} {tr' : List Key} (ht : TriedAt es'.toList tr') :
    JAt w0 tp n bt G sv t l tr' c { w with heap := w.heap.setIfInBounds tp (.map es' m') } := by
  obtain ⟨_, h2⟩ := MapKept.heap_set (o' := .map es' m') hm
  have htp := h.i.out.tpl
  exact ⟨h.i.tried hm ht, (h2 bt (by have := h.i.btl; omega)).trans h.blk, h.th.agree (fun b hG => h2 b (by have := (h.i.out.gs b hG).1; omega)) (fun b hG => hG)⟩

/-- A thread more on the stack. -/
theorem IAt.push {sv' : Value} {cs tc : List Value} {t2 : Gt} (h : IAt w0 tp n bt G sv t l tr w) (hs : StAt G w n l cs) (htc : ThAt G w n t2 tc) (hl : l.length < 200000000) (ho : w'.ownsRow w0.heap.size 93 4 sv' (l.length + 1) (cs ++ tc)) (hg : w.grownBy w' sv.ownBlock) (ht : SameOrNew w sv sv') :
    IAt w0 tp n bt G sv' t (t2 :: l) tr w' := by
  obtain ⟨c, h3, h4⟩ := h.th
  have hlt : bt < w.heap.size := (Array.getElem?_eq_some_iff.1 h3).1
  have hsz := h.out.but.size
  have hsw : ∀ k, sv.ownBlock = some k → w0.heap.size ≤ k := fun k hk => by
    obtain ⟨cs, h5, h6⟩ := h.out.stack
    exact (h5.lt k hk).1
  have hG : ∀ b, G b → w'.heap[b]? = w.heap[b]? := fun b hG => hg.block b (h.out.gs b hG).2.1 (fun e => (h.out.gs b hG).2.2 e.symm)
  exact { h with
    out := {
      but := ⟨hg.os.trans h.out.but.os, hg.tape.trans h.out.but.tape, hg.output.trans h.out.but.output, Nat.le_trans hsz hg.size, fun b hb hn => (hg.block b (by omega) (fun e => by have := hsw b e.symm; omega)).trans (h.out.but.block b hb hn)⟩
      tpl := h.out.tpl
      stack := ⟨cs ++ tc, ho, cs, tc, rfl, htc.agree hG (fun b hG => hG), hs.agree hG (fun b hG => hG)⟩
      gs := fun b hb => ⟨(h.out.gs b hb).1, Nat.lt_of_lt_of_le (h.out.gs b hb).2.1 hg.size, fun e => by
        rcases ht with e2 | e2
        · exact (h.out.gs b hb).2.2 (by rw [← e2]; exact e)
        · have := e2 b e; have := (h.out.gs b hb).2.1; omega⟩
      map := h.out.map.but (hg.block tp (by have := h.out.tpl; omega) (fun e => by have := hsw tp e.symm; have := h.out.tpl; omega))
      llen := by simp; omega }
    th := ⟨c, (hg.block bt hlt (fun e => h.bts e.symm)).trans h3, h4.agree hG (fun b hG => hG)⟩
    bts := fun e => by
      rcases ht with e2 | e2
      · exact h.bts (by rw [← e2]; exact e)
      · have := e2 bt e; omega }

theorem JAt.push {c : List Value} {sv' : Value} {cs tc : List Value} {t2 : Gt} (h : JAt w0 tp n bt G sv t l tr c w) (hs : StAt G w n l cs) (htc : ThAt G w n t2 tc) (hl : l.length < 200000000) (ho : w'.ownsRow w0.heap.size 93 4 sv' (l.length + 1) (cs ++ tc)) (hg : w.grownBy w' sv.ownBlock) (ht : SameOrNew w sv sv') :
    JAt w0 tp n bt G sv' t (t2 :: l) tr c w' :=
  ⟨h.i.push hs htc hl ho hg ht, (hg.block bt (Array.getElem?_eq_some_iff.1 h.blk).1 (fun e => h.i.bts e.symm)).trans h.blk, h.th.agree (fun b hG => hg.block b (h.i.out.gs b hG).2.1 (fun e => (h.i.out.gs b hG).2.2 e.symm)) (fun b hG => hG)⟩

/-- A thread is taken from the stack. -/
theorem OAt.pop {cs tc : List Value} {g cap : Nat} (h : OAt w0 tp n G (.slice (some ⟨g, 0, none⟩) (l.length + 1) cap) (t :: l) tr w) (hrow : w.ownsRow w0.heap.size 93 4 (.slice (some ⟨g, 0, none⟩) (l.length + 1) cap) (l.length + 1) (cs ++ tc)) (htc : ThAt G w n t tc) (hs : StAt G w n l cs) :
    IAt w0 tp n w.heap.size G (.slice (some ⟨g, 0, none⟩) l.length cap) t l tr (w.alloc (.cells tc.toArray 93)) := by
  have hb : Below w.heap.size w (w.alloc (.cells tc.toArray 93)) := (Below.refl _ w).alloc (Nat.le_refl _) _
  have hpop := ownsRow_pop hrow htc.length
  have hG : ∀ b, G b → (w.alloc (.cells tc.toArray 93)).heap[b]? = w.heap[b]? := fun b hG => hb.block b (h.gs b hG).2.1
  have hsz := h.but.size
  exact {
    out := { h.below hb with
      stack := ⟨cs, ownsRow_agree hpop fun j hj => hb.block j (hpop.lt j hj).2, hs.agree hG (fun b hG => hG)⟩
      gs := fun b hb2 => ⟨(h.gs b hb2).1, by have := (h.gs b hb2).2.1; simp; omega, fun e => (h.gs b hb2).2.2 e⟩
      llen := by have := h.llen; simp at this; omega }
    th := ⟨tc, heap_alloc_new w _, htc.agree hG (fun b hG => hG)⟩
    btl := hsz
    btG := fun e => by have := (h.gs _ e).2.1; omega
    bts := fun e => by have := (hpop.lt _ e).2; omega }

end

theorem from_start {w wr A2 : World} {N marks tp n pc pos : Nat} {tr : List Key} (hN : 0 < N) (hN2 : N ≤ 1000000) (hm : marks ≤ 1000000) (hpos : pos ≤ n) (hrow : wr.ownsRow w.heap.size 3 1 (.slice (some ⟨w.heap.size, 0, none⟩) N N) N ((fillG N N).map intV)) (hb : Below w.heap.size w wr)
    (hA2 : A2.ownsRow wr.heap.size 3 1 (.slice (some ⟨(wr.setCell ⟨w.heap.size, 0, none⟩ (intV pos)).heap.size, 0, none⟩) marks marks) marks (madeCells (Value.int IntKind.i64 0).cells (marks * 1)).toList)
    (hg : (wr.setCell ⟨w.heap.size, 0, none⟩ (intV pos)).grownBy A2 none) (htp : tp < w.heap.size) (hmap : MapAt w tp tr) :
    OAt w tp n (fun b => b = w.heap.size ∨ b = wr.heap.size) (.slice (some ⟨A2.heap.size, 0, none⟩) 1 1) [⟨pc, pos, (fillG N N).set 0 pos, List.replicate marks 0⟩] tr
      (A2.alloc (.cells #[intV pc, intV pos, .slice (some ⟨w.heap.size, 0, none⟩) N N, .slice (some ⟨wr.heap.size, 0, none⟩) marks marks] 93)) := by
  have hl : w.heap.size < wr.heap.size := (hrow.lt _ rfl).2
  have hs := (hrow.stored 0 (intV pos)).1
  have e1 : (wr.setCell ⟨w.heap.size, 0, none⟩ (intV pos)).heap.size = wr.heap.size := by simp
  rw [e1] at hA2
  have hl2 : wr.heap.size < A2.heap.size := (hA2.lt _ rfl).2
  have hA2b : ∀ b, b < wr.heap.size → A2.heap[b]? = (wr.setCell ⟨w.heap.size, 0, none⟩ (intV pos)).heap[b]? := fun b hb => hg.block b (by rw [e1]; exact hb) (fun e => by cases e)
  have hnew : ∀ b, b < A2.heap.size → (A2.alloc (.cells #[intV pc, intV pos, .slice (some ⟨w.heap.size, 0, none⟩) N N, .slice (some ⟨wr.heap.size, 0, none⟩) marks marks] 93)).heap[b]? = A2.heap[b]? := fun b hb => heap_alloc_old _ _ hb
  have hlen : ((fillG N N).set 0 (pos : Int)).length = N := by rw [List.length_set, fillG_len (Nat.le_refl _)]
  have hbel : Below w.heap.size w (A2.alloc (.cells #[intV pc, intV pos, .slice (some ⟨w.heap.size, 0, none⟩) N N, .slice (some ⟨wr.heap.size, 0, none⟩) marks marks] 93)) :=
    ⟨hg.os.trans hb.os, hg.tape.trans hb.tape, hg.output.trans hb.output, by simp; omega, fun b hlt => by rw [hnew b (by omega), hA2b b (by omega), heap_setCell_other _ _ _ _ (by show b ≠ w.heap.size; omega), hb.block b hlt]⟩
  exact {
    but := But.ofBelow hbel
    tpl := htp
    stack := by
      refine ⟨[intV pc, intV pos, .slice (some ⟨w.heap.size, 0, none⟩) N N, .slice (some ⟨wr.heap.size, 0, none⟩) marks marks], ?_, [], _, rfl, ?_, rfl⟩
      · exact World.ownsRow_lit A2 _ 1 (by omega) (by simp [maxLen]) rfl
      · refine ⟨w.heap.size, N, some ⟨wr.heap.size, 0, none⟩, marks, marks, ?_, ?_, .inl rfl, ?_, fun k hk => .inr (Option.some.inj hk).symm, hpos, by simp only [hlen]; exact hN2, by simp; exact hm⟩
        · simp only [hlen]
        · unfold IntsAt
          simp only [hlen]
          rw [List.map_set]
          refine ownsRow_agree (ownsRow_mono hs (Nat.zero_le _)) fun j hj => ?_
          cases hj
          rw [hnew w.heap.size (by omega), hA2b _ hl]
        · unfold IntsAt
          simp only [List.length_replicate]
          have e : (madeCells (Value.int IntKind.i64 0).cells (marks * 1)).toList = (List.replicate marks (0 : Int)).map intV := by
            rw [Nat.mul_one]; simp only [Value.cells]; rw [toList_madeCells_one]; simp
          rw [← e]
          refine ownsRow_agree (ownsRow_mono hA2 (Nat.zero_le _)) fun j hj => ?_
          cases hj
          rw [hnew _ hl2]
    gs := fun b hb2 => by
      have e9 : (A2.alloc (.cells #[intV pc, intV pos, .slice (some ⟨w.heap.size, 0, none⟩) N N, .slice (some ⟨wr.heap.size, 0, none⟩) marks marks] 93)).heap.size = A2.heap.size + 1 := by simp
      rcases hb2 with rfl | rfl
      · exact ⟨Nat.le_refl _, by omega, fun e => by have := Option.some.inj e; simp only at this; omega⟩
      · exact ⟨by omega, by omega, fun e => by have := Option.some.inj e; simp only at this; omega⟩
    map := hmap.but (hbel.block tp htp)
    llen := by simp }

end Go.Proofs.Ytfgghbideoehjaa
