/-
  The parser: escape at '\D', '\S', '\W', '\y', a back reference, and where it fails.
  The parser: where escape fails; escape at any byte.
-/
import Derived.Test.YtfgghbideoehjaaStepBToReadA
import Derived.IntWalk
namespace Go.Proofs.Ytfgghbideoehjaa
open Go.ChangeShapes Go.WideShapes Go.ChangeAt Go.RowKit
set_option linter.unusedVariables false
set_option maxRecDepth 100000

theorem class_hit_int {k : Int} {c : Nat} (hk : k = (c : Int)) {s : BSet} (h : classOf c = some s) (w : World) : Calls Try.prog 73 #[.int .u8 k] w fun e w' => e = .returned (.tuple #[.agg #[.int .u64 (s.a : Int), .int .u64 (s.b : Int), .int .u64 (s.c : Int), .int .u64 (s.d : Int)], .bool true]) ∧ Below w.heap.size w w' := by
  subst hk; exact class_hit h w
theorem class_miss_int {k : Int} {c : Nat} (hk : k = (c : Int)) (hc : c < 256) (h : classOf c = none) (w : World) : Calls Try.prog 73 #[.int .u8 k] w fun e w' => e = .returned (.tuple #[.agg #[.int .u64 0, .int .u64 0, .int .u64 0, .int .u64 0], .bool false]) ∧ Below w.heap.size w w' := by
  subst hk; exact class_miss hc h w
theorem class_upper {c : Nat} (h : c ≤ 90) : classOf c = none := by
  unfold classOf; rw [if_neg (by omega), if_neg (by omega), if_neg (by omega)]
theorem classOf_wf {c : Nat} {s : BSet} (h : classOf c = some s) : s.WF := by
  unfold classOf at h
  split at h
  · cases h; exact clsD_wf
  split at h
  · cases h; exact clsS_wf
  split at h
  · cases h; exact clsW_wf
  · cases h
theorem not_open (s : BSet) (hs : s.WF) (w : World) : Calls Try.prog 59 #[.agg #[.int .u64 (s.a : Int), .int .u64 (s.b : Int), .int .u64 (s.c : Int), .int .u64 (s.d : Int)]] w fun e w' =>
    ∃ t : BSet, t = s.not ∧ e = .returned (.agg #[.int .u64 (t.a : Int), .int .u64 (t.b : Int), .int .u64 (t.c : Int), .int .u64 (t.d : Int)]) ∧ Below w.heap.size w w' :=
  (not_any s hs w).mono fun e w' h => ⟨_, rfl, h⟩

set_option maxHeartbeats 1000000 in
theorem esc_nclass {base : Nat} {g : Tags} {w : World} {bp : Nat} {st : PSt} (h : PInv base g w bp st) (hs : st.Small) (hbase : base ≤ w.heap.size) (hp : st.pos < st.s.size) (h1 : st.pos + 1 < st.s.size)
    (hu1 : 65 ≤ byte st.s (st.pos + 1)) (hu2 : byte st.s (st.pos + 1) ≤ 90) {s : BSet} (hc : classOf (byte st.s (st.pos + 1) + 32) = some s) :
    Calls Try.prog 52 #[.pointer (some ⟨bp, 0, none⟩)] w (PPost base g w bp (.ok (st.put (.one .zero s.not) true 2))) := by
  obtain ⟨x, hx⟩ := id h
  have c0 : w.cell? ⟨bp, 0, none⟩ = some (.string st.s) := by rw [cell_of_blk hx.blk]; rfl
  have c1 : w.cell? ⟨bp, 1, none⟩ = some (.int .i64 (st.pos : Int)) := by rw [cell_of_blk hx.blk]; rfl
  have hsm := hs.pos
  have t1 : ((st.pos : Int) + 1 == (st.s.size : Int)) = false := by simp; omega
  have hby := get_byte st.s
  have hbl := byte_lt st.s (st.pos + 1)
  have HX := Lib.hid hx
  have HC := Lib.hid hc
  have hcm := class_upper hu2
  have HM := Lib.hid hcm
  have hwf := classOf_wf hc
  clear hx hc hcm
  have u1 : (65 : Int) ≤ (byte st.s (st.pos + 1) : Int) := by omega
  have u2 : (byte st.s (st.pos + 1) : Int) ≤ 90 := by omega
  go_enter Try.func52, Try.ntmps52
  go_wp2
  go_quiet (fail)
  go_wp2
  go_quiet (fail)
  go_wp2_with (fail)
  refine (class_miss hbl HM.out _).mono ?_
  rintro e w1 ⟨rfl, hb1⟩
  have B1 : Below w.heap.size w w1 := below_undrewN hb1
  have HB1 := Lib.hid B1
  clear hb1 B1
  go_wp2_with (fail)
  refine (class_hit_int (by omega) HC.out _).mono ?_
  rintro e w2 ⟨rfl, hb2⟩
  have B2 : Below w.heap.size w w2 := (HB1.out.alloc HB1.out.size _).trans (hb2.mono (by have := HB1.out.size; simp; omega))
  have HB2 := Lib.hid B2
  clear hb2 B2
  go_wp2_with (fail)
  refine (not_open s hwf _).mono ?_
  rintro e w3 ⟨t, ht, rfl, hb3⟩
  have HT := Lib.hid ht
  have B3 : Below w.heap.size w w3 := (HB2.out.alloc HB2.out.size _).trans (hb3.mono (by have := HB2.out.size; simp; omega))
  clear ht hb3
  go_wp2_with (fail)
  refine (put_int h B3 hs hbase (nd := .one .zero t) rfl (by decide) (by decide)).mono ?_
  rintro e w4 ⟨rfl, hq⟩
  have HQ := Lib.hid hq
  clear hq
  go_wp2
  go_end0
  exact ⟨rfl, by have h1 := HQ.out; rw [HT.out] at h1; exact h1⟩

/-- The bytes of an escape that is no class and no plain byte: what comes of the two looks for a class. -/
structure EscRest (c : Nat) : Prop where
  none1 : classOf c = none
  none2 : 65 ≤ c ∧ c ≤ 90 → classOf (c + 32) = none
  rest : ∃ p, plainOf c = (p, false)

set_option maxHeartbeats 1000000 in
theorem esc_y {base : Nat} {g : Tags} {w : World} {bp : Nat} {st : PSt} (h : PInv base g w bp st) (hs : st.Small) (hbase : base ≤ w.heap.size) (hp : st.pos < st.s.size) (h1 : st.pos + 1 < st.s.size)
    (hc : byte st.s (st.pos + 1) = 121) :
    Calls Try.prog 52 #[.pointer (some ⟨bp, 0, none⟩)] w (PPost base g w bp (.ok (st.put (.place 121) false 2))) := by
  obtain ⟨x, hx⟩ := id h
  have c0 : w.cell? ⟨bp, 0, none⟩ = some (.string st.s) := by rw [cell_of_blk hx.blk]; rfl
  have c1 : w.cell? ⟨bp, 1, none⟩ = some (.int .i64 (st.pos : Int)) := by rw [cell_of_blk hx.blk]; rfl
  have hsm := hs.pos
  have t1 : ((st.pos : Int) + 1 == (st.s.size : Int)) = false := by simp; omega
  have hby := get_byte st.s
  have HX := Lib.hid hx
  clear hx
  go_enter Try.func52, Try.ntmps52
  go_wp2
  go_quiet (fail)
  go_wp2
  go_quiet (fail)
  go_wp2_with (fail)
  refine (class_miss_int (c := 121) (by omega) (by decide) (by decide) _).mono ?_
  rintro e w1 ⟨rfl, hb1⟩
  have B1 : Below w.heap.size w w1 := below_undrewN hb1
  have HB1 := Lib.hid B1
  clear hb1 B1
  go_wp2_with (fail)
  refine (plain_no (c := 121) (p := 121) (by decide) (by decide) _).mono ?_
  rintro e w2 ⟨rfl, rfl⟩
  go_wp2_with (fail)
  refine (put_int h (HB1.out.alloc HB1.out.size _) hs hbase (nd := .place 121) rfl (by decide) (by decide)).mono ?_
  rintro e w4 ⟨rfl, hq⟩
  have HQ := Lib.hid hq
  clear hq
  go_wp2
  go_end0
  exact ⟨rfl, HQ.out⟩

theorem refs_set {base : Nat} {g : Tags} {w : World} {bp : Nat} {st : PSt} {x : PV} (h : PAt base g w bp st x) {rb cap : Nat} (hr : x.refsv = .slice (some ⟨rb, 0, none⟩) st.refs.length cap) (n : Nat) :
    PInv base g (w.setCell ⟨rb, n, none⟩ (.bool true)) bp { st with refs := st.refs.set n true } ∧ Keeps base g w g (w.setCell ⟨rb, n, none⟩ (.bool true)) := by
  have hg : g rb = some .refs := h.grefs rb (by rw [hr]; rfl)
  have rest : ∀ b t, g b = some t → t ≠ .refs → (w.setCell ⟨rb, n, none⟩ (.bool true)).heap[b]? = w.heap[b]? := fun b t hb hn => heap_setCell_other _ _ _ _ (by exact tag_ne hb hg hn)
  have agT : Agree w (w.setCell ⟨rb, n, none⟩ (.bool true)) (isTree g) := fun b hb => rest b .tree hb (by simp)
  refine ⟨⟨x, ?_⟩, ⟨fun b hb => ⟨hb, agT b hb⟩, (Below.refl base w).setCell (h.tags _ _ hg).1 _⟩⟩
  exact {
    tags := fun b t hb => by have := h.tags b t hb; simpa using this
    gp := h.gp
    blk := (rest _ _ h.gp (by simp)).trans h.blk
    gob := h.gob
    opn := (rest _ _ h.gob (by simp)).trans h.opn
    cap1 := h.cap1
    cap2 := h.cap2
    cap3 := h.cap3
    refs := by
      have h1 := h.refs
      rw [hr] at h1 ⊢
      have h2 := h1.stored n (.bool true)
      simp only [List.length_set, List.map_set]
      exact h2.1
    grefs := h.grefs
    low := h.low.agree 0 _ _ fun b hb => by
      rcases hb with hb | ⟨j, _, h2, hb | hb⟩
      · exact ⟨agT b hb, rfl⟩
      · exact ⟨rest b _ hb (by simp), rfl⟩
      · exact ⟨rest b _ hb (by simp), rfl⟩
    top := h.top.agree fun b hb => by
      rcases hb with hb | hb | hb
      · exact ⟨agT b hb, rfl⟩
      · exact ⟨rest b _ hb (by simp), rfl⟩
      · exact ⟨rest b _ hb (by simp), rfl⟩ }

set_option maxHeartbeats 1000000 in
theorem esc_back {base : Nat} {g : Tags} {w : World} {bp : Nat} {st : PSt} (h : PInv base g w bp st) (hs : st.Small) (hbase : base ≤ w.heap.size) (hp : st.pos < st.s.size) (h1 : st.pos + 1 < st.s.size)
    (hc1 : 49 ≤ byte st.s (st.pos + 1)) (hc2 : byte st.s (st.pos + 1) ≤ 57) (hn : byte st.s (st.pos + 1) - 48 ≤ st.begun) (hlk : st.looks = 0) (hr : byte st.s (st.pos + 1) - 48 < st.refs.length) :
    Calls Try.prog 52 #[.pointer (some ⟨bp, 0, none⟩)] w (PPost base g w bp (.ok (({ st with refs := st.refs.set (byte st.s (st.pos + 1) - 48) true } : PSt).put (.back (byte st.s (st.pos + 1) - 48)) true 2))) := by
  obtain ⟨x, hx⟩ := id h
  have c0 : w.cell? ⟨bp, 0, none⟩ = some (.string st.s) := by rw [cell_of_blk hx.blk]; rfl
  have c1 : w.cell? ⟨bp, 1, none⟩ = some (.int .i64 (st.pos : Int)) := by rw [cell_of_blk hx.blk]; rfl
  have hsm := hs.pos
  have hsb := hs.begun
  have t1 : ((st.pos : Int) + 1 == (st.s.size : Int)) = false := by simp; omega
  have hby := get_byte st.s
  have HX := Lib.hid hx
  have HH := Lib.hid h
  obtain ⟨k, hk⟩ : ∃ k, byte st.s (st.pos + 1) = k := ⟨_, rfl⟩
  have HK := Lib.hid hk
  rw [hk] at hc1 hc2 hn hr ⊢
  obtain ⟨n, hkn⟩ : ∃ n, k - 48 = n := ⟨_, rfl⟩
  rw [hkn] at hn hr ⊢
  have hcl : classOf k = none := class_upper (by omega)
  have hpl : plainOf k = (k, false) := by
    have a : ¬ k = 116 := by omega
    have b : ¬ k = 114 := by omega
    have d : ¬ k = 110 := by omega
    have e : isDigit k = true := by simp [isDigit]; omega
    simp [plainOf, a, b, d, e]
  have HCL := Lib.hid hcl
  have HPL := Lib.hid hpl
  clear hx h hk hcl hpl
  have u1 : ¬ (65 : Int) ≤ (k : Int) := by omega
  have u2 : ((k : Int) == 121) = false := by simp; omega
  have u3 : (49 : Int) ≤ (k : Int) := by omega
  have u4 : (k : Int) ≤ 57 := by omega
  have u5 : (n : Int) ≤ (st.begun : Int) := by omega
  have u6 : (k : Int) - 48 = (n : Int) := by omega
  have u7 : n ≤ 9 := by omega
  have hk256 : k < 256 := by omega
  have hby1 : ∀ (h : st.pos + 1 < st.s.size), ((st.s[st.pos + 1]'h).toNat : Int) = (k : Int) := fun h => by rw [get_byte, HK.out]
  clear hkn hc1 hc2
  clear hby
  go_enter Try.func52, Try.ntmps52
  go_wp2
  go_quiet (fail)
  go_wp2
  go_quiet (fail)
  go_wp2_with (fail)
  refine (class_miss hk256 HCL.out _).mono ?_
  rintro e w1 ⟨rfl, hb1⟩
  have B1 : Below w.heap.size w w1 := below_undrewN hb1
  have HB1 := Lib.hid B1
  clear hb1 B1
  go_wp2_with (fail)
  refine (plain_no hk256 HPL.out _).mono ?_
  rintro e w2 ⟨rfl, rfl⟩
  dsimp only
  have BA : Below w.heap.size w (w1.alloc (.cells #[.int .u64 0, .int .u64 0, .int .u64 0, .int .u64 0] 97)) := HB1.out.alloc HB1.out.size _
  have hxA := HX.out.ext BA
  generalize w1.alloc (.cells #[.int .u64 0, .int .u64 0, .int .u64 0, .int .u64 0] 97) = A at *
  have HA := Lib.hid BA
  clear BA HB1 c0 c1
  have d4 : A.cell? ⟨bp, 4, none⟩ = some (.int .i64 (st.begun : Int)) := by rw [cell_of_blk hxA.blk]; rfl
  have d5 : A.cell? ⟨bp, 5, none⟩ = some (.int .i64 0) := by rw [cell_of_blk hxA.blk, hlk]; rfl
  have d6 : A.cell? ⟨bp, 6, none⟩ = some x.refsv := by rw [cell_of_blk hxA.blk]; rfl
  have hrf := hxA.refs
  obtain ⟨m, hm⟩ : ∃ m, st.refs.length = m + 1 := ⟨st.refs.length - 1, by omega⟩
  have hrf' := hrf
  rw [hm] at hrf'
  obtain ⟨rb, cap, hrv⟩ := ownsRow_succ' hrf'
  rw [← hm] at hrv
  rw [hrv] at hrf d6
  have fz := hrf.frozenAt n
  have cn : A.cell? ⟨rb, n, none⟩ = some ((st.refs.map Value.bool)[n]'(by simpa using hr)) := by
    have := hrf.cellAt n (by simpa using hr)
    rw [this]; simp [hr]
  have hset := refs_set hxA hrv n
  have HSET := Lib.hid hset
  have hnl : (n : Int) < (st.refs.length : Int) := by omega
  clear hrf hrf' hset hm
  go_wp2_with (fail)
  obtain ⟨hi2, hk2⟩ := HSET.out
  refine (put_int (nd := .back n) hi2 (Below.refl _ _) ?_ ?_ rfl (by decide) (by decide)).mono ?_
  · exact ⟨hs.pos, hs.low, hs.brs, hs.pcs, hs.groups, hs.begun, hs.looks, by simpa using hs.refs⟩
  · have := HA.out.size; simp; omega
  rintro e w4 ⟨rfl, hq⟩
  have HQ := Lib.hid hq
  clear hq
  go_wp2
  go_end0
  obtain ⟨g', hi', hk'⟩ := HQ.out
  exact ⟨rfl, g', hi', Keeps.ext HH.out hbase HA.out (hk2.trans hk')⟩

end Go.Proofs.Ytfgghbideoehjaa

namespace Go.Proofs.Ytfgghbideoehjaa
open Go.ChangeShapes Go.WideShapes Go.ChangeAt Go.RowKit
set_option linter.unusedVariables false
set_option maxRecDepth 100000

set_option maxHeartbeats 1000000 in
theorem esc_zero {base : Nat} {g : Tags} {w : World} {bp : Nat} {st : PSt} (h : PInv base g w bp st) (hs : st.Small) (hbase : base ≤ w.heap.size) (hp : st.pos < st.s.size) (h1 : st.pos + 1 < st.s.size)
    {k : Nat} (hk : byte st.s (st.pos + 1) = k) (hcl : classOf k = none) (hpl : plainOf k = (k, false)) (u0 : k ≠ 121) (hc : k < 49) :
    Calls Try.prog 52 #[.pointer (some ⟨bp, 0, none⟩)] w (PPost base g w bp (.bad st.pos)) := by
  obtain ⟨x, hx⟩ := id h
  have c0 : w.cell? ⟨bp, 0, none⟩ = some (.string st.s) := by rw [cell_of_blk hx.blk]; rfl
  have c1 : w.cell? ⟨bp, 1, none⟩ = some (.int .i64 (st.pos : Int)) := by rw [cell_of_blk hx.blk]; rfl
  have hsm := hs.pos
  have hsb := hs.begun
  have hsl := hs.looks
  have t1 : ((st.pos : Int) + 1 == (st.s.size : Int)) = false := by simp; omega
  have hk256 : k < 256 := by rw [← hk]; exact byte_lt _ _
  have HX := Lib.hid hx
  have HK := Lib.hid hk
  have HCL := Lib.hid hcl
  have HPL := Lib.hid hpl
  have u2 : ((k : Int) == 121) = false := by simp; omega
  have u1 : ¬ (65 : Int) ≤ (k : Int) := by omega
  have u3 : ¬ (49 : Int) ≤ (k : Int) := by omega
  have hby1 : ∀ (h : st.pos + 1 < st.s.size), ((st.s[st.pos + 1]'h).toNat : Int) = (k : Int) := fun h => by rw [get_byte, HK.out]
  clear hx h hk hcl hpl u0
  go_enter Try.func52, Try.ntmps52
  go_wp2
  go_quiet (fail)
  go_wp2
  go_quiet (fail)
  go_wp2_with (fail)
  refine (class_miss hk256 HCL.out _).mono ?_
  rintro e w1 ⟨rfl, hb1⟩
  have B1 : Below w.heap.size w w1 := below_undrewN hb1
  have HB1 := Lib.hid B1
  clear hb1 B1
  go_wp2_with (fail)
  refine (plain_no hk256 HPL.out _).mono ?_
  rintro e w2 ⟨rfl, rfl⟩
  dsimp only
  have BA : Below w.heap.size w (w1.alloc (.cells #[.int .u64 0, .int .u64 0, .int .u64 0, .int .u64 0] 97)) := HB1.out.alloc HB1.out.size _
  have hxA := HX.out.ext BA
  generalize w1.alloc (.cells #[.int .u64 0, .int .u64 0, .int .u64 0, .int .u64 0] 97) = A at *
  have HA := Lib.hid BA
  have d1 : A.cell? ⟨bp, 1, none⟩ = some (.int .i64 (st.pos : Int)) := by rw [cell_of_blk hxA.blk]; rfl
  have d4 : A.cell? ⟨bp, 4, none⟩ = some (.int .i64 (st.begun : Int)) := by rw [cell_of_blk hxA.blk]; rfl
  have d5 : A.cell? ⟨bp, 5, none⟩ = some (.int .i64 (st.looks : Int)) := by rw [cell_of_blk hxA.blk]; rfl
  clear BA HB1 c0 c1 hxA
  go_wp2_with (go_at_call 61; refine (fail_any _ _ _).mono ?_; rintro e w' ⟨rfl, rfl⟩)
  exact ⟨rfl, rfl, HA.out.mono hbase⟩

set_option maxHeartbeats 1000000 in
theorem esc_far {base : Nat} {g : Tags} {w : World} {bp : Nat} {st : PSt} (h : PInv base g w bp st) (hs : st.Small) (hbase : base ≤ w.heap.size) (hp : st.pos < st.s.size) (h1 : st.pos + 1 < st.s.size)
    {k : Nat} (hk : byte st.s (st.pos + 1) = k) (hcl : classOf k = none) (hpl : plainOf k = (k, false)) (u0 : k ≠ 121) (hc1 : 49 ≤ k) (hc2 : k ≤ 57) {n : Nat} (hkn : k = n + 48) (hn : st.begun < n) :
    Calls Try.prog 52 #[.pointer (some ⟨bp, 0, none⟩)] w (PPost base g w bp (.bad st.pos)) := by
  obtain ⟨x, hx⟩ := id h
  have c0 : w.cell? ⟨bp, 0, none⟩ = some (.string st.s) := by rw [cell_of_blk hx.blk]; rfl
  have c1 : w.cell? ⟨bp, 1, none⟩ = some (.int .i64 (st.pos : Int)) := by rw [cell_of_blk hx.blk]; rfl
  have hsm := hs.pos
  have hsb := hs.begun
  have hsl := hs.looks
  have t1 : ((st.pos : Int) + 1 == (st.s.size : Int)) = false := by simp; omega
  have hk256 : k < 256 := by rw [← hk]; exact byte_lt _ _
  have HX := Lib.hid hx
  have HK := Lib.hid hk
  have HCL := Lib.hid hcl
  have HPL := Lib.hid hpl
  have u2 : ((k : Int) == 121) = false := by simp; omega
  have u1 : ¬ (65 : Int) ≤ (k : Int) := by omega
  have u3 : (49 : Int) ≤ (k : Int) := by omega
  have u4 : (k : Int) ≤ 57 := by omega
  have u5 : ¬ (n : Int) ≤ (st.begun : Int) := by omega
  have u6 : (k : Int) - 48 = (n : Int) := by omega
  have u7 : n ≤ 9 := by omega
  clear hkn hc1 hc2 hn
  have hby1 : ∀ (h : st.pos + 1 < st.s.size), ((st.s[st.pos + 1]'h).toNat : Int) = (k : Int) := fun h => by rw [get_byte, HK.out]
  clear hx h hk hcl hpl u0
  go_enter Try.func52, Try.ntmps52
  go_wp2
  go_quiet (fail)
  go_wp2
  go_quiet (fail)
  go_wp2_with (fail)
  refine (class_miss hk256 HCL.out _).mono ?_
  rintro e w1 ⟨rfl, hb1⟩
  have B1 : Below w.heap.size w w1 := below_undrewN hb1
  have HB1 := Lib.hid B1
  clear hb1 B1
  go_wp2_with (fail)
  refine (plain_no hk256 HPL.out _).mono ?_
  rintro e w2 ⟨rfl, rfl⟩
  dsimp only
  have BA : Below w.heap.size w (w1.alloc (.cells #[.int .u64 0, .int .u64 0, .int .u64 0, .int .u64 0] 97)) := HB1.out.alloc HB1.out.size _
  have hxA := HX.out.ext BA
  generalize w1.alloc (.cells #[.int .u64 0, .int .u64 0, .int .u64 0, .int .u64 0] 97) = A at *
  have HA := Lib.hid BA
  have d1 : A.cell? ⟨bp, 1, none⟩ = some (.int .i64 (st.pos : Int)) := by rw [cell_of_blk hxA.blk]; rfl
  have d4 : A.cell? ⟨bp, 4, none⟩ = some (.int .i64 (st.begun : Int)) := by rw [cell_of_blk hxA.blk]; rfl
  have d5 : A.cell? ⟨bp, 5, none⟩ = some (.int .i64 (st.looks : Int)) := by rw [cell_of_blk hxA.blk]; rfl
  clear BA HB1 c0 c1 hxA
  go_wp2_with (go_at_call 61; refine (fail_any _ _ _).mono ?_; rintro e w' ⟨rfl, rfl⟩)
  exact ⟨rfl, rfl, HA.out.mono hbase⟩

set_option maxHeartbeats 1000000 in
theorem esc_look {base : Nat} {g : Tags} {w : World} {bp : Nat} {st : PSt} (h : PInv base g w bp st) (hs : st.Small) (hbase : base ≤ w.heap.size) (hp : st.pos < st.s.size) (h1 : st.pos + 1 < st.s.size)
    {k : Nat} (hk : byte st.s (st.pos + 1) = k) (hcl : classOf k = none) (hpl : plainOf k = (k, false)) (u0 : k ≠ 121) (hc1 : 49 ≤ k) (hc2 : k ≤ 57) {n : Nat} (hkn : k = n + 48) (hn : n ≤ st.begun) (hlk : 0 < st.looks) :
    Calls Try.prog 52 #[.pointer (some ⟨bp, 0, none⟩)] w (PPost base g w bp (.bad st.pos)) := by
  obtain ⟨x, hx⟩ := id h
  have c0 : w.cell? ⟨bp, 0, none⟩ = some (.string st.s) := by rw [cell_of_blk hx.blk]; rfl
  have c1 : w.cell? ⟨bp, 1, none⟩ = some (.int .i64 (st.pos : Int)) := by rw [cell_of_blk hx.blk]; rfl
  have hsm := hs.pos
  have hsb := hs.begun
  have hsl := hs.looks
  have t1 : ((st.pos : Int) + 1 == (st.s.size : Int)) = false := by simp; omega
  have hk256 : k < 256 := by rw [← hk]; exact byte_lt _ _
  have HX := Lib.hid hx
  have HK := Lib.hid hk
  have HCL := Lib.hid hcl
  have HPL := Lib.hid hpl
  have u2 : ((k : Int) == 121) = false := by simp; omega
  have u1 : ¬ (65 : Int) ≤ (k : Int) := by omega
  have u3 : (49 : Int) ≤ (k : Int) := by omega
  have u4 : (k : Int) ≤ 57 := by omega
  have u5 : (n : Int) ≤ (st.begun : Int) := by omega
  have u6 : (k : Int) - 48 = (n : Int) := by omega
  have u7 : n ≤ 9 := by omega
  have u8 : ((st.looks : Int) == 0) = false := by simp; omega
  clear hkn hc1 hc2 hn
  have hby1 : ∀ (h : st.pos + 1 < st.s.size), ((st.s[st.pos + 1]'h).toNat : Int) = (k : Int) := fun h => by rw [get_byte, HK.out]
  clear hx h hk hcl hpl u0
  go_enter Try.func52, Try.ntmps52
  go_wp2
  go_quiet (fail)
  go_wp2
  go_quiet (fail)
  go_wp2_with (fail)
  refine (class_miss hk256 HCL.out _).mono ?_
  rintro e w1 ⟨rfl, hb1⟩
  have B1 : Below w.heap.size w w1 := below_undrewN hb1
  have HB1 := Lib.hid B1
  clear hb1 B1
  go_wp2_with (fail)
  refine (plain_no hk256 HPL.out _).mono ?_
  rintro e w2 ⟨rfl, rfl⟩
  dsimp only
  have BA : Below w.heap.size w (w1.alloc (.cells #[.int .u64 0, .int .u64 0, .int .u64 0, .int .u64 0] 97)) := HB1.out.alloc HB1.out.size _
  have hxA := HX.out.ext BA
  generalize w1.alloc (.cells #[.int .u64 0, .int .u64 0, .int .u64 0, .int .u64 0] 97) = A at *
  have HA := Lib.hid BA
  have d1 : A.cell? ⟨bp, 1, none⟩ = some (.int .i64 (st.pos : Int)) := by rw [cell_of_blk hxA.blk]; rfl
  have d4 : A.cell? ⟨bp, 4, none⟩ = some (.int .i64 (st.begun : Int)) := by rw [cell_of_blk hxA.blk]; rfl
  have d5 : A.cell? ⟨bp, 5, none⟩ = some (.int .i64 (st.looks : Int)) := by rw [cell_of_blk hxA.blk]; rfl
  clear BA HB1 c0 c1 hxA
  go_wp2_with (go_at_call 61; refine (fail_any _ _ _).mono ?_; rintro e w' ⟨rfl, rfl⟩)
  exact ⟨rfl, rfl, HA.out.mono hbase⟩

set_option maxHeartbeats 1000000 in
theorem esc_upper {base : Nat} {g : Tags} {w : World} {bp : Nat} {st : PSt} (h : PInv base g w bp st) (hs : st.Small) (hbase : base ≤ w.heap.size) (hp : st.pos < st.s.size) (h1 : st.pos + 1 < st.s.size)
    {k : Nat} (hk : byte st.s (st.pos + 1) = k) (hcl : classOf k = none) (hpl : plainOf k = (k, false)) (u0 : k ≠ 121) (hc1 : 65 ≤ k) (hc2 : k ≤ 90) (hcu : classOf (k + 32) = none) :
    Calls Try.prog 52 #[.pointer (some ⟨bp, 0, none⟩)] w (PPost base g w bp (.bad st.pos)) := by
  obtain ⟨x, hx⟩ := id h
  have c0 : w.cell? ⟨bp, 0, none⟩ = some (.string st.s) := by rw [cell_of_blk hx.blk]; rfl
  have c1 : w.cell? ⟨bp, 1, none⟩ = some (.int .i64 (st.pos : Int)) := by rw [cell_of_blk hx.blk]; rfl
  have hsm := hs.pos
  have hsb := hs.begun
  have hsl := hs.looks
  have t1 : ((st.pos : Int) + 1 == (st.s.size : Int)) = false := by simp; omega
  have hk256 : k < 256 := by rw [← hk]; exact byte_lt _ _
  have HX := Lib.hid hx
  have HK := Lib.hid hk
  have HCL := Lib.hid hcl
  have HPL := Lib.hid hpl
  have u2 : ((k : Int) == 121) = false := by simp; omega
  have HCU := Lib.hid hcu
  have u1 : (65 : Int) ≤ (k : Int) := by omega
  have u9 : (k : Int) ≤ 90 := by omega
  have u3 : (49 : Int) ≤ (k : Int) := by omega
  have u4 : ¬ (k : Int) ≤ 57 := by omega
  clear hcu
  have hby1 : ∀ (h : st.pos + 1 < st.s.size), ((st.s[st.pos + 1]'h).toNat : Int) = (k : Int) := fun h => by rw [get_byte, HK.out]
  clear hx h hk hcl hpl u0
  go_enter Try.func52, Try.ntmps52
  go_wp2
  go_quiet (fail)
  go_wp2
  go_quiet (fail)
  go_wp2_with (fail)
  refine (class_miss hk256 HCL.out _).mono ?_
  rintro e w1 ⟨rfl, hb1⟩
  have B1 : Below w.heap.size w w1 := below_undrewN hb1
  have HB1 := Lib.hid B1
  clear hb1 B1
  go_wp2_with (fail)
  refine (class_miss_int (c := k + 32) (by omega) (by omega) HCU.out _).mono ?_
  rintro e w2 ⟨rfl, hb2⟩
  have B2 : Below w.heap.size w w2 := (HB1.out.alloc HB1.out.size _).trans (hb2.mono (by have := HB1.out.size; simp; omega))
  have HB1 := Lib.hid B2
  clear hb2 B2
  go_wp2_with (fail)
  generalize w2 = w1 at *
  refine (plain_no hk256 HPL.out _).mono ?_
  rintro e w2 ⟨rfl, rfl⟩
  dsimp only
  have BA : Below w.heap.size w (w1.alloc (.cells #[.int .u64 0, .int .u64 0, .int .u64 0, .int .u64 0] 97)) := HB1.out.alloc HB1.out.size _
  have hxA := HX.out.ext BA
  generalize w1.alloc (.cells #[.int .u64 0, .int .u64 0, .int .u64 0, .int .u64 0] 97) = A at *
  have HA := Lib.hid BA
  have d1 : A.cell? ⟨bp, 1, none⟩ = some (.int .i64 (st.pos : Int)) := by rw [cell_of_blk hxA.blk]; rfl
  have d4 : A.cell? ⟨bp, 4, none⟩ = some (.int .i64 (st.begun : Int)) := by rw [cell_of_blk hxA.blk]; rfl
  have d5 : A.cell? ⟨bp, 5, none⟩ = some (.int .i64 (st.looks : Int)) := by rw [cell_of_blk hxA.blk]; rfl
  clear BA HB1 c0 c1 hxA
  go_wp2_with (go_at_call 61; refine (fail_any _ _ _).mono ?_; rintro e w' ⟨rfl, rfl⟩)
  exact ⟨rfl, rfl, HA.out.mono hbase⟩

set_option maxHeartbeats 1000000 in
theorem esc_lower {base : Nat} {g : Tags} {w : World} {bp : Nat} {st : PSt} (h : PInv base g w bp st) (hs : st.Small) (hbase : base ≤ w.heap.size) (hp : st.pos < st.s.size) (h1 : st.pos + 1 < st.s.size)
    {k : Nat} (hk : byte st.s (st.pos + 1) = k) (hcl : classOf k = none) (hpl : plainOf k = (k, false)) (u0 : k ≠ 121) (hc1 : 90 < k) :
    Calls Try.prog 52 #[.pointer (some ⟨bp, 0, none⟩)] w (PPost base g w bp (.bad st.pos)) := by
  obtain ⟨x, hx⟩ := id h
  have c0 : w.cell? ⟨bp, 0, none⟩ = some (.string st.s) := by rw [cell_of_blk hx.blk]; rfl
  have c1 : w.cell? ⟨bp, 1, none⟩ = some (.int .i64 (st.pos : Int)) := by rw [cell_of_blk hx.blk]; rfl
  have hsm := hs.pos
  have hsb := hs.begun
  have hsl := hs.looks
  have t1 : ((st.pos : Int) + 1 == (st.s.size : Int)) = false := by simp; omega
  have hk256 : k < 256 := by rw [← hk]; exact byte_lt _ _
  have HX := Lib.hid hx
  have HK := Lib.hid hk
  have HCL := Lib.hid hcl
  have HPL := Lib.hid hpl
  have u2 : ((k : Int) == 121) = false := by simp; omega
  have u1 : (65 : Int) ≤ (k : Int) := by omega
  have u9 : ¬ (k : Int) ≤ 90 := by omega
  have u3 : (49 : Int) ≤ (k : Int) := by omega
  have u4 : ¬ (k : Int) ≤ 57 := by omega
  have hby1 : ∀ (h : st.pos + 1 < st.s.size), ((st.s[st.pos + 1]'h).toNat : Int) = (k : Int) := fun h => by rw [get_byte, HK.out]
  clear hx h hk hcl hpl u0
  go_enter Try.func52, Try.ntmps52
  go_wp2
  go_quiet (fail)
  go_wp2
  go_quiet (fail)
  go_wp2_with (fail)
  refine (class_miss hk256 HCL.out _).mono ?_
  rintro e w1 ⟨rfl, hb1⟩
  have B1 : Below w.heap.size w w1 := below_undrewN hb1
  have HB1 := Lib.hid B1
  clear hb1 B1
  go_wp2_with (fail)
  refine (plain_no hk256 HPL.out _).mono ?_
  rintro e w2 ⟨rfl, rfl⟩
  dsimp only
  have BA : Below w.heap.size w (w1.alloc (.cells #[.int .u64 0, .int .u64 0, .int .u64 0, .int .u64 0] 97)) := HB1.out.alloc HB1.out.size _
  have hxA := HX.out.ext BA
  generalize w1.alloc (.cells #[.int .u64 0, .int .u64 0, .int .u64 0, .int .u64 0] 97) = A at *
  have HA := Lib.hid BA
  have d1 : A.cell? ⟨bp, 1, none⟩ = some (.int .i64 (st.pos : Int)) := by rw [cell_of_blk hxA.blk]; rfl
  have d4 : A.cell? ⟨bp, 4, none⟩ = some (.int .i64 (st.begun : Int)) := by rw [cell_of_blk hxA.blk]; rfl
  have d5 : A.cell? ⟨bp, 5, none⟩ = some (.int .i64 (st.looks : Int)) := by rw [cell_of_blk hxA.blk]; rfl
  clear BA HB1 c0 c1 hxA
  go_wp2_with (go_at_call 61; refine (fail_any _ _ _).mono ?_; rintro e w' ⟨rfl, rfl⟩)
  exact ⟨rfl, rfl, HA.out.mono hbase⟩

theorem plain_bool (c : Nat) : plainOf c = ((plainOf c).1, (plainOf c).2) := rfl
theorem plain_false {c : Nat} (h : (plainOf c).2 = false) : plainOf c = (c, false) := by
  unfold plainOf at h ⊢
  split at h
  · cases h
  split at h
  · cases h
  split at h
  · cases h
  · rename_i a b d
    rw [if_neg a, if_neg b, if_neg d]
    exact Prod.ext rfl h

theorem esc_any {base : Nat} {g : Tags} {w : World} {bp : Nat} {st : PSt} (h : PInv base g w bp st) (hs : st.Small) (hbase : base ≤ w.heap.size) (hp : st.pos < st.s.size) (hbr : st.begun < st.refs.length) :
    Calls Try.prog 52 #[.pointer (some ⟨bp, 0, none⟩)] w (PPost base g w bp st.esc) := by
  by_cases h1 : st.pos + 1 = st.s.size
  · have e : st.esc = .bad st.s.size := by unfold PSt.esc; rw [if_pos h1]
    rw [e]
    exact esc_end h hs hbase hp h1
  have h2 : st.pos + 1 < st.s.size := by omega
  have hb := byte_lt st.s (st.pos + 1)
  unfold PSt.esc
  rw [if_neg h1]
  cases hc : classOf (byte st.s (st.pos + 1)) with
  | some s => exact esc_class h hs hbase hp h2 hc
  | none =>
    dsimp only
    by_cases hu : 65 ≤ byte st.s (st.pos + 1) ∧ byte st.s (st.pos + 1) ≤ 90
    · rw [if_pos hu]
      have hpl := plain_upper hu.1 hu.2
      cases hc2 : classOf (byte st.s (st.pos + 1) + 32) with
      | some s => exact esc_nclass h hs hbase hp h2 hu.1 hu.2 hc2
      | none =>
        dsimp only
        rw [if_neg (by rw [hpl]; simp), if_neg (by omega), if_neg (by omega)]
        exact esc_upper h hs hbase hp h2 rfl hc hpl (by omega) hu.1 hu.2 hc2
    · rw [if_neg hu]
      dsimp only
      cases hp2 : (plainOf (byte st.s (st.pos + 1))).2 with
      | true =>
        rw [if_pos rfl]
        exact esc_plain h hs hbase hp h2 hc (Prod.ext rfl hp2)
      | false =>
        have hpl := plain_false hp2
        rw [if_neg (by simp)]
        by_cases hy : byte st.s (st.pos + 1) = 121
        · rw [if_pos hy]; exact esc_y h hs hbase hp h2 hy
        rw [if_neg hy]
        by_cases hd : 49 ≤ byte st.s (st.pos + 1) ∧ byte st.s (st.pos + 1) ≤ 57
        · by_cases hn : byte st.s (st.pos + 1) - 48 ≤ st.begun
          · by_cases hl : st.looks = 0
            · rw [if_pos ⟨hd.1, hd.2, hn, hl⟩]
              exact esc_back h hs hbase hp h2 hd.1 hd.2 hn hl (by omega)
            · rw [if_neg (by omega)]
              exact esc_look h hs hbase hp h2 rfl hc hpl hy hd.1 hd.2 (n := byte st.s (st.pos + 1) - 48) (by omega) hn (by omega)
          · rw [if_neg (by omega)]
            exact esc_far h hs hbase hp h2 rfl hc hpl hy hd.1 hd.2 (n := byte st.s (st.pos + 1) - 48) (by omega) (by omega)
        · rw [if_neg (by omega)]
          by_cases h48 : byte st.s (st.pos + 1) < 49
          · exact esc_zero h hs hbase hp h2 rfl hc hpl hy h48
          · by_cases h90 : 90 < byte st.s (st.pos + 1)
            · exact esc_lower h hs hbase hp h2 rfl hc hpl hy h90
            · exfalso
              -- 58 to 64: no letter, no digit
              have a : ¬ byte st.s (st.pos + 1) = 116 := by omega
              have b : ¬ byte st.s (st.pos + 1) = 114 := by omega
              have d : ¬ byte st.s (st.pos + 1) = 110 := by omega
              have l : isLetter (byte st.s (st.pos + 1)) = false := by simp [isLetter]; omega
              have g : isDigit (byte st.s (st.pos + 1)) = false := by simp [isDigit]; omega
              simp [plainOf, a, b, d, l, g] at hp2

end Go.Proofs.Ytfgghbideoehjaa
