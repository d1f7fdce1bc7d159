/-
  A text's escapes replaced after its end is known is the text replaced on the way; The document's closing brace, and its Unescaped; The document's reader of elements; The document's reader of elements: quoted and bare ones; The document's Split; Slices of slices of texts; The program's Rounds: the lists are split. Conditions: none.
-/
import Derived.Test.YtjibdoofogmkcaaGreatDoorUnaToWe
import Derived.Test.YtjibdoofogmkcaaGreatDoorWe2ToWi0
import Derived.Test.YtjibdoofogmkcaaGreatDoorWg
import Derived.Test.YtjibdoofogmkcaaGreatDoorWkToWy0
import Derived.Maps.AppendAt
set_option linter.unusedVariables false
set_option linter.unusedSimpArgs false
set_option linter.unusedSectionVars false
set_option linter.deprecated false
section
namespace Go.Proofs.YtjibdoofogmkcaaGreatDoor
def unesc (l : List UInt8) : List UInt8 :=
  match l with
  | [] => []
  | c :: r => if hc : c = 92 then (une (c :: r)).1 ++ unesc ((c :: r).drop (une (c :: r)).2) else c :: unesc r
termination_by l.length
decreasing_by
  all_goals first
    | (subst hc; have := une_pos r; simp only [List.length_drop, List.length_cons]; omega)
    | simp
theorem digs_take (base : Nat) : ∀ (l : List UInt8) (m v k : Nat), (digs base l m v).2 ≤ k → digs base (l.take k) m v = digs base l m v := by
  intro l
  induction l with
  | nil => intro m v k _; simp
  | cons c r ih =>
    intro m v k h
    cases m with
    | zero => cases k <;> simp [digs]
    | succ m =>
      cases k with
      | zero =>
        unfold digs at h
        split at h
        · simp at h
        · rename_i hd
          simp [digs, hd]
      | succ k =>
        rw [List.take_succ_cons]
        unfold digs at h ⊢
        split at h
        · rename_i hd
          rw [if_pos hd, if_pos hd, ih m _ k (by simpa using h)]
        · rename_i hd
          rw [if_neg hd, if_neg hd]
theorem blk_take : ∀ (l : List UInt8) (k : Nat), blk l ≤ k → blk (l.take k) = blk l := by
  intro l
  induction l with
  | nil => intro k _; simp
  | cons c r ih =>
    intro k h
    cases k with
    | zero =>
      unfold blk at h
      split at h
      · omega
      · rename_i hd; simp [blk, hd]
    | succ k =>
      rw [List.take_succ_cons]
      unfold blk at h ⊢
      split at h
      · rename_i hd; rw [if_pos hd, if_pos hd, ih k (by omega)]
      · rename_i hd; rw [if_neg hd, if_neg hd]
theorem une2_take (c : UInt8) (base at_ k : Nat) (l : List UInt8) (m : Nat) (h : (une2 c base at_ (digs base l m 0)).2 ≤ at_ + k) : digs base (l.take k) m 0 = digs base l m 0 := by
  refine digs_take base l m 0 k ?_
  unfold une2 at h
  split at h
  · rename_i h0; omega
  · simp at h; omega
theorem une1_two (c : UInt8) (t : List UInt8) : 2 ≤ (une1 c t).2 := by
  unfold une1
  split
  · simp
  · split
    · simp
    · split <;> (unfold une2; split <;> simp <;> omega)
theorem une1_take (c : UInt8) (t : List UInt8) (k : Nat) (h : (une1 c t).2 ≤ k + 2) : une1 c (t.take k) = une1 c t := by
  unfold une1 at h ⊢
  split at h
  · rfl
  · split at h
    · rename_i hc
      rw [if_pos hc, if_pos hc, blk_take t k (by simpa using h)]
    · rename_i hc
      rw [if_neg hc, if_neg hc]
      split at h
      · rename_i hx
        rw [if_pos hx, if_pos hx, une2_take c 16 2 k t 2 (by omega)]
      · rename_i hx
        rw [if_neg hx, if_neg hx]
        have := une2_take c 8 1 (k + 1) (c :: t) 3 (by omega)
        rw [List.take_succ_cons] at this
        rw [this]
theorem une_take (r : List UInt8) (k : Nat) (h : (une (92 :: r)).2 ≤ k) : une ((92 :: r).take k) = une (92 :: r) := by
  cases r with
  | nil =>
    cases k with
    | zero => have := une_pos []; omega
    | succ k => simp
  | cons c t =>
    have e : ∀ t', une (92 :: c :: t') = une1 c t' := by intro t'; simp [une]
    rw [e] at h ⊢
    have h2 := une1_two c t
    obtain ⟨j, rfl⟩ : ∃ j, k = j + 2 := ⟨k - 2, by omega⟩
    rw [show (92 :: c :: t).take (j + 2) = 92 :: c :: t.take j by simp, e, une1_take c t j h]
theorem unesc_step (r : List UInt8) (m : Nat) : unesc ((92 :: r).take ((une (92 :: r)).2 + m)) = (une (92 :: r)).1 ++ unesc (((92 :: r).drop (une (92 :: r)).2).take m) := by
  have h1 := une_pos r
  have ht := une_take r ((une (92 :: r)).2 + m) (by omega)
  obtain ⟨x, hx⟩ : ∃ x, (92 :: r).take ((une (92 :: r)).2 + m) = 92 :: x := by
    obtain ⟨j, hj⟩ : ∃ j, (une (92 :: r)).2 + m = j + 1 := ⟨(une (92 :: r)).2 + m - 1, by omega⟩
    exact ⟨r.take j, by rw [hj]; simp⟩
  rw [hx] at ht ⊢
  rw [unesc]
  simp only [↓reduceDIte]
  rw [ht, ← hx, List.drop_take]
  congr 3
  omega
theorem unesc_bare : ∀ (n : Nat) (l : List UInt8), l.length ≤ n → unesc (l.take (bare l).2) = (bare l).1 := by
  intro n
  induction n with
  | zero => intro l h; have : l = [] := List.eq_nil_of_length_eq_zero (by omega); subst this; simp [bare, unesc]
  | succ n ih =>
    intro l h
    rw [bare.eq_def]
    cases l with
    | nil => simp [unesc]
    | cons c r =>
      simp only
      split
      · simp [unesc]
      · split
        · rename_i hc; subst hc
          have h1 := une_pos r
          rw [unesc_step, ih _ (by simp at h ⊢; omega)]
        · rename_i hc
          rw [Nat.add_comm, List.take_succ_cons, unesc]
          simp only [hc, ↓reduceDIte]
          rw [ih r (by simpa using h)]
theorem unesc_quo : ∀ (n : Nat) (l : List UInt8), l.length ≤ n → ∀ p, quo l = some p → unesc (l.take p.2) = p.1 := by
  intro n
  induction n with
  | zero => intro l h p hp; have : l = [] := List.eq_nil_of_length_eq_zero (by omega); subst this; simp [quo] at hp
  | succ n ih =>
    intro l h p hp
    rw [quo.eq_def] at hp
    cases l with
    | nil => simp at hp
    | cons c r =>
      simp only at hp
      split at hp
      · cases hp; simp [unesc]
      · split at hp
        · rename_i hc; subst hc
          have h1 := une_pos r
          obtain ⟨q, hq, rfl⟩ := Option.map_eq_some_iff.1 hp
          simp only
          rw [unesc_step, ih _ (by simp at h ⊢; omega) q hq]
        · rename_i hc
          obtain ⟨q, hq, rfl⟩ := Option.map_eq_some_iff.1 hp
          simp only
          rw [Nat.add_comm, List.take_succ_cons, unesc]
          simp only [hc, ↓reduceDIte]
          rw [ih r (by simpa using h) q hq]
end Go.Proofs.YtjibdoofogmkcaaGreatDoor
end
section
namespace Go.Proofs.YtjibdoofogmkcaaGreatDoor
open Go.ChangeShapes Go.WideShapes Go.ChangeAt Go.RowKit
set_option maxRecDepth 100000
def cloV (p : Nat) : Option Nat → Int
  | none => -1
  | some k => ((p + k : Nat) : Int)
set_option maxHeartbeats 1000000 in
theorem closing_any (s : ByteArray) (hs : s.size ≤ 1000000) (p : Nat) (hp : p ≤ s.size) (w : World) :
    Calls Tryz.prog 215 #[.string s, .int .i64 (p : Int)] w fun e w' => e = .returned (.int .i64 (cloV p (clo ((L s).drop p) 0))) ∧ w = w' := by
  have hby := get_byte s
  go_enter Tryz.func215, Tryz.ntmps215
  go_wp2
  go_loopg [5, 6] (s.size + 1 - p) (fun k dv n wr => ∃ (d : Int) (i : Nat), dv = .int .i64 d ∧ n = .int .i64 (i : Int) ∧ k = s.size + 1 - i ∧ p ≤ i ∧ i ≤ s.size + 1 ∧ -(i : Int) ≤ d ∧ d ≤ (i : Int) ∧
    clo ((L s).drop p) 0 = (clo ((L s).drop i) d).map (· + (i - p)) ∧ w = wr)
  case atStart => exact ⟨0, p, rfl, rfl, by omega, by omega, by omega, by omega, by omega, by simp, rfl⟩
  case round =>
    obtain ⟨d, i, rfl, rfl, hk, hpi, his, hd1, hd2, heq, rfl⟩ := hrel
    have HK := Lib.hid hk
    have HEQ := Lib.hid heq
    have hb := byte_lt s i
    clear hk heq
    by_cases hlt : i < s.size
    · have t7 : (i : Int) < (s.size : Int) := by omega
      have hdr := L_drop s hlt
      by_cases h92 : byte s i = 92
      · have t8 : ((byte s i : Int) == 92) = true := by simp; omega
        have hc : ub s i = 92 := ub_mk s i (by decide) h92
        have HS := Lib.hid (show clo ((L s).drop i) d = (clo ((L s).drop (i + 2)) d).map (· + 2) by rw [hdr, clo_cons, if_pos hc, List.drop_drop])
        clear h92 hdr hc
        go_wp2
        go_roundg (s.size + 1 - (i + 2))
        case measure => rw [HK.out]; omega
        case rel =>
          refine ⟨d, i + 2, rfl, by go_num, rfl, by omega, by omega, by omega, by omega, ?_, rfl⟩
          rw [HEQ.out, HS.out, Option.map_map]
          congr 1; funext x; simp; omega
      · have hc : ¬ ub s i = 92 := fun h => h92 ((ub_eq s i 92 (by decide)).1 h)
        have t8 : ((byte s i : Int) == 92) = false := by simp; omega
        by_cases h123 : byte s i = 123
        · have t9 : ((byte s i : Int) == 123) = true := by simp; omega
          have hc2 : ub s i = 123 := ub_mk s i (by decide) h123
          have HS := Lib.hid (show clo ((L s).drop i) d = (clo ((L s).drop (i + 1)) (d + 1)).map (· + 1) by rw [hdr, clo_cons, if_neg hc, if_pos hc2])
          clear h92 h123 hdr hc hc2
          go_wp2
          go_roundg (s.size + 1 - (i + 1))
          case measure => rw [HK.out]; omega
          case rel =>
            refine ⟨d + 1, i + 1, rfl, by go_num, rfl, by omega, by omega, by omega, by omega, ?_, rfl⟩
            rw [HEQ.out, HS.out, Option.map_map]
            congr 1; funext x; simp; omega
        · have hc2 : ¬ ub s i = 123 := fun h => h123 ((ub_eq s i 123 (by decide)).1 h)
          have t9 : ((byte s i : Int) == 123) = false := by simp; omega
          by_cases h125 : byte s i = 125
          · have t10 : ((byte s i : Int) == 125) = true := by simp; omega
            have hc3 : ub s i = 125 := ub_mk s i (by decide) h125
            by_cases hd0 : d - 1 = 0
            · have t11 : (d - 1 == 0) = true := by simp; omega
              have t12 : (1 : Int) ≤ (i : Int) := by omega
              have t13 : (i : Int) ≤ (s.size : Int) := by omega
              have HS := Lib.hid (show clo ((L s).drop i) d = some 0 by rw [hdr, clo_cons, if_neg hc, if_neg hc2, if_pos hc3, if_pos hd0])
              clear h92 h123 h125 hdr hc hc2 hc3 hd0
              go_wp2
              go_ret
              refine ⟨ret_int ?_, rfl⟩
              rw [HEQ.out, HS.out]
              simp only [Option.map_some, cloV]
              omega
            · have t11 : (d - 1 == 0) = false := by simp; omega
              have HS := Lib.hid (show clo ((L s).drop i) d = (clo ((L s).drop (i + 1)) (d - 1)).map (· + 1) by rw [hdr, clo_cons, if_neg hc, if_neg hc2, if_pos hc3, if_neg hd0])
              clear h92 h123 h125 hdr hc hc2 hc3 hd0
              go_wp2
              go_roundg (s.size + 1 - (i + 1))
              case measure => rw [HK.out]; omega
              case rel =>
                refine ⟨d - 1, i + 1, rfl, by go_num, rfl, by omega, by omega, by omega, by omega, ?_, rfl⟩
                rw [HEQ.out, HS.out, Option.map_map]
                congr 1; funext x; simp; omega
          · have hc3 : ¬ ub s i = 125 := fun h => h125 ((ub_eq s i 125 (by decide)).1 h)
            have t10 : ((byte s i : Int) == 125) = false := by simp; omega
            have HS := Lib.hid (show clo ((L s).drop i) d = (clo ((L s).drop (i + 1)) d).map (· + 1) by rw [hdr, clo_cons, if_neg hc, if_neg hc2, if_neg hc3])
            clear h92 h123 h125 hdr hc hc2 hc3
            go_wp2
            go_roundg (s.size + 1 - (i + 1))
            case measure => rw [HK.out]; omega
            case rel =>
              refine ⟨d, i + 1, rfl, by go_num, rfl, by omega, by omega, by omega, by omega, ?_, rfl⟩
              rw [HEQ.out, HS.out, Option.map_map]
              congr 1; funext x; simp; omega
    · have t7 : ¬ (i : Int) < (s.size : Int) := by omega
      have HS := Lib.hid (show clo ((L s).drop i) d = none by rw [L_drop_end s (by omega)]; simp [clo])
      go_wp2
      go_ret
      refine ⟨ret_int ?_, rfl⟩
      rw [HEQ.out, HS.out]
      rfl
theorem L_append (a b : ByteArray) : L (a ++ b) = L a ++ L b := by
  unfold L
  simp [ByteArray.data_append]
set_option maxHeartbeats 1000000 in
theorem unescaped_any (s : ByteArray) (hs : s.size ≤ 1000000) (w : World) :
    Calls Tryz.prog 217 #[.string s] w fun e w' => e = .returned (.string ⟨(unesc (L s)).toArray⟩) ∧ Below w.heap.size w w' := by
  go_enter Tryz.func217, Tryz.ntmps217
  go_wp2
  go_loopg [0, 3, 4, 5] s.size (fun k uv ov c4 c5 wr => ∃ (u o : ByteArray), uv = .string u ∧ ov = .string o ∧ k = u.size ∧ u.size ≤ s.size ∧ o.size ≤ s.size - u.size ∧ unesc (L s) = L o ++ unesc (L u) ∧ Below w.heap.size w wr)
  case atStart => exact ⟨s, ⟨#[]⟩, rfl, rfl, rfl, by omega, Nat.zero_le _, by simp [L], Below.refl _ _⟩
  case round =>
    obtain ⟨u, o, rfl, rfl, hk, hu, ho, heq, hbel⟩ := hrel
    have HK := Lib.hid hk
    have HEQ := Lib.hid heq
    have HBEL := Lib.hid hbel
    have hsz := hbel.size
    clear hk heq hbel
    by_cases h0 : u.size = 0
    · have t5 := emp_true u h0
      have HZ := Lib.hid (show L o = unesc (L s) by rw [HEQ.out, L_empty u h0, unesc.eq_def]; simp)
      clear h0
      go_wp2
      go_ret
      refine ⟨?_, HBEL.out⟩
      rw [← HZ.out]; rfl
    · have t5 := emp_false u h0
      have t6 : (1 : Int) ≤ (u.size : Int) := by omega
      have hun := fun W => runescape_any u (by omega) W
      have hL := L_drop u (show 0 < u.size by omega)
      rw [List.drop_zero] at hL
      by_cases h92 : byte u 0 = 92
      · obtain ⟨hu1, hu2, hu3⟩ := une_at u (show 0 < u.size by omega) h92
        rw [List.drop_zero] at hu1 hu2 hu3
        have hz : unesc (L u) = (une (L u)).1 ++ unesc ((L u).drop (une (L u)).2) := by
          conv => lhs; rw [hL, unesc.eq_def]
          have hc : ub u 0 = 92 := ub_mk u 0 (by decide) h92
          simp only [hc, ↓reduceDIte]
          rw [← hc, ← hL]
        obtain ⟨x, n, hxn⟩ : ∃ x n, une (L u) = (x, n) := ⟨_, _, rfl⟩
        unfold uneV at hun
        rw [hxn] at hun hu1 hu2 hu3 hz
        dsimp only at hun hu1 hu2 hu3 hz
        have HUN := Lib.hid hun
        have HZ := Lib.hid hz
        have t7 : ((n : Int) == 0) = false := by simp; omega
        have t8 : (n : Int) ≤ (u.size : Int) := by omega
        have t9 : (0 : Int) ≤ (n : Int) := by omega
        clear hun hz hL h92 hxn
        go_wp2_with (go_at_call 216; refine (HUN.out _).mono ?_; rintro e w2 ⟨rfl, hb2⟩; dsimp only; have HB2 := Lib.hid hb2; clear hb2)
        go_roundg (u.size - n)
        case measure => rw [HK.out]; omega
        case rel =>
          refine ⟨u.extract n u.size, o ++ ⟨x.toArray⟩, rfl, rfl, by rw [ByteArray.size_extract]; omega, by rw [ByteArray.size_extract]; omega, ?_, ?_, HBEL.out.trans (HB2.out.mono hsz)⟩
          · rw [ByteArray.size_append, ByteArray.size_extract]
            have : (⟨x.toArray⟩ : ByteArray).size = x.length := by simp [ByteArray.size]
            omega
          · rw [HEQ.out, HZ.out, L_append, L_from, List.append_assoc]; rfl
      · have hc : ¬ ub u 0 = 92 := fun h => h92 ((ub_eq u 0 92 (by decide)).1 h)
        have hz : unesc (L u) = ub u 0 :: unesc ((L u).drop 1) := by
          conv => lhs; rw [hL, unesc.eq_def]
          simp only [hc, ↓reduceDIte]
        unfold uneV at hun
        rw [show une (L u) = ([], 0) by rw [hL]; exact une_other hc] at hun
        dsimp only at hun
        have HUN := Lib.hid hun
        have HZ := Lib.hid hz
        have HD := Lib.hid hL
        clear hun hz hL h92 hc
        go_wp2_with (go_at_call 216; refine (HUN.out _).mono ?_; rintro e w2 ⟨rfl, hb2⟩; dsimp only; have HB2 := Lib.hid hb2; clear hb2)
        go_roundg (u.size - 1)
        case measure => rw [HK.out]; omega
        case rel =>
          refine ⟨u.extract 1 u.size, o ++ u.extract 0 1, rfl, rfl, by rw [ByteArray.size_extract]; omega, by rw [ByteArray.size_extract]; omega, ?_, ?_, HBEL.out.trans (HB2.out.mono hsz)⟩
          · rw [ByteArray.size_append, ByteArray.size_extract, ByteArray.size_extract]
            omega
          · rw [HEQ.out, HZ.out, L_append, L_from, L_cut, List.drop_zero, HD.out, List.append_assoc]; rfl
end Go.Proofs.YtjibdoofogmkcaaGreatDoor
end
section
namespace Go.Proofs.YtjibdoofogmkcaaGreatDoor
open Go.ChangeShapes Go.WideShapes Go.ChangeAt Go.RowKit
set_option maxRecDepth 100000
def elmR (l : List UInt8) : Option (List UInt8 × Nat) :=
  match elm l with
  | none => none
  | some p => if endOk (l.drop p.2) = true then some p else none
def elmV (p : Nat) : Option (List UInt8 × Nat) → Ending
  | none => .returned (.tuple #[.string ⟨#[]⟩, .int .i64 (-1)])
  | some q => .returned (.tuple #[.string ⟨q.1.toArray⟩, .int .i64 ((p + q.2 : Nat) : Int)])
theorem elmR_none {l : List UInt8} (h : elm l = none) : elmR l = none := by unfold elmR; rw [h]
theorem elmR_some {l : List UInt8} {p : List UInt8 × Nat} (h : elm l = some p) (he : endOk (l.drop p.2) = true) : elmR l = some p := by unfold elmR; rw [h]; simp only; rw [if_pos he]
theorem elmR_bad {l : List UInt8} {p : List UInt8 × Nat} (h : elm l = some p) (he : endOk (l.drop p.2) = false) : elmR l = none := by unfold elmR; rw [h]; simp only; rw [if_neg (by rw [he]; decide)]
theorem endOk_end (s : ByteArray) {i : Nat} (h : s.size ≤ i) : endOk ((L s).drop i) = true := by rw [L_drop_end s h]; rfl
theorem endOk_at (s : ByteArray) {i : Nat} (h : i < s.size) : endOk ((L s).drop i) = whN (byte s i) := by rw [L_drop s h]; show wh _ = _; rw [wh_ub]
theorem elmV_eq {p : Nat} {q : List UInt8 × Nat} {s : ByteArray} {n : Int} (h1 : q.1 = L s) (h2 : ((p + q.2 : Nat) : Int) = n) : Ending.returned (.tuple #[.string s, .int .i64 n]) = elmV p (some q) := by
  obtain ⟨x, k⟩ := q
  subst h1
  subst h2
  rfl
set_option maxHeartbeats 2000000 in
theorem element_brace (s : ByteArray) (hs : s.size ≤ 1000000) (p : Nat) (hp : p < s.size) (h123 : byte s p = 123) (w : World) :
    Calls Tryz.prog 145 #[.string s, .int .i64 (p : Int)] w fun e w' => e = elmV p (elmR ((L s).drop p)) ∧ Below w.heap.size w w' := by
  have hby := get_byte s
  have t1 : (p : Int) < (s.size : Int) := by omega
  have t0 : (0 : Int) ≤ (p : Int) := by omega
  have hd := L_drop s hp
  have hc : ub s p = 123 := ub_mk s p (by decide) h123
  have hel : elm ((L s).drop p) = (clo ((L s).drop p) 0).map fun k => ((((L s).drop p).take k).drop 1, k + 1) := by rw [hd]; unfold elm; simp only; rw [if_pos hc]
  have hcl := fun W => closing_any s hs p (by omega) W
  cases ho : clo ((L s).drop p) 0 with
  | none =>
    rw [ho] at hel hcl
    have HC := Lib.hid hcl
    have HZ := Lib.hid (elmR_none hel)
    have tb : ((byte s p : Int) == 123) = true := by simp; omega
    clear hel hcl hd hc h123 ho
    go_enter Tryz.func145, Tryz.ntmps145
    go_wp2_with (go_at_call 215; refine (HC.out _).mono ?_; rintro e w' ⟨rfl, rfl⟩; dsimp only [cloV])
    go_ret2
    refine ⟨?_, Below.refl _ _⟩
    rw [HZ.out]; rfl
  | some k =>
    have hk1 : 1 ≤ k := by
      rw [hd, clo_cons, if_neg (by rw [hc]; decide), if_pos hc] at ho
      obtain ⟨j, _, hj⟩ := Option.map_eq_some_iff.1 ho
      omega
    have hk2 := clo_len _ _ _ (Nat.le_refl _) _ ho
    rw [List.length_drop, L_len] at hk2
    rw [ho] at hel hcl
    dsimp only [cloV] at hcl
    rw [show ((p + k : Nat) : Int) = (p : Int) + (k : Int) by omega] at hcl
    have HC := Lib.hid hcl
    have u1 : ¬ (p : Int) + (k : Int) < 0 := by omega
    have u2 : (p : Int) + 1 ≤ (p : Int) + (k : Int) := by omega
    have u3 : (p : Int) + (k : Int) ≤ (s.size : Int) := by omega
    have u4 : (0 : Int) ≤ (p : Int) + 1 := by omega
    have hel2 : elm ((L s).drop p) = some ((((L s).drop p).take k).drop 1, k + 1) := hel
    have htx : (((L s).drop p).take k).drop 1 = L (s.extract (p + 1) (p + k)) := by
      rw [L_cut, List.drop_take, List.drop_drop]
      congr 1; omega
    have HT := Lib.hid htx
    clear hel hcl hd hc ho htx
    have tb : ((byte s p : Int) == 123) = true := by simp; omega
    clear h123
    by_cases hlt : p + (k + 1) < s.size
    · have t7 : ((p : Int) + (k : Int) + 1 : Int) < (s.size : Int) := by omega
      have hbe := byte_lt s (p + (k + 1))
      cases hwm : whN (byte s (p + (k + 1))) with
      | true =>
        have HZ := Lib.hid (elmR_some hel2 (by rw [List.drop_drop]; exact (endOk_at s hlt).trans hwm))
        clear hel2
        have hbe2 : byte s (p + k + 1) = byte s (p + (k + 1)) := rfl
        go_enter Tryz.func145, Tryz.ntmps145
        go_wp2_with (first | (go_at_call 215; refine (HC.out _).mono ?_; rintro e w' ⟨rfl, rfl⟩) | (go_at_call 144; refine (rwhite_any _ hbe _).mono ?_; rintro e w' ⟨rfl, rfl⟩; rw [hwm]))
        go_ret2
        refine ⟨?_, Below.refl _ _⟩
        rw [HZ.out]
        exact elmV_eq HT.out (by simp; omega)
      | false =>
        have HZ := Lib.hid (elmR_bad hel2 (by rw [List.drop_drop]; exact (endOk_at s hlt).trans hwm))
        clear hel2
        have hbe2 : byte s (p + k + 1) = byte s (p + (k + 1)) := rfl
        go_enter Tryz.func145, Tryz.ntmps145
        go_wp2_with (first | (go_at_call 215; refine (HC.out _).mono ?_; rintro e w' ⟨rfl, rfl⟩) | (go_at_call 144; refine (rwhite_any _ hbe _).mono ?_; rintro e w' ⟨rfl, rfl⟩; rw [hwm]))
        go_ret2
        refine ⟨?_, Below.refl _ _⟩
        rw [HZ.out]; rfl
    · have t7 : ¬ ((p : Int) + (k : Int) + 1 : Int) < (s.size : Int) := by omega
      have HZ := Lib.hid (elmR_some hel2 (by rw [List.drop_drop]; exact endOk_end s (by simp; omega)))
      clear hel2
      go_enter Tryz.func145, Tryz.ntmps145
      go_wp2_with (go_at_call 215; refine (HC.out _).mono ?_; rintro e w' ⟨rfl, rfl⟩)
      go_ret2
      refine ⟨?_, Below.refl _ _⟩
      rw [HZ.out]
      exact elmV_eq HT.out (by simp; omega)
end Go.Proofs.YtjibdoofogmkcaaGreatDoor
end
section
namespace Go.Proofs.YtjibdoofogmkcaaGreatDoor
open Go.ChangeShapes Go.WideShapes Go.ChangeAt Go.RowKit
set_option maxRecDepth 100000
theorem unesc_cut_quo (s : ByteArray) (p e : Nat) (pre : List UInt8) (h : quo ((L s).drop (p + 1)) = some (pre, e - (p + 1))) : unesc (L (s.extract (p + 1) e)) = pre := by
  rw [L_cut]
  exact unesc_quo _ _ (Nat.le_refl _) _ h
theorem unesc_cut_bare (s : ByteArray) (p e : Nat) (pre : List UInt8) (h : bare ((L s).drop p) = (pre, e - p)) : unesc (L (s.extract p e)) = pre := by
  rw [L_cut]
  have := unesc_bare _ ((L s).drop p) (Nat.le_refl _)
  rw [h] at this
  exact this
set_option maxHeartbeats 2000000 in
theorem element_quote (s : ByteArray) (hs : s.size ≤ 1000000) (p : Nat) (hp : p < s.size) (h34 : byte s p = 34) (w : World) :
    Calls Tryz.prog 145 #[.string s, .int .i64 (p : Int)] w fun e w' => e = elmV p (elmR ((L s).drop p)) ∧ Below w.heap.size w w' := by
  have hby := get_byte s
  have t1 : (p : Int) < (s.size : Int) := by omega
  have t0 : (0 : Int) ≤ (p : Int) := by omega
  have hd := L_drop s hp
  have hc : ub s p = 34 := ub_mk s p (by decide) h34
  have hel : elm ((L s).drop p) = (quo ((L s).drop (p + 1))).map fun q => (q.1, q.2 + 2) := by rw [hd]; unfold elm; simp only; rw [if_neg (by rw [hc]; decide), if_pos hc]
  have HEL := Lib.hid hel
  have tb : ((byte s p : Int) == 34) = true := by simp; omega
  have ta : ((byte s p : Int) == 123) = false := by simp; omega
  clear hel hd hc h34
  go_enter Tryz.func145, Tryz.ntmps145
  go_wp2
  go_loopg [7, 9, 10] (s.size - (p + 1)) (fun k ev c9 c10 wr => ∃ (i : Nat) (pre : List UInt8), ev = .int .i64 (i : Int) ∧ k = s.size - i ∧ p + 1 ≤ i ∧ i ≤ s.size ∧ quo ((L s).drop (p + 1)) = (quo ((L s).drop i)).map (fun q => (pre ++ q.1, i - (p + 1) + q.2)) ∧ Below w.heap.size w wr)
  case atStart => exact ⟨p + 1, [], by go_num, rfl, by omega, by omega, by simp, Below.refl _ _⟩
  case round =>
    obtain ⟨i, pre, rfl, hk, hi1, hi2, heq, hbel⟩ := hrel
    have HK := Lib.hid hk
    have HEQ := Lib.hid heq
    have HBEL := Lib.hid hbel
    have hsz := hbel.size
    clear hk heq hbel
    have hbi := byte_lt s i
    by_cases hli : i < s.size
    · have t2 : (i : Int) < (s.size : Int) := by omega
      have t3 : (0 : Int) ≤ (i : Int) := by omega
      have t4 : (i : Int) ≤ (s.size : Int) := by omega
      by_cases h34 : byte s i = 34
      · have t5 : ((byte s i : Int) == 34) = true := by simp; omega
        have hq : quo ((L s).drop (p + 1)) = some (pre, i - (p + 1)) := by rw [HEQ.out, quo_stop s hli h34]; simp
        have hun := fun W => unescaped_any (s.extract (p + 1) i) (by rw [ByteArray.size_extract]; omega) W
        rw [unesc_cut_quo s p i pre hq] at hun
        have HUN := Lib.hid hun
        have hel2 : elm ((L s).drop p) = some (pre, i - (p + 1) + 2) := by rw [HEL.out, hq]; rfl
        have u1 : (p : Int) + 1 ≤ (i : Int) := by omega
        have u4 : (0 : Int) ≤ (p : Int) + 1 := by omega
        have u5 : ¬ (s.size : Int) ≤ (i : Int) := by omega
        clear hq hun h34
        by_cases hlt : i + 1 < s.size
        · have t7 : (i : Int) + 1 < (s.size : Int) := by omega
          have hbe := byte_lt s (i + 1)
          cases hwm : whN (byte s (i + 1)) with
          | true =>
            have HZ := Lib.hid (elmR_some hel2 (by rw [List.drop_drop, show p + (i - (p + 1) + 2) = i + 1 by omega]; exact (endOk_at s hlt).trans hwm))
            clear hel2
            go_wp2_with (first | (go_at_call 217; refine (HUN.out _).mono ?_; rintro e w2 ⟨rfl, hb2⟩; dsimp only; have HB2 := Lib.hid hb2; clear hb2) | (go_at_call 144; refine (rwhite_any _ hbe _).mono ?_; rintro e w' ⟨rfl, rfl⟩; rw [hwm]))
            go_ret2
            refine ⟨?_, HBEL.out.trans (HB2.out.mono hsz)⟩
            rw [HZ.out]
            exact elmV_eq rfl (by simp; omega)
          | false =>
            have HZ := Lib.hid (elmR_bad hel2 (by rw [List.drop_drop, show p + (i - (p + 1) + 2) = i + 1 by omega]; exact (endOk_at s hlt).trans hwm))
            clear hel2
            go_wp2_with (first | (go_at_call 217; refine (HUN.out _).mono ?_; rintro e w2 ⟨rfl, hb2⟩; dsimp only; have HB2 := Lib.hid hb2; clear hb2) | (go_at_call 144; refine (rwhite_any _ hbe _).mono ?_; rintro e w' ⟨rfl, rfl⟩; rw [hwm]))
            go_ret2
            refine ⟨?_, HBEL.out.trans (HB2.out.mono hsz)⟩
            rw [HZ.out]; rfl
        · have t7 : ¬ (i : Int) + 1 < (s.size : Int) := by omega
          have HZ := Lib.hid (elmR_some hel2 (by rw [List.drop_drop]; exact endOk_end s (by simp; omega)))
          clear hel2
          go_wp2_with (go_at_call 217; refine (HUN.out _).mono ?_; rintro e w2 ⟨rfl, hb2⟩; dsimp only; have HB2 := Lib.hid hb2; clear hb2)
          go_ret2
          refine ⟨?_, HBEL.out.trans (HB2.out.mono hsz)⟩
          rw [HZ.out]
          exact elmV_eq rfl (by simp; omega)
      · skip
        have hun := fun W => runescape_any (s.extract i s.size) (by rw [ByteArray.size_extract]; omega) W
        rw [L_from] at hun
        have t5 : ((byte s i : Int) == 34) = false := by simp; omega
        by_cases h92 : byte s i = 92
        · obtain ⟨hu1, hu2, hu3⟩ := une_at s hli h92
          have HZ := Lib.hid (quo_esc s hli h92)
          obtain ⟨x, n, hxn⟩ : ∃ x n, une ((L s).drop i) = (x, n) := ⟨_, _, rfl⟩
          unfold uneV at hun
          rw [hxn] at hun hu1 hu2 hu3 HZ
          dsimp only at hun hu1 hu2 hu3 HZ
          have HUN := Lib.hid hun
          have t6 : ¬ (n : Int) < 1 := by omega
          have t7 : (1 : Int) ≤ (n : Int) := by omega
          clear hun hxn h92 h34
          go_wp2_with (go_at_call 216; refine (HUN.out _).mono ?_; rintro e w2 ⟨rfl, hb2⟩; dsimp only; have HB2 := Lib.hid hb2; clear hb2)
          all_goals
            go_roundg (s.size - (i + n))
            case measure => rw [HK.out]; omega
            case rel =>
              refine ⟨i + n, pre ++ x, by first | go_num | (simp; omega), rfl, by omega, by omega, ?_, HBEL.out.trans (HB2.out.mono hsz)⟩
              rw [HEQ.out, HZ.out, Option.map_map]
              congr 1; funext q; simp; omega
        · have HZ := Lib.hid (quo_plain s hli h34 h92)
          unfold uneV at hun
          rw [show une ((L s).drop i) = ([], 0) by rw [L_drop s hli]; exact une_other (fun h => h92 ((ub_eq s i 92 (by decide)).1 h))] at hun
          dsimp only at hun
          have HUN := Lib.hid hun
          clear hun h92 h34
          go_wp2_with (go_at_call 216; refine (HUN.out _).mono ?_; rintro e w2 ⟨rfl, hb2⟩; dsimp only; have HB2 := Lib.hid hb2; clear hb2)
          all_goals
            go_roundg (s.size - (i + 1))
            case measure => rw [HK.out]; omega
            case rel =>
              refine ⟨i + 1, pre ++ [ub s i], by first | go_num | (simp; omega), rfl, by omega, by omega, ?_, HBEL.out.trans (HB2.out.mono hsz)⟩
              rw [HEQ.out, HZ.out, Option.map_map]
              congr 1; funext q; simp; omega
    · have t2 : ¬ (i : Int) < (s.size : Int) := by omega
      have u5 : (s.size : Int) ≤ (i : Int) := by omega
      have HZ := Lib.hid (elmR_none (show elm ((L s).drop p) = none by rw [HEL.out, HEQ.out, quo_end s (show s.size ≤ i by omega)]; rfl))
      go_wp2
      go_ret2
      refine ⟨?_, HBEL.out⟩
      rw [HZ.out]; rfl
set_option maxHeartbeats 2000000 in
theorem element_bare (s : ByteArray) (hs : s.size ≤ 1000000) (p : Nat) (hp : p < s.size) (h123 : ¬ byte s p = 123) (h34 : ¬ byte s p = 34) (w : World) :
    Calls Tryz.prog 145 #[.string s, .int .i64 (p : Int)] w fun e w' => e = elmV p (elmR ((L s).drop p)) ∧ Below w.heap.size w w' := by
  have hby := get_byte s
  have t1 : (p : Int) < (s.size : Int) := by omega
  have t0 : (0 : Int) ≤ (p : Int) := by omega
  have hd := L_drop s hp
  have hc : ¬ ub s p = 123 := fun h => h123 ((ub_eq s p 123 (by decide)).1 h)
  have hc2 : ¬ ub s p = 34 := fun h => h34 ((ub_eq s p 34 (by decide)).1 h)
  have hel : elm ((L s).drop p) = some (bare ((L s).drop p)) := by rw [hd]; unfold elm; simp only; rw [if_neg hc, if_neg hc2]
  have HEL := Lib.hid hel
  have tb : ((byte s p : Int) == 34) = false := by simp; omega
  have ta : ((byte s p : Int) == 123) = false := by simp; omega
  clear hel hd hc hc2 h34 h123
  go_enter Tryz.func145, Tryz.ntmps145
  go_wp2
  go_loopg [7, 11, 12] (s.size - p) (fun k ev c9 c10 wr => ∃ (i : Nat) (pre : List UInt8), ev = .int .i64 (i : Int) ∧ k = s.size - i ∧ p ≤ i ∧ i ≤ s.size ∧ bare ((L s).drop p) = (pre ++ (bare ((L s).drop i)).1, i - p + (bare ((L s).drop i)).2) ∧ Below w.heap.size w wr)
  case atStart => exact ⟨p, [], rfl, rfl, by omega, by omega, by simp, Below.refl _ _⟩
  case round =>
    obtain ⟨i, pre, rfl, hk, hi1, hi2, heq, hbel⟩ := hrel
    have HK := Lib.hid hk
    have HEQ := Lib.hid heq
    have HBEL := Lib.hid hbel
    have hsz := hbel.size
    clear hk heq hbel
    have hbe := byte_lt s i
    have t3 : (0 : Int) ≤ (i : Int) := by omega
    have t4 : (i : Int) ≤ (s.size : Int) := by omega
    have u1 : (p : Int) ≤ (i : Int) := by omega
    have fin : bare ((L s).drop i) = ([], 0) → endOk ((L s).drop i) = true → (∀ W, Calls Tryz.prog 217 #[.string (s.extract p i)] W fun e w' => e = .returned (.string ⟨pre.toArray⟩) ∧ Below W.heap.size W w') ∧ elmR ((L s).drop p) = some (pre, i - p) := by
      intro h1 h2
      have hb : bare ((L s).drop p) = (pre, i - p) := by rw [HEQ.out, h1]; simp
      refine ⟨fun W => ?_, elmR_some (by rw [HEL.out, hb]) (by rw [List.drop_drop, show p + (i - p) = i by omega]; exact h2)⟩
      have := unescaped_any (s.extract p i) (by rw [ByteArray.size_extract]; omega) W
      rw [unesc_cut_bare s p i pre hb] at this
      exact this
    have FIN := Lib.hid fin
    clear fin
    by_cases hli : i < s.size
    · have t2 : (i : Int) < (s.size : Int) := by omega
      cases hwm : whN (byte s i) with
      | true =>
        obtain ⟨hun, hz⟩ := FIN.out (bare_white s hli hwm) ((endOk_at s hli).trans hwm)
        have HUN := Lib.hid hun
        have HZ := Lib.hid hz
        clear hun hz
        go_wp2_with (first | (go_at_call 144; refine (rwhite_any _ hbe _).mono ?_; rintro e w' ⟨rfl, rfl⟩; rw [hwm]) | (go_at_call 217; refine (HUN.out _).mono ?_; rintro e w2 ⟨rfl, hb2⟩; dsimp only; have HB2 := Lib.hid hb2; clear hb2))
        go_ret2
        refine ⟨?_, HBEL.out.trans (HB2.out.mono hsz)⟩
        rw [HZ.out]
        exact elmV_eq rfl (by simp; omega)
      | false =>
        have hun := fun W => runescape_any (s.extract i s.size) (by rw [ByteArray.size_extract]; omega) W
        rw [L_from] at hun
        by_cases h92 : byte s i = 92
        · obtain ⟨hu1, hu2, hu3⟩ := une_at s hli h92
          have HZ := Lib.hid (bare_esc s hli hwm h92)
          obtain ⟨x, n, hxn⟩ : ∃ x n, une ((L s).drop i) = (x, n) := ⟨_, _, rfl⟩
          unfold uneV at hun
          rw [hxn] at hun hu1 hu2 hu3 HZ
          dsimp only at hun hu1 hu2 hu3 HZ
          have HUN := Lib.hid hun
          have t6 : ¬ (n : Int) < 1 := by omega
          have t7 : (1 : Int) ≤ (n : Int) := by omega
          clear hun hxn h92
          go_wp2_with (first | (go_at_call 144; refine (rwhite_any _ hbe _).mono ?_; rintro e w' ⟨rfl, rfl⟩; rw [hwm]) | (go_at_call 216; refine (HUN.out _).mono ?_; rintro e w2 ⟨rfl, hb2⟩; dsimp only; have HB2 := Lib.hid hb2; clear hb2))
          all_goals
            go_roundg (s.size - (i + n))
            case measure => rw [HK.out]; omega
            case rel =>
              refine ⟨i + n, pre ++ x, by first | go_num | (simp; omega), rfl, by omega, by omega, ?_, HBEL.out.trans (HB2.out.mono hsz)⟩
              rw [HEQ.out, HZ.out]
              simp; omega
        · have HZ := Lib.hid (bare_plain s hli hwm h92)
          unfold uneV at hun
          rw [show une ((L s).drop i) = ([], 0) by rw [L_drop s hli]; exact une_other (fun h => h92 ((ub_eq s i 92 (by decide)).1 h))] at hun
          dsimp only at hun
          have HUN := Lib.hid hun
          clear hun h92
          go_wp2_with (first | (go_at_call 144; refine (rwhite_any _ hbe _).mono ?_; rintro e w' ⟨rfl, rfl⟩; rw [hwm]) | (go_at_call 216; refine (HUN.out _).mono ?_; rintro e w2 ⟨rfl, hb2⟩; dsimp only; have HB2 := Lib.hid hb2; clear hb2))
          all_goals
            go_roundg (s.size - (i + 1))
            case measure => rw [HK.out]; omega
            case rel =>
              refine ⟨i + 1, pre ++ [ub s i], by first | go_num | (simp; omega), rfl, by omega, by omega, ?_, HBEL.out.trans (HB2.out.mono hsz)⟩
              rw [HEQ.out, HZ.out]
              simp; omega
    · have t2 : ¬ (i : Int) < (s.size : Int) := by omega
      obtain ⟨hun, hz⟩ := FIN.out (bare_end s (by omega)) (endOk_end s (by omega))
      have HUN := Lib.hid hun
      have HZ := Lib.hid hz
      clear hun hz
      go_wp2_with (go_at_call 217; refine (HUN.out _).mono ?_; rintro e w2 ⟨rfl, hb2⟩; dsimp only; have HB2 := Lib.hid hb2; clear hb2)
      go_ret2
      refine ⟨?_, HBEL.out.trans (HB2.out.mono hsz)⟩
      rw [HZ.out]
      exact elmV_eq rfl (by simp; omega)
theorem element_any (s : ByteArray) (hs : s.size ≤ 1000000) (p : Nat) (hp : p < s.size) (w : World) :
    Calls Tryz.prog 145 #[.string s, .int .i64 (p : Int)] w fun e w' => e = elmV p (elmR ((L s).drop p)) ∧ Below w.heap.size w w' := by
  by_cases h1 : byte s p = 123
  · exact element_brace s hs p hp h1 w
  · by_cases h2 : byte s p = 34
    · exact element_quote s hs p hp h2 w
    · exact element_bare s hs p hp h1 h2 w
end Go.Proofs.YtjibdoofogmkcaaGreatDoor
end
section
namespace Go.Proofs.YtjibdoofogmkcaaGreatDoor
open Go.ChangeShapes Go.WideShapes Go.ChangeAt Go.RowKit
set_option maxRecDepth 100000
theorem spl_stepR {l : List UInt8} {c : UInt8} {r : List UInt8} (hl : l = c :: r) (hw : wh c = false) {p : List UInt8 × Nat} (h : elmR l = some p) : spl l = (spl (l.drop p.2)).map (p.1 :: ·) ∧ 1 ≤ p.2 ∧ p.2 ≤ l.length := by
  subst hl
  unfold elmR at h
  cases he : elm (c :: r) with
  | none => rw [he] at h; cases h
  | some q =>
    rw [he] at h
    simp only at h
    split at h
    · cases h
      rename_i hk
      exact ⟨by rw [spl_some hw he, if_pos hk], elm_pos hw he, elm_len he⟩
    · cases h
theorem spl_failR {l : List UInt8} {c : UInt8} {r : List UInt8} (hl : l = c :: r) (hw : wh c = false) (h : elmR l = none) : spl l = none := by
  subst hl
  unfold elmR at h
  cases he : elm (c :: r) with
  | none => exact spl_none hw he
  | some q =>
    rw [he] at h
    simp only at h
    split at h
    · cases h
    · rename_i hk; rw [spl_some hw he, if_neg hk]
def SplitR (w : World) (s : ByteArray) (e : Ending) (w' : World) : Prop :=
    (∀ xs, spl (L s) = some xs → ∃ sv, e = .returned (.tuple #[sv, .int .i64 0, .int .i64 0]) ∧ w'.ownsRow w.heap.size 9 1 sv xs.length (xs.map strV)) ∧
    (spl (L s) = none → ∃ at_ : Int, e = .returned (.tuple #[.slice none 0 0, .int .i64 at_, .int .i64 2])) ∧ Below w.heap.size w w'
set_option maxHeartbeats 4000000 in
theorem rsplit_any (s : ByteArray) (hs : s.size ≤ 1000) (w : World) : Calls Tryz.prog 84 #[.string s] w fun e w' => SplitR w s e w' := by
  have hby := get_byte s
  obtain ⟨i0, hi, hz0, hz1, hz2⟩ := info_parts info9
  go_enter Tryz.func84, Tryz.ntmps84
  go_wp2
  go_loopg [2, 5, 6, 7] (s.size + 1) (fun k lv iv c6 c7 wr => ∃ (i : Nat) (pre : List (List UInt8)) (va : Option Addr) (vc : Nat), lv = .slice va pre.length vc ∧ iv = .int .i64 (i : Int) ∧ k = s.size + 1 - i ∧ i ≤ s.size ∧ pre.length ≤ i ∧
    spl (L s) = (spl ((L s).drop i)).map (pre ++ ·) ∧ wr.ownsRow w.heap.size 9 1 (.slice va pre.length vc) pre.length (pre.map strV) ∧ Below w.heap.size w wr)
  case atStart => exact ⟨0, [], none, 0, rfl, rfl, rfl, by omega, by simp, by simp, World.ownsRow_nil w _ 9 1, Below.refl _ _⟩
  case round =>
    obtain ⟨i, pre, va, vc, rfl, rfl, hk, his, hpl, heq, hrow, hbel⟩ := hrel
    have HK := Lib.hid hk
    have HEQ := Lib.hid heq
    have HR := Lib.hid hrow
    have HBEL := Lib.hid hbel
    have hsz := hbel.size
    clear hk heq hrow hbel
    go_wp2
    go_loopg [5] (s.size - i) (fun k jv wq => ∃ j : Nat, jv = .int .i64 (j : Int) ∧ k = s.size - j ∧ i ≤ j ∧ j ≤ s.size ∧ spl ((L s).drop i) = spl ((L s).drop j) ∧ wr = wq)
    case atStart => exact ⟨i, rfl, rfl, by omega, by omega, rfl, rfl⟩
    case round =>
      obtain ⟨j, rfl, hk2, hij, hjs, heq2, rfl⟩ := hrel
      have HK2 := Lib.hid hk2
      have HEQ2 := Lib.hid heq2
      have hbj := byte_lt s j
      clear hk2 heq2
      by_cases hlt : j < s.size
      · have t1 : (j : Int) < (s.size : Int) := by omega
        have hdj := L_drop s hlt
        cases hw : whN (byte s j) with
        | true =>
          have HZ := Lib.hid (show spl ((L s).drop j) = spl ((L s).drop (j + 1)) by rw [hdj]; exact spl_white (by rw [wh_ub]; exact hw))
          clear hdj
          go_wp2_with (go_at_call 144; refine (rwhite_any _ hbj _).mono ?_; rintro e w' ⟨rfl, rfl⟩; rw [hw])
          go_roundg (s.size - (j + 1))
          case measure => rw [HK2.out]; omega
          case rel => exact ⟨j + 1, by go_num, rfl, by omega, by omega, by rw [HEQ2.out, HZ.out], rfl⟩
        | false =>
          have t2 : ((j : Int) == (s.size : Int)) = false := by simp; omega
          have hel := fun W => element_any s (by omega) j hlt W
          have hwf : wh (ub s j) = false := by rw [wh_ub]; exact hw
          cases hr : elmR ((L s).drop j) with
          | none =>
            have HZ := Lib.hid (spl_failR hdj hwf hr)
            rw [hr] at hel
            dsimp only [elmV] at hel
            have HEL := Lib.hid hel
            clear hel hdj hr hwf
            go_wp2_with (first | (go_at_call 144; refine (rwhite_any _ hbj _).mono ?_; rintro e w' ⟨rfl, rfl⟩; rw [hw]) | (go_at_call 145; refine (HEL.out _).mono ?_; rintro e w2 ⟨rfl, hb2⟩; dsimp only; have HB2 := Lib.hid hb2; clear hb2))
            go_ret3
            refine ⟨fun xs hxs => ?_, fun _ => ⟨_, rfl⟩, HBEL.out.trans (HB2.out.mono hsz)⟩
            rw [HEQ.out, HEQ2.out, HZ.out] at hxs
            cases hxs
          | some p =>
            obtain ⟨hz, hp1, hp2⟩ := spl_stepR hdj hwf hr
            rw [List.length_drop, L_len] at hp2
            rw [List.drop_drop] at hz
            rw [hr] at hel
            dsimp only [elmV] at hel
            obtain ⟨px, pn⟩ := p
            dsimp only at hel hz hp1 hp2
            rw [show ((j + pn : Nat) : Int) = (j : Int) + (pn : Int) by omega] at hel
            have HZ := Lib.hid hz
            have HEL := Lib.hid hel
            have t3 : ¬ (j : Int) + (pn : Int) < 0 := by omega
            clear hel hdj hr hwf hz
            go_wp2_with (first | (go_at_call 144; refine (rwhite_any _ hbj _).mono ?_; rintro e w' ⟨rfl, rfl⟩; rw [hw]) | (go_at_call 145; refine (HEL.out _).mono ?_; rintro e w2 ⟨rfl, hb2⟩; dsimp only; have HB2 := Lib.hid hb2; have hsz2 := hb2.size; clear hb2) | (at_builtin; refine wpList_append_own _ rfl _ _ 22 rfl w.heap.size 9 i0 (.string ⟨#[]⟩) 1 16 Tryz.underlying22 hi hz0 hz1 hz2 rfl (by decide) _ _ _ rfl ((ownsRow_below HR.out HB2.out).alloc _) ⟨w2.heap.size, 0, none⟩ 1 1 [.string ⟨px.toArray⟩] rfl rfl (cell_one_new _ _ _) (by simp [Value.oneCell']) (by simp only [maxLen]; omega) (by omega) (by simp; omega) ?_; intro v' w3 hown' hgrow _; obtain ⟨g', cap', rfl⟩ := ownsRow_succ hown'; have HO := Lib.hid hown'; have HG := Lib.hid hgrow; clear hown' hgrow))
            have hown := HO.out
            have hgr := HG.out
            have hb3 : Below w.heap.size w2 w3 := ((Below.refl w.heap.size w2).alloc (by omega) _).grown hgr (by simp; omega) (fun k hk => (HR.out.lt k hk).1)
            go_roundg (s.size + 1 - (j + pn))
            case measure => rw [HK.out]; omega
            case rel =>
              refine ⟨j + pn, pre ++ [px], some ⟨g', 0, none⟩, cap', by simp, by go_num, rfl, by omega, by simp; omega, ?_, ?_, (HBEL.out.trans (HB2.out.mono hsz)).trans hb3⟩
              · rw [HEQ.out, HEQ2.out, HZ.out, Option.map_map]
                congr 1; funext q; simp
              · simpa [strV] using hown
      · have hje : j = s.size := by omega
        have t1 : ¬ (j : Int) < (s.size : Int) := by omega
        have t2 : ((j : Int) == (s.size : Int)) = true := by simp; omega
        have t3 : ¬ (10000 : Int) < (pre.length : Int) := by omega
        have HZ := Lib.hid (show spl ((L s).drop j) = some [] by rw [L_drop_end s (by omega)]; simp [spl])
        clear hje
        go_wp2
        go_ret3
        refine ⟨fun xs hxs => ?_, fun hn => ?_, HBEL.out⟩
        · rw [HEQ.out, HEQ2.out, HZ.out] at hxs
          cases hxs
          exact ⟨_, rfl, by simpa using HR.out⟩
        · rw [HEQ.out, HEQ2.out, HZ.out] at hn
          cases hn
end Go.Proofs.YtjibdoofogmkcaaGreatDoor
end
section
namespace Go.Proofs.YtjibdoofogmkcaaGreatDoor
open Go.ChangeShapes Go.WideShapes Go.ChangeAt Go.RowKit
def Rows2 (W : World) (v : Value) (ls : List (List (List UInt8))) : Prop :=
  ∃ a c, v = .slice a ls.length c ∧ ∀ (i : Nat) (l : List (List UInt8)), ls[i]? = some l → ∃ p u, a = some p ∧ W.cell? (p.add i) = some u ∧ OwnTx W 0 u l
theorem Rows2.later {W W' : World} {v : Value} {ls : List (List (List UInt8))} (h : Rows2 W v ls) (hb : Below W.heap.size W W') : Rows2 W' v ls := by
  obtain ⟨a, c, rfl, h2⟩ := h
  refine ⟨a, c, rfl, fun i l hi => ?_⟩
  obtain ⟨p, u, h3, h4, h5⟩ := h2 i l hi
  exact ⟨p, u, h3, cell_later h4 hb, h5.later hb⟩
def OwnRows (W : World) (m : Nat) (v : Value) (ls : List (List (List UInt8))) : Prop :=
  ∃ us, W.ownsRow m 22 1 v ls.length us ∧ ∀ (i : Nat) (l : List (List UInt8)), ls[i]? = some l → ∃ u, us[i]? = some u ∧ OwnTx W 0 u l
theorem OwnRows.later {W W' : World} {m : Nat} {v : Value} {ls : List (List (List UInt8))} (h : OwnRows W m v ls) (hb : Below W.heap.size W W') : OwnRows W' m v ls := by
  obtain ⟨us, h1, h2⟩ := h
  refine ⟨us, ownsRow_below h1 hb, fun i l hi => ?_⟩
  obtain ⟨u, h3, h4⟩ := h2 i l hi
  exact ⟨u, h3, h4.later hb⟩
theorem OwnRows.nil (W : World) (m : Nat) : OwnRows W m (.slice none 0 0) [] := ⟨[], World.ownsRow_nil W m 22 1, fun i l hi => by simp at hi⟩
theorem OwnRows.rows {W : World} {m : Nat} {v : Value} {ls : List (List (List UInt8))} (h : OwnRows W m v ls) : Rows2 W v ls := by
  obtain ⟨us, h1, h2⟩ := h
  rcases h1.2 with ⟨hv, h0⟩ | ⟨g, cap, cur, rfl, _⟩
  · exact ⟨none, 0, by rw [hv, h0], fun i l hi => by
      have : ls = [] := List.eq_nil_of_length_eq_zero h0
      subst this; simp at hi⟩
  · refine ⟨some ⟨g, 0, none⟩, cap, rfl, fun i l hi => ?_⟩
    obtain ⟨u, h3, h4⟩ := h2 i l hi
    exact ⟨_, u, rfl, h1.cells (g := g) rfl i u h3, h4⟩
theorem row_apart {w w0 w' : World} {m e size n : Nat} {u u' v : Value} {xs : List Value} (hv : w.ownsRow m e size v n xs) (ha : Apart u v) (hs : w.heap.size ≤ w0.heap.size) (hold : ∀ k, k < w.heap.size → w0.heap[k]? = w.heap[k]?)
    (hg : w0.grownBy w' u.ownBlock) (hn : SameOrNew w0 u u') : w'.ownsRow m e size v n xs ∧ Apart u' v := by
  refine ⟨ownsRow_agree hv fun k hk => ?_, fun k hk hk2 => ?_⟩
  · have hlt := (hv.lt k hk).2
    rw [hg.block k (by omega) (fun e => ha k e.symm hk), hold k hlt]
  · rcases hn with h | h
    · exact ha k (by rw [← h]; exact hk) hk2
    · have := h k hk
      have := (hv.lt k hk2).2
      omega
theorem apart_types {w : World} {m m' e e' size size' n n' : Nat} {u v : Value} {xs ys : List Value} (hu : w.ownsRow m e size u n xs) (hv : w.ownsRow m' e' size' v n' ys) (he : e ≠ e') : Apart u v := by
  intro k h1 h2
  obtain ⟨c, hc⟩ := ownsRow_blk hu h1
  obtain ⟨d, hd⟩ := ownsRow_blk hv h2
  rw [hc] at hd
  cases hd
  exact he rfl
theorem OwnRows.snoc {W W2 : World} {m : Nat} {v v' x : Value} {ls : List (List (List UInt8))} {us : List Value} {l : List (List UInt8)} {tmp : Obj} (h1 : W.ownsRow m 22 1 v ls.length us) (h2 : ∀ (i : Nat) (l : List (List UInt8)), ls[i]? = some l → ∃ u, us[i]? = some u ∧ OwnTx W 0 u l)
    (hul : us.length = ls.length) (hx : OwnTx W 0 x l) (o : W2.ownsRow m 22 1 v' (ls.length + 1) (us ++ [x])) (g : (W.alloc tmp).grownBy W2 v.ownBlock) : OwnRows W2 m v' (ls ++ [l]) := by
  have keep : ∀ {y : Value} {t : List (List UInt8)}, OwnTx W 0 y t → OwnTx W2 0 y t := fun {y t} hy => by
    refine ownsRow_agree hy fun k hk => ?_
    have hlt := (hy.lt k hk).2
    rw [g.block k (by simp; omega) (fun e => apart_types h1 hy (by decide) k e.symm hk), heap_alloc_old W _ hlt]
  refine ⟨us ++ [x], by simpa using o, fun i t hi => ?_⟩
  by_cases hlt : i < ls.length
  · rw [List.getElem?_append_left hlt] at hi
    obtain ⟨u, h3, h4⟩ := h2 i t hi
    exact ⟨u, by rw [List.getElem?_append_left (by omega)]; exact h3, keep h4⟩
  · have hil : i = ls.length := by
      have := (List.getElem?_eq_some_iff.1 hi).1
      simp at this; omega
    subst hil
    rw [List.getElem?_append_right (Nat.le_refl _)] at hi
    simp at hi
    subst hi
    exact ⟨x, by rw [List.getElem?_append_right (by omega)]; simp [hul], keep hx⟩
theorem ownsRow_len {W : World} {m e n : Nat} {v : Value} {xs : List Value} (h : W.ownsRow m e 1 v n xs) : xs.length = n := by have := h.1; omega
theorem info22 : (Tryz.prog.info? 22).map (fun i => (i.zero, i.size, i.bytes)) = some (some (.slice none 0 0), 1, 24) := by kernel_rfl
theorem bulk_get {l : List (List UInt8)} {i : Nat} {t : List UInt8} (h : l[i]? = some t) : t.length + 1 ≤ bulk l := by
  have h1 := bulk_take h
  have h2 := bulk_le l (i + 1)
  omega
theorem splAll_drop {l : List (List UInt8)} {i : Nat} {t : List UInt8} (h : l[i]? = some t) : splAll (l.drop i) = match spl t, splAll (l.drop (i + 1)) with
    | some x, some y => some (x :: y)
    | _, _ => none := by
  have hi : i < l.length := (List.getElem?_eq_some_iff.1 h).1
  rw [List.drop_eq_getElem_cons hi]
  have : l[i] = t := by rw [List.getElem?_eq_getElem hi] at h; exact Option.some.inj h
  rw [this, splAll]
  cases spl t <;> cases splAll (l.drop (i + 1)) <;> rfl
end Go.Proofs.YtjibdoofogmkcaaGreatDoor
end
section
namespace Go.Proofs.YtjibdoofogmkcaaGreatDoor
open Go.RowKit Go.Shelf
open Go.ChangeShapes Go.WideShapes Go.ChangeAt
attribute [local go_sem] Oper.semAt_some
set_option maxRecDepth 100000
theorem wpListIn_append_tag {F : Fence} {n : Nat} {P : Program} (w : World) {ops : Array Oper} {rest : List Oper} {o : Oper} {a : Act} {Q : Exit → Act → World → Prop}
    (hg : o.guard = none) (s x : Operand) (t : TypeId) (hop : o.op = Op.call { callee := Callee.builtin Builtin.append, args := #[s, x], argTypes := #[t, t] })
    (base : Nat) (e : TypeId) (i : TypeInfo) (z : Value) (size bytes : Nat) (h1 : P.underlying t = some (.slice e)) (h2 : P.info? e = some i) (h3 : i.zero = some z) (h4 : i.size = size) (h5 : i.bytes = bytes) (h6 : z.cells.size = size) (h7 : 0 < size)
    (v : Value) (k : Nat) (xs : List Value) (hs : a.eval s = v) (hown : w.ownsRow base e size v k xs) (ad : Addr) (m c : Nat) (news : List Value) (hx : a.eval x = .slice (some ad) m c) (hn : news.length = m * size)
    (hc : ∀ j u, news[j]? = some u → w.cell? (ad.add j) = some u) (h1c : ∀ u ∈ news, u.oneCell' = true) (b1 : k + m ≤ maxLen) (b2 : (k + m) * bytes ≤ 140737488355328) (b3 : base ≤ w.heap.size)
    (hK : ∀ v' w', w'.ownsRow base e size v' (k + m) (xs ++ news) → w.grownBy w' v.ownBlock → SameOrNew w v v' → wpListIn F n P ops Q rest (a.put o.dst v') w') :
    wpListIn F n P ops Q (o :: rest) a w := by
  refine wpListIn_plain hg fun K hK' => ?_
  obtain ⟨v', w', hrun, r1, r2, r3⟩ := run_append_tag (P := P) (w := w) base t o.type e i z size bytes h1 h2 h3 h4 h5 h6 h7 v k xs hown ad m c news hn hc h1c b1 b2 b3
  unfold Oper.wpIn
  refine ⟨?_, ?_⟩
  · simp [Oper.about, hop, resolve, Target.leads, Sem.run_pure]
  · rw [Oper.semAt_plain F _ _ (by rw [hop]; intro c hc'; cases hc')]
    simp [execOp, hop, resolve, invoke, builtin, hs, hx, hrun, Result.andThen]
    exact hK' _ _ (hK v' w' r1 r2 r3)
theorem split_some {s : ByteArray} {xs : List (List UInt8)} (hs : s.size ≤ 1000) (h : spl (L s) = some xs) (w : World) :
    Calls Tryz.prog 17 #[.string s] w fun e w' => ∃ a c, e = .returned (.tuple #[.slice a xs.length c, .int .i64 0, .int .i64 0]) ∧ OwnTx w' w.heap.size (.slice a xs.length c) xs ∧ Below w.heap.size w w' := by
  refine (split_any s hs w).mono ?_
  rintro e w' ⟨h1, _, h3⟩
  obtain ⟨sv, rfl, h4⟩ := h1 xs h
  obtain ⟨a, c, rfl⟩ := ownsRow_form h4
  exact ⟨a, c, rfl, h4, h3⟩
theorem split_none {s : ByteArray} (hs : s.size ≤ 1000) (h : spl (L s) = none) (w : World) :
    Calls Tryz.prog 17 #[.string s] w fun e w' => ∃ k : Int, e = .returned (.tuple #[.slice none 0 0, .int .i64 k, .int .i64 2]) ∧ Below w.heap.size w w' := by
  refine (split_any s hs w).mono ?_
  rintro e w' ⟨_, h2, h3⟩
  obtain ⟨k, rfl⟩ := h2 h
  exact ⟨k, rfl, h3⟩
def RoundsR (w : World) (names lists : List (List UInt8)) (e : Ending) (w' : World) : Prop :=
  (∀ rs, rnd names lists = .ok rs → ∃ v, e = .returned (.tuple #[v, .int .i64 0]) ∧ OwnRows w' w.heap.size v rs) ∧
  (∀ k, rnd names lists = .error k → e = .returned (.tuple #[.slice none 0 0, .int .i64 k])) ∧ Below w.heap.size w w'
theorem RoundsR.error {w w' : World} {names lists : List (List UInt8)} {k : Int} (h : rnd names lists = .error k) (hb : Below w.heap.size w w') : RoundsR w names lists (.returned (.tuple #[.slice none 0 0, .int .i64 k])) w' :=
  ⟨fun rs h' => by (rw [h] at h'; cases h'), fun k' h' => by (rw [h] at h'; cases h'; rfl), hb⟩
structure RI (w : World) (names lists : List (List UInt8)) (i : Nat) (u v : Value) (vs ls : List (List (List UInt8))) (W : World) : Prop where
  hi : i ≤ names.length
  hv : vs.length = i
  hl : ls.length = i
  en : splAll names = (splAll (names.drop i)).map (vs ++ ·)
  el : splAll lists = (splAll (lists.drop i)).map (ls ++ ·)
  ru : OwnRows W w.heap.size u vs
  rv : OwnRows W w.heap.size v ls
  ap : Apart u v
  bel : Below w.heap.size w W
end Go.Proofs.YtjibdoofogmkcaaGreatDoor
end
