/-
  The machine: what groups that are referred to have, as a text (referred).
-/
import Derived.Test.YtfgghbideoehjaaWmA
import Derived.Test.YtfgghbideoehjaaStrToLitB
import Derived.Deep.LoopGhost
namespace Go.Proofs.Ytfgghbideoehjaa
open Go.ChangeShapes Go.WideShapes Go.ChangeAt Go.RowKit
set_option linter.unusedVariables false
set_option linter.unusedSimpArgs false
set_option maxRecDepth 100000

def two (a : Int) : List UInt8 := [lowB a, highB a]
theorem refText_succ : ∀ (refs : List Bool) (gs : List Int) (j : Nat) (b : Bool) (a c : Int), refs[j]? = some b → gs[2 * j]? = some a → gs[2 * j + 1]? = some c → refText (refs.take (j + 1)) gs = refText (refs.take j) gs ++ (if b = true then two a ++ two c else [])
  | [], gs, j, b, a, c, h, _, _ => by simp at h
  | r :: refs, [], j, b, a, c, _, h, _ => by simp at h
  | r :: refs, [x], j, b, a, c, _, h, h2 => by cases j <;> simp at h2
  | r :: refs, x :: y :: gs, 0, b, a, c, h, ha, hc => by
    simp at h ha hc
    subst h ha hc
    simp [refText, two]
  | r :: refs, x :: y :: gs, j + 1, b, a, c, h, ha, hc => by
    simp at h
    have e1 : 2 * (j + 1) = 2 * j + 2 := by omega
    rw [e1] at ha hc
    simp at ha hc
    have ih := refText_succ refs gs j b a c h ha hc
    simp only [List.take_succ_cons, refText]
    rw [ih, List.append_assoc]
theorem refText_len : ∀ (refs : List Bool) (gs : List Int), (refText refs gs).length ≤ 4 * refs.length
  | [], _ => by simp [refText]
  | _ :: _, [] => by simp [refText]
  | _ :: _, [_] => by simp [refText]
  | b :: r, a :: c :: gs => by
    have := refText_len r gs
    simp only [refText, List.length_append, List.length_cons]
    split
    · simp; omega
    · simp; omega
theorem cells_two (l : List UInt8) (b : UInt8) (x : Int) (h : x = (b.toNat : Int)) : Lib.byteCells l ++ [.int .u8 x] = Lib.byteCells (l ++ [b]) := by
  subst h; simp [Lib.byteCells]

theorem lowB_eq {x : Int} (h : -1 ≤ x) : (x + 1) % 256 = ((lowB x).toNat : Int) := by
  unfold lowB
  have h1 : (((x + 1).toNat : Nat) : Int) = x + 1 := Int.toNat_of_nonneg (by omega)
  have h2 : ((x + 1).toNat % 256).toUInt8.toNat = (x + 1).toNat % 256 := by simp
  rw [h2]
  omega

theorem highB_eq {x : Int} (h : -1 ≤ x) (h2 : x ≤ 60000) : (x + 1) / 256 = ((highB x).toNat : Int) := by
  unfold highB
  have h1 : (((x + 1).toNat : Nat) : Int) = x + 1 := Int.toNat_of_nonneg (by omega)
  have h2 : ((x + 1).toNat / 256 % 256).toUInt8.toNat = (x + 1).toNat / 256 % 256 := by simp
  rw [h2]
  omega

set_option maxHeartbeats 1000000 in
theorem referred_any (w : World) (mp : Nat) (ra : Option Addr) (rc : Nat) (refs : List Bool) (gg gc : Nat) (gs : List Int) (c2 : w.cell? ⟨mp, 2, none⟩ = some (.slice ra refs.length rc)) (hr : w.ownsRow 0 4 1 (.slice ra refs.length rc) refs.length (refs.map Value.bool)) (hl : refs.length ≤ 1000000) (hg : IntsAt w 0 (.slice (some ⟨gg, 0, none⟩) gs.length gc) gs) (hgl : gs.length ≤ 1000000) (hok : keyOk refs gs = true) :
    Calls Try.prog 45 #[.pointer (some ⟨mp, 0, none⟩), .slice (some ⟨gg, 0, none⟩) gs.length gc] w fun e w' => e = .returned (.string (txt (refText refs gs))) ∧ Below w.heap.size w w' := by
  simp only [keyOk, Bool.and_eq_true, decide_eq_true_eq, List.all_eq_true] at hok
  obtain ⟨hok1, hok2⟩ := hok
  obtain ⟨A, hA, sA, aN, aO, bA⟩ := alloc_pack w #[.pointer none, .slice none 0 0] 76
  have lmp := World.block_lt_of_cell? w _ c2
  have d2 : A.cell? ⟨mp, 2, none⟩ = some (.slice ra refs.length rc) := (bA.cell (p := ⟨mp, 2, none⟩) lmp).trans c2
  have hbld : Lib.IsBuilder 76 5 w.heap.size w.heap.size (Lib.byteCells []) A := by rw [← hA]; exact Lib.fresh_isBuilder 76 5 w
  have HA := Lib.hid hA
  have HB := Lib.hid bA
  have HR := Lib.hid hr
  have HG := Lib.hid hg
  have HL := Lib.hid hbld
  have HALL := Lib.hid hok2
  have hsz : A.heap.size = w.heap.size + 1 := sA
  clear hA sA aN aO bA hr hg hbld hok2
  go_enter Try.func45, Try.ntmps45
  go_wp2_with (fail)
  rw [HA.out]
  go_loopg [16] refs.length (fun k i wr => ∃ (j : Nat), j ≤ refs.length ∧ k = refs.length - j ∧ i = .int .i64 (j : Int) ∧ Lib.IsBuilder 76 5 w.heap.size w.heap.size (Lib.byteCells (refText (refs.take j) gs)) wr ∧ Below w.heap.size w wr)
  case atStart => exact ⟨0, Nat.zero_le _, rfl, rfl, by simpa [refText] using HL.out, HB.out⟩
  case round =>
    obtain ⟨j, hj, hk, rfl, hbd, hbel⟩ := hrel
    have hsz := hbel.size
    have hlen : (Lib.byteCells (refText (refs.take j) gs)).length ≤ 4000000 := by
      rw [Lib.byteCells_length]
      have := refText_len (refs.take j) gs
      rw [List.length_take] at this
      omega
    have HK := Lib.hid hk
    have HBD := Lib.hid hbd
    have HBEL := Lib.hid hbel
    clear hk hbd hbel
    by_cases hlt : j < refs.length
    · obtain ⟨b, hb⟩ : ∃ b, refs[j]? = some b := ⟨_, List.getElem?_eq_getElem hlt⟩
      obtain ⟨a, ha⟩ : ∃ a, gs[2 * j]? = some a := ⟨_, List.getElem?_eq_getElem (by omega)⟩
      obtain ⟨c, hc⟩ : ∃ a, gs[2 * j + 1]? = some a := ⟨_, List.getElem?_eq_getElem (by omega)⟩
      obtain ⟨g, cap, hge⟩ : ∃ g cap, (Value.slice ra refs.length rc) = .slice (some ⟨g, 0, none⟩) refs.length cap := by
        rcases HR.out.2 with ⟨h, h0⟩ | ⟨g, cap, cur, h, _⟩
        · omega
        · exact ⟨g, cap, h⟩
      cases hge
      have hgl1 := (World.ownsRow.lt HR.out g rfl).2
      have hgl2 := (World.ownsRow.lt HG.out gg rfl).2
      have hce : wr.cell? ⟨g, j, none⟩ = some (.bool b) := by
        rw [HBEL.out.cell (p := ⟨g, j, none⟩) hgl1, HR.out.cellAt j (by omega), List.getElem?_map, hb]; rfl
      have hca : wr.cell? ⟨gg, 2 * j, none⟩ = some (.int .i64 a) := by
        rw [HBEL.out.cell (p := ⟨gg, 2 * j, none⟩) hgl2, World.ownsRow.cellAt HG.out (2 * j) (by omega), List.getElem?_map, ha]; rfl
      have hcc : wr.cell? ⟨gg, 2 * j + 1, none⟩ = some (.int .i64 c) := by
        rw [HBEL.out.cell (p := ⟨gg, 2 * j + 1, none⟩) hgl2, World.ownsRow.cellAt HG.out (2 * j + 1) (by omega), List.getElem?_map, hc]; rfl
      have ha2 := HALL.out a (List.mem_of_getElem? ha)
      have hc2 := HALL.out c (List.mem_of_getElem? hc)
      have hnx := refText_succ refs gs j b a c hb ha hc
      have t1 : (j : Int) < refs.length := by omega
      have hcap : gs.length ≤ gc := by
        rcases HG.out.2 with ⟨h, _⟩ | ⟨g', cap', cur, h1, h2, h3, h4, h5, h6, h7⟩
        · cases h
        · cases h1; omega
      have HNX := Lib.hid hnx
      have HAA := Lib.hid ha
      have HCC := Lib.hid hc
      clear hnx hb ha hc
      cases b
      · go_wp2
        go_roundg (refs.length - (j + 1))
        case measure => rw [HK.out]; omega
        case rel => exact ⟨j + 1, by omega, rfl, by go_num, by rw [HNX.out]; simpa using HBD.out, HBEL.out⟩
      · go_wp2_with (fail)
        go_loopg [30] 2 (fun m iv w5 => ∃ (q : Nat), q ≤ 2 ∧ m = 2 - q ∧ iv = .int .i64 (q : Int) ∧ Lib.IsBuilder 76 5 w.heap.size w.heap.size (Lib.byteCells (refText (refs.take j) gs ++ ([a, c].take q).flatMap two)) w5 ∧ Below w.heap.size w w5)
        case atStart => exact ⟨0, by omega, rfl, rfl, by simpa using HBD.out, HBEL.out⟩
        case round =>
          obtain ⟨q, hq, hm, rfl, hbd5, hbel5⟩ := hrel
          have hsz5 := hbel5.size
          have HM := Lib.hid hm
          have HBD5 := Lib.hid hbd5
          have HBEL5 := Lib.hid hbel5
          clear hm hbd5 hbel5
          by_cases hq2 : q < 2
          · obtain ⟨x, hx, hx2⟩ : ∃ x, [a, c][q]? = some x ∧ gs[2 * j + q]? = some x := by
              match q, hq2 with
              | 0, _ => exact ⟨a, rfl, HAA.out⟩
              | 1, _ => exact ⟨c, rfl, HCC.out⟩
            have hb2 := HALL.out x (List.mem_of_getElem? hx2)
            have hcx : wr.cell? ⟨gg, 2 * j + q, none⟩ = some (.int .i64 x) := by
              rw [HBEL5.out.cell (p := ⟨gg, 2 * j + q, none⟩) hgl2, World.ownsRow.cellAt HG.out (2 * j + q) (by omega), List.getElem?_map, hx2]; rfl
            have hlen5 : (Lib.byteCells (refText (refs.take j) gs ++ ([a, c].take q).flatMap two)).length ≤ 4000100 := by
              rw [Lib.byteCells_length] at hlen ⊢
              match q, hq2 with
              | 0, _ => simp; omega
              | 1, _ => simp [two]; omega
            have t2 : (q : Int) < 2 := by omega
            have HX := Lib.hid hx
            clear hx hx2
            go_wp2_with (fail)
            refine (writeByte_any w.heap.size w.heap.size _ ((x + 1) % 256) wr HBD5.out (by omega) hsz5).mono ?_
            rintro e w2 ⟨rfl, hb2', hl2⟩
            dsimp only
            rw [cells_two _ (lowB x) _ (lowB_eq hb2.1)] at hb2'
            have HB2 := Lib.hid (show Lib.IsBuilder 76 5 w.heap.size w.heap.size _ w2 from .inr hb2')
            have HL2 := Lib.hid hl2
            have hsz2 := hl2.size
            have hlen2 : (Lib.byteCells (refText (refs.take j) gs ++ ([a, c].take q).flatMap two ++ [lowB x])).length ≤ 4000101 := by rw [Lib.byteCells_length] at hlen5 ⊢; rw [List.length_append]; simp only [List.length_singleton]; omega
            clear hb2' hl2
            go_wp2_with (fail)
            refine (writeByte_any w.heap.size w.heap.size _ ((x + 1) / 256) w2 HB2.out (by omega) (by omega)).mono ?_
            rintro e w3 ⟨rfl, hb3', hl3⟩
            dsimp only
            rw [cells_two _ (highB x) _ (highB_eq hb2.1 hb2.2)] at hb3'
            have hnx3 : refText (refs.take j) gs ++ ([a, c].take q).flatMap two ++ [lowB x] ++ [highB x] = refText (refs.take j) gs ++ ([a, c].take (q + 1)).flatMap two := by
              have hx9 := HX.out
              match q, hq2 with
              | 0, _ => simp at hx9; subst hx9; simp [two]
              | 1, _ => simp at hx9; subst hx9; simp [two]
            rw [hnx3] at hb3'
            have HB3 := Lib.hid (show Lib.IsBuilder 76 5 w.heap.size w.heap.size _ w3 from .inr hb3')
            have HL3 := Lib.hid hl3
            clear hb3' hl3 hnx3
            go_wp2
            go_roundg (2 - (q + 1))
            case measure => rw [HM.out]; omega
            case rel => exact ⟨q + 1, by omega, rfl, by go_num, HB3.out, (HBEL5.out.trans HL2.out).trans HL3.out⟩
          · have t2 : ¬ (q : Int) < 2 := by omega
            have hqe : q = 2 := by omega
            subst hqe
            go_wp2
            go_roundg (refs.length - (j + 1))
            case measure => rw [HK.out]; omega
            case rel => exact ⟨j + 1, by omega, rfl, by go_num, by rw [HNX.out]; simpa using HBD5.out, HBEL5.out⟩
    · have t1 : ¬ (j : Int) < refs.length := by omega
      have hje : j = refs.length := by omega
      subst hje
      go_wp2_with (fail)
      refine (Try.Builder_String_any w.heap.size w.heap.size _ wr HBD.out (by omega)).mono ?_
      rintro e w' ⟨rfl, hb⟩
      have HB2 := Lib.hid hb
      clear hb
      go_wp2
      go_ret
      exact ⟨rfl, HBEL.out.trans HB2.out⟩

end Go.Proofs.Ytfgghbideoehjaa
