/-
  For regions that draw: the stages, and code of any kind; Behind a loop over a map in an open order: small laws; Behind a loop over a map in an open order: what the checks say, what is made anew; Behind a loop over a map in an open order: the members under names of their own; Behind a loop over a map in an open order: the heap under the new names. Conditions: none.
-/
import Derived.Test.YtjibdoofogmkcaaGreatDoorYvToYy
set_option linter.unusedVariables false
set_option linter.unusedSimpArgs false
set_option linter.unusedSectionVars false
section
namespace Go.Xe
noncomputable section
section
variable {P : Program} {I : Known} {self : Option Nat → Code → Fr → AH → R} {pl : Plan} {all : List Oper} {base : Nat} {s : Nat → DS}
theorem mapO_congr {α β : Type} {f g : α → Option β} : ∀ {l : List α}, (∀ x ∈ l, f x = g x) → mapO f l = mapO g l
  | [], _ => rfl
  | x :: l, h => by
    have h1 : ∀ k : α → Option β, mapO k (x :: l) = bnd (k x) fun y => bnd (mapO k l) fun ys => some (y :: ys) := fun k => rfl
    rw [h1, h1, h x List.mem_cons_self, mapO_congr fun y hy => h y (List.mem_cons_of_mem _ hy)]
theorem countP_gap {q : Nat → Bool} {k k' : Nat} (hk : k ≤ k') (hn : ∀ i, k ≤ i → i < k' → q i = false) : (List.range k').countP q = (List.range k).countP q := by
  induction k' with
  | zero => rw [show k = 0 by omega]
  | succ k' ih =>
    by_cases h : k = k' + 1
    · rw [h]
    · rw [List.range_succ, List.countP_append, List.countP_singleton, hn k' (by omega) (by omega), ih (by omega) fun i h1 h2 => hn i h1 (by omega)]
      simp
theorem TwinOk.loud {ms x : List Nat} {i1 i2 m1 m2 : Nat} {o1 o2 : Oper} (T : TwinOk P all ms x i1 i2 m1 m2 o1 o2) :
    Lp P all i1 = true ∧ Lp P all i2 = true ∧ i1 < i2 ∧ (∀ i, Lp P all i = true → i ∈ x ∨ i = i1 ∨ i = i2) ∧ (∀ i ∈ x, i < i1) := by
  have hs : (louds P all 0).Pairwise (· < ·) := louds_sorted
  have hm : ∀ i, i ∈ louds P all 0 ↔ Lp P all i = true := fun i => by
    rw [louds_mem]
    simp
  rw [T.l] at hs hm
  rw [List.pairwise_append] at hs
  obtain ⟨_, h1, h2⟩ := hs
  refine ⟨(hm i1).1 (by simp), (hm i2).1 (by simp), ?_, fun i hi => by simpa using (hm i).2 hi, fun i hi => h2 i hi i1 (by simp)⟩
  rw [List.pairwise_cons] at h1
  exact h1.1 i2 (by simp)
theorem twin_sorted {ms x : List Nat} {i1 i2 m1 m2 : Nat} {o1 o2 : Oper} (T : TwinOk P all ms x i1 i2 m1 m2 o1 o2) : (x ++ [i1]).Pairwise (· < ·) ∧ (x ++ [i2]).Pairwise (· < ·) := by
  have hs : (louds P all 0).Pairwise (· < ·) := louds_sorted
  rw [T.l, List.pairwise_append] at hs
  obtain ⟨h0, h1, h2⟩ := hs
  rw [List.pairwise_append, List.pairwise_append]
  exact ⟨⟨h0, by simp, fun a ha b hb => h2 a ha b (by simp at hb ⊢; exact .inl hb)⟩, ⟨h0, by simp, fun a ha b hb => h2 a ha b (by simp at hb ⊢; exact .inr hb)⟩⟩
theorem twin_run (D : DrawOk P I self pl all base s) {x : List Nat} {i1 i2 m1 m2 : Nat} {o1 o2 : Oper} (T : TwinOk P all pl.ms x i1 i2 m1 m2 o1 o2) (htw : pl.tw = some (i1, i2)) :
    ∃ vs1 vs2 Ga Gb, mapO (fun x => ev x (s i1).fr) (opnds o1.op) = some vs1 ∧ mapO (fun x => ev x (s i2).fr) (opnds o2.op) = some vs2 ∧ (s i1).fr.put o1.dst undefA = some (s (i1 + 1)).fr ∧ (s i2).fr.put o2.dst undefA = some (s (i2 + 1)).fr ∧
      opR P I self o2 vs2 (s i1).h = some (undefA, Ga) ∧ opR P I self o1 vs1 Ga = some (undefA, Gb) ∧ Heq Gb (s (i2 + 1)).h ∧ Ga.next = (s i1).h.next ∧ Ga.fm = (s i1).h.fm := by
  obtain ⟨L1, L2, h12, hall, hx⟩ := T.loud
  have hq1 : quietOp P o1.op = false := by
    obtain ⟨o, ho, hq⟩ := Lp_iff.1 L1
    rw [T.a1] at ho; cases ho; exact hq
  have hq2 : quietOp P o2.op = false := by
    obtain ⟨o, ho, hq⟩ := Lp_iff.1 L2
    rw [T.a2] at ho; cases ho; exact hq
  have hn2 : i2 < all.length := (List.getElem?_eq_some_iff.1 T.a2).1
  have hw : ∀ (j : Nat) (o : Oper), o.guard = none → wantedA all (s j).fr o.guard = some true := fun j o hg => by rw [hg]; rfl
  have hgap : ∀ i, i1 + 1 ≤ i → i < i2 → Lp P all i = false := fun i h1 h2 => by
    cases hl : Lp P all i with
    | false => rfl
    | true => rcases hall i hl with h | h | h
              · have := hx i h; omega
              · omega
              · omega
  obtain ⟨m', hm', st1⟩ := D.run.at_ D.mok.len T.a1
  rw [T.h1] at hm'; cases hm'
  obtain ⟨tw1, V1, hp1, S1⟩ := drawStep_eq st1
  obtain ⟨m', hm', st2⟩ := D.run.at_ D.mok.len T.a2
  rw [T.h2] at hm'; cases hm'
  obtain ⟨tw2, V2, hp2, S2⟩ := drawStep_eq st2
  have tw1 := tw1.resolve_left (by rw [hq1]; simp)
  have tw2 := tw2.resolve_left (by rw [hq2]; simp)
  unfold twinOk at tw1 tw2
  rw [htw, oE_some] at tw1 tw2
  dsimp only at tw1 tw2
  rw [ite'_or, (beq_iff i1 i1).2 rfl, Bool.true_or, ite'_true, nth_eq, nth_eq, T.h1, T.h2, oE_some, oE_some, ite'_and, Bool.and_eq_true] at tw1
  rw [ite'_or, (beq_iff i2 i2).2 rfl, Bool.or_true, ite'_true, nth_eq, nth_eq, T.h1, T.h2, oE_some, oE_some, ite'_and, Bool.and_eq_true, ite'_or, Bool.or_eq_true] at tw2
  have np1 : noPend m1 m2 (s i1).ps = true := tw1.1
  obtain ⟨np2, hb, hbe, hap⟩ : noPend m1 m2 (s i2).ps = true ∧ ∃ hb, before1 (s i2).hs = some hb ∧ apart all (s i2).fr hb i1 i2 = true := by
    obtain ⟨h1, h2⟩ := tw2
    refine ⟨h1, ?_⟩
    rcases h2 with h2 | h2
    · have := (beq_iff _ _).1 h2
      omega
    · cases hbe : before1 (s i2).hs with
      | none => rw [hbe] at h2; cases h2
      | some hb => rw [hbe, oE_some] at h2; exact ⟨hb, rfl, h2⟩
  cases S1 with
  | off hw' => rw [hw i1 o1 T.g1] at hw'; cases hw'
  | made _ vs en f hvs hm' => rw [makes_quiet hm'] at hq1; cases hq1
  | quiet _ vs hvs hq' => rw [hq1] at hq'; cases hq'
  | loud _ vs1 hvs1 _ hr1 hhs1 hps1 =>
  cases S2 with
  | off hw' => rw [hw i2 o2 T.g2] at hw'; cases hw'
  | made _ vs en f hvs hm' => rw [makes_quiet hm'] at hq2; cases hq2
  | quiet _ vs hvs hq' => rw [hq2] at hq'; cases hq'
  | loud _ vs2 hvs2 _ hr2 hhs2 hps2 =>
    rw [laySome_no fun p hp => (noPend_spec np1 p hp).1] at hr1
    rw [laySome_no fun p hp => (noPend_spec np2 p hp).2] at hr2
    have hH : (s i2).h = (s (i1 + 1)).h := D.keepH (by omega) (by omega) hgap
    rw [hH] at hr2
    obtain ⟨x1, y1, b1, off1, en1, en1', olds1, e1, f1, rfl, g1, t1⟩ := store_at T.s1 hr1
    obtain ⟨x2, y2, b2, off2, en2, en2', olds2, e2, f2, rfl, g2, t2⟩ := store_at T.s2 hr2
    have hbv : hb = (s i1).h := by
      obtain ⟨q1, q2⟩ := before1_spec hbe
      obtain ⟨c1, _⟩ := D.run.hs D.mok.len D.h0s (show i2 ≤ all.length by omega)
      obtain ⟨_, c4⟩ := D.run.hs D.mok.len D.h0s (show i1 ≤ all.length by omega)
      have c5 := D.run.hs_pre D.mok.len (show i1 ≤ i2 by omega) (by omega) c4
      have c6 : (List.range i2).countP (Lp P all) = (List.range i1).countP (Lp P all) + 1 := by
        rw [countP_gap (show i1 + 1 ≤ i2 by omega) hgap, List.range_succ, List.countP_append, List.countP_singleton, L1]
        rfl
      rw [c1, c6, show 1 + ((List.range i1).countP (Lp P all) + 1) - 2 = (List.range i1).countP (Lp P all) by omega, c5] at q2
      exact (Option.some.inj q2).symm
    rw [hbv] at hap
    have hvs1' : mapO (fun x => ev x (s i2).fr) (opnds o1.op) = some vs1 := by
      rw [← hvs1]
      refine mapO_congr fun y hy => ?_
      cases y with
      | tmp t =>
        have hst := T.strict _ hy
        have hst' : writersOk i1 m1 t true all 0 pl.ms = true := hst
        have hat : atT (s i2).fr.t t = atT (s i1).fr.t t := by
          refine D.run.keep D.mok.len (by omega) (by omega) fun i o ho1 ho2 ho hd => ?_
          obtain ⟨mi, hmi⟩ := D.mask ho
          rcases writersOk_get hst' i mi o ho hmi hd with ⟨_, h⟩ | h | ⟨h, _⟩
          · cases h
          · rw [Nat.zero_add] at h
            have := D.mok.lt i1 m1 T.h1 i h
            omega
          · cases h
        show some ((s i2).fr.at_ t) = some ((s i1).fr.at_ t)
        rw [at_eq, at_eq, hat]
      | _ => rfl
    unfold apart at hap
    have hA1 : addrOf o1 (s i2).fr = some b1 := by
      unfold addrOf
      rw [hvs1', bnd_some, e1, f1]
      rfl
    have hA2 : addrOf o2 (s i2).fr = some b2 := by
      unfold addrOf
      rw [hvs2, bnd_some, e2, f2]
      rfl
    rw [nth_eq, nth_eq, T.a1, T.a2, bnd_some, bnd_some, hA1, hA2, bnd_some, bnd_some, g1, bnd_some, t1.oldsEq, bnd_some] at hap
    cases hg2 : (s i1).h.get b2 with
    | none => rw [hg2] at hap; cases hap
    | some en2'' =>
      rw [hg2, bnd_some] at hap
      cases ho2 : oldsOf en2'' with
      | none => rw [ho2] at hap; cases hap
      | some olds2' =>
        rw [ho2, bnd_some, ite'_if] at hap
        by_cases hbb : Nat.beq b1 b2 = true
        · rw [if_pos hbb] at hap; cases hap
        · rw [if_neg hbb] at hap
          have hne : b1 ≠ b2 := fun h => hbb ((beq_iff _ _).2 h)
          obtain ⟨n1, n2⟩ : notIn b1 olds2' = true ∧ notIn b2 olds1 = true := by
            cases q1 : notIn b1 olds2' with
            | false => rw [q1] at hap; cases hap
            | true =>
              cases q2 : notIn b2 olds1 with
              | false => rw [q1, q2] at hap; cases hap
              | true => exact ⟨rfl, rfl⟩
          rw [notIn_iff] at n1 n2
          obtain ⟨H1', u1, _, _, u4⟩ := t1.at_ _ g1
          rw [hr1] at u1; cases u1
          have hsame := g2
          rw [u4, if_neg (fun h => hne h.symm), if_neg n2, hg2] at hsame
          cases hsame
          rw [t2.oldsEq] at ho2; cases ho2
          obtain ⟨Ga, Gb, a1, a2, a3, a4, a5⟩ := twin_swap t1 t2 hr1 hr2 g1 g2 hne n2 n1
          exact ⟨vs1, vs2, Ga, Gb, hvs1, hvs2, hp1, hp2, a1, a2, a3, a4, a5⟩
theorem twin_stage (D : DrawOk P I self pl all base s) {x : List Nat} {i1 i2 m1 m2 : Nat} {o1 o2 : Oper} (T : TwinOk P all pl.ms x i1 i2 m1 m2 o1 o2) (htw : pl.tw = some (i1, i2)) : ∃ Stg, StageOk P I self pl all base s Stg := by
  obtain ⟨vs1, vs2, Ga, Gb, r1, r2, p1, p2, k1, k2, k3, k4, k5⟩ := twin_run D T htw
  obtain ⟨L1, L2, h12, hall, hx⟩ := T.loud
  obtain ⟨so1, so2⟩ := twin_sorted T
  have hn2 : i2 < all.length := (List.getElem?_eq_some_iff.1 T.a2).1
  have hwt : ∀ (j : Nat) (o : Oper), all[j]? = some o → (j = i1 ∨ j = i2) → wantedA all (s j).fr o.guard ≠ some false := fun j o ho hj => by
    rcases hj with rfl | rfl
    · rw [T.a1] at ho; cases ho
      rw [T.g1]; intro h; cases h
    · rw [T.a2] at ho; cases ho
      rw [T.g2]; intro h; cases h
  have hbef : ∀ (S : Nat → Prop) (j m : Nat) (o : Oper), all[j]? = some o → pl.ms[j]? = some m → quietOp P o.op = false → (∀ i, bit m i = true → S i) → (j = i2 → S i1) → ∀ i, Lp P all i = true → i < j → S i := fun S j m o ho hm hq hanc h2 i hi hij => by
    have hLj : Lp P all j = true := Lp_iff.2 ⟨o, ho, hq⟩
    by_cases hj2 : j = i2
    · subst hj2
      rcases hall i hi with h | h | h
      · exact chain_before D so2 T.c2 hm hanc (by simp) i (by simp [h]) hij
      · rw [h]; exact h2 rfl
      · omega
    · have hj' : j ∈ x ++ [i1] := by
        rcases hall j hLj with h | h | h
        · simp [h]
        · simp [h]
        · exact absurd h hj2
      have hjl : j ≤ i1 := by
        rcases hall j hLj with h | h | h
        · exact Nat.le_of_lt (hx j h)
        · omega
        · exact absurd h hj2
      refine chain_before D so1 T.c1 hm hanc hj' i ?_ hij
      rcases hall i hi with h | h | h
      · simp [h]
      · simp [h]
      · omega
  have hxb : ∀ (S : Nat → Prop), (∀ i, bit m2 i = true → S i) → ∀ i ∈ x, S i := fun S hanc i hi =>
    chain_before D so2 T.c2 T.h2 hanc (by simp) i (by simp [hi]) (by have := hx i hi; omega)
  refine ⟨fun S G => StgC P all s S G ∨ (S i2 ∧ ¬ S i1 ∧ (∀ i, Lp P all i = true → i ≠ i1 → S i) ∧ Heq G Ga), .inl ⟨0, Nat.zero_le _, fun i _ => ⟨fun h => h.elim, fun h => (by omega)⟩, .refl _⟩, ?_, ?_, ?_, ?_, ?_⟩
  · rintro S S' G hSS (⟨k, hk, hS, hG⟩ | ⟨q1, q2, q3, q4⟩)
    · exact .inl ⟨k, hk, fun i hi => (hSS i hi).symm.trans (hS i hi), hG⟩
    · exact .inr ⟨(hSS i2 L2).1 q1, fun h => q2 ((hSS i1 L1).2 h), fun i hi hne => (hSS i hi).1 (q3 i hi hne), q4⟩
  · intro S j m o G hdc ho hm hq hnj hanc hw hG
    have hne : j ≠ i1 ∧ j ≠ i2 := ⟨fun h => hwt j o ho (.inl h) hw, fun h => hwt j o ho (.inr h) hw⟩
    rcases hG with hG | ⟨q1, q2, q3, q4⟩
    · obtain ⟨h1, h2, h3⟩ := hG.next D ho hq hnj (hbef S j m o ho hm hq hanc fun h => absurd h hne.2)
      exact .inl ⟨j + 1, (List.getElem?_eq_some_iff.1 ho).1, h3, by rw [D.offAt ho hm hw]; exact h1⟩
    · exact absurd (q3 j (Lp_iff.2 ⟨o, ho, hq⟩) hne.1) hnj
  · intro S j m o G hdc ho hm hq hnj hanc hw hG
    have hLj : Lp P all j = true := Lp_iff.2 ⟨o, ho, hq⟩
    rcases hG with hG | ⟨q1, q2, q3, q4⟩
    · by_cases hj2 : j = i2 ∧ ¬ S i1
      · obtain ⟨rfl, hn1⟩ := hj2
        rw [T.a2] at ho; cases ho
        rw [T.h2] at hm; cases hm
        obtain ⟨k, hk, hS, hGk⟩ := hG
        have hki : k ≤ i1 := Nat.le_of_not_lt fun h => hn1 ((hS i1 L1).2 h)
        have hH : (s i1).h = (s k).h := D.keepH hki (by omega) fun i h1 h2 => by
          cases hl : Lp P all i with
          | false => rfl
          | true =>
            have hxi : i ∈ x := by
              rcases hall i hl with h | h | h
              · exact h
              · omega
              · omega
            have := (hS i hl).1 (hxb S hanc i hxi)
            omega
        rw [← hH] at hGk
        refine ⟨(s i1).h, Ga, vs2, undefA, r2, p2, k1, hGk.2.1.symm, hGk.2.2.symm, fun b en hb => .inr (by rw [hGk.1]; exact hb), .inr ⟨.inr rfl, fun h => h.elim hn1 fun h => (by omega), fun i hi hne => ?_, .refl _⟩⟩
        rcases hall i hi with h | h | h
        · exact .inl (hxb S hanc i h)
        · exact absurd h hne
        · exact .inr h
      · have h2' : j = i2 → S i1 := fun h => Classical.byContradiction fun hn => hj2 ⟨h, hn⟩
        obtain ⟨h1, h2, h3⟩ := hG.next D ho hq hnj (hbef S j m o ho hm hq hanc h2')
        obtain ⟨hin, hout, vs, V, a1, a2, a3, a4, a5, a6, a7⟩ := D.loudAt (S := S) ho hm hq hw h2
        exact ⟨hin, hout, vs, V, a1, a2, a3, a4.trans h1.2.1.symm, a5.trans h1.2.2.symm, fun b en hb => (a6 b en hb).imp id fun h => by rw [h1.1]; exact h, .inl ⟨j + 1, (List.getElem?_eq_some_iff.1 ho).1, h3, by rw [a7]; exact .refl _⟩⟩
    · have hj1 : j = i1 := Classical.byContradiction fun h => hnj (q3 j hLj h)
      subst hj1
      rw [T.a1] at ho; cases ho
      refine ⟨Ga, Gb, vs1, undefA, r1, p1, k2, q4.2.1.symm, q4.2.2.symm, fun b en hb => .inr (by rw [q4.1]; exact hb), .inl ⟨i2 + 1, hn2, fun i hi => ⟨fun _ => ?_, fun _ => ?_⟩, k3⟩⟩
      · rcases hall i hi with h | h | h
        · have := hx i h; omega
        · omega
        · omega
      · by_cases hne : i = j
        · exact .inr hne
        · exact .inl (q3 i hi hne)
  · intro S j m o G hdc ho hm hq hmk hr hnj hanc hw hG
    rcases hG with ⟨k, hk, hS, hG⟩ | ⟨q1, q2, q3, q4⟩
    · obtain ⟨vs, V, b1, b2, b3⟩ := D.readAt hdc ho hm hq hr hnj hanc hw hk hS
      exact ⟨_, vs, V, hG.symm, b1, b2, b3⟩
    · have hb := readersIn_get T.r2 j o ho hq hr
      rw [Nat.zero_add] at hb
      exact absurd (hdc i2 m2 q1 T.h2 j hb) hnj
  · intro S G hfull hG
    rcases hG with ⟨k, hk, hS, hG⟩ | ⟨q1, q2, q3, q4⟩
    · rw [D.keepH hk (Nat.le_refl _) fun i h1 h2 => ?_]
      · exact hG
      · cases hl : Lp P all i with
        | false => rfl
        | true =>
          have := (hS i hl).1 (hfull i h2)
          omega
    · exact absurd (hfull i1 (by omega)) q2
theorem staged (P : Program) (I : Known) (self : Option Nat → Code → Fr → AH → R) : Staged P I self := fun pl all base s D hpl => by
  obtain ⟨_, _, _, hk⟩ := drawMs_spec hpl
  rcases hk with ⟨_, hc⟩ | ⟨t, ht, hc⟩
  · exact ⟨_, chain_stage D hc⟩
  · obtain ⟨x, m1, m2, o1, o2, T⟩ := twins_spec rfl hc
    exact twin_stage D T ht
theorem exec_good {P : Program} {I : Known} (ok : POk P) (hI : KnownOk P I) (n : Nat) : Good P (exec P I n) :=
  (exec_both ok hI (fun self hg => draw_good ok hI hg (staged P I self)) n).1
end
end
end Go.Xe
end
section
namespace Go.Xe
noncomputable section
theorem all_taken : ∀ (n : Nat) (f : Nat → Nat), (∀ k, k < n → f k < n) → (∀ k k', k < n → k' < n → f k = f k' → k = k') → ∀ j, j < n → ∃ k, k < n ∧ f k = j
  | 0, f, _, _, j, hj => by omega
  | n + 1, f, hf, hi, j, hj => by
    by_cases hn : f n = n
    · by_cases hjn : j = n
      · exact ⟨n, Nat.lt_succ_self n, by rw [hn, hjn]⟩
      · obtain ⟨k, hk, e⟩ := all_taken n f (fun k hk => by
          have h1 := hf k (by omega)
          have : f k ≠ n := fun h => by
            have := hi k n (by omega) (by omega) (by rw [h, hn])
            omega
          omega) (fun k k' h1 h2 => hi k k' (by omega) (by omega)) j (by omega)
        exact ⟨k, by omega, e⟩
    · have hfn : f n < n := by have := hf n (by omega); omega
      obtain ⟨g, hg⟩ : ∃ g : Nat → Nat, g = fun k => if f k = n then f n else f k := ⟨_, rfl⟩
      have h1 : ∀ k, k < n → g k < n := fun k hk => by
        rw [hg]
        show (if f k = n then f n else f k) < n
        split
        · exact hfn
        · have := hf k (by omega); omega
      have h2 : ∀ k k', k < n → k' < n → g k = g k' → k = k' := fun k k' hk hk' h => by
        rw [hg] at h
        have h' : (if f k = n then f n else f k) = if f k' = n then f n else f k' := h
        split at h' <;> split at h'
        · rename_i a b
          exact hi k k' (by omega) (by omega) (by rw [a, b])
        · have := hi n k' (by omega) (by omega) h'
          omega
        · have := hi k n (by omega) (by omega) h'
          omega
        · exact hi k k' (by omega) (by omega) h'
      have back : ∀ j, j < n → ∃ k, k < n + 1 ∧ f k = j ∨ False := fun j hj => by
        obtain ⟨k, hk, e⟩ := all_taken n g h1 h2 j hj
        rw [hg] at e
        have e' : (if f k = n then f n else f k) = j := e
        split at e'
        · exact ⟨n, .inl ⟨Nat.lt_succ_self n, e'⟩⟩
        · exact ⟨k, .inl ⟨by omega, e'⟩⟩
      by_cases hjn : j = n
      · obtain ⟨k, hk, e⟩ := all_taken n g h1 h2 (f n) hfn
        rw [hg] at e
        have e' : (if f k = n then f n else f k) = f n := e
        split at e'
        · rename_i a
          exact ⟨k, by omega, by rw [a, hjn]⟩
        · have := hi k n (by omega) (by omega) e'
          omega
      · obtain ⟨k, h⟩ := back j (by omega)
        exact ⟨k, h.resolve_right id⟩
inductive F2 {α β : Type} (R : α → β → Prop) : List α → List β → Prop
  | nil : F2 R [] []
  | cons {x : α} {y : β} {l : List α} {l' : List β} (h : R x y) (ht : F2 R l l') : F2 R (x :: l) (y :: l')
theorem F2.of_get {α β : Type} {R : α → β → Prop} : ∀ {l : List α} {l' : List β}, l.length = l'.length → (∀ (i : Nat) v u, l[i]? = some v → l'[i]? = some u → R v u) → F2 R l l'
  | [], [], _, _ => .nil
  | [], _ :: _, h, _ => by simp at h
  | _ :: _, [], h, _ => by simp at h
  | v :: l, u :: l', h, k => .cons (k 0 v u rfl rfl) (F2.of_get (by simpa using h) fun i x y hx hy => k (i + 1) x y (by simpa using hx) (by simpa using hy))
theorem F2.app {α β : Type} {R : α → β → Prop} {l r : List α} {l' r' : List β} (h : F2 R l l') (k : F2 R r r') : F2 R (l ++ r) (l' ++ r') := by
  induction h with
  | nil => exact k
  | cons h _ ih => exact .cons h ih
theorem perm_rel {α β : Type} {R : α → β → Prop} {p q : List α} (h : p.Perm q) : ∀ {q' : List β}, F2 R q q' → ∃ p', p'.Perm q' ∧ F2 R p p' := by
  induction h with
  | nil => intro q' hq; exact ⟨q', .refl _, hq⟩
  | cons x _ ih =>
    intro q' hq
    cases hq with
    | cons hx ht =>
      obtain ⟨p', h1, h2⟩ := ih ht
      exact ⟨_ :: p', h1.cons _, .cons hx h2⟩
  | swap x y l =>
    intro q' hq
    cases hq with
    | cons hx ht =>
      cases ht with
      | cons hy ht => exact ⟨_ :: _ :: _, .swap _ _ _, .cons hy (.cons hx ht)⟩
  | trans _ _ ih1 ih2 =>
    intro q' hq
    obtain ⟨p1, a1, b1⟩ := ih2 hq
    obtain ⟨p2, a2, b2⟩ := ih1 b1
    exact ⟨p2, a2.trans a1, b2⟩
theorem MERs.turn {e e2 : Env} : ∀ {p p' : List ME} {l : List MapEntry}, F2 (fun m m' => ∀ x, MER e m x → MER e2 m' x) p p' → MERs e p l → MERs e2 p' l
  | _, _, _, .nil, h => by cases h; exact .nil
  | _, _, _, .cons hx ht, h => by
    cases h with
    | cons m x l l' h1 h2 => exact .cons _ _ _ _ (hx _ h1) (MERs.turn ht h2)
end
end Go.Xe
end
section
namespace Go.Xe
noncomputable section
theorem hd1_eq {α β : Type} {l : List α} {k : α → List α → Option β} {y : β} (h : hd1 l k = some y) : ∃ a t, l = a :: t ∧ k a t = some y := by
  cases l with
  | nil => cases h
  | cons a t => exact ⟨a, t, rfl, h⟩
theorem intIs_eq {n : Nat} {a : AV} (h : intIs n a = true) : a = .int .i64 (.ofNat n) := by
  unfold intIs at h
  split at h
  · rw [beq_iff] at h; rw [h]
  · cases h
theorem sstrIs_eq {pn pc i : Nat} {a : AV} (h : sstrIs pn pc i a = true) : a = .sstr pn pc i := by
  cases a <;> try (cases h; done)
  rename_i n c j
  have h' : ite' (Nat.beq n pn) (ite' (Nat.beq c pc) (Nat.beq j i) false) false = true := h
  rw [ite'_and, Bool.and_eq_true, ite'_and, Bool.and_eq_true, beq_iff, beq_iff, beq_iff] at h'
  rw [h'.1, h'.2.1, h'.2.2]
theorem ptrIs_eq {b : Nat} {a : AV} (h : ptrIs b a = true) : a = .ptr b 0 := by
  cases a <;> try (cases h; done)
  rename_i c o
  have h' : ite' (Nat.beq b c) (Nat.beq o 0) false = true := h
  rw [ite'_and, Bool.and_eq_true, beq_iff, beq_iff] at h'
  rw [h'.1, h'.2]
theorem svalIs_eq {i : Nat} {a : AV} (h : svalIs i a = true) : a = .sval i := by
  cases a <;> try (cases h; done)
  rename_i j
  have h' : Nat.beq i j = true := h
  rw [beq_iff] at h'
  rw [h']
theorem isInil_eq {a : AV} (h : isInil a = true) : a = .inil := by cases a <;> first | rfl | (cases h; done)
theorem memCells_eq {c i : Nat} {e : Ent} {r : List AV} {ty : Nat} (h : memCells c i e = some (r, ty)) : e = .cells (.int .i64 (.ofNat c) :: .sstr 2 14906 i :: r) ty true 0 [] := by
  unfold memCells at h
  split at h
  · rw [grd_eq, grd_eq] at h
    obtain ⟨h1, h2, h3⟩ := h
    cases h3
    rw [intIs_eq h1, sstrIs_eq h2]
  · cases h
structure Chk (h : AH) (r0 : List AV) (ty0 i c : Nat) (nm nu fu da : ME) (b : Nat) : Prop where
  nm : nm.k = .sstr 2 14906 i ∧ nm.v = .ptr b 0
  nu : nu.k = .int .i64 (.ofNat c) ∧ nu.v = .ptr b 0
  fu : fu.k = .int .i64 (.ofNat c) ∧ fu.v = .sval i
  da : da.k = .int .i64 (.ofNat c) ∧ da.v = .inil
  ent : h.get b = some (.cells (.int .i64 (.ofNat c) :: .sstr 2 14906 i :: r0) ty0 true 0 [])
theorem chk1_eq {h : AH} {r0 : List AV} {ty0 i c : Nat} {nm nu fu da : ME} {b : Nat} (hc : chk1 h r0 ty0 i c nm nu fu da = some b) : Chk h r0 ty0 i c nm nu fu da b := by
  unfold chk1 at hc
  cases hv : nm.v <;> rw [hv] at hc <;> try (cases hc; done)
  rename_i b' o
  have hc' : grd (Nat.beq o 0) (grd (sstrIs 2 14906 i nm.k) (grd (intIs c nu.k) (grd (ptrIs b' nu.v) (grd (intIs c fu.k) (grd (svalIs i fu.v)
    (grd (intIs c da.k) (grd (isInil da.v) (bnd (h.get b') fun e => bnd (memCells c i e) fun rt => grd (Nat.beq rt.2 ty0) (grd (sameL rt.1 r0) (some b')))))))))) = some b := hc
  rw [grd_eq, grd_eq, grd_eq, grd_eq, grd_eq, grd_eq, grd_eq, grd_eq, bnd_eq] at hc'
  obtain ⟨k1, k2, k3, k4, k5, k6, k7, k8, e, he, hc'⟩ := hc'
  rw [bnd_eq] at hc'
  obtain ⟨⟨r, ty⟩, hm, hc'⟩ := hc'
  rw [grd_eq, grd_eq] at hc'
  obtain ⟨k9, k10, hc'⟩ := hc'
  cases hc'
  have ho := (beq_iff _ _).1 k1
  have hty := (beq_iff _ _).1 k9
  have hrr := sameL_eq k10
  simp only at hty hrr
  subst ho hty hrr
  refine ⟨⟨sstrIs_eq k2, hv⟩, ⟨intIs_eq k3, ptrIs_eq k4⟩, ⟨intIs_eq k5, svalIs_eq k6⟩, ⟨intIs_eq k7, isInil_eq k8⟩, ?_⟩
  rw [he, memCells_eq hm]
theorem chkL_eq {h : AH} {r0 : List AV} {ty0 : Nat} : ∀ {nm : List ME} {i c : Nat} {nu fu da : List ME} {bs : List Nat}, chkL h r0 ty0 nm i c nu fu da = some bs →
    bs.length = nm.length ∧ nu.length = nm.length ∧ fu.length = nm.length ∧ da.length = nm.length ∧
      ∀ k, k < nm.length → ∃ a b c' d x, nm[k]? = some a ∧ nu[k]? = some b ∧ fu[k]? = some c' ∧ da[k]? = some d ∧ bs[k]? = some x ∧ Chk h r0 ty0 (i + k) (c + k) a b c' d x
  | [], i, c, nu, fu, da, bs, hc => by
    have hc' : grd (isNil nu) (grd (isNil fu) (grd (isNil da) (some []))) = some bs := hc
    rw [grd_eq, grd_eq, grd_eq, isNil_iff, isNil_iff, isNil_iff] at hc'
    obtain ⟨rfl, rfl, rfl, hc'⟩ := hc'
    cases hc'
    exact ⟨rfl, rfl, rfl, rfl, fun k hk => by simp at hk⟩
  | a :: nm, i, c, nu, fu, da, bs, hc => by
    obtain ⟨b, nus, rfl, hc1⟩ := hd1_eq (l := nu) (k := fun b nus => hd1 fu fun c' fus => hd1 da fun d das =>
      bnd (chk1 h r0 ty0 i c a b c' d) fun x => bnd (chkL h r0 ty0 nm (i + 1) (c + 1) nus fus das) fun xs => some (x :: xs)) hc
    obtain ⟨c', fus, rfl, hc2⟩ := hd1_eq hc1
    obtain ⟨d, das, rfl, hc3⟩ := hd1_eq hc2
    rw [bnd_eq] at hc3
    obtain ⟨x, hx, hc4⟩ := hc3
    rw [bnd_eq] at hc4
    obtain ⟨xs, hxs, hc5⟩ := hc4
    cases hc5
    obtain ⟨l1, l2, l3, l4, hk⟩ := chkL_eq hxs
    refine ⟨by simp [l1], by simp [l2], by simp [l3], by simp [l4], fun k hkl => ?_⟩
    cases k with
    | zero => exact ⟨a, b, c', d, x, rfl, rfl, rfl, rfl, rfl, chk1_eq hx⟩
    | succ k =>
      obtain ⟨a', b', c'', d', x', q1, q2, q3, q4, q5, q6⟩ := hk k (by simpa using hkl)
      refine ⟨a', b', c'', d', x', by simpa using q1, by simpa using q2, by simpa using q3, by simpa using q4, by simpa using q5, ?_⟩
      rwa [show i + (k + 1) = i + 1 + k by omega, show c + (k + 1) = c + 1 + k by omega]
structure New (g lo hi j b : Nat) (kv : ME) (x : Acc) (k : Nat) (key : AV) : Prop where
  keyEq : fullKey kv.k = some key
  nm : x.nm[k]? = some ⟨key, .ptr b 0, b + 1⟩
  nu : x.nu[k]? = some ⟨.num g j lo hi, .ptr b 0, b + 2⟩
  fu : x.fu[k]? = some ⟨.num g j lo hi, kv.v, b + 3⟩
  da : x.da[k]? = some ⟨.num g j lo hi, .inil, b + 4⟩
theorem newL_eq {g lo hi ty0 : Nat} {r0 : List AV} : ∀ {fam : List ME} {j b : Nat} {h : AH} {x : Acc}, newL g lo hi ty0 r0 fam j b h = some x →
    x.nm.length = fam.length ∧ x.nu.length = fam.length ∧ x.fu.length = fam.length ∧ x.da.length = fam.length ∧ x.h.next = h.next ∧ x.h.fm = h.fm ∧
    (∀ k, k < fam.length → ∃ kv key, fam[k]? = some kv ∧ New g lo hi (j + k) (b + 5 * k) kv x k key ∧ x.h.get (b + 5 * k) = some (.cells (.num g (j + k) lo hi :: key :: r0) ty0 true 0 [])) ∧
    ∀ c, (∀ k, k < fam.length → c ≠ b + 5 * k) → x.h.get c = h.get c
  | [], j, b, h, x, hn => by
    have hn' : some (⟨[], [], [], [], h⟩ : Acc) = some x := hn
    cases hn'
    exact ⟨rfl, rfl, rfl, rfl, rfl, rfl, fun k hk => by simp at hk, fun c _ => rfl⟩
  | kv :: fam, j, b, h, x, hn => by
    have hn' : bnd (fullKey kv.k) (fun key => bnd (newL g lo hi ty0 r0 fam (j + 1) (b + 5) (h.set b (.cells (.num g j lo hi :: key :: r0) ty0 true 0 []))) fun x =>
        some (⟨⟨key, .ptr b 0, b + 1⟩ :: x.nm, ⟨.num g j lo hi, .ptr b 0, b + 2⟩ :: x.nu, ⟨.num g j lo hi, kv.v, b + 3⟩ :: x.fu, ⟨.num g j lo hi, .inil, b + 4⟩ :: x.da, x.h⟩ : Acc)) = some x := by
      rw [← hn]
      show _ = bnd (fullKey kv.k) _
      simp only [frc_eq]
      rfl
    rw [bnd_eq] at hn'
    obtain ⟨key, hkey, hn'⟩ := hn'
    rw [bnd_eq] at hn'
    obtain ⟨y, hy, hn'⟩ := hn'
    cases hn'
    obtain ⟨l1, l2, l3, l4, l5, l6, hk, hg⟩ := newL_eq hy
    refine ⟨by simp [l1], by simp [l2], by simp [l3], by simp [l4], l5, l6, fun k hkl => ?_, fun c hc => ?_⟩
    · cases k with
      | zero =>
        refine ⟨kv, key, rfl, ⟨hkey, rfl, rfl, rfl, rfl⟩, ?_⟩
        show y.h.get (b + 5 * 0) = _
        rw [hg _ fun k _ => by omega, AH.get_set, if_pos (by omega)]
        rfl
      | succ k =>
        obtain ⟨kv', key', q1, q2, q3⟩ := hk k (by simpa using hkl)
        rw [show j + 1 + k = j + (k + 1) by omega, show b + 5 + 5 * k = b + 5 * (k + 1) by omega] at q2 q3
        exact ⟨kv', key', by simpa using q1, ⟨q2.keyEq, by simpa using q2.nm, by simpa using q2.nu, by simpa using q2.fu, by simpa using q2.da⟩, q3⟩
    · show y.h.get c = _
      rw [hg c fun k hkl => by
        have := hc (k + 1) (by simpa using hkl)
        omega, AH.get_set, if_neg (by have := hc 0 (by simp); omega)]
theorem famCut_eq {n : Nat} {l a b : List ME} (h : famCut n l = some (a, b)) : l = a ++ b ∧ b.length = n := by
  unfold famCut at h
  rw [grd_eq, bnd_eq, ble_iff, len_eq] at h
  obtain ⟨hn, a', ha, h⟩ := h
  rw [bnd_eq] at h
  obtain ⟨b', hb, h⟩ := h
  cases h
  have hsub : Nat.sub l.length n = l.length - n := rfl
  rw [hsub, tak_eq, if_pos (Nat.sub_le _ _)] at ha
  rw [hsub, drp_eq, if_pos (Nat.sub_le _ _)] at hb
  cases ha; cases hb
  refine ⟨(List.take_append_drop _ _).symm, ?_⟩
  rw [List.length_drop]
  show l.length - (l.length - n) = n
  omega
end
end Go.Xe
end
section
namespace Go.Xe
noncomputable section
theorem map_get {h : AH} {b : Nat} {p : List ME × Nat} (hm : h.map b = some p) : h.get b = some (.map p.1 p.2) := by
  unfold AH.map at hm
  rw [bnd_eq] at hm
  obtain ⟨en, he, hm⟩ := hm
  cases en <;> try (cases hm; done)
  have hm' : some (_, _) = some p := hm
  cases hm'
  exact he
structure Rx (h h2 : AH) (mn mu mf md kn ku kf kd c0 ty0 : Nat) (n1 n2 u1 u2 f1 f2 d1 d2 : List ME) (r0 : List AV) (bs : List Nat) (x : Acc) : Prop where
  en : h.get mn = some (.map (n1 ++ n2) kn)
  eu : h.get mu = some (.map (u1 ++ u2) ku)
  ef : h.get mf = some (.map (f1 ++ f2) kf)
  ed : h.get md = some (.map (d1 ++ d2) kd)
  len : n2.length = h.fam.length
  ne : mn ≠ mu ∧ mn ≠ mf ∧ mn ≠ md ∧ mu ≠ mf ∧ mu ≠ md ∧ mf ≠ md
  chk : chkL h r0 ty0 n2 h.fb c0 u2 f2 d2 = some bs
  new : newL h.next c0 (c0 + h.fam.length) ty0 r0 h.fam 0 (h.next + 1) (AH.kill bs ⟨h.next + 1 + 5 * h.fam.length, h.t, 0, []⟩) = some x
  out : h2 = ((((x.h.set mn (.map (n1 ++ x.nm) kn)).set mu (.map (u1 ++ x.nu) ku)).set mf (.map (f1 ++ x.fu) kf)).set md (.map (d1 ++ x.da) kd))
theorem reix_eq {args : List AV} {h h2 : AH} (hr : reix args h = some h2) : ∃ mn mu mf md kn ku kf kd c0 ty0 n1 n2 u1 u2 f1 f2 d1 d2 r0 bs x, Rx h h2 mn mu mf md kn ku kf kd c0 ty0 n1 n2 u1 u2 f1 f2 d1 d2 r0 bs x := by
  unfold reix at hr
  rw [arg1_eq] at hr
  obtain ⟨x, rfl, hr⟩ := hr
  rw [ptrV_eq] at hr
  obtain ⟨bx, ox, rfl, hr⟩ := hr
  rw [grd_eq, bnd_eq] at hr
  obtain ⟨_, tb, htb, hr⟩ := hr
  rw [ptrV_eq] at hr
  obtain ⟨bt, ot, rfl, hr⟩ := hr
  rw [bnd_eq] at hr
  obtain ⟨vmf, hmf, hr⟩ := hr
  rw [mapV_eq] at hr
  obtain ⟨mf, rfl, hr⟩ := hr
  rw [bnd_eq] at hr
  obtain ⟨vmd, hmd, hr⟩ := hr
  rw [mapV_eq] at hr
  obtain ⟨md, rfl, hr⟩ := hr
  rw [bnd_eq] at hr
  obtain ⟨vmn, hmn, hr⟩ := hr
  rw [mapV_eq] at hr
  obtain ⟨mn, rfl, hr⟩ := hr
  rw [bnd_eq] at hr
  obtain ⟨vmu, hmu, hr⟩ := hr
  rw [mapV_eq] at hr
  obtain ⟨mu, rfl, hr⟩ := hr
  rw [bnd_eq] at hr
  obtain ⟨pn, hpn, hr⟩ := hr
  rw [bnd_eq] at hr
  obtain ⟨pu, hpu, hr⟩ := hr
  rw [bnd_eq] at hr
  obtain ⟨pf, hpf, hr⟩ := hr
  rw [bnd_eq] at hr
  obtain ⟨pd, hpd, hr⟩ := hr
  rw [bnd_eq] at hr
  obtain ⟨⟨n1, n2⟩, hn, hr⟩ := hr
  rw [bnd_eq] at hr
  obtain ⟨⟨u1, u2⟩, hu, hr⟩ := hr
  rw [bnd_eq] at hr
  obtain ⟨⟨f1, f2⟩, hf, hr⟩ := hr
  rw [bnd_eq] at hr
  obtain ⟨⟨d1, d2⟩, hd, hr⟩ := hr
  rw [grd_eq, grd_eq, grd_eq, notIn_iff, notIn_iff, notIn_iff] at hr
  obtain ⟨g1, g2, g3, hr⟩ := hr
  obtain ⟨n0, _, _, hr1⟩ := hd1_eq hr
  obtain ⟨m0, _, _, hr2⟩ := hd1_eq hr1
  rw [bnd_eq] at hr2
  obtain ⟨c0, _, hr3⟩ := hr2
  rw [bnd_eq] at hr3
  obtain ⟨⟨r0, ty0⟩, _, hr4⟩ := hr3
  rw [bnd_eq] at hr4
  obtain ⟨bs, hbs, hr5⟩ := hr4
  rw [frc_eq, frc_eq, bnd_eq] at hr5
  obtain ⟨x, hx, hr6⟩ := hr5
  have hr7 := (Option.some.inj hr6).symm
  simp only [app_eq] at hr7
  rw [len_eq] at hn hu hf hd
  obtain ⟨a1, b1⟩ := famCut_eq hn
  obtain ⟨a2, _⟩ := famCut_eq hu
  obtain ⟨a3, _⟩ := famCut_eq hf
  obtain ⟨a4, _⟩ := famCut_eq hd
  simp only [List.mem_cons, List.not_mem_nil, or_false, not_or] at g1 g2 g3
  rw [len_eq] at hx
  refine ⟨mn, mu, mf, md, pn.2, pu.2, pf.2, pd.2, c0, ty0, n1, n2, u1, u2, f1, f2, d1, d2, r0, bs, x, by rw [map_get hpn, a1], by rw [map_get hpu, a2], by rw [map_get hpf, a3], by rw [map_get hpd, a4], b1, ⟨g1.1, g1.2.1, g1.2.2, g2.1, g2.2, g3⟩, hbs, hx, hr7⟩
theorem fullKey_eq {k key : AV} (h : fullKey k = some key) : ∃ n c, k = .str n c ∧ key = .str (2 + n) (14906 % 256 ^ 2 + 256 ^ 2 * c) := by
  unfold fullKey at h
  rw [strV_eq] at h
  obtain ⟨n, c, rfl, h⟩ := h
  rw [mkStr_eq] at h
  cases h
  exact ⟨n, c, rfl, rfl⟩
theorem turned {n : Nat} {B : List ME} (hB : B.length = n) {τ : Nat → Nat} (h1 : ∀ j, j < n → τ j < n) (h2 : ∀ i j, i < n → j < n → τ i = τ j → i = j) : ∃ Q : List ME, B.Perm Q ∧ Q.length = n ∧ ∀ j, j < n → Q[j]? = B[τ j]? := by
  have hp : (List.range n).Perm ((List.range n).map τ) := by
    rw [List.perm_ext_iff_of_nodup List.nodup_range]
    · intro a
      simp only [List.mem_range, List.mem_map]
      constructor
      · intro ha
        obtain ⟨k, hk, e⟩ := all_taken n τ h1 (fun i j hi hj => h2 i j hi hj) a ha
        exact ⟨k, hk, e⟩
      · rintro ⟨k, hk, rfl⟩
        exact h1 k hk
    · show List.Pairwise _ _
      rw [List.pairwise_map]
      refine List.Pairwise.imp_of_mem (R := fun a b => a ≠ b) (fun {a b} ha hb hne he => hne (h2 a b (List.mem_range.1 ha) (List.mem_range.1 hb) he)) ?_
      exact List.nodup_range
  have hid : (List.range n).map (fun k => B.getD k ⟨.pnil, .pnil, 0⟩) = B := by
    refine List.ext_getElem? fun i => ?_
    rw [List.getElem?_map]
    by_cases hi : i < n
    · rw [List.getElem?_range hi, Option.map_some, List.getD_eq_getElem?_getD, List.getElem?_eq_getElem (by omega)]
      rfl
    · rw [List.getElem?_eq_none (by simp; omega), List.getElem?_eq_none (by omega)]
      rfl
  refine ⟨((List.range n).map τ).map fun k => B.getD k ⟨.pnil, .pnil, 0⟩, ?_, by simp, fun j hj => ?_⟩
  · have := hp.map fun k => B.getD k ⟨.pnil, .pnil, 0⟩
    rwa [hid] at this
  · rw [List.getElem?_map, List.getElem?_map, List.getElem?_range hj, Option.map_some, Option.map_some, List.getD_eq_getElem?_getD, List.getElem?_eq_getElem (by rw [hB]; exact h1 j hj)]
    rfl
theorem map_turn {e e2 : Env} (he : e.le e2) {n : Nat} {A B B' : List ME} {ents : Array MapEntry} {ck : Nat} (hm : MapR e (A ++ B) ents ck) (hB : B.length = n) (hB' : B'.length = n) {τ : Nat → Nat} (h1 : ∀ j, j < n → τ j < n) (h2 : ∀ i j, i < n → j < n → τ i = τ j → i = j)
    (hrel : ∀ j, j < n → ∀ m m', B[τ j]? = some m → B'[j]? = some m' → ∀ x, MER e m x → MER e2 m' x) : MapR e2 (A ++ B') ents ck := by
  obtain ⟨p, hp, hms⟩ := hm.perm
  obtain ⟨Q, hQ, hQl, hQg⟩ := turned hB h1 h2
  have hF : F2 (fun m m' => ∀ x, MER e m x → MER e2 m' x) (A ++ Q) (A ++ B') := by
    refine F2.app (F2.of_get rfl fun i v u hv hu x hx => ?_) (F2.of_get (by rw [hQl, hB']) fun i v u hv hu => ?_)
    · rw [hv] at hu; cases hu
      exact hx.mono he
    · have hi : i < n := by rw [← hQl]; exact (List.getElem?_eq_some_iff.1 hv).1
      rw [hQg i hi] at hv
      exact hrel i hi v u hv hu
  obtain ⟨p', hp', hF'⟩ := perm_rel (hp.trans (hQ.append_left A)) hF
  exact ⟨⟨p', hp', MERs.turn hF' hms⟩, hm.born, hm.stamps, hm.keys⟩
theorem map_mem {e : Env} {es : List ME} {ents : Array MapEntry} {ck : Nat} (hm : MapR e es ents ck) {m : ME} (h : m ∈ es) : ∃ x, MER e m x := by
  obtain ⟨p, hp, hms⟩ := hm.perm
  have hmp := hp.mem_iff.2 h
  clear hp
  generalize ents.toList = l at hms
  induction hms with
  | nil => cases hmp
  | cons m' x l l' h1 ht ih =>
    rcases List.mem_cons.1 hmp with rfl | h
    · exact ⟨x, h1⟩
    · exact ih h
end
end Go.Xe
end
section
namespace Go.Xe
noncomputable section
structure Named (e e2 : Env) (g n c0 : Nat) (bk : Nat → Nat) (τ : Nat → Nat) (s1 s2 s3 s4 : Nat → Nat) : Prop where
  l1 : ∀ j, j < n → e2.loc (g + 1 + 5 * j) = e.loc (bk (τ j))
  l2 : ∀ b, (∀ j, j < n → b ≠ g + 1 + 5 * j) → e2.loc b = e.loc b
  t1 : ∀ j, j < n → e2.stp (g + 1 + 5 * j + 1) = e.stp (s1 (τ j))
  t2 : ∀ j, j < n → e2.stp (g + 1 + 5 * j + 2) = e.stp (s2 (τ j))
  t3 : ∀ j, j < n → e2.stp (g + 1 + 5 * j + 3) = e.stp (s3 (τ j))
  t4 : ∀ j, j < n → e2.stp (g + 1 + 5 * j + 4) = e.stp (s4 (τ j))
  t5 : ∀ b, b ≤ g → e2.stp b = e.stp b
  t6 : ∀ b v, e2.stp b = some v → b < g + 1 + 5 * n ∨ e.stp b = some v
  num1 : ∀ j, j < n → e2.num g j = some (c0 + τ j)
  num2 : ∀ j, ¬ j < n → e2.num g j = none
  num3 : ∀ g' j, g' ≠ g → e2.num g' j = e.num g' j
  key : e2.key = e.key
  val : e2.val = e.val
theorem named (e : Env) (g n c0 : Nat) (bk τ s1 s2 s3 s4 : Nat → Nat) : ∃ e2, Named e e2 g n c0 bk τ s1 s2 s3 s4 := by
  refine ⟨⟨fun b => if g + 1 ≤ b ∧ b < g + 1 + 5 * n ∧ (b - (g + 1)) % 5 = 0 then e.loc (bk (τ ((b - (g + 1)) / 5))) else e.loc b,
    fun g' j => if g' = g then (if j < n then some (c0 + τ j) else none) else e.num g' j,
    fun b => if g + 1 ≤ b ∧ b < g + 1 + 5 * n then
      (if (b - (g + 1)) % 5 = 1 then e.stp (s1 (τ ((b - (g + 1)) / 5))) else if (b - (g + 1)) % 5 = 2 then e.stp (s2 (τ ((b - (g + 1)) / 5))) else
       if (b - (g + 1)) % 5 = 3 then e.stp (s3 (τ ((b - (g + 1)) / 5))) else if (b - (g + 1)) % 5 = 4 then e.stp (s4 (τ ((b - (g + 1)) / 5))) else none) else e.stp b,
    e.key, e.val⟩, ?_, ?_, ?_, ?_, ?_, ?_, ?_, ?_, ?_, ?_, ?_, rfl, rfl⟩
  · intro j hj
    show (if _ then _ else _) = _
    rw [if_pos (by omega), show (g + 1 + 5 * j - (g + 1)) / 5 = j by omega]
  · intro b hb
    show (if _ then _ else _) = _
    rw [if_neg]
    rintro ⟨h1, h2, h3⟩
    exact hb ((b - (g + 1)) / 5) (by omega) (by omega)
  · intro j hj
    show (if _ then _ else _) = _
    rw [if_pos (by omega), if_pos (by omega), show (g + 1 + 5 * j + 1 - (g + 1)) / 5 = j by omega]
  · intro j hj
    show (if _ then _ else _) = _
    rw [if_pos (by omega), if_neg (by omega), if_pos (by omega), show (g + 1 + 5 * j + 2 - (g + 1)) / 5 = j by omega]
  · intro j hj
    show (if _ then _ else _) = _
    rw [if_pos (by omega), if_neg (by omega), if_neg (by omega), if_pos (by omega), show (g + 1 + 5 * j + 3 - (g + 1)) / 5 = j by omega]
  · intro j hj
    show (if _ then _ else _) = _
    rw [if_pos (by omega), if_neg (by omega), if_neg (by omega), if_neg (by omega), if_pos (by omega), show (g + 1 + 5 * j + 4 - (g + 1)) / 5 = j by omega]
  · intro b hb
    show (if _ then _ else _) = _
    rw [if_neg (by omega)]
  · intro b v h
    by_cases hb : g + 1 ≤ b ∧ b < g + 1 + 5 * n
    · exact .inl hb.2
    · right
      have h' : (if g + 1 ≤ b ∧ b < g + 1 + 5 * n then _ else e.stp b) = some v := h
      rwa [if_neg hb] at h'
  · intro j hj
    show (if _ then _ else _) = _
    rw [if_pos rfl, if_pos hj]
  · intro j hj
    show (if _ then _ else _) = _
    rw [if_pos rfl, if_neg hj]
  · intro g' j hg
    show (if _ then _ else _) = _
    rw [if_neg hg]
theorem order {e : Env} {h : AH} (hF : FamOk e h.fb h.fam) {n : Nat} (hn : n = h.fam.length)
    (hk : ∀ k, k < n → (∃ s, e.key (h.fb + k) = some s)) : ∃ τ : Nat → Nat, (∀ j, j < n → τ j < n) ∧ (∀ i j, i < n → j < n → τ i = τ j → i = j) ∧
      ∀ j, j < n → ∃ kv m c u, h.fam[j]? = some kv ∧ kv.k = .str m c ∧ e.key (h.fb + τ j) = some (bytesOf m c) ∧ e.val (h.fb + τ j) = some u ∧ VR e kv.v u := by
  have hin : ∀ k, k < n → inFam h.fb h.fam (h.fb + k) = true := fun k hk => by
    unfold inFam
    rw [ite'_and, Bool.and_eq_true, ble_iff, blt_iff, len_eq]
    refine ⟨by omega, ?_⟩
    show h.fb + k < h.fb + h.fam.length
    omega
  have hσ : ∀ k, ∃ j, k < n → j < n ∧ ∃ kv m c u, h.fam[j]? = some kv ∧ kv.k = .str m c ∧ e.key (h.fb + k) = some (bytesOf m c) ∧ e.val (h.fb + k) = some u ∧ VR e kv.v u := fun k => by
    by_cases hkn : k < n
    · obtain ⟨s, hs⟩ := hk k hkn
      obtain ⟨kv, hmem, m, c, h1, h2, u, h3, h4⟩ := hF.key _ s (hin k hkn) hs
      obtain ⟨j, hj⟩ := List.mem_iff_getElem?.1 hmem
      exact ⟨j, fun _ => ⟨by rw [hn]; exact (List.getElem?_eq_some_iff.1 hj).1, kv, m, c, u, hj, h1, by rw [hs, h2], h3, h4⟩⟩
    · exact ⟨0, fun h => absurd h hkn⟩
  obtain ⟨σ, hσ⟩ := Classical.skolem.1 hσ
  have hinj : ∀ k k', k < n → k' < n → σ k = σ k' → k = k' := fun k k' h1 h2 he => by
    obtain ⟨_, kv, m, c, u, a1, a2, a3, _⟩ := hσ k h1
    obtain ⟨_, kv', m', c', u', b1, b2, b3, _⟩ := hσ k' h2
    rw [← he, a1] at b1; cases b1
    rw [a2] at b2; cases b2
    have := hF.inj _ _ _ (hin k h1) (hin k' h2) a3 b3
    omega
  have hτ : ∀ j, ∃ k, j < n → k < n ∧ σ k = j := fun j => by
    by_cases hj : j < n
    · obtain ⟨k, h1, h2⟩ := all_taken n σ (fun k hk => (hσ k hk).1) (fun k k' h1 h2 => hinj k k' h1 h2) j hj
      exact ⟨k, fun _ => ⟨h1, h2⟩⟩
    · exact ⟨0, fun h => absurd h hj⟩
  obtain ⟨τ, hτ⟩ := Classical.skolem.1 hτ
  refine ⟨τ, fun j hj => (hτ j hj).1, fun i j hi hj he => ?_, fun j hj => ?_⟩
  · rw [← (hτ i hi).2, ← (hτ j hj).2, he]
  · obtain ⟨h1, h2⟩ := hτ j hj
    obtain ⟨_, kv, m, c, u, a1, a2, a3, a4, a5⟩ := hσ (τ j) h1
    rw [h2] at a1
    exact ⟨kv, m, c, u, a1, a2, a3, a4, a5⟩
end
end Go.Xe
end
