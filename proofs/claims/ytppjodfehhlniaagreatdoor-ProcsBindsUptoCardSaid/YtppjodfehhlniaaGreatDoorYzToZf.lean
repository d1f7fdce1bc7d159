/-
  For regions that draw: the stages, and code of any kind; Behind a loop over a map in an open order: small laws; Behind a loop over a map in an open or. Conditions: none.
-/
import Derived.Test.YtppjodfehhlniaaGreatDoorYvToYy
set_option linter.unusedVariables false
set_option linter.unusedSimpArgs false
set_option linter.unusedSectionVars false
section
namespace Go.Xe
noncomputable section
section
variable {P : Program} {I : zba} {self : Option Nat → Code → Fr → AH → R} {pl : Plan} {all : List Oper} {base : Nat} {s : Nat → DS}
theorem zjZ {α β : Type} {f g : α → Option β} : ∀ {l : List α}, (∀ x ∈ l, f x = g x) → mapO f l = mapO g l
 | [], _ => rfl
 | x :: l, h => by
   have h1 : ∀ k : α → Option β, mapO k (x :: l) = bnd (k x) fun y => bnd (mapO k l) fun ys => some (y :: ys) := fun k => rfl
   rw [h1, h1, h x List.mem_cons_self, zjZ fun y hy => h y (List.mem_cons_of_mem _ hy)]
theorem zpQ {q : Nat → Bool} {k k' : Nat} (hk : k ≤ k') (hn : ∀ i, k ≤ i → i < k' → q i = false) : (List.range k').countP q = (List.range k).countP q := by
 induction k' with
 | zero => rw [show k = 0 by omega]
 | succ k' ih =>
   by_cases h : k = k' + 1
   ·rw [h]
   ·rw [List.range_succ, List.countP_append, List.countP_singleton, hn k' (by omega) (by omega), ih (by omega) fun i h1 h2 => hn i h1 (by omega)]
    simp
theorem TwinOk.loud {ms x : List Nat} {i1 i2 m1 m2 : Nat} {o1 o2 : Oper} (T : TwinOk P all ms x i1 i2 m1 m2 o1 o2) :
  Lp P all i1 = true ∧ Lp P all i2 = true ∧ i1 < i2 ∧ (∀ i, Lp P all i = true → i ∈ x ∨ i = i1 ∨ i = i2) ∧ (∀ i ∈ x, i < i1) := by
 have hs : (zc9 P all 0).Pairwise (· < ·) := zct
 have hm : ∀ i, i ∈ zc9 P all 0 ↔ Lp P all i = true := fun i => by
  rw [zfY]
  simp
 rw [T.l] at hs hm
 rw [List.pairwise_append] at hs
 obtain ⟨_, h1, h2⟩ := hs
 refine ⟨(hm i1).1 (by simp), (hm i2).1 (by simp), ?_, fun i hi => by simpa using (hm i).2 hi, fun i hi => h2 i hi i1 (by simp)⟩
 rw [List.pairwise_cons] at h1
 exact h1.1 i2 (by simp)
theorem znW {ms x : List Nat} {i1 i2 m1 m2 : Nat} {o1 o2 : Oper} (T : TwinOk P all ms x i1 i2 m1 m2 o1 o2) : (x ++ [i1]).Pairwise (· < ·) ∧ (x ++ [i2]).Pairwise (· < ·) := by
 have hs : (zc9 P all 0).Pairwise (· < ·) := zct
 rw [T.l, List.pairwise_append] at hs
 obtain ⟨h0, h1, h2⟩ := hs
 rw [List.pairwise_append, List.pairwise_append]
 exact ⟨⟨h0, by simp, fun a ha b hb => h2 a ha b (by simp at hb ⊢; exact .inl hb)⟩, ⟨h0, by simp, fun a ha b hb => h2 a ha b (by simp at hb ⊢; exact .inr hb)⟩⟩
theorem zs0 (D : DrawOk P I self pl all base s) {x : List Nat} {i1 i2 m1 m2 : Nat} {o1 o2 : Oper} (T : TwinOk P all pl.ms x i1 i2 m1 m2 o1 o2) (htw : pl.tw = some (i1, i2)) :
  ∃ vs1 vs2 Ga Gb, mapO (fun x => ev x (s i1).fr) (zbp o1.op) = some vs1 ∧ mapO (fun x => ev x (s i2).fr) (zbp o2.op) = some vs2 ∧ (s i1).fr.put o1.dst zaP = some (s (i1 + 1)).fr ∧ (s i2).fr.put o2.dst zaP = some (s (i2 + 1)).fr ∧
    opR P I self o2 vs2 (s i1).h = some (zaP, Ga) ∧ opR P I self o1 vs1 Ga = some (zaP, Gb) ∧ Heq Gb (s (i2 + 1)).h ∧ Ga.next = (s i1).h.next ∧ Ga.fm = (s i1).h.fm := by
 obtain ⟨L1, L2, h12, hall, hx⟩ := T.loud
 have hq1 : zal P o1.op = false := by
  obtain ⟨o, ho, hq⟩ := ze7.1 L1
  rw [T.a1] at ho; cases ho; exact hq
 have hq2 : zal P o2.op = false := by
  obtain ⟨o, ho, hq⟩ := ze7.1 L2
  rw [T.a2] at ho; cases ho; exact hq
 have hn2 : i2 < all.length := (List.getElem?_eq_some_iff.1 T.a2).1
 have hw : ∀ (j : Nat) (o : Oper), o.guard = none → zat all (s j).fr o.guard = some true := fun j o hg => by rw [hg]; rfl
 have hgap : ∀ i, i1 + 1 ≤ i → i < i2 → Lp P all i = false := fun i h1 h2 => by
  cases hl : Lp P all i with
  | false => rfl
  | true => rcases hall i hl with h | h | h
            ·have := hx i h; omega
            ·omega
            ·omega
 obtain ⟨m', hm', st1⟩ := D.run.at_ D.mok.len T.a1
 rw [T.h1] at hm'; cases hm'
 obtain ⟨tw1, V1, hp1, hds1, S1⟩ := zaD st1
 obtain ⟨m', hm', st2⟩ := D.run.at_ D.mok.len T.a2
 rw [T.h2] at hm'; cases hm'
 obtain ⟨tw2, V2, hp2, hds2, S2⟩ := zaD st2
 replace hp1 := hp1.back (hds1.resolve_right fun hd => by rw [zaZ hd.1] at hq1; cases hq1)
 replace hp2 := hp2.back (hds2.resolve_right fun hd => by rw [zaZ hd.1] at hq2; cases hq2)
 have tw1 := tw1.resolve_left (by rw [hq1]; simp)
 have tw2 := tw2.resolve_left (by rw [hq2]; simp)
 unfold zqB at tw1 tw2
 rw [htw, oE_some] at tw1 tw2
 dsimp only at tw1 tw2
 rw [zcR, (zae i1 i1).2 rfl, Bool.true_or, ite'_true, zbf, zbf, T.h1, T.h2, oE_some, oE_some, zai, Bool.and_eq_true] at tw1
 rw [zcR, (zae i2 i2).2 rfl, Bool.or_true, ite'_true, zbf, zbf, T.h1, T.h2, oE_some, oE_some, zai, Bool.and_eq_true, zcR, Bool.or_eq_true] at tw2
 have np1 : zoO m1 m2 (s i1).ps = true := tw1.1
 obtain ⟨np2, hb, hbe, hap⟩ : zoO m1 m2 (s i2).ps = true ∧ ∃ hb, zhV (s i2).hs = some hb ∧ zus all (s i2).fr hb i1 i2 = true := by
  obtain ⟨h1, h2⟩ := tw2
  refine ⟨h1, ?_⟩
  rcases h2 with h2 | h2
  ·have := (zae _ _).1 h2
   omega
  ·cases hbe : zhV (s i2).hs with
   | none => rw [hbe] at h2; cases h2
   | some hb => rw [hbe, oE_some] at h2; exact ⟨hb, rfl, h2⟩
 cases S1 with
 | off hw' => rw [hw i1 o1 T.g1] at hw'; cases hw'
 | made _ vs en f hvs hm' => rw [zbB hm'] at hq1; cases hq1
 | quiet _ vs hvs hq' => rw [hq1] at hq'; cases hq'
 | dfr _ vs hvs hd => rw [zaZ hd] at hq1; cases hq1
 | loud _ vs1 hvs1 _ hr1 hhs1 hps1 =>
 cases S2 with
 | off hw' => rw [hw i2 o2 T.g2] at hw'; cases hw'
 | made _ vs en f hvs hm' => rw [zbB hm'] at hq2; cases hq2
 | quiet _ vs hvs hq' => rw [hq2] at hq'; cases hq'
 | dfr _ vs hvs hd => rw [zaZ hd] at hq2; cases hq2
 | loud _ vs2 hvs2 _ hr2 hhs2 hps2 =>
   rw [zgK fun p hp => (ziK np1 p hp).1] at hr1
   rw [zgK fun p hp => (ziK np2 p hp).2] at hr2
   have hH : (s i2).h = (s (i1 + 1)).h := D.keepH (by omega) (by omega) hgap
   rw [hH] at hr2
   obtain ⟨x1, y1, b1, off1, en1, en1', olds1, e1, f1, rfl, g1, t1⟩ := zo8 T.s1 hr1
   obtain ⟨x2, y2, b2, off2, en2, en2', olds2, e2, f2, rfl, g2, t2⟩ := zo8 T.s2 hr2
   have hbv : hb = (s i1).h := by
    obtain ⟨q1, q2⟩ := zha hbe
    obtain ⟨c1, _⟩ := D.run.hs D.mok.len D.h0s (show i2 ≤ all.length by omega)
    obtain ⟨_, c4⟩ := D.run.hs D.mok.len D.h0s (show i1 ≤ all.length by omega)
    have c5 := D.run.hs_pre D.mok.len (show i1 ≤ i2 by omega) (by omega) c4
    have c6 : (List.range i2).countP (Lp P all) = (List.range i1).countP (Lp P all) + 1 := by
     rw [zpQ (show i1 + 1 ≤ i2 by omega) hgap, List.range_succ, List.countP_append, List.countP_singleton, L1]
     rfl
    rw [c1, c6, show 1 + ((List.range i1).countP (Lp P all) + 1) - 2 = (List.range i1).countP (Lp P all) by omega, c5] at q2
    exact (Option.some.inj q2).symm
   rw [hbv] at hap
   have hvs1' : mapO (fun x => ev x (s i2).fr) (zbp o1.op) = some vs1 := by
    rw [← hvs1]
    refine zjZ fun y hy => ?_
    cases y with
    | tmp t =>
      have hst := T.strict _ hy
      have hst' : zeh i1 m1 t true all 0 pl.ms = true := hst
      have hat : atT (s i2).fr.t t = atT (s i1).fr.t t := by
       refine D.run.keep D.mok.len (by omega) (by omega) fun i o ho1 ho2 ho hd => ?_
       obtain ⟨mi, hmi⟩ := D.mask ho
       rcases zdW hst' i mi o ho hmi hd with ⟨_, h⟩ | h | ⟨h, _⟩
       ·cases h
       ·rw [Nat.zero_add] at h
        have := D.mok.lt i1 m1 T.h1 i h
        omega
       ·cases h
      show some ((s i2).fr.at_ t) = some ((s i1).fr.at_ t)
      rw [zhZ, zhZ, hat]
    | _ => rfl
   unfold zus at hap
   have hA1 : zjC o1 (s i2).fr = some b1 := by
    unfold zjC
    rw [hvs1', bnd_some, e1, f1]
    rfl
   have hA2 : zjC o2 (s i2).fr = some b2 := by
    unfold zjC
    rw [hvs2, bnd_some, e2, f2]
    rfl
   rw [zbf, zbf, T.a1, T.a2, bnd_some, bnd_some, hA1, hA2, bnd_some, bnd_some, g1, bnd_some, t1.oldsEq, bnd_some] at hap
   cases hg2 : (s i1).h.get b2 with
   | none => rw [hg2] at hap; cases hap
   | some en2'' =>
     rw [hg2, bnd_some] at hap
     cases ho2 : zoN en2'' with
     | none => rw [ho2] at hap; cases hap
     | some olds2' =>
       rw [ho2, bnd_some, zaK] at hap
       by_cases hbb : Nat.beq b1 b2 = true
       ·rw [if_pos hbb] at hap; cases hap
       ·rw [if_neg hbb] at hap
        have hne : b1 ≠ b2 := fun h => hbb ((zae _ _).2 h)
        obtain ⟨n1, n2⟩ : zeZ b1 olds2' = true ∧ zeZ b2 olds1 = true := by
         cases q1 : zeZ b1 olds2' with
         | false => rw [q1] at hap; cases hap
         | true =>
           cases q2 : zeZ b2 olds1 with
           | false => rw [q1, q2] at hap; cases hap
           | true => exact ⟨rfl, rfl⟩
        rw [zdw] at n1 n2
        obtain ⟨H1', u1, _, _, u4⟩ := t1.at_ _ g1
        rw [hr1] at u1; cases u1
        have hsame := g2
        rw [u4, if_neg (fun h => hne h.symm), if_neg n2, hg2] at hsame
        cases hsame
        rw [t2.oldsEq] at ho2; cases ho2
        obtain ⟨Ga, Gb, a1, a2, a3, a4, a5⟩ := zri t1 t2 hr1 hr2 g1 g2 hne n2 n1
        exact ⟨vs1, vs2, Ga, Gb, hvs1, hvs2, hp1, hp2, a1, a2, a3, a4, a5⟩
theorem zpR (D : DrawOk P I self pl all base s) {x : List Nat} {i1 i2 m1 m2 : Nat} {o1 o2 : Oper} (T : TwinOk P all pl.ms x i1 i2 m1 m2 o1 o2) (htw : pl.tw = some (i1, i2)) : ∃ Stg, StageOk P I self pl all base s Stg := by
 obtain ⟨vs1, vs2, Ga, Gb, r1, r2, p1, p2, k1, k2, k3, k4, k5⟩ := zs0 D T htw
 obtain ⟨L1, L2, h12, hall, hx⟩ := T.loud
 obtain ⟨so1, so2⟩ := znW T
 have hn2 : i2 < all.length := (List.getElem?_eq_some_iff.1 T.a2).1
 have hwt : ∀ (j : Nat) (o : Oper), all[j]? = some o → (j = i1 ∨ j = i2) → zat all (s j).fr o.guard ≠ some false := fun j o ho hj => by
  rcases hj with rfl | rfl
  ·rw [T.a1] at ho; cases ho
   rw [T.g1]; intro h; cases h
  ·rw [T.a2] at ho; cases ho
   rw [T.g2]; intro h; cases h
 have hbef : ∀ (S : Nat → Prop) (j m : Nat) (o : Oper), all[j]? = some o → pl.ms[j]? = some m → zal P o.op = false → (∀ i, bit m i = true → S i) → (j = i2 → S i1) → ∀ i, Lp P all i = true → i < j → S i := fun S j m o ho hm hq hanc h2 i hi hij => by
  have hLj : Lp P all j = true := ze7.2 ⟨o, ho, hq⟩
  by_cases hj2 : j = i2
  ·subst hj2
   rcases hall i hi with h | h | h
   ·exact zdg D so2 T.c2 hm hanc (by simp) i (by simp [h]) hij
   ·rw [h]; exact h2 rfl
   ·omega
  ·have hj' : j ∈ x ++ [i1] := by
    rcases hall j hLj with h | h | h
    ·simp [h]
    ·simp [h]
    ·exact absurd h hj2
   have hjl : j ≤ i1 := by
    rcases hall j hLj with h | h | h
    ·exact Nat.le_of_lt (hx j h)
    ·omega
    ·exact absurd h hj2
   refine zdg D so1 T.c1 hm hanc hj' i ?_ hij
   rcases hall i hi with h | h | h
   ·simp [h]
   ·simp [h]
   ·omega
 have hxb : ∀ (S : Nat → Prop), (∀ i, bit m2 i = true → S i) → ∀ i ∈ x, S i := fun S hanc i hi =>
  zdg D so2 T.c2 T.h2 hanc (by simp) i (by simp [hi]) (by have := hx i hi; omega)
 refine ⟨fun S G => StgC P all s S G ∨ (S i2 ∧ ¬ S i1 ∧ (∀ i, Lp P all i = true → i ≠ i1 → S i) ∧ Heq G Ga), .inl ⟨0, Nat.zero_le _, fun i _ => ⟨fun h => h.elim, fun h => (by omega)⟩, .refl _⟩, ?_, ?_, ?_, ?_, ?_⟩
 ·rintro S S' G hSS (⟨k, hk, hS, hG⟩ | ⟨q1, q2, q3, q4⟩)
  ·exact .inl ⟨k, hk, fun i hi => (hSS i hi).symm.trans (hS i hi), hG⟩
  ·exact .inr ⟨(hSS i2 L2).1 q1, fun h => q2 ((hSS i1 L1).2 h), fun i hi hne => (hSS i hi).1 (q3 i hi hne), q4⟩
 ·intro S j m o G hdc ho hm hq hnj hanc hw hG
  have hne : j ≠ i1 ∧ j ≠ i2 := ⟨fun h => hwt j o ho (.inl h) hw, fun h => hwt j o ho (.inr h) hw⟩
  rcases hG with hG | ⟨q1, q2, q3, q4⟩
  ·obtain ⟨h1, h2, h3⟩ := hG.next D ho hq hnj (hbef S j m o ho hm hq hanc fun h => absurd h hne.2)
   exact .inl ⟨j + 1, (List.getElem?_eq_some_iff.1 ho).1, h3, by rw [D.offAt ho hm hw]; exact h1⟩
  ·exact absurd (q3 j (ze7.2 ⟨o, ho, hq⟩) hne.1) hnj
 ·intro S j m o G hdc ho hm hq hnj hanc hw hG
  have hLj : Lp P all j = true := ze7.2 ⟨o, ho, hq⟩
  rcases hG with hG | ⟨q1, q2, q3, q4⟩
  ·by_cases hj2 : j = i2 ∧ ¬ S i1
   ·obtain ⟨rfl, hn1⟩ := hj2
    rw [T.a2] at ho; cases ho
    rw [T.h2] at hm; cases hm
    obtain ⟨k, hk, hS, hGk⟩ := hG
    have hki : k ≤ i1 := Nat.le_of_not_lt fun h => hn1 ((hS i1 L1).2 h)
    have hH : (s i1).h = (s k).h := D.keepH hki (by omega) fun i h1 h2 => by
     cases hl : Lp P all i with
     | false => rfl
     | true =>
       have hxi : i ∈ x := by
        rcases hall i hl with h | h | h
        ·exact h
        ·omega
        ·omega
       have := (hS i hl).1 (hxb S hanc i hxi)
       omega
    rw [← hH] at hGk
    refine ⟨(s i1).h, Ga, vs2, zaP, r2, p2, k1, hGk.2.1.symm, hGk.2.2.symm, fun b en hb => .inr (by rw [hGk.1]; exact hb), .inr ⟨.inr rfl, fun h => h.elim hn1 fun h => (by omega), fun i hi hne => ?_, .refl _⟩⟩
    rcases hall i hi with h | h | h
    ·exact .inl (hxb S hanc i h)
    ·exact absurd h hne
    ·exact .inr h
   ·have h2' : j = i2 → S i1 := fun h => Classical.byContradiction fun hn => hj2 ⟨h, hn⟩
    obtain ⟨h1, h2, h3⟩ := hG.next D ho hq hnj (hbef S j m o ho hm hq hanc h2')
    obtain ⟨hin, hout, vs, V, a1, a2, a3, a4, a5, a6, a7⟩ := D.loudAt (S := S) ho hm hq hw h2
    exact ⟨hin, hout, vs, V, a1, a2, a3, a4.trans h1.2.1.symm, a5.trans h1.2.2.symm, fun b en hb => (a6 b en hb).imp id fun h => by rw [h1.1]; exact h, .inl ⟨j + 1, (List.getElem?_eq_some_iff.1 ho).1, h3, by rw [a7]; exact .refl _⟩⟩
  ·have hj1 : j = i1 := Classical.byContradiction fun h => hnj (q3 j hLj h)
   subst hj1
   rw [T.a1] at ho; cases ho
   refine ⟨Ga, Gb, vs1, zaP, r1, p1, k2, q4.2.1.symm, q4.2.2.symm, fun b en hb => .inr (by rw [q4.1]; exact hb), .inl ⟨i2 + 1, hn2, fun i hi => ⟨fun _ => ?_, fun _ => ?_⟩, k3⟩⟩
   ·rcases hall i hi with h | h | h
    ·have := hx i h; omega
    ·omega
    ·omega
   ·by_cases hne : i = j
    ·exact .inr hne
    ·exact .inl (q3 i hi hne)
 ·intro S j m o G hdc ho hm hq hmk hr hnj hanc hw hG
  rcases hG with ⟨k, hk, hS, hG⟩ | ⟨q1, q2, q3, q4⟩
  ·obtain ⟨vs, V, b1, b2, b3⟩ := D.readAt hdc ho hm hq hr hnj hanc hw hk hS
   exact ⟨_, vs, V, hG.symm, b1, b2, b3⟩
  ·have hb := zfZ T.r2 j o ho hq hr
   rw [Nat.zero_add] at hb
   exact absurd (hdc i2 m2 q1 T.h2 j hb) hnj
 ·intro S G hfull hG
  rcases hG with ⟨k, hk, hS, hG⟩ | ⟨q1, q2, q3, q4⟩
  ·rw [D.keepH hk (Nat.le_refl _) fun i h1 h2 => ?_]
   ·exact hG
   ·cases hl : Lp P all i with
    | false => rfl
    | true =>
      have := (hS i hl).1 (hfull i h2)
      omega
  ·exact absurd (hfull i1 (by omega)) q2
theorem zvt (P : Program) (I : zba) (self : Option Nat → Code → Fr → AH → R) : zt5 P I self := fun pl all base s D hpl => by
 obtain ⟨_, _, _, _, hk⟩ := ziJ hpl
 rcases hk with ⟨_, hc⟩ | ⟨t, ht, hc⟩
 ·exact ⟨_, znV D hc⟩
 ·obtain ⟨x, m1, m2, o1, o2, T⟩ := zpP rfl hc
  exact zpR D T ht
theorem zrj {P : Program} {I : zba} (ok : POk P) (hI : KnownOk P I) (n : Nat) : Good P (exec P I n) :=
 (zme ok hI (fun self hg => zrh ok hI hg (zvt P I self)) n).1
end
end
end Go.Xe
end
section
namespace Go.Xe
noncomputable section
theorem zex : ∀ (n : Nat) (f : Nat → Nat), (∀ k, k < n → f k < n) → (∀ k k', k < n → k' < n → f k = f k' → k = k') → ∀ j, j < n → ∃ k, k < n ∧ f k = j
 | 0, f, _, _, j, hj => by omega
 | n + 1, f, hf, hi, j, hj => by
   by_cases hn : f n = n
   ·by_cases hjn : j = n
    ·exact ⟨n, Nat.lt_succ_self n, by rw [hn, hjn]⟩
    ·obtain ⟨k, hk, e⟩ := zex n f (fun k hk => by
      have h1 := hf k (by omega)
      have : f k ≠ n := fun h => by
       have := hi k n (by omega) (by omega) (by rw [h, hn])
       omega
      omega) (fun k k' h1 h2 => hi k k' (by omega) (by omega)) j (by omega)
     exact ⟨k, by omega, e⟩
   ·have hfn : f n < n := by have := hf n (by omega); omega
    obtain ⟨g, hg⟩ : ∃ g : Nat → Nat, g = fun k => if f k = n then f n else f k := ⟨_, rfl⟩
    have h1 : ∀ k, k < n → g k < n := fun k hk => by
     rw [hg]
     show (if f k = n then f n else f k) < n
     split
     ·exact hfn
     ·have := hf k (by omega); omega
    have h2 : ∀ k k', k < n → k' < n → g k = g k' → k = k' := fun k k' hk hk' h => by
     rw [hg] at h
     have h' : (if f k = n then f n else f k) = if f k' = n then f n else f k' := h
     split at h' <;> split at h'
     ·rename_i a b
      exact hi k k' (by omega) (by omega) (by rw [a, b])
     ·have := hi n k' (by omega) (by omega) h'
      omega
     ·have := hi k n (by omega) (by omega) h'
      omega
     ·exact hi k k' (by omega) (by omega) h'
    have back : ∀ j, j < n → ∃ k, k < n + 1 ∧ f k = j ∨ False := fun j hj => by
     obtain ⟨k, hk, e⟩ := zex n g h1 h2 j hj
     rw [hg] at e
     have e' : (if f k = n then f n else f k) = j := e
     split at e'
     ·exact ⟨n, .inl ⟨Nat.lt_succ_self n, e'⟩⟩
     ·exact ⟨k, .inl ⟨by omega, e'⟩⟩
    by_cases hjn : j = n
    ·obtain ⟨k, hk, e⟩ := zex n g h1 h2 (f n) hfn
     rw [hg] at e
     have e' : (if f k = n then f n else f k) = f n := e
     split at e'
     ·rename_i a
      exact ⟨k, by omega, by rw [a, hjn]⟩
     ·have := hi k n (by omega) (by omega) e'
      omega
    ·obtain ⟨k, h⟩ := back j (by omega)
     exact ⟨k, h.resolve_right id⟩
inductive F2 {α β : Type} (R : α → β → Prop) : List α → List β → Prop
 | nil : F2 R [] []
 | cons {x : α} {y : β} {l : List α} {l' : List β} (h : R x y) (ht : F2 R l l') : F2 R (x :: l) (y :: l')
theorem F2.of_get {α β : Type} {R : α → β → Prop} : ∀ {l : List α} {l' : List β}, l.length = l'.length → (∀ (i : Nat) v u, l[i]? = some v → l'[i]? = some u → R v u) → F2 R l l'
 | [], [], _, _ => .nil
 | [], _ :: _, h, _ => by simp at h
 | _ :: _, [], h, _ => by simp at h
 | v :: l, u :: l', h, k => .cons (k 0 v u rfl rfl) (F2.of_get (by simpa using h) fun i x y hx hy => k (i + 1) x y (by simpa using hx) (by simpa using hy))
theorem F2.app {α β : Type} {R : α → β → Prop} {l r : List α} {l' r' : List β} (h : F2 R l l') (k : F2 R r r') : F2 R (l ++ r) (l' ++ r') := by
 induction h with
 | nil => exact k
 | cons h _ ih => exact .cons h ih
theorem zs1 {α β : Type} {R : α → β → Prop} {p q : List α} (h : p.Perm q) : ∀ {q' : List β}, F2 R q q' → ∃ p', p'.Perm q' ∧ F2 R p p' := by
 induction h with
 | nil => intro q' hq; exact ⟨q', .refl _, hq⟩
 | cons x _ ih =>
   intro q' hq
   cases hq with
   | cons hx ht =>
     obtain ⟨p', h1, h2⟩ := ih ht
     exact ⟨_ :: p', h1.cons _, .cons hx h2⟩
 | swap x y l =>
   intro q' hq
   cases hq with
   | cons hx ht =>
     cases ht with
     | cons hy ht => exact ⟨_ :: _ :: _, .swap _ _ _, .cons hy (.cons hx ht)⟩
 | trans _ _ ih1 ih2 =>
   intro q' hq
   obtain ⟨p1, a1, b1⟩ := ih2 hq
   obtain ⟨p2, a2, b2⟩ := ih1 b1
   exact ⟨p2, a2.trans a1, b2⟩
theorem MERs.turn {e e2 : Env} : ∀ {p p' : List ME} {l : List MapEntry}, F2 (fun m m' => ∀ x, MER e m x → MER e2 m' x) p p' → MERs e p l → MERs e2 p' l
 | _, _, _, .nil, h => by cases h; exact .nil
 | _, _, _, .cons hx ht, h => by
   cases h with
   | cons m x l l' h1 h2 => exact .cons _ _ _ _ (hx _ h1) (MERs.turn ht h2)
end
end Go.Xe
end
section
namespace Go.Xe
noncomputable section
theorem zmq {α β : Type} {l : List α} {k : α → List α → Option β} {y : β} (h : hd1 l k = some y) : ∃ a t, l = a :: t ∧ k a t = some y := by
 cases l with
 | nil => cases h
 | cons a t => exact ⟨a, t, rfl, h⟩
theorem zhy {n : Nat} {a : AV} (h : zkx n a = true) : a = .int .i64 (.ofNat n) := by
 unfold zkx at h
 split at h
 ·rw [zae] at h; rw [h]
 ·cases h
theorem zmr {pn pc i : Nat} {a : AV} (h : zoH pn pc i a = true) : a = .sstr pn pc i := by
 cases a <;> try (cases h; done)
 rename_i n c j
 have h' : ite' (Nat.beq n pn) (ite' (Nat.beq c pc) (Nat.beq j i) false) false = true := h
 rw [zai, Bool.and_eq_true, zai, Bool.and_eq_true, zae, zae, zae] at h'
 rw [h'.1, h'.2.1, h'.2.2]
theorem zs2 {b : Nat} {a : AV} (h : zun b a = true) : a = .ptr b 0 := by
 cases a <;> try (cases h; done)
 rename_i c o
 have h' : ite' (Nat.beq b c) (Nat.beq o 0) false = true := h
 rw [zai, Bool.and_eq_true, zae, zae] at h'
 rw [h'.1, h'.2]
theorem zrk {i : Nat} {a : AV} (h : zqv i a = true) : a = .sval i := by
 cases a <;> try (cases h; done)
 rename_i j
 have h' : Nat.beq i j = true := h
 rw [zae] at h'
 rw [h']
theorem zrl {a : AV} (h : zls a = true) : a = .inil := by cases a <;> first | rfl | (cases h; done)
theorem znX {c i : Nat} {e : Ent} {r : List AV} {ty : Nat} (h : zfH c i e = some (r, ty)) : e = .cells (.int .i64 (.ofNat c) :: .sstr 2 14906 i :: r) ty true 0 [] := by
 unfold zfH at h
 split at h
 ·rw [zac, zac] at h
  obtain ⟨h1, h2, h3⟩ := h
  cases h3
  rw [zhy h1, zmr h2]
 ·cases h
structure Chk (h : AH) (r0 : List AV) (ty0 i c : Nat) (nm nu fu da : ME) (b : Nat) : Prop where
 nm : nm.k = .sstr 2 14906 i ∧ nm.v = .ptr b 0
 nu : nu.k = .int .i64 (.ofNat c) ∧ nu.v = .ptr b 0
 fu : fu.k = .int .i64 (.ofNat c) ∧ fu.v = .sval i
 da : da.k = .int .i64 (.ofNat c) ∧ da.v = .inil
 ent : h.get b = some (.cells (.int .i64 (.ofNat c) :: .sstr 2 14906 i :: r0) ty0 true 0 [])
theorem zuG {h : AH} {r0 : List AV} {ty0 i c : Nat} {nm nu fu da : ME} {b : Nat} (hc : chk1 h r0 ty0 i c nm nu fu da = some b) : Chk h r0 ty0 i c nm nu fu da b := by
 unfold chk1 at hc
 cases hv : nm.v <;> rw [hv] at hc <;> try (cases hc; done)
 rename_i b' o
 have hc' : grd (Nat.beq o 0) (grd (zoH 2 14906 i nm.k) (grd (zkx c nu.k) (grd (zun b' nu.v) (grd (zkx c fu.k) (grd (zqv i fu.v)
  (grd (zkx c da.k) (grd (zls da.v) (bnd (h.get b') fun e => bnd (zfH c i e) fun rt => grd (Nat.beq rt.2 ty0) (grd (zkw rt.1 r0) (some b')))))))))) = some b := hc
 rw [zac, zac, zac, zac, zac, zac, zac, zac, zaa] at hc'
 obtain ⟨k1, k2, k3, k4, k5, k6, k7, k8, e, he, hc'⟩ := hc'
 rw [zaa] at hc'
 obtain ⟨⟨r, ty⟩, hm, hc'⟩ := hc'
 rw [zac, zac] at hc'
 obtain ⟨k9, k10, hc'⟩ := hc'
 cases hc'
 have ho := (zae _ _).1 k1
 have hty := (zae _ _).1 k9
 have hrr := zhw k10
 simp only at hty hrr
 subst ho hty hrr
 refine ⟨⟨zmr k2, hv⟩, ⟨zhy k3, zs2 k4⟩, ⟨zhy k5, zrk k6⟩, ⟨zhy k7, zrl k8⟩, ?_⟩
 rw [he, znX hm]
theorem zrm {h : AH} {r0 : List AV} {ty0 : Nat} : ∀ {nm : List ME} {i c : Nat} {nu fu da : List ME} {bs : List Nat}, chkL h r0 ty0 nm i c nu fu da = some bs →
  bs.length = nm.length ∧ nu.length = nm.length ∧ fu.length = nm.length ∧ da.length = nm.length ∧
   ∀ k, k < nm.length → ∃ a b c' d x, nm[k]? = some a ∧ nu[k]? = some b ∧ fu[k]? = some c' ∧ da[k]? = some d ∧ bs[k]? = some x ∧ Chk h r0 ty0 (i + k) (c + k) a b c' d x
 | [], i, c, nu, fu, da, bs, hc => by
   have hc' : grd (za5 nu) (grd (za5 fu) (grd (za5 da) (some []))) = some bs := hc
   rw [zac, zac, zac, zaG, zaG, zaG] at hc'
   obtain ⟨rfl, rfl, rfl, hc'⟩ := hc'
   cases hc'
   exact ⟨rfl, rfl, rfl, rfl, fun k hk => by simp at hk⟩
 | a :: nm, i, c, nu, fu, da, bs, hc => by
   obtain ⟨b, nus, rfl, hc1⟩ := zmq (l := nu) (k := fun b nus => hd1 fu fun c' fus => hd1 da fun d das =>
    bnd (chk1 h r0 ty0 i c a b c' d) fun x => bnd (chkL h r0 ty0 nm (i + 1) (c + 1) nus fus das) fun xs => some (x :: xs)) hc
   obtain ⟨c', fus, rfl, hc2⟩ := zmq hc1
   obtain ⟨d, das, rfl, hc3⟩ := zmq hc2
   rw [zaa] at hc3
   obtain ⟨x, hx, hc4⟩ := hc3
   rw [zaa] at hc4
   obtain ⟨xs, hxs, hc5⟩ := hc4
   cases hc5
   obtain ⟨l1, l2, l3, l4, hk⟩ := zrm hxs
   refine ⟨by simp [l1], by simp [l2], by simp [l3], by simp [l4], fun k hkl => ?_⟩
   cases k with
   | zero => exact ⟨a, b, c', d, x, rfl, rfl, rfl, rfl, rfl, zuG hx⟩
   | succ k =>
     obtain ⟨a', b', c'', d', x', q1, q2, q3, q4, q5, q6⟩ := hk k (by simpa using hkl)
     refine ⟨a', b', c'', d', x', by simpa using q1, by simpa using q2, by simpa using q3, by simpa using q4, by simpa using q5, ?_⟩
     rwa [show i + (k + 1) = i + 1 + k by omega, show c + (k + 1) = c + 1 + k by omega]
structure New (g lo hi j b : Nat) (kv : ME) (x : Acc) (k : Nat) (key : AV) : Prop where
 keyEq : zfg kv.k = some key
 nm : x.nm[k]? = some ⟨key, .ptr b 0, b + 1⟩
 nu : x.nu[k]? = some ⟨.num g j lo hi, .ptr b 0, b + 2⟩
 fu : x.fu[k]? = some ⟨.num g j lo hi, kv.v, b + 3⟩
 da : x.da[k]? = some ⟨.num g j lo hi, .inil, b + 4⟩
theorem znY {g lo hi ty0 : Nat} {r0 : List AV} : ∀ {fam : List ME} {j b : Nat} {h : AH} {x : Acc}, newL g lo hi ty0 r0 fam j b h = some x →
  x.nm.length = fam.length ∧ x.nu.length = fam.length ∧ x.fu.length = fam.length ∧ x.da.length = fam.length ∧ x.h.next = h.next ∧ x.h.fm = h.fm ∧
  (∀ k, k < fam.length → ∃ kv key, fam[k]? = some kv ∧ New g lo hi (j + k) (b + 5 * k) kv x k key ∧ x.h.get (b + 5 * k) = some (.cells (.num g (j + k) lo hi :: key :: r0) ty0 true 0 [])) ∧
  ∀ c, (∀ k, k < fam.length → c ≠ b + 5 * k) → x.h.get c = h.get c
 | [], j, b, h, x, hn => by
   have hn' : some (⟨[], [], [], [], h⟩ : Acc) = some x := hn
   cases hn'
   exact ⟨rfl, rfl, rfl, rfl, rfl, rfl, fun k hk => by simp at hk, fun c _ => rfl⟩
 | kv :: fam, j, b, h, x, hn => by
   have hn' : bnd (zfg kv.k) (fun key => bnd (newL g lo hi ty0 r0 fam (j + 1) (b + 5) (h.set b (.cells (.num g j lo hi :: key :: r0) ty0 true 0 []))) fun x =>
     some (⟨⟨key, .ptr b 0, b + 1⟩ :: x.nm, ⟨.num g j lo hi, .ptr b 0, b + 2⟩ :: x.nu, ⟨.num g j lo hi, kv.v, b + 3⟩ :: x.fu, ⟨.num g j lo hi, .inil, b + 4⟩ :: x.da, x.h⟩ : Acc)) = some x := by
    rw [← hn]
    show _ = bnd (zfg kv.k) _
    simp only [zaL]
    rfl
   rw [zaa] at hn'
   obtain ⟨key, hkey, hn'⟩ := hn'
   rw [zaa] at hn'
   obtain ⟨y, hy, hn'⟩ := hn'
   cases hn'
   obtain ⟨l1, l2, l3, l4, l5, l6, hk, hg⟩ := znY hy
   refine ⟨by simp [l1], by simp [l2], by simp [l3], by simp [l4], l5, l6, fun k hkl => ?_, fun c hc => ?_⟩
   ·cases k with
    | zero =>
      refine ⟨kv, key, rfl, ⟨hkey, rfl, rfl, rfl, rfl⟩, ?_⟩
      show y.h.get (b + 5 * 0) = _
      rw [hg _ fun k _ => by omega, AH.get_set, if_pos (by omega)]
      rfl
    | succ k =>
      obtain ⟨kv', key', q1, q2, q3⟩ := hk k (by simpa using hkl)
      rw [show j + 1 + k = j + (k + 1) by omega, show b + 5 + 5 * k = b + 5 * (k + 1) by omega] at q2 q3
      exact ⟨kv', key', by simpa using q1, ⟨q2.keyEq, by simpa using q2.nm, by simpa using q2.nu, by simpa using q2.fu, by simpa using q2.da⟩, q3⟩
   ·show y.h.get c = _
    rw [hg c fun k hkl => by
     have := hc (k + 1) (by simpa using hkl)
     omega, AH.get_set, if_neg (by have := hc 0 (by simp); omega)]
theorem zf1 {n : Nat} {l a b : List ME} (h : zjz n l = some (a, b)) : l = a ++ b ∧ b.length = n := by
 unfold zjz at h
 rw [zac, zaa, za1, zaU] at h
 obtain ⟨hn, a', ha, h⟩ := h
 rw [zaa] at h
 obtain ⟨b', hb, h⟩ := h
 cases h
 have hsub : Nat.sub l.length n = l.length - n := rfl
 rw [hsub, zjD, if_pos (Nat.sub_le _ _)] at ha
 rw [hsub, zlC, if_pos (Nat.sub_le _ _)] at hb
 cases ha; cases hb
 refine ⟨(List.take_append_drop _ _).symm, ?_⟩
 rw [List.length_drop]
 show l.length - (l.length - n) = n
 omega
end
end Go.Xe
end
section
namespace Go.Xe
noncomputable section
theorem zk4 {h : AH} {b : Nat} {p : List ME × Nat} (hm : h.map b = some p) : h.get b = some (.map p.1 p.2) := by
 unfold AH.map at hm
 rw [zaa] at hm
 obtain ⟨en, he, hm⟩ := hm
 cases en <;> try (cases hm; done)
 have hm' : some (_, _) = some p := hm
 cases hm'
 exact he
structure Rx (h h2 : AH) (mn mu mf md kn ku kf kd c0 ty0 : Nat) (n1 n2 u1 u2 f1 f2 d1 d2 : List ME) (r0 : List AV) (bs : List Nat) (x : Acc) : Prop where
 en : h.get mn = some (.map (n1 ++ n2) kn)
 eu : h.get mu = some (.map (u1 ++ u2) ku)
 ef : h.get mf = some (.map (f1 ++ f2) kf)
 ed : h.get md = some (.map (d1 ++ d2) kd)
 len : n2.length = h.fam.length
 ne : mn ≠ mu ∧ mn ≠ mf ∧ mn ≠ md ∧ mu ≠ mf ∧ mu ≠ md ∧ mf ≠ md
 chk : chkL h r0 ty0 n2 h.fb c0 u2 f2 d2 = some bs
 new : newL h.next c0 (c0 + h.fam.length) ty0 r0 h.fam 0 (h.next + 1) (AH.kill bs ⟨h.next + 1 + 5 * h.fam.length, h.t, 0, []⟩) = some x
 out : h2 = ((((x.h.set mn (.map (n1 ++ x.nm) kn)).set mu (.map (u1 ++ x.nu) ku)).set mf (.map (f1 ++ x.fu) kf)).set md (.map (d1 ++ x.da) kd))
theorem zuH {args : List AV} {h h2 : AH} (hr : reix args h = some h2) : ∃ mn mu mf md kn ku kf kd c0 ty0 n1 n2 u1 u2 f1 f2 d1 d2 r0 bs x, Rx h h2 mn mu mf md kn ku kf kd c0 ty0 n1 n2 u1 u2 f1 f2 d1 d2 r0 bs x := by
 unfold reix at hr
 rw [zaz] at hr
 obtain ⟨x, rfl, hr⟩ := hr
 rw [zek] at hr
 obtain ⟨bx, ox, rfl, hr⟩ := hr
 rw [zac, zaa] at hr
 obtain ⟨_, tb, htb, hr⟩ := hr
 rw [zek] at hr
 obtain ⟨bt, ot, rfl, hr⟩ := hr
 rw [zaa] at hr
 obtain ⟨vmf, hmf, hr⟩ := hr
 rw [zel] at hr
 obtain ⟨mf, rfl, hr⟩ := hr
 rw [zaa] at hr
 obtain ⟨vmd, hmd, hr⟩ := hr
 rw [zel] at hr
 obtain ⟨md, rfl, hr⟩ := hr
 rw [zaa] at hr
 obtain ⟨vmn, hmn, hr⟩ := hr
 rw [zel] at hr
 obtain ⟨mn, rfl, hr⟩ := hr
 rw [zaa] at hr
 obtain ⟨vmu, hmu, hr⟩ := hr
 rw [zel] at hr
 obtain ⟨mu, rfl, hr⟩ := hr
 rw [zaa] at hr
 obtain ⟨pn, hpn, hr⟩ := hr
 rw [zaa] at hr
 obtain ⟨pu, hpu, hr⟩ := hr
 rw [zaa] at hr
 obtain ⟨pf, hpf, hr⟩ := hr
 rw [zaa] at hr
 obtain ⟨pd, hpd, hr⟩ := hr
 rw [zaa] at hr
 obtain ⟨⟨n1, n2⟩, hn, hr⟩ := hr
 rw [zaa] at hr
 obtain ⟨⟨u1, u2⟩, hu, hr⟩ := hr
 rw [zaa] at hr
 obtain ⟨⟨f1, f2⟩, hf, hr⟩ := hr
 rw [zaa] at hr
 obtain ⟨⟨d1, d2⟩, hd, hr⟩ := hr
 rw [zac, zac, zac, zdw, zdw, zdw] at hr
 obtain ⟨g1, g2, g3, hr⟩ := hr
 obtain ⟨n0, _, _, hr1⟩ := zmq hr
 obtain ⟨m0, _, _, hr2⟩ := zmq hr1
 rw [zaa] at hr2
 obtain ⟨c0, _, hr3⟩ := hr2
 rw [zaa] at hr3
 obtain ⟨⟨r0, ty0⟩, _, hr4⟩ := hr3
 rw [zaa] at hr4
 obtain ⟨bs, hbs, hr5⟩ := hr4
 rw [zaL, zaL, zaa] at hr5
 obtain ⟨x, hx, hr6⟩ := hr5
 have hr7 := (Option.some.inj hr6).symm
 simp only [zcE] at hr7
 rw [zaU] at hn hu hf hd
 obtain ⟨a1, b1⟩ := zf1 hn
 obtain ⟨a2, _⟩ := zf1 hu
 obtain ⟨a3, _⟩ := zf1 hf
 obtain ⟨a4, _⟩ := zf1 hd
 simp only [List.mem_cons, List.not_mem_nil, or_false, not_or] at g1 g2 g3
 rw [zaU] at hx
 refine ⟨mn, mu, mf, md, pn.2, pu.2, pf.2, pd.2, c0, ty0, n1, n2, u1, u2, f1, f2, d1, d2, r0, bs, x, by rw [zk4 hpn, a1], by rw [zk4 hpu, a2], by rw [zk4 hpf, a3], by rw [zk4 hpd, a4], b1, ⟨g1.1, g1.2.1, g1.2.2, g2.1, g2.2, g3⟩, hbs, hx, hr7⟩
theorem zj0 {k key : AV} (h : zfg k = some key) : ∃ n c, k = .str n c ∧ key = .str (2 + n) (14906 % 256 ^ 2 + 256 ^ 2 * c) := by
 unfold zfg at h
 rw [zfi] at h
 obtain ⟨n, c, rfl, h⟩ := h
 rw [zeN] at h
 cases h
 exact ⟨n, c, rfl, rfl⟩
theorem zvu {n : Nat} {B : List ME} (hB : B.length = n) {τ : Nat → Nat} (h1 : ∀ j, j < n → τ j < n) (h2 : ∀ i j, i < n → j < n → τ i = τ j → i = j) : ∃ Q : List ME, B.Perm Q ∧ Q.length = n ∧ ∀ j, j < n → Q[j]? = B[τ j]? := by
 have hp : (List.range n).Perm ((List.range n).map τ) := by
  rw [List.perm_ext_iff_of_nodup List.nodup_range]
  ·intro a
   simp only [List.mem_range, List.mem_map]
   constructor
   ·intro ha
    obtain ⟨k, hk, e⟩ := zex n τ h1 (fun i j hi hj => h2 i j hi hj) a ha
    exact ⟨k, hk, e⟩
   ·rintro ⟨k, hk, rfl⟩
    exact h1 k hk
  ·show List.Pairwise _ _
   rw [List.pairwise_map]
   refine List.Pairwise.imp_of_mem (R := fun a b => a ≠ b) (fun {a b} ha hb hne he => hne (h2 a b (List.mem_range.1 ha) (List.mem_range.1 hb) he)) ?_
   exact List.nodup_range
 have hid : (List.range n).map (fun k => B.getD k ⟨.pnil, .pnil, 0⟩) = B := by
  refine List.ext_getElem? fun i => ?_
  rw [List.getElem?_map]
  by_cases hi : i < n
  ·rw [List.getElem?_range hi, Option.map_some, List.getD_eq_getElem?_getD, List.getElem?_eq_getElem (by omega)]
   rfl
  ·rw [List.getElem?_eq_none (by simp; omega), List.getElem?_eq_none (by omega)]
   rfl
 refine ⟨((List.range n).map τ).map fun k => B.getD k ⟨.pnil, .pnil, 0⟩, ?_, by simp, fun j hj => ?_⟩
 ·have := hp.map fun k => B.getD k ⟨.pnil, .pnil, 0⟩
  rwa [hid] at this
 ·rw [List.getElem?_map, List.getElem?_map, List.getElem?_range hj, Option.map_some, Option.map_some, List.getD_eq_getElem?_getD, List.getElem?_eq_getElem (by rw [hB]; exact h1 j hj)]
  rfl
theorem zhz {e e2 : Env} (he : e.le e2) {n : Nat} {A B B' : List ME} {ents : Array MapEntry} {ck : Nat} (hm : MapR e (A ++ B) ents ck) (hB : B.length = n) (hB' : B'.length = n) {τ : Nat → Nat} (h1 : ∀ j, j < n → τ j < n) (h2 : ∀ i j, i < n → j < n → τ i = τ j → i = j)
  (hrel : ∀ j, j < n → ∀ m m', B[τ j]? = some m → B'[j]? = some m' → ∀ x, MER e m x → MER e2 m' x) : MapR e2 (A ++ B') ents ck := by
 obtain ⟨p, hp, hms⟩ := hm.perm
 obtain ⟨Q, hQ, hQl, hQg⟩ := zvu hB h1 h2
 have hF : F2 (fun m m' => ∀ x, MER e m x → MER e2 m' x) (A ++ Q) (A ++ B') := by
  refine F2.app (F2.of_get rfl fun i v u hv hu x hx => ?_) (F2.of_get (by rw [hQl, hB']) fun i v u hv hu => ?_)
  ·rw [hv] at hu; cases hu
   exact hx.mono he
  ·have hi : i < n := by rw [← hQl]; exact (List.getElem?_eq_some_iff.1 hv).1
   rw [hQg i hi] at hv
   exact hrel i hi v u hv hu
 obtain ⟨p', hp', hF'⟩ := zs1 (hp.trans (hQ.append_left A)) hF
 exact ⟨⟨p', hp', MERs.turn hF' hms⟩, hm.born, hm.stamps, hm.keys⟩
theorem zuI {e : Env} {es : List ME} {ents : Array MapEntry} {ck : Nat} (hm : MapR e es ents ck) {m : ME} (h : m ∈ es) : ∃ x, MER e m x := by
 obtain ⟨p, hp, hms⟩ := hm.perm
 have hmp := hp.mem_iff.2 h
 clear hp
 generalize ents.toList = l at hms
 induction hms with
 | nil => cases hmp
 | cons m' x l l' h1 ht ih =>
   rcases List.mem_cons.1 hmp with rfl | h
   ·exact ⟨x, h1⟩
   ·exact ih h
end
end Go.Xe
end
section
namespace Go.Xe
noncomputable section
structure Named (e e2 : Env) (g n c0 : Nat) (bk : Nat → Nat) (τ : Nat → Nat) (s1 s2 s3 s4 : Nat → Nat) : Prop where
 l1 : ∀ j, j < n → e2.loc (g + 1 + 5 * j) = e.loc (bk (τ j))
 l2 : ∀ b, (∀ j, j < n → b ≠ g + 1 + 5 * j) → e2.loc b = e.loc b
 t1 : ∀ j, j < n → e2.stp (g + 1 + 5 * j + 1) = e.stp (s1 (τ j))
 t2 : ∀ j, j < n → e2.stp (g + 1 + 5 * j + 2) = e.stp (s2 (τ j))
 t3 : ∀ j, j < n → e2.stp (g + 1 + 5 * j + 3) = e.stp (s3 (τ j))
 t4 : ∀ j, j < n → e2.stp (g + 1 + 5 * j + 4) = e.stp (s4 (τ j))
 t5 : ∀ b, b ≤ g → e2.stp b = e.stp b
 t6 : ∀ b v, e2.stp b = some v → b < g + 1 + 5 * n ∨ e.stp b = some v
 num1 : ∀ j, j < n → e2.num g j = some (c0 + τ j)
 num2 : ∀ j, ¬ j < n → e2.num g j = none
 num3 : ∀ g' j, g' ≠ g → e2.num g' j = e.num g' j
 key : e2.key = e.key
 val : e2.val = e.val
theorem named (e : Env) (g n c0 : Nat) (bk τ s1 s2 s3 s4 : Nat → Nat) : ∃ e2, Named e e2 g n c0 bk τ s1 s2 s3 s4 := by
 refine ⟨⟨fun b => if g + 1 ≤ b ∧ b < g + 1 + 5 * n ∧ (b - (g + 1)) % 5 = 0 then e.loc (bk (τ ((b - (g + 1)) / 5))) else e.loc b,
  fun g' j => if g' = g then (if j < n then some (c0 + τ j) else none) else e.num g' j,
  fun b => if g + 1 ≤ b ∧ b < g + 1 + 5 * n then
   (if (b - (g + 1)) % 5 = 1 then e.stp (s1 (τ ((b - (g + 1)) / 5))) else if (b - (g + 1)) % 5 = 2 then e.stp (s2 (τ ((b - (g + 1)) / 5))) else
    if (b - (g + 1)) % 5 = 3 then e.stp (s3 (τ ((b - (g + 1)) / 5))) else if (b - (g + 1)) % 5 = 4 then e.stp (s4 (τ ((b - (g + 1)) / 5))) else none) else e.stp b,
  e.key, e.val⟩, ?_, ?_, ?_, ?_, ?_, ?_, ?_, ?_, ?_, ?_, ?_, rfl, rfl⟩
 ·intro j hj
  show (if _ then _ else _) = _
  rw [if_pos (by omega), show (g + 1 + 5 * j - (g + 1)) / 5 = j by omega]
 ·intro b hb
  show (if _ then _ else _) = _
  rw [if_neg]
  rintro ⟨h1, h2, h3⟩
  exact hb ((b - (g + 1)) / 5) (by omega) (by omega)
 ·intro j hj
  show (if _ then _ else _) = _
  rw [if_pos (by omega), if_pos (by omega), show (g + 1 + 5 * j + 1 - (g + 1)) / 5 = j by omega]
 ·intro j hj
  show (if _ then _ else _) = _
  rw [if_pos (by omega), if_neg (by omega), if_pos (by omega), show (g + 1 + 5 * j + 2 - (g + 1)) / 5 = j by omega]
 ·intro j hj
  show (if _ then _ else _) = _
  rw [if_pos (by omega), if_neg (by omega), if_neg (by omega), if_pos (by omega), show (g + 1 + 5 * j + 3 - (g + 1)) / 5 = j by omega]
 ·intro j hj
  show (if _ then _ else _) = _
  rw [if_pos (by omega), if_neg (by omega), if_neg (by omega), if_neg (by omega), if_pos (by omega), show (g + 1 + 5 * j + 4 - (g + 1)) / 5 = j by omega]
 ·intro b hb
  show (if _ then _ else _) = _
  rw [if_neg (by omega)]
 ·intro b v h
  by_cases hb : g + 1 ≤ b ∧ b < g + 1 + 5 * n
  ·exact .inl hb.2
  ·right
   have h' : (if g + 1 ≤ b ∧ b < g + 1 + 5 * n then _ else e.stp b) = some v := h
   rwa [if_neg hb] at h'
 ·intro j hj
  show (if _ then _ else _) = _
  rw [if_pos rfl, if_pos hj]
 ·intro j hj
  show (if _ then _ else _) = _
  rw [if_pos rfl, if_neg hj]
 ·intro g' j hg
  show (if _ then _ else _) = _
  rw [if_neg hg]
theorem zvW {e : Env} {h : AH} (hF : FamOk e h.fb h.fam) {n : Nat} (hn : n = h.fam.length)
  (hk : ∀ k, k < n → (∃ s, e.key (h.fb + k) = some s)) : ∃ τ : Nat → Nat, (∀ j, j < n → τ j < n) ∧ (∀ i j, i < n → j < n → τ i = τ j → i = j) ∧
   ∀ j, j < n → ∃ kv m c u, h.fam[j]? = some kv ∧ kv.k = .str m c ∧ e.key (h.fb + τ j) = some (zad m c) ∧ e.val (h.fb + τ j) = some u ∧ VR e kv.v u := by
 have hin : ∀ k, k < n → zc8 h.fb h.fam (h.fb + k) = true := fun k hk => by
  unfold zc8
  rw [zai, Bool.and_eq_true, za1, zau, zaU]
  refine ⟨by omega, ?_⟩
  show h.fb + k < h.fb + h.fam.length
  omega
 have hσ : ∀ k, ∃ j, k < n → j < n ∧ ∃ kv m c u, h.fam[j]? = some kv ∧ kv.k = .str m c ∧ e.key (h.fb + k) = some (zad m c) ∧ e.val (h.fb + k) = some u ∧ VR e kv.v u := fun k => by
  by_cases hkn : k < n
  ·obtain ⟨s, hs⟩ := hk k hkn
   obtain ⟨kv, hmem, m, c, h1, h2, u, h3, h4⟩ := hF.key _ s (hin k hkn) hs
   obtain ⟨j, hj⟩ := List.mem_iff_getElem?.1 hmem
   exact ⟨j, fun _ => ⟨by rw [hn]; exact (List.getElem?_eq_some_iff.1 hj).1, kv, m, c, u, hj, h1, by rw [hs, h2], h3, h4⟩⟩
  ·exact ⟨0, fun h => absurd h hkn⟩
 obtain ⟨σ, hσ⟩ := Classical.skolem.1 hσ
 have hinj : ∀ k k', k < n → k' < n → σ k = σ k' → k = k' := fun k k' h1 h2 he => by
  obtain ⟨_, kv, m, c, u, a1, a2, a3, _⟩ := hσ k h1
  obtain ⟨_, kv', m', c', u', b1, b2, b3, _⟩ := hσ k' h2
  rw [← he, a1] at b1; cases b1
  rw [a2] at b2; cases b2
  have := hF.inj _ _ _ (hin k h1) (hin k' h2) a3 b3
  omega
 have hτ : ∀ j, ∃ k, j < n → k < n ∧ σ k = j := fun j => by
  by_cases hj : j < n
  ·obtain ⟨k, h1, h2⟩ := zex n σ (fun k hk => (hσ k hk).1) (fun k k' h1 h2 => hinj k k' h1 h2) j hj
   exact ⟨k, fun _ => ⟨h1, h2⟩⟩
  ·exact ⟨0, fun h => absurd h hj⟩
 obtain ⟨τ, hτ⟩ := Classical.skolem.1 hτ
 refine ⟨τ, fun j hj => (hτ j hj).1, fun i j hi hj he => ?_, fun j hj => ?_⟩
 ·rw [← (hτ i hi).2, ← (hτ j hj).2, he]
 ·obtain ⟨h1, h2⟩ := hτ j hj
  obtain ⟨_, kv, m, c, u, a1, a2, a3, a4, a5⟩ := hσ (τ j) h1
  rw [h2] at a1
  exact ⟨kv, m, c, u, a1, a2, a3, a4, a5⟩
end
end Go.Xe
end
section
namespace Go.Xe
noncomputable section
theorem zrn {e : Env} {pn pc i : Nat} {u : Value} (h : VR e (.sstr pn pc i) u) : ∃ s, e.key i = some s ∧ u = .string (zad pn pc ++ s) := by
 cases h with | sstr _ _ _ s h => exact ⟨s, h, rfl⟩
theorem zvv {e : Env} {b o : Nat} {u : Value} (h : VR e (.ptr b o) u) : ∃ l, e.loc b = some l ∧ u = .pointer (some ⟨l.blk, l.off + o, none⟩) := by
 cases h with | ptr _ _ l h => exact ⟨l, h, rfl⟩
theorem zs3 {e : Env} {k : IntKind} {n : Int} {u : Value} (h : VR e (.int k n) u) : u = .int k n := by
 cases h; rfl
theorem zvw {e : Env} {i : Nat} {u : Value} (h : VR e (.sval i) u) : e.val i = some u := by
 cases h with | sval _ _ h _ => exact h
theorem zvx {e : Env} {u : Value} (h : VR e .inil u) : u = .nilIface := by
 cases h; rfl
section
variable {e : Env} {h h2 : AH} {w : World} {mn mu mf md kn ku kf kd c0 ty0 : Nat} {n1 n2 u1 u2 f1 f2 d1 d2 : List ME} {r0 : List AV} {bs : List Nat} {x : Acc}
theorem Rx.cases (R : Rx h h2 mn mu mf md kn ku kf kd c0 ty0 n1 n2 u1 u2 f1 f2 d1 d2 r0 bs x) (c : Nat) (en : Ent) (hc : h2.get c = some en) :
  (c = mn ∧ en = .map (n1 ++ x.nm) kn) ∨ (c = mu ∧ en = .map (u1 ++ x.nu) ku) ∨ (c = mf ∧ en = .map (f1 ++ x.fu) kf) ∨ (c = md ∧ en = .map (d1 ++ x.da) kd) ∨
  (∃ j kv key, j < h.fam.length ∧ c = h.next + 1 + 5 * j ∧ h.fam[j]? = some kv ∧ zfg kv.k = some key ∧ en = .cells (.num h.next j c0 (c0 + h.fam.length) :: key :: r0) ty0 true 0 []) ∨ (h.get c = some en ∧ c ∉ bs) := by
 rw [R.out, AH.get_set, AH.get_set, AH.get_set, AH.get_set] at hc
 by_cases e1 : c = md
 ·rw [if_pos e1] at hc; cases hc
  exact .inr (.inr (.inr (.inl ⟨e1, rfl⟩)))
 rw [if_neg e1] at hc
 by_cases e2 : c = mf
 ·rw [if_pos e2] at hc; cases hc
  exact .inr (.inr (.inl ⟨e2, rfl⟩))
 rw [if_neg e2] at hc
 by_cases e3 : c = mu
 ·rw [if_pos e3] at hc; cases hc
  exact .inr (.inl ⟨e3, rfl⟩)
 rw [if_neg e3] at hc
 by_cases e4 : c = mn
 ·rw [if_pos e4] at hc; cases hc
  exact .inl ⟨e4, rfl⟩
 rw [if_neg e4] at hc
 obtain ⟨_, _, _, _, _, _, hk, hg⟩ := znY R.new
 right; right; right; right
 by_cases hx : ∃ j, j < h.fam.length ∧ c = h.next + 1 + 5 * j
 ·obtain ⟨j, hj, rfl⟩ := hx
  obtain ⟨kv, key, q1, q2, q3⟩ := hk j hj
  rw [q3] at hc; cases hc
  left
  refine ⟨j, kv, key, hj, rfl, q1, q2.keyEq, ?_⟩
  rw [Nat.zero_add]
 ·rw [hg c fun j hj h => hx ⟨j, hj, h⟩, zcl] at hc
  by_cases hb : c ∈ bs
  ·rw [if_pos hb] at hc; cases hc
  ·rw [if_neg hb] at hc
   exact .inr ⟨hc, hb⟩
theorem zpS (R : Rx h h2 mn mu mf md kn ku kf kd c0 ty0 n1 n2 u1 u2 f1 f2 d1 d2 r0 bs x) (s : Sat e h w.heap) : ∃ e2, Sat e2 h2 w.heap ∧ Step e h w e2 h2 w := by
 obtain ⟨n, hn⟩ : ∃ n, n = h.fam.length := ⟨_, rfl⟩
 obtain ⟨g, hg⟩ : ∃ g, g = h.next := ⟨_, rfl⟩
 obtain ⟨cb, cu, cf, cd, hchk⟩ := zrm R.chk
 rw [R.len, ← hn] at cb cu cf cd hchk
 have cn : n2.length = n := by rw [R.len, hn]
 obtain ⟨xn, xu, xf, xd, xnext, xfm, hnew, _⟩ := znY R.new
 rw [← hn] at xn xu xf xd
 have hnx : h2.next = g + 1 + 5 * n := by
  rw [R.out]
  show x.h.next = _
  rw [xnext, (zby _ _).1, hg, hn]
 have hfm : h2.fb = 0 ∧ h2.fam = [] := by
  have : h2.fm = (0, []) := by
   rw [R.out]
   show x.h.fm = _
   rw [xfm]
   show ((AH.kill bs _).fb, (AH.kill bs _).fam) = _
   rw [(zby _ _).2.1, (zby _ _).2.2]
  exact ⟨congrArg Prod.fst this, congrArg Prod.snd this⟩
 have hmapR : ∀ m es ck, h.get m = some (.map es ck) → ∃ l ents, e.loc m = some l ∧ w.heap[l.blk]? = some (.map ents ck) ∧ MapR e es ents ck := fun m es ck hm => by
  obtain ⟨l, o, hl, ho, hr⟩ := s.ents _ _ hm
  cases hr with | map _ _ _ ents hr => exact ⟨l, ents, hl, ho, hr⟩
 obtain ⟨ln, en_, hln, hon, hMn⟩ := hmapR _ _ _ R.en
 obtain ⟨lu, eu_, hlu, hou, hMu⟩ := hmapR _ _ _ R.eu
 obtain ⟨lf, ef_, hlf, hof, hMf⟩ := hmapR _ _ _ R.ef
 obtain ⟨ld, ed_, hld, hod, hMd⟩ := hmapR _ _ _ R.ed
 obtain ⟨τ, hτ1, hτ2, hτ3⟩ := zvW s.fam hn fun k hk => by
  obtain ⟨a, b, c', d, y, q1, _, _, _, _, q⟩ := hchk k hk
  obtain ⟨z, hz⟩ := zuI hMn (m := a) (List.mem_append_right _ (List.mem_of_getElem? q1))
  have := hz.k
  rw [q.nm.1] at this
  obtain ⟨s', hs', _⟩ := zrn this
  exact ⟨s', hs'⟩
 obtain ⟨bk, hbk⟩ : ∃ bk : Nat → Nat, bk = fun k => (bs[k]?).getD 0 := ⟨_, rfl⟩
 obtain ⟨st, hst⟩ : ∃ st : List ME → Nat → Nat, st = fun l k => ((l[k]?).map ME.s).getD 0 := ⟨_, rfl⟩
 have hstE : ∀ (l : List ME) (k : Nat) (m : ME), l[k]? = some m → st l k = m.s := fun l k m hm => by rw [hst]; show ((l[k]?).map ME.s).getD 0 = _; rw [hm]; rfl
 obtain ⟨e2, N⟩ := named e g n c0 bk τ (st n2) (st u2) (st f2) (st d2)
 have hent : ∀ k, k < n → h.get (bk k) = some (.cells (.int .i64 (.ofNat (c0 + k)) :: .sstr 2 14906 (h.fb + k) :: r0) ty0 true 0 []) ∧ bk k ∈ bs := fun k hk => by
  obtain ⟨a, b, c', d, y, _, _, _, _, q5, q⟩ := hchk k hk
  have : bk k = y := by rw [hbk]; show (bs[k]?).getD 0 = y; rw [q5]; rfl
  rw [this]
  exact ⟨q.ent, List.mem_of_getElem? q5⟩
 have hbinj : ∀ k k', k < n → k' < n → bk k = bk k' → k = k' := fun k k' h1 h2 he => by
  have a := (hent k h1).1
  rw [he, (hent k' h2).1] at a
  have a1 := Option.some.inj a
  injection a1 with a2
  injection a2 with a3
  injection a3 with _ a4
  injection a4 with a5
  omega
 have hlt : ∀ b l, e.loc b = some l → b < g := fun b l hl => by rw [hg]; exact (s.locs b l hl).1
 have hle : e.le e2 := by
  refine ⟨fun b l hl => ?_, fun g' j v hv => ?_, fun b v hv => ?_, fun i v hv => by rw [N.key]; exact hv, fun i v hv => by rw [N.val]; exact hv⟩
  ·have := hlt b l hl
   rw [N.l2 b fun j hj => by omega]; exact hl
  ·have := s.nums g' j v hv
   rw [N.num3 g' j (by omega)]; exact hv
  ·have := s.stps b v hv
   rw [N.t5 b (by omega)]; exact hv
 have hB : ∀ j, j < n → ∃ kv key m c u, h.fam[j]? = some kv ∧ New g c0 (c0 + n) j (g + 1 + 5 * j) kv x j key ∧ kv.k = .str m c ∧ key = .str (2 + m) (14906 % 256 ^ 2 + 256 ^ 2 * c) ∧ e.key (h.fb + τ j) = some (zad m c) ∧ e.val (h.fb + τ j) = some u ∧ VR e kv.v u := fun j hj => by
  obtain ⟨kv, key, q1, q2, _⟩ := hnew j (by rw [← hn]; exact hj)
  obtain ⟨kv', m, c, u, r1, r2, r3, r4, r5⟩ := hτ3 j hj
  rw [q1] at r1; cases r1
  obtain ⟨m', c', t1, t2⟩ := zj0 q2.keyEq
  rw [r2] at t1; cases t1
  rw [Nat.zero_add, ← hn, ← hg] at q2
  exact ⟨kv, key, m, c, u, q1, q2, r2, t2, r3, r4, r5⟩
 have hMn2 : MapR e2 (n1 ++ x.nm) en_ kn := zhz hle hMn cn xn hτ1 hτ2 fun j hj m m' h1 h2' y hy => by
  obtain ⟨a, b, c', d, z, q1, _, _, _, q5, q⟩ := hchk (τ j) (hτ1 j hj)
  obtain ⟨kv, key, mm, c, u, r1, r2, r3, r4, r5, r6, r7⟩ := hB j hj
  rw [q1] at h1; cases h1
  rw [r2.nm] at h2'; cases h2'
  have k1 := hy.k
  have k2 := hy.v
  have k3 := hy.s
  rw [q.nm.1] at k1
  rw [q.nm.2] at k2
  obtain ⟨s', hs', hk⟩ := zrn k1
  obtain ⟨l, hl, hv⟩ := zvv k2
  rw [r5] at hs'; cases hs'
  refine ⟨?_, ?_, ?_⟩
  ·rw [hk, zcW, r4]; exact .str _ _
  ·rw [hv]
   refine .ptr _ _ l ?_
   rw [N.l1 j hj]
   have : bk (τ j) = z := by rw [hbk]; show (bs[τ j]?).getD 0 = z; rw [q5]; rfl
   rw [this]; exact hl
  ·show e2.stp (g + 1 + 5 * j + 1) = _
   rw [N.t1 j hj, hstE _ _ _ q1]; exact k3
 have hMu2 : MapR e2 (u1 ++ x.nu) eu_ ku := zhz hle hMu cu xu hτ1 hτ2 fun j hj m m' h1 h2' y hy => by
  have hjn := hτ1 j hj
  obtain ⟨a, b, c', d, z, _, q1, _, _, q5, q⟩ := hchk (τ j) hjn
  obtain ⟨kv, key, mm, c, u, r1, r2, r3, r4, r5, r6, r7⟩ := hB j hj
  rw [q1] at h1; cases h1
  rw [r2.nu] at h2'; cases h2'
  have k1 := hy.k
  have k2 := hy.v
  have k3 := hy.s
  rw [q.nu.1] at k1
  rw [q.nu.2] at k2
  obtain ⟨l, hl, hv⟩ := zvv k2
  refine ⟨?_, ?_, ?_⟩
  ·rw [zs3 k1]
   exact .num g j _ _ (c0 + τ j) (N.num1 j hj) (by omega) (by omega)
  ·rw [hv]
   refine .ptr _ _ l ?_
   rw [N.l1 j hj]
   have : bk (τ j) = z := by rw [hbk]; show (bs[τ j]?).getD 0 = z; rw [q5]; rfl
   rw [this]; exact hl
  ·show e2.stp (g + 1 + 5 * j + 2) = _
   rw [N.t2 j hj, hstE _ _ _ q1]; exact k3
 have hMf2 : MapR e2 (f1 ++ x.fu) ef_ kf := zhz hle hMf cf xf hτ1 hτ2 fun j hj m m' h1 h2' y hy => by
  have hjn := hτ1 j hj
  obtain ⟨a, b, c', d, z, _, _, q1, _, q5, q⟩ := hchk (τ j) hjn
  obtain ⟨kv, key, mm, c, u, r1, r2, r3, r4, r5, r6, r7⟩ := hB j hj
  rw [q1] at h1; cases h1
  rw [r2.fu] at h2'; cases h2'
  have k1 := hy.k
  have k2 := hy.v
  have k3 := hy.s
  rw [q.fu.1] at k1
  rw [q.fu.2] at k2
  have hv := zvw k2
  rw [r6] at hv
  refine ⟨?_, ?_, ?_⟩
  ·rw [zs3 k1]
   exact .num g j _ _ (c0 + τ j) (N.num1 j hj) (by omega) (by omega)
  ·show VR e2 kv.v y.val
   rw [← Option.some.inj hv]; exact r7.mono hle
  ·show e2.stp (g + 1 + 5 * j + 3) = _
   rw [N.t3 j hj, hstE _ _ _ q1]; exact k3
 have hMd2 : MapR e2 (d1 ++ x.da) ed_ kd := zhz hle hMd cd xd hτ1 hτ2 fun j hj m m' h1 h2' y hy => by
  have hjn := hτ1 j hj
  obtain ⟨a, b, c', d, z, _, _, _, q1, q5, q⟩ := hchk (τ j) hjn
  obtain ⟨kv, key, mm, c, u, r1, r2, r3, r4, r5, r6, r7⟩ := hB j hj
  rw [q1] at h1; cases h1
  rw [r2.da] at h2'; cases h2'
  have k1 := hy.k
  have k2 := hy.v
  have k3 := hy.s
  rw [q.da.1] at k1
  rw [q.da.2] at k2
  refine ⟨?_, ?_, ?_⟩
  ·rw [zs3 k1]
   exact .num g j _ _ (c0 + τ j) (N.num1 j hj) (by omega) (by omega)
  ·rw [zvx k2]; exact .inil
  ·show e2.stp (g + 1 + 5 * j + 4) = _
   rw [N.t4 j hj, hstE _ _ _ q1]; exact k3
 have hwas : ∀ c en, h2.get c = some en → (∃ en0, h.get c = some en0 ∧ zbq en = zbq en0 ∧ wrE en = wrE en0 ∧ lenE en = lenE en0 ∧ famE en = famE en0 ∧ c ∉ bs) ∨ (∃ j, j < n ∧ c = g + 1 + 5 * j ∧ zbq en = [] ∧ famE en = 0) := fun c en hc => by
  have hno : ∀ m es ck, h.get m = some (.map es ck) → m ∉ bs := fun m es ck hm hmb => by
   obtain ⟨k, hk⟩ := List.mem_iff_getElem?.1 hmb
   have hkn : k < n := by rw [← cb]; exact (List.getElem?_eq_some_iff.1 hk).1
   have : bk k = m := by rw [hbk]; show (bs[k]?).getD 0 = m; rw [hk]; rfl
   have h3 := (hent k hkn).1
   rw [this, hm] at h3; cases h3
  rcases R.cases c en hc with ⟨rfl, rfl⟩ | ⟨rfl, rfl⟩ | ⟨rfl, rfl⟩ | ⟨rfl, rfl⟩ | ⟨j, kv, key, hj, rfl, _, _, rfl⟩ | ⟨h1, h2'⟩
  ·exact .inl ⟨_, R.en, rfl, rfl, rfl, rfl, hno _ _ _ R.en⟩
  ·exact .inl ⟨_, R.eu, rfl, rfl, rfl, rfl, hno _ _ _ R.eu⟩
  ·exact .inl ⟨_, R.ef, rfl, rfl, rfl, rfl, hno _ _ _ R.ef⟩
  ·exact .inl ⟨_, R.ed, rfl, rfl, rfl, rfl, hno _ _ _ R.ed⟩
  ·exact .inr ⟨j, by rw [hn]; exact hj, by rw [hg], rfl, rfl⟩
  ·exact .inl ⟨en, h1, rfl, rfl, rfl, rfl, h2'⟩
 have hloc0 : ∀ c en0 l, h.get c = some en0 → e2.loc c = some l → e.loc c = some l := fun c en0 l hc hl => by
  obtain ⟨l', _, hl', _⟩ := s.ents _ _ hc
  have := hle.loc _ _ hl'
  rw [hl] at this; cases this
  exact hl'
 have hapart : ∀ c en0 l k l', h.get c = some en0 → c ∉ bs → e.loc c = some l → k < n → e.loc (bk k) = some l' → l.blk ≠ l'.blk := fun c en0 l k l' hc hcb hl hk hl' hblk => by
  obtain ⟨h1, h2'⟩ := hent k hk
  have hne : c ≠ bk k := fun hx => hcb (hx ▸ h2')
  rcases s.sep c (bk k) _ _ l l' hc h1 hl hl' hne hblk with h3 | h3
  ·have := s.olds c (bk k) _ _ l l' hc h3 h1 hl hl' hblk
   cases this
  ·cases h3
 have hkeep : ∀ X, X < w.heap.size → ¬ Own e h X → w.heap[X]? = w.heap[X]? ∧ ¬ Own e2 h2 X := by
  intro X hX hO
  refine ⟨rfl, fun ⟨c, en, l, hc, hl, hx⟩ => hO ?_⟩
  rcases hwas c en hc with ⟨ec, c1, _⟩ | ⟨j, hj, rfl, _⟩
  ·exact ⟨c, ec, l, c1, hloc0 c ec l c1 hl, hx⟩
  ·rw [N.l1 j hj] at hl
   exact ⟨_, _, l, (hent _ (hτ1 j hj)).1, hl, hx⟩
 refine ⟨e2, ⟨?_, ?_, ?_, ?_, ?_, ?_, ?_, ?_, ?_, ?_, ?_, ?_, ?_, ?_, s.glob.of hkeep⟩, ⟨hle, ?_, Nat.le_refl _, ?_, rfl, rfl, rfl, ?_, ?_⟩⟩
 ·
  intro c en hc
  rcases R.cases c en hc with ⟨rfl, rfl⟩ | ⟨rfl, rfl⟩ | ⟨rfl, rfl⟩ | ⟨rfl, rfl⟩ | ⟨j, kv, key, hj, rfl, hfj, hkey, rfl⟩ | ⟨h1, h2'⟩
  ·exact ⟨ln, _, hle.loc _ _ hln, hon, .map _ _ _ _ hMn2⟩
  ·exact ⟨lu, _, hle.loc _ _ hlu, hou, .map _ _ _ _ hMu2⟩
  ·exact ⟨lf, _, hle.loc _ _ hlf, hof, .map _ _ _ _ hMf2⟩
  ·exact ⟨ld, _, hle.loc _ _ hld, hod, .map _ _ _ _ hMd2⟩
  ·rw [← hn] at hj
   obtain ⟨h1, _⟩ := hent (τ j) (hτ1 j hj)
   obtain ⟨l, o, hl, ho, hr⟩ := s.ents _ _ h1
   obtain ⟨kv', m, c, u, r1, r2, r3, r4, r5⟩ := hτ3 j hj
   rw [hfj] at r1; cases r1
   obtain ⟨m', c', t1, rfl⟩ := zj0 hkey
   rw [r2] at t1; cases t1
   refine ⟨l, o, by rw [← hg, N.l1 j hj]; exact hl, ho, ?_⟩
   cases hr with
   | cells _ _ _ _ _ _ arr T lo hi hr =>
     refine .cells _ _ _ _ _ _ _ _ _ _ ⟨hr.room, hr.len, fun i v hv => ?_, hr.free, hr.ty⟩
     cases i with
     | zero =>
       obtain ⟨u0, hu0, hr0⟩ := hr.vals 0 _ rfl
       refine ⟨u0, hu0, ?_⟩
       have hv' : some (AV.num h.next j c0 (c0 + h.fam.length)) = some v := hv
       cases hv'
       rw [zs3 hr0, ← hg, ← hn]
       have := hτ1 j hj
       exact .num g j _ _ (c0 + τ j) (N.num1 j hj) (by omega) (by omega)
     | succ i =>
       cases i with
       | zero =>
         obtain ⟨u0, hu0, hr0⟩ := hr.vals 1 _ rfl
         refine ⟨u0, hu0, ?_⟩
         have hv' : some (AV.str (2 + m) (14906 % 256 ^ 2 + 256 ^ 2 * c)) = some v := hv
         cases hv'
         obtain ⟨s', hs', hk⟩ := zrn hr0
         rw [r3] at hs'; cases hs'
         rw [hk, zcW]
         exact .str _ _
       | succ i =>
         obtain ⟨u0, hu0, hr0⟩ := hr.vals (i + 2) v hv
         exact ⟨u0, hu0, hr0.mono hle⟩
  ·obtain ⟨l, o, hl, ho, hr⟩ := s.ents _ _ h1
   refine ⟨l, o, hle.loc _ _ hl, ho, (hr.mono hle N.key N.val).other ?_⟩
   show famE en = 0 ∨ famE en ≠ h2.fb
   rw [hfm.1]
   exact Classical.em _
 ·
  intro b l hl
  rw [hnx]
  by_cases hx : ∃ j, j < n ∧ b = g + 1 + 5 * j
  ·obtain ⟨j, hj, rfl⟩ := hx
   rw [N.l1 j hj] at hl
   exact ⟨by omega, (s.locs _ _ hl).2⟩
  ·rw [N.l2 b fun j hj h => hx ⟨j, hj, h⟩] at hl
   have := hlt b l hl
   exact ⟨by omega, (s.locs _ _ hl).2⟩
 ·
  intro g' j v hv
  rw [hnx]
  by_cases hx : g' = g
  ·omega
  ·rw [N.num3 _ _ hx] at hv
   have := s.nums _ _ _ hv
   omega
 ·
  intro g' i j v hi hj
  by_cases hx : g' = g
  ·subst hx
   by_cases h1 : i < n
   ·by_cases h2' : j < n
    ·rw [N.num1 _ h1] at hi
     rw [N.num1 _ h2'] at hj
     have a := Option.some.inj hi
     have b := Option.some.inj hj
     exact hτ2 i j h1 h2' (by omega)
    ·rw [N.num2 _ h2'] at hj; cases hj
   ·rw [N.num2 _ h1] at hi; cases hi
  ·rw [N.num3 _ _ hx] at hi hj
   exact s.numI _ _ _ _ hi hj
 ·
  intro b v hv
  rw [hnx]
  rcases N.t6 b v hv with h1 | h1
  ·exact h1
  ·have := s.stps b v h1
   omega
 ·intro i v hv
  rw [N.key] at hv
  have := s.keys i v hv
  omega
 ·intro i v hv
  rw [N.val] at hv
  have := s.vals i v hv
  omega
 ·
  intro b c en en' l l' hb hc hl hl' hne hblk
  rcases hwas b en hb with ⟨eb, b1, b2, b3, b4, b5, b6⟩ | ⟨i, hi, rfl, b2, _⟩
  ·have hlb := hloc0 b eb l b1 hl
   rcases hwas c en' hc with ⟨ec, c1, c2, c3, c4, c5, c6⟩ | ⟨j, hj, rfl, c2, _⟩
   ·have hlc := hloc0 c ec l' c1 hl'
    rw [b2, c2]
    exact s.sep b c eb ec l l' b1 c1 hlb hlc hne hblk
   ·rw [N.l1 j hj] at hl'
    exact absurd hblk (hapart b eb l _ l' b1 b6 hlb (hτ1 j hj) hl')
  ·rw [N.l1 i hi] at hl
   rcases hwas c en' hc with ⟨ec, c1, c2, c3, c4, c5, c6⟩ | ⟨j, hj, rfl, c2, _⟩
   ·have hlc := hloc0 c ec l' c1 hl'
    exact absurd hblk.symm (hapart c ec l' _ l c1 c6 hlc (hτ1 i hi) hl)
   ·rw [N.l1 j hj] at hl'
    have hne' : bk (τ i) ≠ bk (τ j) := fun hx => by
     have := hτ2 i j hi hj (hbinj _ _ (hτ1 i hi) (hτ1 j hj) hx)
     omega
    rcases s.sep _ _ _ _ l l' (hent _ (hτ1 i hi)).1 (hent _ (hτ1 j hj)).1 hl hl' hne' hblk with h3 | h3
    ·cases h3
    ·cases h3
 ·
  intro b c en en' l l' hb hcb hc hl hl' hblk
  rcases hwas b en hb with ⟨eb, b1, b2, b3, b4, b5, b6⟩ | ⟨i, hi, rfl, b2, _⟩
  ·rw [b2] at hcb
   have hcl := s.oldsLt b c eb b1 hcb
   rcases hwas c en' hc with ⟨ec, c1, c2, c3, c4, c5, c6⟩ | ⟨j, hj, rfl, c2, _⟩
   ·rw [c3]
    exact s.olds b c eb ec l l' b1 hcb c1 (hloc0 b eb l b1 hl) (hloc0 c ec l' c1 hl') hblk
   ·omega
  ·rw [b2] at hcb; cases hcb
 ·
  intro b c en hb hcb
  rcases hwas b en hb with ⟨eb, b1, b2, b3, b4, b5, b6⟩ | ⟨i, hi, rfl, b2, _⟩
  ·rw [b2] at hcb
   have := s.oldsLt b c eb b1 hcb
   omega
  ·rw [b2] at hcb; cases hcb
 ·rw [hfm.1, hfm.2]
  have hno : ∀ i, zc8 0 [] i = false := fun i => by
   unfold zc8
   rw [zai, Bool.and_eq_false_iff]
   right
   cases hb : Nat.blt i (Nat.add 0 (len ([] : List ME))) with
   | false => rfl
   | true =>
     rw [zau, zaU] at hb
     have : i < 0 + 0 := hb
     omega
  exact ⟨fun i s' hi _ => (by rw [hno] at hi; cases hi), fun i j s' hi _ _ _ => (by rw [hno] at hi; cases hi)⟩
 ·
  intro b c en en' l l' hb hcb hc hl hl' hblk
  rcases hwas b en hb with ⟨eb, b1, b2, b3, b4, b5, b6⟩ | ⟨i, hi, rfl, b2, _⟩
  ·rw [b2] at hcb
   have hcl := s.oldsLt b c eb b1 hcb
   rcases hwas c en' hc with ⟨ec, c1, c2, c3, c4, c5, c6⟩ | ⟨j, hj, rfl, c2, _⟩
   ·rw [c4, b4]
    exact s.ends b c eb ec l l' b1 hcb c1 (hloc0 b eb l b1 hl) (hloc0 c ec l' c1 hl') hblk
   ·omega
  ·rw [b2] at hcb; cases hcb
 ·intro b en hb
  rcases hwas b en hb with ⟨eb, b1, b2, b3, b4, b5, b6⟩ | ⟨i, hi, rfl, b2, b3⟩
  ·rw [b5]; exact s.its b eb b1
  ·exact .inl b3
 ·rw [hfm.1, hfm.2]
  exact Nat.zero_le _
 ·rw [hnx]; omega
 ·exact hkeep
 ·intro b l hl
  by_cases hx : ∃ j, j < n ∧ b = g + 1 + 5 * j
  ·obtain ⟨j, hj, rfl⟩ := hx
   right; omega
  ·rw [N.l2 b fun j hj h => hx ⟨j, hj, h⟩] at hl
   exact .inl hl
 ·intro b hb hgn
  cases hx : h2.get b with
  | none => rfl
  | some en =>
    rcases hwas b en hx with ⟨eb, b1, _⟩ | ⟨i, hi, rfl, _⟩
    ·rw [hgn] at b1; cases b1
    ·omega
def zuJ (args : List AV) (h : AH) : Option AH := ite' (za5 h.fam) (some h) (reix args h)
theorem znZ {args : List AV} (hr : zuJ args h = some h2) (s : Sat e h w.heap) : ∃ e2, Sat e2 h2 w.heap ∧ Step e h w e2 h2 w := by
 unfold zuJ at hr
 rw [zav] at hr
 rcases hr with ⟨_, hr⟩ | ⟨_, hr⟩
 ·cases hr
  exact ⟨e, s, .refl e _ w⟩
 ·obtain ⟨_, _, _, _, _, _, _, _, _, _, _, _, _, _, _, _, _, _, _, _, _, R⟩ := zuH hr
  exact zpS R s
end
end
end Go.Xe
end
section
namespace Go.Xe
noncomputable section
theorem zms {P : Program} {I : zba} (ok : POk P) (hI : KnownOk P I) {f : Nat} {args : List AV} {h h' : AH} {v : AV} (hr : run P I f args h = some (v, h')) {e : Env} {w : World} {us : Array Value} (s : Sat e h w.heap) (ha : VRs e args us.toList) :
  CallsIn Fence.wide 0 P f us w fun en w' => match en with | .returned u => Out e h w v h' u w' | _ => False :=
 zfr ok (zrj ok hI 1000000) hI f args h e w us s ha v h' hr
def env0 : Env := ⟨fun _ => none, fun _ _ => none, fun _ => none, fun _ => none, fun _ => none⟩
def heap0 : AH := ⟨1, .nil, 0, []⟩
theorem zmt (b : Nat) : heap0.get b = none := by
 unfold AH.get heap0
 rfl
def HasG (H : Array Obj) : Prop := ∃ m t, H[theG]? = some (.cells #[.int .i64 m] t)
theorem sat0 (H : Array Obj) (hG : HasG H) : Sat env0 heap0 H := by
 refine ⟨fun b en hb => ?_, fun b l hb => (by cases hb), fun g j v hv => (by cases hv), fun g i j v hv => (by cases hv), fun i v hv => (by cases hv), fun i v hv => (by cases hv), fun i v hv => (by cases hv),
  fun b c en en' l l' hb => ?_, fun b c en en' l l' hb => ?_, fun b c en hb => ?_, ⟨fun i s _ hs => (by cases hs), fun i j s _ _ hs => (by cases hs)⟩, fun b c en en' l l' hb => ?_, fun b en hb => ?_, Nat.zero_le _, ⟨hG, fun ⟨b, en, l, hb, _⟩ => ?_⟩⟩
 all_goals rw [zmt] at hb; cases hb
theorem zpT {P : Program} {I : zba} (ok : POk P) (hI : KnownOk P I) {f : Nat} {q : Bool} {h' : AH} (hr : run P I f [] heap0 = some (.bool q, h')) (w : World) (hG : HasG w.heap) :
  CallsIn Fence.wide 0 P f #[] w fun en w' => en = .returned (.bool q) ∧ RowKit.Below w.heap.size w w' := by
 refine CallsIn.mono (zms ok hI hr (sat0 w.heap hG) (us := #[]) .nil) fun en w' hen => ?_
 cases en with
 | returned u =>
   obtain ⟨e', s', hv, st⟩ := hen
   exact ⟨by rw [zdN hv], st.below zmt⟩
 | panicked c => exact hen.elim
 | outgrown => exact hen.elim
end
end Go.Xe
end
