/- The law FnExactPairOf, walked. -/
import Derived.Test.YtiiohodkfipfbaaDoorM30
import Derived.Test.YtiiohodkfipfbaaDoorM3
namespace Go.Proofs.YtiiohodkfipfbaaDoor
open Go.RowKit Go.Hyp Go.Deep

set_option maxRecDepth 4000 in
set_option maxHeartbeats 800000 in
theorem fnExactPairOf_any (ap : Option Addr) (cp : Nat) (p : List (List Int)) (n : Int) (aq : Option Addr) (cq : Nat) (q : List (List Int)) (m : Int) (w : World) (hp : RdII w 0 w.heap.size ap p) (hlp : p.length ≤ maxLen) (hq : RdII w 0 w.heap.size aq q) (hlq : q.length ≤ maxLen) :
    Calls Tryd.prog 10 #[.slice ap p.length cp, .int .i64 n, .slice aq q.length cq, .int .i64 m] w fun e w' => e = .returned (.bool true) ∧ Below w.heap.size w w' := by
  have Fp := Lib.hid hp
  have Fq := Lib.hid hq
  clear hp hq
  have HLMp := Lib.hid hlp
  have HLMq := Lib.hid hlq
  unfold maxLen at hlp
  unfold maxLen at hlq
  have Sp := szII_cases 1048576 p
  by_cases hsp : szII 1048576 p < 0
  · clear Sp
    go_enter Tryd.func10, Tryd.ntmps10
    go_wp2_with fail
    refine (szIntSS_any ap cp p _ w _ _ Fp.out HLMp.out (by omega) (by omega)).mono ?_
    rintro e w' ⟨rfl, rfl⟩
    go_wp2_with fail
    go_ret
    exact ⟨rfl, Below.refl _ _⟩
  have hqp : p.length ≤ 1048576 ∧ lens p ≤ 1048576 ∧ szII 1048576 p ≤ 1048576 := by rcases Sp with hx | hx <;> omega
  obtain ⟨hnp, hmp, hrp⟩ := hqp
  clear Sp
  have Sq := szII_cases (szII 1048576 p) q
  by_cases hsq : szII (szII 1048576 p) q < 0
  · clear Sq
    go_enter Tryd.func10, Tryd.ntmps10
    go_wp2_with fail
    refine (szIntSS_any ap cp p _ w _ _ Fp.out HLMp.out (by omega) (by omega)).mono ?_
    rintro e w' ⟨rfl, rfl⟩
    go_wp2_with fail
    refine (szIntSS_any aq cq q _ w _ _ Fq.out HLMq.out (by omega) (by omega)).mono ?_
    rintro e w' ⟨rfl, rfl⟩
    go_wp2_with fail
    go_ret
    exact ⟨rfl, Below.refl _ _⟩
  have hqq : q.length ≤ 1048576 ∧ lens q ≤ 1048576 ∧ szII (szII 1048576 p) q ≤ 1048576 := by rcases Sq with hx | hx <;> omega
  obtain ⟨hnq, hmq, hrq⟩ := hqq
  clear Sq
  go_enter Tryd.func10, Tryd.ntmps10
  go_wp2_with fail
  refine (szIntSS_any ap cp p _ w _ _ Fp.out HLMp.out (by omega) (by omega)).mono ?_
  rintro e w' ⟨rfl, rfl⟩
  go_wp2_with fail
  refine (szIntSS_any aq cq q _ w _ _ Fq.out HLMq.out (by omega) (by omega)).mono ?_
  rintro e w' ⟨rfl, rfl⟩
  go_wp2_with fail
  have HB0 := Lib.hid (Below.refl w.heap.size w)
  have hsz1 := HB0.out.size
  refine (toIntSS_any ap cp p w 0 w.heap.size (Fp.out.below HB0.out (Nat.le_refl _)) hsz1 hnp hmp).mono ?_
  rintro e W1 ⟨x1, d1, rfl, ho, hb⟩
  have HB1 := Lib.hid (HB0.out.trans (hb.mono HB0.out.size))
  have hz1 : w.heap.size ≤ W1.heap.size := hb.size
  clear HB0
  have O1_1 := Lib.hid ho
  clear ho hb hsz1
  go_wp2_with fail
  have hsz2 := HB1.out.size
  refine (toIntSS_any aq cq q W1 0 w.heap.size (Fq.out.below HB1.out (Nat.le_refl _)) hsz2 hnq hmq).mono ?_
  rintro e W2 ⟨x2, d2, rfl, ho, hb⟩
  have HB2 := Lib.hid (HB1.out.trans (hb.mono HB1.out.size))
  have hz2 : W1.heap.size ≤ W2.heap.size := hb.size
  have O1_2 := Lib.hid (O1_1.out.below hb (by omega))
  clear O1_1
  clear HB1
  have O2_2 := Lib.hid ho
  clear ho hb hsz2
  go_wp2_with fail
  refine (specPairOf_any x1 d1 p n x2 d2 q m W2 w.heap.size W1.heap.size W1.heap.size W2.heap.size O1_2.out.rd (by omega) HLMp.out O2_2.out.rd (by omega) HLMq.out).mono ?_
  rintro e W3 ⟨y3, ey3, rfl, ho, hb⟩
  have HB3 := Lib.hid (HB2.out.trans (hb.mono HB2.out.size))
  have hz3 : W2.heap.size ≤ W3.heap.size := hb.size
  have O1_3 := Lib.hid (O1_2.out.below hb (by omega))
  clear O1_2
  have O2_3 := Lib.hid (O2_2.out.below hb (by omega))
  clear O2_2
  clear HB2
  have G3_3 := Lib.hid ho
  clear ho
  clear hb
  go_wp2_with fail
  clear O1_3
  clear O2_3
  have hsz4 := HB3.out.size
  refine (toIntSS_any ap cp p W3 0 w.heap.size (Fp.out.below HB3.out (Nat.le_refl _)) hsz4 hnp hmp).mono ?_
  rintro e W4 ⟨x4, d4, rfl, ho, hb⟩
  have HB4 := Lib.hid (HB3.out.trans (hb.mono HB3.out.size))
  have hz4 : W3.heap.size ≤ W4.heap.size := hb.size
  have G3_4 := Lib.hid (G3_3.out.below hb (by omega))
  clear G3_3
  clear HB3
  have O4_4 := Lib.hid ho
  clear ho hb hsz4
  go_wp2_with fail
  have hsz5 := HB4.out.size
  refine (toIntSS_any aq cq q W4 0 w.heap.size (Fq.out.below HB4.out (Nat.le_refl _)) hsz5 hnq hmq).mono ?_
  rintro e W5 ⟨x5, d5, rfl, ho, hb⟩
  have HB5 := Lib.hid (HB4.out.trans (hb.mono HB4.out.size))
  have hz5 : W4.heap.size ≤ W5.heap.size := hb.size
  have G3_5 := Lib.hid (G3_4.out.below hb (by omega))
  clear G3_4
  have O4_5 := Lib.hid (O4_4.out.below hb (by omega))
  clear O4_4
  clear HB4
  have O5_5 := Lib.hid ho
  clear ho hb hsz5
  go_wp2_with fail
  refine (implPairOf_any x4 d4 p n x5 d5 q m W5 W3.heap.size W4.heap.size W4.heap.size W5.heap.size O4_5.out.rd (by omega) HLMp.out O5_5.out.rd (by omega) HLMq.out).mono ?_
  rintro e W6 ⟨y6, ey6, rfl, ho, hb⟩
  have HB6 := Lib.hid (HB5.out.trans (hb.mono HB5.out.size))
  have hz6 : W5.heap.size ≤ W6.heap.size := hb.size
  have G3_6 := Lib.hid (G3_5.out.below hb (by omega))
  clear G3_5
  have O4_6 := Lib.hid (O4_5.out.below hb (by omega))
  clear O4_5
  have O5_6 := Lib.hid (O5_5.out.below hb (by omega))
  clear O5_5
  clear HB5
  have G6_6 := Lib.hid ho
  clear ho
  clear hb
  go_wp2_with fail
  refine (eqIntSS_any y6 y3 ey6 ey3 (pairS p n q m) (pairS p n q m) W6 _ _ _ _ G6_6.out.rd G3_6.out.rd G6_6.out.len).mono ?_
  rintro e W7 ⟨rfl, hq⟩
  rw [decide_eq_true rfl]
  have hb : Below W6.heap.size W6 W7 := hq.below
  have HB7 := Lib.hid (HB6.out.trans (hb.mono HB6.out.size))
  have hz7 : W6.heap.size ≤ W7.heap.size := hb.size
  have G3_7 := Lib.hid (G3_6.out.below hb (by omega))
  clear G3_6
  have O4_7 := Lib.hid (O4_6.out.below hb (by omega))
  clear O4_6
  have O5_7 := Lib.hid (O5_6.out.below hb (by omega))
  clear O5_6
  have G6_7 := Lib.hid (G6_6.out.below hb (by omega))
  clear G6_6
  clear HB6
  clear hq hb
  go_wp2_with fail
  have hsz7 := HB7.out.size
  refine (toIntSS_any ap cp p W7 0 w.heap.size (Fp.out.below HB7.out (Nat.le_refl _)) hsz7 hnp hmp).mono ?_
  rintro e W8 ⟨x7, d7, rfl, ho, hb⟩
  have HB8 := Lib.hid (HB7.out.trans (hb.mono HB7.out.size))
  have hz8 : W7.heap.size ≤ W8.heap.size := hb.size
  have G3_8 := Lib.hid (G3_7.out.below hb (by omega))
  clear G3_7
  have O4_8 := Lib.hid (O4_7.out.below hb (by omega))
  clear O4_7
  have O5_8 := Lib.hid (O5_7.out.below hb (by omega))
  clear O5_7
  have G6_8 := Lib.hid (G6_7.out.below hb (by omega))
  clear G6_7
  clear HB7
  have O7_8 := Lib.hid ho
  clear ho hb hsz7
  go_wp2_with fail
  refine (eqIntSS_any x4 x7 d4 d7 p p W8 _ _ _ _ O4_8.out.rd O7_8.out.rd O4_8.out.len).mono ?_
  rintro e W9 ⟨rfl, hq⟩
  rw [decide_eq_true rfl]
  have hb : Below W8.heap.size W8 W9 := hq.below
  have HB9 := Lib.hid (HB8.out.trans (hb.mono HB8.out.size))
  have hz9 : W8.heap.size ≤ W9.heap.size := hb.size
  have G3_9 := Lib.hid (G3_8.out.below hb (by omega))
  clear G3_8
  have O4_9 := Lib.hid (O4_8.out.below hb (by omega))
  clear O4_8
  have O5_9 := Lib.hid (O5_8.out.below hb (by omega))
  clear O5_8
  have G6_9 := Lib.hid (G6_8.out.below hb (by omega))
  clear G6_8
  have O7_9 := Lib.hid (O7_8.out.below hb (by omega))
  clear O7_8
  clear HB8
  clear hq hb
  go_wp2_with fail
  clear O7_9
  have hsz8 := HB9.out.size
  refine (toIntSS_any aq cq q W9 0 w.heap.size (Fq.out.below HB9.out (Nat.le_refl _)) hsz8 hnq hmq).mono ?_
  rintro e W10 ⟨x8, d8, rfl, ho, hb⟩
  have HB10 := Lib.hid (HB9.out.trans (hb.mono HB9.out.size))
  have hz10 : W9.heap.size ≤ W10.heap.size := hb.size
  have G3_10 := Lib.hid (G3_9.out.below hb (by omega))
  clear G3_9
  have O4_10 := Lib.hid (O4_9.out.below hb (by omega))
  clear O4_9
  have O5_10 := Lib.hid (O5_9.out.below hb (by omega))
  clear O5_9
  have G6_10 := Lib.hid (G6_9.out.below hb (by omega))
  clear G6_9
  clear HB9
  have O8_10 := Lib.hid ho
  clear ho hb hsz8
  go_wp2_with fail
  refine (eqIntSS_any x5 x8 d5 d8 q q W10 _ _ _ _ O5_10.out.rd O8_10.out.rd O5_10.out.len).mono ?_
  rintro e W11 ⟨rfl, hq⟩
  rw [decide_eq_true rfl]
  have hb : Below W10.heap.size W10 W11 := hq.below
  have HB11 := Lib.hid (HB10.out.trans (hb.mono HB10.out.size))
  have hz11 : W10.heap.size ≤ W11.heap.size := hb.size
  have G3_11 := Lib.hid (G3_10.out.below hb (by omega))
  clear G3_10
  have O4_11 := Lib.hid (O4_10.out.below hb (by omega))
  clear O4_10
  have O5_11 := Lib.hid (O5_10.out.below hb (by omega))
  clear O5_10
  have G6_11 := Lib.hid (G6_10.out.below hb (by omega))
  clear G6_10
  have O8_11 := Lib.hid (O8_10.out.below hb (by omega))
  clear O8_10
  clear HB10
  clear hq hb
  go_wp2_with fail
  clear O8_11
  obtain ⟨hrn, hrm⟩ := pairOf_small p n q m
  refine (markIntSS_any x4 d4 p 1 W11 _ _ O4_11.out (by omega) (by omega) (by omega) (by omega)).mono ?_
  rintro e W12 ⟨he, ho, hc⟩
  obtain ⟨K1, hK1⟩ : ∃ K1 : Nat, K1 = 1 + lens p := ⟨_, rfl⟩
  rw [← hK1] at he
  subst he
  have gK1 : K1 ≤ 1 + lens p := Nat.le_of_eq hK1
  have HK1 := Lib.hid hK1
  clear hK1
  have tK1 : ¬ ((K1 : Int) < 0) := by omega
  have hw12 := HB11.out.size
  have HB12 := Lib.hid (HB11.out.trans (hc.below (D := w.heap.size) (fun k hk => by omega) HB11.out.size))
  have hz12 : W11.heap.size ≤ W12.heap.size := hc.size
  have G3_12 := Lib.hid (G3_11.out.agr (hc.agr (by omega) (fun k h1 h2 h3 => by omega)))
  clear G3_11
  have O5_12 := Lib.hid (O5_11.out.agr (hc.agr (by omega) (fun k h1 h2 h3 => by omega)))
  clear O5_11
  have G6_12 := Lib.hid (G6_11.out.agr (hc.agr (by omega) (fun k h1 h2 h3 => by omega)))
  clear G6_11
  clear HB11 hw12
  have O4_12 := Lib.hid ho
  clear ho hc O4_11
  go_wp2_with fail
  refine (markIntSS_any x5 d5 q K1 W12 _ _ O5_12.out (by omega) (by omega) (by omega) (by omega)).mono ?_
  rintro e W13 ⟨he, ho, hc⟩
  obtain ⟨K2, hK2⟩ : ∃ K2 : Nat, K2 = K1 + lens q := ⟨_, rfl⟩
  rw [← hK2] at he
  subst he
  have gK2 : K2 ≤ K1 + lens q := Nat.le_of_eq hK2
  have HK2 := Lib.hid hK2
  clear hK2
  have tK2 : ¬ ((K2 : Int) < 0) := by omega
  have hw13 := HB12.out.size
  have HB13 := Lib.hid (HB12.out.trans (hc.below (D := w.heap.size) (fun k hk => by omega) HB12.out.size))
  have hz13 : W12.heap.size ≤ W13.heap.size := hc.size
  have G3_13 := Lib.hid (G3_12.out.agr (hc.agr (by omega) (fun k h1 h2 h3 => by omega)))
  clear G3_12
  have G6_13 := Lib.hid (G6_12.out.agr (hc.agr (by omega) (fun k h1 h2 h3 => by omega)))
  clear G6_12
  have O4_13 := Lib.hid (O4_12.out.agr (hc.agr (by omega) (fun k h1 h2 h3 => by omega)))
  clear O4_12
  clear HB12 hw13
  have O5_13 := Lib.hid ho
  clear ho hc O5_12
  go_wp2_with fail
  clear O4_13
  clear O5_13
  refine (eqIntSS_any y6 y3 ey6 ey3 (pairS p n q m) (pairS p n q m) W13 _ _ _ _ G6_13.out.rd G3_13.out.rd G6_13.out.len).mono ?_
  rintro e W14 ⟨rfl, hq⟩
  rw [decide_eq_true rfl]
  have hb : Below W13.heap.size W13 W14 := hq.below
  have HB14 := Lib.hid (HB13.out.trans (hb.mono HB13.out.size))
  have hz14 : W13.heap.size ≤ W14.heap.size := hb.size
  have G3_14 := Lib.hid (G3_13.out.below hb (by omega))
  clear G3_13
  have G6_14 := Lib.hid (G6_13.out.below hb (by omega))
  clear G6_13
  clear HB13
  clear hq hb
  go_wp2_with fail
  refine (markIntSS_any y6 ey6 (pairS p n q m) 1 W14 _ _ G6_14.out (by omega) (by omega) (by omega) (by omega)).mono ?_
  rintro e W15 ⟨he, ho, hc⟩
  obtain ⟨K3, hK3⟩ : ∃ K3 : Nat, K3 = 1 + lens (pairS p n q m) := ⟨_, rfl⟩
  rw [← hK3] at he
  subst he
  have gK3 : K3 ≤ 1 + lens (pairS p n q m) := Nat.le_of_eq hK3
  have HK3 := Lib.hid hK3
  clear hK3
  have tK3 : ¬ ((K3 : Int) < 0) := by omega
  have hw15 := HB14.out.size
  have HB15 := Lib.hid (HB14.out.trans (hc.below (D := w.heap.size) (fun k hk => by omega) HB14.out.size))
  have hz15 : W14.heap.size ≤ W15.heap.size := hc.size
  have G3_15 := Lib.hid (G3_14.out.agr (hc.agr (by omega) (fun k h1 h2 h3 => by omega)))
  clear G3_14
  clear HB14 hw15
  have G6_15 := Lib.hid ho
  clear ho hc G6_14
  go_wp2_with fail
  refine (heldIntSS_any y6 ey6 (pairS p n q m) 1 W15 _ _ G6_15.out.rd (by omega) (by omega) (by omega)).mono ?_
  rintro e w' ⟨he, rfl⟩
  rw [← HK3.out] at he
  subst he
  go_wp2_with fail
  have hsz9 := HB15.out.size
  refine (toIntSS_any ap cp p W15 0 w.heap.size (Fp.out.below HB15.out (Nat.le_refl _)) hsz9 hnp hmp).mono ?_
  rintro e W16 ⟨x9, d9, rfl, ho, hb⟩
  have HB16 := Lib.hid (HB15.out.trans (hb.mono HB15.out.size))
  have hz16 : W15.heap.size ≤ W16.heap.size := hb.size
  have G3_16 := Lib.hid (G3_15.out.below hb (by omega))
  clear G3_15
  have G6_16 := Lib.hid (G6_15.out.below hb (by omega))
  clear G6_15
  clear HB15
  have O9_16 := Lib.hid ho
  clear ho hb hsz9
  go_wp2_with fail
  have hsz10 := HB16.out.size
  refine (toIntSS_any aq cq q W16 0 w.heap.size (Fq.out.below HB16.out (Nat.le_refl _)) hsz10 hnq hmq).mono ?_
  rintro e W17 ⟨x10, d10, rfl, ho, hb⟩
  have HB17 := Lib.hid (HB16.out.trans (hb.mono HB16.out.size))
  have hz17 : W16.heap.size ≤ W17.heap.size := hb.size
  have G3_17 := Lib.hid (G3_16.out.below hb (by omega))
  clear G3_16
  have G6_17 := Lib.hid (G6_16.out.below hb (by omega))
  clear G6_16
  have O9_17 := Lib.hid (O9_16.out.below hb (by omega))
  clear O9_16
  clear HB16
  have O10_17 := Lib.hid ho
  clear ho hb hsz10
  go_wp2_with fail
  refine (implPairOf_any x9 d9 p n x10 d10 q m W17 W15.heap.size W16.heap.size W16.heap.size W17.heap.size O9_17.out.rd (by omega) HLMp.out O10_17.out.rd (by omega) HLMq.out).mono ?_
  rintro e W18 ⟨y11, ey11, rfl, ho, hb⟩
  have HB18 := Lib.hid (HB17.out.trans (hb.mono HB17.out.size))
  have hz18 : W17.heap.size ≤ W18.heap.size := hb.size
  have G3_18 := Lib.hid (G3_17.out.below hb (by omega))
  clear G3_17
  have G6_18 := Lib.hid (G6_17.out.below hb (by omega))
  clear G6_17
  have O9_18 := Lib.hid (O9_17.out.below hb (by omega))
  clear O9_17
  have O10_18 := Lib.hid (O10_17.out.below hb (by omega))
  clear O10_17
  clear HB17
  have G11_18 := Lib.hid ho
  clear ho
  clear hb
  go_wp2_with fail
  clear O9_18
  clear O10_18
  refine (eqIntSS_any y11 y3 ey11 ey3 (pairS p n q m) (pairS p n q m) W18 _ _ _ _ G11_18.out.rd G3_18.out.rd G11_18.out.len).mono ?_
  rintro e W19 ⟨rfl, hq⟩
  rw [decide_eq_true rfl]
  have hb : Below W18.heap.size W18 W19 := hq.below
  have HB19 := Lib.hid (HB18.out.trans (hb.mono HB18.out.size))
  have hz19 : W18.heap.size ≤ W19.heap.size := hb.size
  have G3_19 := Lib.hid (G3_18.out.below hb (by omega))
  clear G3_18
  have G6_19 := Lib.hid (G6_18.out.below hb (by omega))
  clear G6_18
  have G11_19 := Lib.hid (G11_18.out.below hb (by omega))
  clear G11_18
  clear HB18
  clear hq hb
  go_wp2_with fail
  clear G11_19
  clear G3_19
  refine (heldIntSS_any y6 ey6 (pairS p n q m) 1 W19 _ _ G6_19.out.rd (by omega) (by omega) (by omega)).mono ?_
  rintro e w' ⟨he, rfl⟩
  rw [← HK3.out] at he
  subst he
  go_wp2_with fail
  go_ret
  exact ⟨rfl, HB19.out⟩
end Go.Proofs.YtiiohodkfipfbaaDoor
