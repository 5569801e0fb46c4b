/- The law FnExactLeastOf, walked. -/
import Derived.Test.YtiiohodkfipfbaaDoorLeastI
import Derived.Test.YtiiohodkfipfbaaDoorMarkII
namespace Go.Proofs.YtiiohodkfipfbaaDoor
open Go.RowKit Go.Hyp Go.Deep

set_option maxRecDepth 4000 in
set_option maxHeartbeats 800000 in
theorem fnExactLeastOf_any (ap : Option Addr) (cp : Nat) (p : List (List Int)) (n : Int) (w : World) (hp : RdII w 0 w.heap.size ap p) (hlp : p.length ≤ maxLen) :
    Calls Tryd.prog 7 #[.slice ap p.length cp, .int .i64 n] w fun e w' => e = .returned (.bool true) ∧ Below w.heap.size w w' := by
  have Fp := Lib.hid hp
  clear hp
  have HLMp := Lib.hid hlp
  unfold maxLen at hlp
  have Sp := szII_cases 1048576 p
  by_cases hsp : szII 1048576 p < 0
  · clear Sp
    go_enter Tryd.func7, Tryd.ntmps7
    go_wp2_with fail
    refine (szIntSS_any ap cp p _ w _ _ Fp.out HLMp.out (by omega) (by omega)).mono ?_
    rintro e w' ⟨rfl, rfl⟩
    go_wp2_with fail
    go_ret
    exact ⟨rfl, Below.refl _ _⟩
  have hqp : p.length ≤ 1048576 ∧ lens p ≤ 1048576 ∧ szII 1048576 p ≤ 1048576 := by rcases Sp with hx | hx <;> omega
  obtain ⟨hnp, hmp, hrp⟩ := hqp
  clear Sp
  go_enter Tryd.func7, Tryd.ntmps7
  go_wp2_with fail
  refine (szIntSS_any ap cp p _ w _ _ Fp.out HLMp.out (by omega) (by omega)).mono ?_
  rintro e w' ⟨rfl, rfl⟩
  go_wp2_with fail
  have HB0 := Lib.hid (Below.refl w.heap.size w)
  have hsz1 := HB0.out.size
  refine (toIntSS_any ap cp p w 0 w.heap.size (Fp.out.below HB0.out (Nat.le_refl _)) hsz1 hnp hmp).mono ?_
  rintro e W1 ⟨x1, d1, rfl, ho, hb⟩
  have HB1 := Lib.hid (HB0.out.trans (hb.mono HB0.out.size))
  have hz1 : w.heap.size ≤ W1.heap.size := hb.size
  clear HB0
  have O1_1 := Lib.hid ho
  clear ho hb hsz1
  go_wp2_with fail
  refine (specLeastOf_any x1 d1 p n W1 w.heap.size W1.heap.size O1_1.out.rd (by omega) HLMp.out).mono ?_
  rintro e W2 ⟨y2, ey2, rfl, ho, hb⟩
  have HB2 := Lib.hid (HB1.out.trans (hb.mono HB1.out.size))
  have hz2 : W1.heap.size ≤ W2.heap.size := hb.size
  have O1_2 := Lib.hid (O1_1.out.below hb (by omega))
  clear O1_1
  clear HB1
  have G2_2 := Lib.hid ho
  clear ho
  clear hb
  go_wp2_with fail
  clear O1_2
  have hsz3 := HB2.out.size
  refine (toIntSS_any ap cp p W2 0 w.heap.size (Fp.out.below HB2.out (Nat.le_refl _)) hsz3 hnp hmp).mono ?_
  rintro e W3 ⟨x3, d3, rfl, ho, hb⟩
  have HB3 := Lib.hid (HB2.out.trans (hb.mono HB2.out.size))
  have hz3 : W2.heap.size ≤ W3.heap.size := hb.size
  have G2_3 := Lib.hid (G2_2.out.below hb (by omega))
  clear G2_2
  clear HB2
  have O3_3 := Lib.hid ho
  clear ho hb hsz3
  go_wp2_with fail
  refine (implLeastOf_any x3 d3 p n W3 W2.heap.size W3.heap.size O3_3.out.rd (by omega) HLMp.out).mono ?_
  rintro e W4 ⟨y4, ey4, rfl, ho, hb⟩
  have HB4 := Lib.hid (HB3.out.trans (hb.mono HB3.out.size))
  have hz4 : W3.heap.size ≤ W4.heap.size := hb.size
  have G2_4 := Lib.hid (G2_3.out.below hb (by omega))
  clear G2_3
  have O3_4 := Lib.hid (O3_3.out.below hb (by omega))
  clear O3_3
  clear HB3
  have G4_4 := Lib.hid ho
  clear ho
  clear hb
  go_wp2_with fail
  refine (eqIntSS_any y4 y2 ey4 ey2 (leastR p n) (leastR p n) W4 _ _ _ _ G4_4.out.rd G2_4.out.rd G4_4.out.len).mono ?_
  rintro e W5 ⟨rfl, hq⟩
  rw [decide_eq_true rfl]
  have hb : Below W4.heap.size W4 W5 := hq.below
  have HB5 := Lib.hid (HB4.out.trans (hb.mono HB4.out.size))
  have hz5 : W4.heap.size ≤ W5.heap.size := hb.size
  have G2_5 := Lib.hid (G2_4.out.below hb (by omega))
  clear G2_4
  have O3_5 := Lib.hid (O3_4.out.below hb (by omega))
  clear O3_4
  have G4_5 := Lib.hid (G4_4.out.below hb (by omega))
  clear G4_4
  clear HB4
  clear hq hb
  go_wp2_with fail
  have hsz5 := HB5.out.size
  refine (toIntSS_any ap cp p W5 0 w.heap.size (Fp.out.below HB5.out (Nat.le_refl _)) hsz5 hnp hmp).mono ?_
  rintro e W6 ⟨x5, d5, rfl, ho, hb⟩
  have HB6 := Lib.hid (HB5.out.trans (hb.mono HB5.out.size))
  have hz6 : W5.heap.size ≤ W6.heap.size := hb.size
  have G2_6 := Lib.hid (G2_5.out.below hb (by omega))
  clear G2_5
  have O3_6 := Lib.hid (O3_5.out.below hb (by omega))
  clear O3_5
  have G4_6 := Lib.hid (G4_5.out.below hb (by omega))
  clear G4_5
  clear HB5
  have O5_6 := Lib.hid ho
  clear ho hb hsz5
  go_wp2_with fail
  refine (eqIntSS_any x3 x5 d3 d5 p p W6 _ _ _ _ O3_6.out.rd O5_6.out.rd O3_6.out.len).mono ?_
  rintro e W7 ⟨rfl, hq⟩
  rw [decide_eq_true rfl]
  have hb : Below W6.heap.size W6 W7 := hq.below
  have HB7 := Lib.hid (HB6.out.trans (hb.mono HB6.out.size))
  have hz7 : W6.heap.size ≤ W7.heap.size := hb.size
  have G2_7 := Lib.hid (G2_6.out.below hb (by omega))
  clear G2_6
  have O3_7 := Lib.hid (O3_6.out.below hb (by omega))
  clear O3_6
  have G4_7 := Lib.hid (G4_6.out.below hb (by omega))
  clear G4_6
  have O5_7 := Lib.hid (O5_6.out.below hb (by omega))
  clear O5_6
  clear HB6
  clear hq hb
  go_wp2_with fail
  clear O5_7
  obtain ⟨hrn, hrm⟩ := leastOf_small p n
  refine (markIntSS_any x3 d3 p 1 W7 _ _ O3_7.out (by omega) (by omega) (by omega) (by omega)).mono ?_
  rintro e W8 ⟨he, ho, hc⟩
  obtain ⟨K1, hK1⟩ : ∃ K1 : Nat, K1 = 1 + lens p := ⟨_, rfl⟩
  rw [← hK1] at he
  subst he
  have gK1 : K1 ≤ 1 + lens p := Nat.le_of_eq hK1
  have HK1 := Lib.hid hK1
  clear hK1
  have tK1 : ¬ ((K1 : Int) < 0) := by omega
  have hw8 := HB7.out.size
  have HB8 := Lib.hid (HB7.out.trans (hc.below (D := w.heap.size) (fun k hk => by omega) HB7.out.size))
  have hz8 : W7.heap.size ≤ W8.heap.size := hc.size
  have G2_8 := Lib.hid (G2_7.out.agr (hc.agr (by omega) (fun k h1 h2 h3 => by omega)))
  clear G2_7
  have G4_8 := Lib.hid (G4_7.out.agr (hc.agr (by omega) (fun k h1 h2 h3 => by omega)))
  clear G4_7
  clear HB7 hw8
  have O3_8 := Lib.hid ho
  clear ho hc O3_7
  go_wp2_with fail
  clear O3_8
  refine (eqIntSS_any y4 y2 ey4 ey2 (leastR p n) (leastR p n) W8 _ _ _ _ G4_8.out.rd G2_8.out.rd G4_8.out.len).mono ?_
  rintro e W9 ⟨rfl, hq⟩
  rw [decide_eq_true rfl]
  have hb : Below W8.heap.size W8 W9 := hq.below
  have HB9 := Lib.hid (HB8.out.trans (hb.mono HB8.out.size))
  have hz9 : W8.heap.size ≤ W9.heap.size := hb.size
  have G2_9 := Lib.hid (G2_8.out.below hb (by omega))
  clear G2_8
  have G4_9 := Lib.hid (G4_8.out.below hb (by omega))
  clear G4_8
  clear HB8
  clear hq hb
  go_wp2_with fail
  refine (markIntSS_any y4 ey4 (leastR p n) 1 W9 _ _ G4_9.out (by omega) (by omega) (by omega) (by omega)).mono ?_
  rintro e W10 ⟨he, ho, hc⟩
  obtain ⟨K2, hK2⟩ : ∃ K2 : Nat, K2 = 1 + lens (leastR p n) := ⟨_, rfl⟩
  rw [← hK2] at he
  subst he
  have gK2 : K2 ≤ 1 + lens (leastR p n) := Nat.le_of_eq hK2
  have HK2 := Lib.hid hK2
  clear hK2
  have tK2 : ¬ ((K2 : Int) < 0) := by omega
  have hw10 := HB9.out.size
  have HB10 := Lib.hid (HB9.out.trans (hc.below (D := w.heap.size) (fun k hk => by omega) HB9.out.size))
  have hz10 : W9.heap.size ≤ W10.heap.size := hc.size
  have G2_10 := Lib.hid (G2_9.out.agr (hc.agr (by omega) (fun k h1 h2 h3 => by omega)))
  clear G2_9
  clear HB9 hw10
  have G4_10 := Lib.hid ho
  clear ho hc G4_9
  go_wp2_with fail
  refine (heldIntSS_any y4 ey4 (leastR p n) 1 W10 _ _ G4_10.out.rd (by omega) (by omega) (by omega)).mono ?_
  rintro e w' ⟨he, rfl⟩
  rw [← HK2.out] at he
  subst he
  go_wp2_with fail
  have hsz6 := HB10.out.size
  refine (toIntSS_any ap cp p W10 0 w.heap.size (Fp.out.below HB10.out (Nat.le_refl _)) hsz6 hnp hmp).mono ?_
  rintro e W11 ⟨x6, d6, rfl, ho, hb⟩
  have HB11 := Lib.hid (HB10.out.trans (hb.mono HB10.out.size))
  have hz11 : W10.heap.size ≤ W11.heap.size := hb.size
  have G2_11 := Lib.hid (G2_10.out.below hb (by omega))
  clear G2_10
  have G4_11 := Lib.hid (G4_10.out.below hb (by omega))
  clear G4_10
  clear HB10
  have O6_11 := Lib.hid ho
  clear ho hb hsz6
  go_wp2_with fail
  refine (implLeastOf_any x6 d6 p n W11 W10.heap.size W11.heap.size O6_11.out.rd (by omega) HLMp.out).mono ?_
  rintro e W12 ⟨y7, ey7, rfl, ho, hb⟩
  have HB12 := Lib.hid (HB11.out.trans (hb.mono HB11.out.size))
  have hz12 : W11.heap.size ≤ W12.heap.size := hb.size
  have G2_12 := Lib.hid (G2_11.out.below hb (by omega))
  clear G2_11
  have G4_12 := Lib.hid (G4_11.out.below hb (by omega))
  clear G4_11
  have O6_12 := Lib.hid (O6_11.out.below hb (by omega))
  clear O6_11
  clear HB11
  have G7_12 := Lib.hid ho
  clear ho
  clear hb
  go_wp2_with fail
  clear O6_12
  refine (eqIntSS_any y7 y2 ey7 ey2 (leastR p n) (leastR p n) W12 _ _ _ _ G7_12.out.rd G2_12.out.rd G7_12.out.len).mono ?_
  rintro e W13 ⟨rfl, hq⟩
  rw [decide_eq_true rfl]
  have hb : Below W12.heap.size W12 W13 := hq.below
  have HB13 := Lib.hid (HB12.out.trans (hb.mono HB12.out.size))
  have hz13 : W12.heap.size ≤ W13.heap.size := hb.size
  have G2_13 := Lib.hid (G2_12.out.below hb (by omega))
  clear G2_12
  have G4_13 := Lib.hid (G4_12.out.below hb (by omega))
  clear G4_12
  have G7_13 := Lib.hid (G7_12.out.below hb (by omega))
  clear G7_12
  clear HB12
  clear hq hb
  go_wp2_with fail
  clear G7_13
  clear G2_13
  refine (heldIntSS_any y4 ey4 (leastR p n) 1 W13 _ _ G4_13.out.rd (by omega) (by omega) (by omega)).mono ?_
  rintro e w' ⟨he, rfl⟩
  rw [← HK2.out] at he
  subst he
  go_wp2_with fail
  go_ret
  exact ⟨rfl, HB13.out⟩
end Go.Proofs.YtiiohodkfipfbaaDoor
