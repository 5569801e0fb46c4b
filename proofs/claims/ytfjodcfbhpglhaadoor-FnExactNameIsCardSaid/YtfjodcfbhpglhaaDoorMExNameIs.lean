/- The law FnExactNameIs, walked. -/
import Derived.Test.YtfjodcfbhpglhaaDoorM33
import Derived.Test.YtfjodcfbhpglhaaDoorM31
import Derived.Test.YtfjodcfbhpglhaaDoorM3
namespace Go.Proofs.YtfjodcfbhpglhaaDoor
open Go.RowKit Go.Hyp Go.Deep

set_option maxRecDepth 4000 in
set_option maxHeartbeats 800000 in
theorem fnExactNameIs_any (az : Option Addr) (cz : Nat) (z : List (List Int × Int)) (n : Int) (w : World) (hz : RdY w 0 w.heap.size az z) (hlz : z.length ≤ maxLen) :
    Calls Tryd.prog 3 #[.slice az z.length cz, .int .i64 n] w fun e w' => e = .returned (.bool true) ∧ Below w.heap.size w w' := by
  have Fz := Lib.hid hz
  clear hz
  have HLMz := Lib.hid hlz
  unfold maxLen at hlz
  have Sz := szY_cases 1048576 z
  by_cases hsz : szY 1048576 z < 0
  · clear Sz
    go_enter Tryd.func3, Tryd.ntmps3
    go_wp2_with fail
    refine (szSaidS_any az cz z _ w _ _ Fz.out (Nat.le_refl _) HLMz.out (by omega) (by omega)).mono ?_
    rintro e w1 ⟨rfl, hb1⟩
    have H1 := Lib.hid hb1
    clear hb1
    go_wp2_with fail
    go_ret
    exact ⟨rfl, H1.out⟩
  have hqz : z.length ≤ 1048576 ∧ lensY z ≤ 1048576 ∧ szY 1048576 z ≤ 1048576 := by rcases Sz with hx | hx <;> omega
  obtain ⟨hnz, hmz, hrz⟩ := hqz
  clear Sz
  go_enter Tryd.func3, Tryd.ntmps3
  go_wp2_with fail
  have HB0 := Lib.hid (Below.refl w.heap.size w)
  refine (szSaidS_any az cz z _ w _ _ Fz.out (Nat.le_refl _) HLMz.out (by omega) (by omega)).mono ?_
  rintro e W1 ⟨rfl, hb⟩
  have HB1 := Lib.hid (HB0.out.trans (hb.mono HB0.out.size))
  have hz1 : w.heap.size ≤ W1.heap.size := hb.size
  clear HB0
  clear hb
  go_wp2_with fail
  have hsz1 := HB1.out.size
  refine (toSaidS_any az cz z W1 0 w.heap.size (Fz.out.below HB1.out (Nat.le_refl _)) hsz1 hnz hmz).mono ?_
  rintro e W2 ⟨x1, d1, rfl, ho, hb⟩
  have HB2 := Lib.hid (HB1.out.trans (hb.mono HB1.out.size))
  have hz2 : W1.heap.size ≤ W2.heap.size := hb.size
  clear HB1
  have O1_2 := Lib.hid ho
  clear ho hb hsz1
  go_wp2_with fail
  refine (specNameIs_any x1 d1 z n W2 W1.heap.size W2.heap.size O1_2.out.rd (by omega) HLMz.out).mono ?_
  rintro e W3 ⟨y2, ey2, rfl, ho, hb⟩
  have HB3 := Lib.hid (HB2.out.trans (hb.mono HB2.out.size))
  have hz3 : W2.heap.size ≤ W3.heap.size := hb.size
  have O1_3 := Lib.hid (O1_2.out.below hb (by omega))
  clear O1_2
  clear HB2
  have G2_3 := Lib.hid ho
  clear ho
  clear hb
  go_wp2_with fail
  clear O1_3
  have hsz3 := HB3.out.size
  refine (toSaidS_any az cz z W3 0 w.heap.size (Fz.out.below HB3.out (Nat.le_refl _)) hsz3 hnz hmz).mono ?_
  rintro e W4 ⟨x3, d3, rfl, ho, hb⟩
  have HB4 := Lib.hid (HB3.out.trans (hb.mono HB3.out.size))
  have hz4 : W3.heap.size ≤ W4.heap.size := hb.size
  have G2_4 := Lib.hid (G2_3.out.below hb (by omega))
  clear G2_3
  clear HB3
  have O3_4 := Lib.hid ho
  clear ho hb hsz3
  go_wp2_with fail
  refine (implNameIs_any x3 d3 z n W4 W3.heap.size W4.heap.size O3_4.out.rd (by omega) HLMz.out).mono ?_
  rintro e W5 ⟨y4, ey4, rfl, ho, hb⟩
  have HB5 := Lib.hid (HB4.out.trans (hb.mono HB4.out.size))
  have hz5 : W4.heap.size ≤ W5.heap.size := hb.size
  have G2_5 := Lib.hid (G2_4.out.below hb (by omega))
  clear G2_4
  have O3_5 := Lib.hid (O3_4.out.below hb (by omega))
  clear O3_4
  clear HB4
  have G4_5 := Lib.hid ho
  clear ho
  clear hb
  go_wp2_with fail
  refine (eqIntSS_any y4 y2 ey4 ey2 (nameR z n) (nameR z n) W5 _ _ _ _ G4_5.out.rd G2_5.out.rd G4_5.out.len).mono ?_
  rintro e W6 ⟨rfl, hq⟩
  rw [decide_eq_true rfl]
  have hb : Below W5.heap.size W5 W6 := hq.below
  have HB6 := Lib.hid (HB5.out.trans (hb.mono HB5.out.size))
  have hz6 : W5.heap.size ≤ W6.heap.size := hb.size
  have G2_6 := Lib.hid (G2_5.out.below hb (by omega))
  clear G2_5
  have O3_6 := Lib.hid (O3_5.out.below hb (by omega))
  clear O3_5
  have G4_6 := Lib.hid (G4_5.out.below hb (by omega))
  clear G4_5
  clear HB5
  clear hq hb
  go_wp2_with fail
  have hsz5 := HB6.out.size
  refine (toSaidS_any az cz z W6 0 w.heap.size (Fz.out.below HB6.out (Nat.le_refl _)) hsz5 hnz hmz).mono ?_
  rintro e W7 ⟨x5, d5, rfl, ho, hb⟩
  have HB7 := Lib.hid (HB6.out.trans (hb.mono HB6.out.size))
  have hz7 : W6.heap.size ≤ W7.heap.size := hb.size
  have G2_7 := Lib.hid (G2_6.out.below hb (by omega))
  clear G2_6
  have O3_7 := Lib.hid (O3_6.out.below hb (by omega))
  clear O3_6
  have G4_7 := Lib.hid (G4_6.out.below hb (by omega))
  clear G4_6
  clear HB6
  have O5_7 := Lib.hid ho
  clear ho hb hsz5
  go_wp2_with fail
  refine (eqSaidS_any x3 x5 d3 d5 z z W7 _ _ _ _ O3_7.out.rd O5_7.out.rd (by omega) (by omega) O3_7.out.len).mono ?_
  rintro e W8 ⟨rfl, hb⟩
  rw [decide_eq_true rfl]
  have HB8 := Lib.hid (HB7.out.trans (hb.mono HB7.out.size))
  have hz8 : W7.heap.size ≤ W8.heap.size := hb.size
  have G2_8 := Lib.hid (G2_7.out.below hb (by omega))
  clear G2_7
  have O3_8 := Lib.hid (O3_7.out.below hb (by omega))
  clear O3_7
  have G4_8 := Lib.hid (G4_7.out.below hb (by omega))
  clear G4_7
  have O5_8 := Lib.hid (O5_7.out.below hb (by omega))
  clear O5_7
  clear HB7
  clear hb
  go_wp2_with fail
  clear O5_8
  obtain ⟨hrn, hrm⟩ := nameR_small z n
  refine (markSaidS_any x3 d3 z 1 W8 _ _ O3_8.out (by omega) (by omega) (by omega) (by omega)).mono ?_
  rintro e W9 ⟨he, ho, hc⟩
  obtain ⟨K1, hK1⟩ : ∃ K1 : Nat, K1 = seqK 1 z z.length := ⟨_, rfl⟩
  rw [← hK1] at he
  subst he
  have gK1 : K1 ≤ 1 + (lensY z + z.length) := by rw [hK1]; unfold seqK; rw [List.take_of_length_le (Nat.le_refl _)]; omega
  have HK1 := Lib.hid hK1
  clear hK1
  have tK1 : ¬ ((K1 : Int) < 0) := by omega
  have hw9 := HB8.out.size
  have HB9 := Lib.hid (HB8.out.trans (hc.below (D := w.heap.size) (fun k hk => by omega) HB8.out.size))
  have hz9 : W8.heap.size ≤ W9.heap.size := hc.size
  have G2_9 := Lib.hid (G2_8.out.agr (hc.agr (by omega) (fun k h1 h2 h3 => by omega)))
  clear G2_8
  have G4_9 := Lib.hid (G4_8.out.agr (hc.agr (by omega) (fun k h1 h2 h3 => by omega)))
  clear G4_8
  clear HB8 hw9
  have O3_9 := Lib.hid ho
  clear ho hc O3_8
  go_wp2_with fail
  clear O3_9
  refine (eqIntSS_any y4 y2 ey4 ey2 (nameR z n) (nameR z n) W9 _ _ _ _ G4_9.out.rd G2_9.out.rd G4_9.out.len).mono ?_
  rintro e W10 ⟨rfl, hq⟩
  rw [decide_eq_true rfl]
  have hb : Below W9.heap.size W9 W10 := hq.below
  have HB10 := Lib.hid (HB9.out.trans (hb.mono HB9.out.size))
  have hz10 : W9.heap.size ≤ W10.heap.size := hb.size
  have G2_10 := Lib.hid (G2_9.out.below hb (by omega))
  clear G2_9
  have G4_10 := Lib.hid (G4_9.out.below hb (by omega))
  clear G4_9
  clear HB9
  clear hq hb
  go_wp2_with fail
  refine (markIntSS_any y4 ey4 (nameR z n) 1 W10 _ _ G4_10.out (by omega) (by omega) (by omega) (by omega)).mono ?_
  rintro e W11 ⟨he, ho, hc⟩
  obtain ⟨K2, hK2⟩ : ∃ K2 : Nat, K2 = 1 + lens (nameR z n) := ⟨_, rfl⟩
  rw [← hK2] at he
  subst he
  have gK2 : K2 ≤ 1 + lens (nameR z n) := Nat.le_of_eq hK2
  have HK2 := Lib.hid hK2
  clear hK2
  have tK2 : ¬ ((K2 : Int) < 0) := by omega
  have hw11 := HB10.out.size
  have HB11 := Lib.hid (HB10.out.trans (hc.below (D := w.heap.size) (fun k hk => by omega) HB10.out.size))
  have hz11 : W10.heap.size ≤ W11.heap.size := hc.size
  have G2_11 := Lib.hid (G2_10.out.agr (hc.agr (by omega) (fun k h1 h2 h3 => by omega)))
  clear G2_10
  clear HB10 hw11
  have G4_11 := Lib.hid ho
  clear ho hc G4_10
  go_wp2_with fail
  refine (heldIntSS_any y4 ey4 (nameR z n) 1 W11 _ _ G4_11.out.rd (by omega) (by omega) (by omega)).mono ?_
  rintro e w' ⟨he, rfl⟩
  rw [← HK2.out] at he
  subst he
  go_wp2_with fail
  have hsz6 := HB11.out.size
  refine (toSaidS_any az cz z W11 0 w.heap.size (Fz.out.below HB11.out (Nat.le_refl _)) hsz6 hnz hmz).mono ?_
  rintro e W12 ⟨x6, d6, rfl, ho, hb⟩
  have HB12 := Lib.hid (HB11.out.trans (hb.mono HB11.out.size))
  have hz12 : W11.heap.size ≤ W12.heap.size := hb.size
  have G2_12 := Lib.hid (G2_11.out.below hb (by omega))
  clear G2_11
  have G4_12 := Lib.hid (G4_11.out.below hb (by omega))
  clear G4_11
  clear HB11
  have O6_12 := Lib.hid ho
  clear ho hb hsz6
  go_wp2_with fail
  refine (implNameIs_any x6 d6 z n W12 W11.heap.size W12.heap.size O6_12.out.rd (by omega) HLMz.out).mono ?_
  rintro e W13 ⟨y7, ey7, rfl, ho, hb⟩
  have HB13 := Lib.hid (HB12.out.trans (hb.mono HB12.out.size))
  have hz13 : W12.heap.size ≤ W13.heap.size := hb.size
  have G2_13 := Lib.hid (G2_12.out.below hb (by omega))
  clear G2_12
  have G4_13 := Lib.hid (G4_12.out.below hb (by omega))
  clear G4_12
  have O6_13 := Lib.hid (O6_12.out.below hb (by omega))
  clear O6_12
  clear HB12
  have G7_13 := Lib.hid ho
  clear ho
  clear hb
  go_wp2_with fail
  clear O6_13
  refine (eqIntSS_any y7 y2 ey7 ey2 (nameR z n) (nameR z n) W13 _ _ _ _ G7_13.out.rd G2_13.out.rd G7_13.out.len).mono ?_
  rintro e W14 ⟨rfl, hq⟩
  rw [decide_eq_true rfl]
  have hb : Below W13.heap.size W13 W14 := hq.below
  have HB14 := Lib.hid (HB13.out.trans (hb.mono HB13.out.size))
  have hz14 : W13.heap.size ≤ W14.heap.size := hb.size
  have G2_14 := Lib.hid (G2_13.out.below hb (by omega))
  clear G2_13
  have G4_14 := Lib.hid (G4_13.out.below hb (by omega))
  clear G4_13
  have G7_14 := Lib.hid (G7_13.out.below hb (by omega))
  clear G7_13
  clear HB13
  clear hq hb
  go_wp2_with fail
  clear G7_14
  clear G2_14
  refine (heldIntSS_any y4 ey4 (nameR z n) 1 W14 _ _ G4_14.out.rd (by omega) (by omega) (by omega)).mono ?_
  rintro e w' ⟨he, rfl⟩
  rw [← HK2.out] at he
  subst he
  go_wp2_with fail
  go_ret
  exact ⟨rfl, HB14.out⟩
end Go.Proofs.YtfjodcfbhpglhaaDoor
