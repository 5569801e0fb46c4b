/- The law FnExactSolutionOk, walked. -/
import Derived.Test.YtfjodcfbhpglhaaM26
import Derived.Test.YtfjodcfbhpglhaaM33
import Derived.Test.YtfjodcfbhpglhaaM24
import Derived.Test.YtfjodcfbhpglhaaM23
namespace Go.Proofs.Ytfjodcfbhpglhaa
open Go.RowKit Go.Hyp Go.Deep

set_option maxRecDepth 4000 in
set_option maxHeartbeats 800000 in
theorem fnExactSolutionOk_any (az : Option Addr) (cz : Nat) (z : List (List Int × Int)) (ay : Option Addr) (cy : Nat) (y : List (List (List Int))) (ax : Option Addr) (cx : Nat) (x : List Int) (w : World) (hz : RdY w 0 w.heap.size az z) (hlz : z.length ≤ maxLen) (hy : RdIII w 0 w.heap.size ay y) (hly : y.length ≤ maxLen) (hx : RdI w 0 w.heap.size ax x) (hlx : x.length ≤ maxLen) :
    Calls Try.prog 3 #[.slice az z.length cz, .slice ay y.length cy, .slice ax x.length cx] w fun e w' => e = .returned (.bool true) ∧ Below w.heap.size w w' := by
  have Fz := Lib.hid hz
  have Fy := Lib.hid hy
  have Fx := Lib.hid hx
  clear hz hy hx
  have HLMz := Lib.hid hlz
  have HLMy := Lib.hid hly
  have HLMx := Lib.hid hlx
  unfold maxLen at hlz
  unfold maxLen at hly
  unfold maxLen at hlx
  rcases Nat.lt_or_ge 1048576 x.length with hbg0x | hbigx
  · have hbg : (1048576 : Int) < (x.length : Int) := by omega
    go_enter Try.func3, Try.ntmps3
    go_wp2_with fail
    go_ret
    exact ⟨rfl, Below.refl _ _⟩
  · skip
    have Sz := szY_cases 1048576 z
    by_cases hsz : szY 1048576 z < 0
    · clear Sz
      go_enter Try.func3, Try.ntmps3
      go_wp2_with fail
      refine (szSaidS_any az cz z _ w _ _ Fz.out (Nat.le_refl _) HLMz.out (by omega) (by omega)).mono ?_
      rintro e w1 ⟨rfl, hb1⟩
      have H1 := Lib.hid hb1
      clear hb1
      go_wp2_with fail
      go_ret
      exact ⟨rfl, H1.out⟩
    have hqz : z.length ≤ 1048576 ∧ lensY z ≤ 1048576 ∧ szY 1048576 z ≤ 1048576 := by rcases Sz with hx | hx <;> omega
    obtain ⟨hnz, hmz, hrz⟩ := hqz
    clear Sz
    have Sy := szIII_cases (szY 1048576 z) y
    by_cases hsy : szIII (szY 1048576 z) y < 0
    · clear Sy
      go_enter Try.func3, Try.ntmps3
      go_wp2_with fail
      refine (szSaidS_any az cz z _ w _ _ Fz.out (Nat.le_refl _) HLMz.out (by omega) (by omega)).mono ?_
      rintro e w1 ⟨rfl, hb1⟩
      have H1 := Lib.hid hb1
      clear hb1
      go_wp2_with fail
      refine (szIntSSS_any ay cy y _ w1 _ _ (Fy.out.below H1.out (Nat.le_refl _)) HLMy.out (by omega) (by omega)).mono ?_
      rintro e w' ⟨rfl, rfl⟩
      go_wp2_with fail
      go_ret
      exact ⟨rfl, H1.out⟩
    have hqy : y.length ≤ 1048576 ∧ lensP y ≤ 1048576 ∧ szIII (szY 1048576 z) y ≤ 1048576 := by rcases Sy with hx | hx <;> omega
    obtain ⟨hny, hmy, hry⟩ := hqy
    clear Sy
    have hnx := hbigx
    go_enter Try.func3, Try.ntmps3
    go_wp2_with fail
    have HB0 := Lib.hid (Below.refl w.heap.size w)
    refine (szSaidS_any az cz z _ w _ _ Fz.out (Nat.le_refl _) HLMz.out (by omega) (by omega)).mono ?_
    rintro e W1 ⟨rfl, hb⟩
    have HB1 := Lib.hid (HB0.out.trans (hb.mono HB0.out.size))
    have hz1 : w.heap.size ≤ W1.heap.size := hb.size
    clear HB0
    clear hb
    go_wp2_with fail
    refine (szIntSSS_any ay cy y _ W1 _ _ (Fy.out.below HB1.out (Nat.le_refl _)) HLMy.out (by omega) (by omega)).mono ?_
    rintro e w' ⟨rfl, rfl⟩
    go_wp2_with fail
    have hsz1 := HB1.out.size
    refine (toSaidS_any az cz z W1 0 w.heap.size (Fz.out.below HB1.out (Nat.le_refl _)) hsz1 hnz hmz).mono ?_
    rintro e W2 ⟨x1, d1, rfl, ho, hb⟩
    have HB2 := Lib.hid (HB1.out.trans (hb.mono HB1.out.size))
    have hz2 : W1.heap.size ≤ W2.heap.size := hb.size
    clear HB1
    have O1_2 := Lib.hid ho
    clear ho hb hsz1
    go_wp2_with fail
    have hsz2 := HB2.out.size
    refine (toIntSSS_any ay cy y W2 0 w.heap.size (Fy.out.below HB2.out (Nat.le_refl _)) hsz2 hny hmy).mono ?_
    rintro e W3 ⟨x2, d2, rfl, ho, hb⟩
    have HB3 := Lib.hid (HB2.out.trans (hb.mono HB2.out.size))
    have hz3 : W2.heap.size ≤ W3.heap.size := hb.size
    have O1_3 := Lib.hid (O1_2.out.below hb (by omega))
    clear O1_2
    clear HB2
    have O2_3 := Lib.hid ho
    clear ho hb hsz2
    go_wp2_with fail
    have hsz3 := HB3.out.size
    refine (toIntS_any ax cx x W3 0 w.heap.size (Fx.out.below HB3.out (Nat.le_refl _)) hsz3 hnx).mono ?_
    rintro e W4 ⟨x3, d3, rfl, ho, hb⟩
    have HB4 := Lib.hid (HB3.out.trans (hb.mono HB3.out.size))
    have hz4 : W3.heap.size ≤ W4.heap.size := hb.size
    have O1_4 := Lib.hid (O1_3.out.below hb (by omega))
    clear O1_3
    have O2_4 := Lib.hid (O2_3.out.below hb (by omega))
    clear O2_3
    clear HB3
    have O3_4 := Lib.hid ho
    clear ho hb hsz3
    go_wp2_with fail
    refine (specSolutionOk_any x1 d1 z x2 d2 y x3 d3 x W4 W1.heap.size W2.heap.size W2.heap.size W3.heap.size W3.heap.size W4.heap.size O1_4.out.rd (by omega) HLMz.out O2_4.out.rd (by omega) HLMy.out O3_4.out.rd (by omega) HLMx.out).mono ?_
    rintro e W5 ⟨rfl, hb⟩
    have HB5 := Lib.hid (HB4.out.trans (hb.mono HB4.out.size))
    have hz5 : W4.heap.size ≤ W5.heap.size := hb.size
    have O1_5 := Lib.hid (O1_4.out.below hb (by omega))
    clear O1_4
    have O2_5 := Lib.hid (O2_4.out.below hb (by omega))
    clear O2_4
    have O3_5 := Lib.hid (O3_4.out.below hb (by omega))
    clear O3_4
    clear HB4
    clear hb
    go_wp2_with fail
    clear O1_5
    clear O2_5
    clear O3_5
    have hsz5 := HB5.out.size
    refine (toSaidS_any az cz z W5 0 w.heap.size (Fz.out.below HB5.out (Nat.le_refl _)) hsz5 hnz hmz).mono ?_
    rintro e W6 ⟨x5, d5, rfl, ho, hb⟩
    have HB6 := Lib.hid (HB5.out.trans (hb.mono HB5.out.size))
    have hz6 : W5.heap.size ≤ W6.heap.size := hb.size
    clear HB5
    have O5_6 := Lib.hid ho
    clear ho hb hsz5
    go_wp2_with fail
    have hsz6 := HB6.out.size
    refine (toIntSSS_any ay cy y W6 0 w.heap.size (Fy.out.below HB6.out (Nat.le_refl _)) hsz6 hny hmy).mono ?_
    rintro e W7 ⟨x6, d6, rfl, ho, hb⟩
    have HB7 := Lib.hid (HB6.out.trans (hb.mono HB6.out.size))
    have hz7 : W6.heap.size ≤ W7.heap.size := hb.size
    have O5_7 := Lib.hid (O5_6.out.below hb (by omega))
    clear O5_6
    clear HB6
    have O6_7 := Lib.hid ho
    clear ho hb hsz6
    go_wp2_with fail
    have hsz7 := HB7.out.size
    refine (toIntS_any ax cx x W7 0 w.heap.size (Fx.out.below HB7.out (Nat.le_refl _)) hsz7 hnx).mono ?_
    rintro e W8 ⟨x7, d7, rfl, ho, hb⟩
    have HB8 := Lib.hid (HB7.out.trans (hb.mono HB7.out.size))
    have hz8 : W7.heap.size ≤ W8.heap.size := hb.size
    have O5_8 := Lib.hid (O5_7.out.below hb (by omega))
    clear O5_7
    have O6_8 := Lib.hid (O6_7.out.below hb (by omega))
    clear O6_7
    clear HB7
    have O7_8 := Lib.hid ho
    clear ho hb hsz7
    go_wp2_with fail
    refine (implSolutionOk_any x5 d5 z x6 d6 y x7 d7 x W8 W5.heap.size W6.heap.size W6.heap.size W7.heap.size W7.heap.size W8.heap.size O5_8.out.rd (by omega) HLMz.out O6_8.out.rd (by omega) HLMy.out O7_8.out.rd (by omega) HLMx.out).mono ?_
    rintro e W9 ⟨rfl, hb⟩
    have HB9 := Lib.hid (HB8.out.trans (hb.mono HB8.out.size))
    have hz9 : W8.heap.size ≤ W9.heap.size := hb.size
    have O5_9 := Lib.hid (O5_8.out.below hb (by omega))
    clear O5_8
    have O6_9 := Lib.hid (O6_8.out.below hb (by omega))
    clear O6_8
    have O7_9 := Lib.hid (O7_8.out.below hb (by omega))
    clear O7_8
    clear HB8
    clear hb
    go_wp2_with fail
    have hsz9 := HB9.out.size
    refine (toSaidS_any az cz z W9 0 w.heap.size (Fz.out.below HB9.out (Nat.le_refl _)) hsz9 hnz hmz).mono ?_
    rintro e W10 ⟨x9, d9, rfl, ho, hb⟩
    have HB10 := Lib.hid (HB9.out.trans (hb.mono HB9.out.size))
    have hz10 : W9.heap.size ≤ W10.heap.size := hb.size
    have O5_10 := Lib.hid (O5_9.out.below hb (by omega))
    clear O5_9
    have O6_10 := Lib.hid (O6_9.out.below hb (by omega))
    clear O6_9
    have O7_10 := Lib.hid (O7_9.out.below hb (by omega))
    clear O7_9
    clear HB9
    have O9_10 := Lib.hid ho
    clear ho hb hsz9
    go_wp2_with fail
    refine (eqSaidS_any x5 x9 d5 d9 z z W10 _ _ _ _ O5_10.out.rd O9_10.out.rd (by omega) (by omega) HLMz.out).mono ?_
    rintro e W11 ⟨rfl, hb⟩
    rw [decide_eq_true rfl]
    have HB11 := Lib.hid (HB10.out.trans (hb.mono HB10.out.size))
    have hz11 : W10.heap.size ≤ W11.heap.size := hb.size
    have O5_11 := Lib.hid (O5_10.out.below hb (by omega))
    clear O5_10
    have O6_11 := Lib.hid (O6_10.out.below hb (by omega))
    clear O6_10
    have O7_11 := Lib.hid (O7_10.out.below hb (by omega))
    clear O7_10
    have O9_11 := Lib.hid (O9_10.out.below hb (by omega))
    clear O9_10
    clear HB10
    clear hb
    go_wp2_with fail
    clear O9_11
    clear O5_11
    have hsz10 := HB11.out.size
    refine (toIntSSS_any ay cy y W11 0 w.heap.size (Fy.out.below HB11.out (Nat.le_refl _)) hsz10 hny hmy).mono ?_
    rintro e W12 ⟨x10, d10, rfl, ho, hb⟩
    have HB12 := Lib.hid (HB11.out.trans (hb.mono HB11.out.size))
    have hz12 : W11.heap.size ≤ W12.heap.size := hb.size
    have O6_12 := Lib.hid (O6_11.out.below hb (by omega))
    clear O6_11
    have O7_12 := Lib.hid (O7_11.out.below hb (by omega))
    clear O7_11
    clear HB11
    have O10_12 := Lib.hid ho
    clear ho hb hsz10
    go_wp2_with fail
    refine (eqIntSSS_any x6 x10 d6 d10 y y W12 _ _ _ _ O6_12.out.rd O10_12.out.rd O6_12.out.len).mono ?_
    rintro e W13 ⟨rfl, hq⟩
    rw [decide_eq_true rfl]
    have hb : Below W12.heap.size W12 W13 := hq.below
    have HB13 := Lib.hid (HB12.out.trans (hb.mono HB12.out.size))
    have hz13 : W12.heap.size ≤ W13.heap.size := hb.size
    have O6_13 := Lib.hid (O6_12.out.below hb (by omega))
    clear O6_12
    have O7_13 := Lib.hid (O7_12.out.below hb (by omega))
    clear O7_12
    have O10_13 := Lib.hid (O10_12.out.below hb (by omega))
    clear O10_12
    clear HB12
    clear hq hb
    go_wp2_with fail
    clear O10_13
    clear O6_13
    have hsz11 := HB13.out.size
    refine (toIntS_any ax cx x W13 0 w.heap.size (Fx.out.below HB13.out (Nat.le_refl _)) hsz11 hnx).mono ?_
    rintro e W14 ⟨x11, d11, rfl, ho, hb⟩
    have HB14 := Lib.hid (HB13.out.trans (hb.mono HB13.out.size))
    have hz14 : W13.heap.size ≤ W14.heap.size := hb.size
    have O7_14 := Lib.hid (O7_13.out.below hb (by omega))
    clear O7_13
    clear HB13
    have O11_14 := Lib.hid ho
    clear ho hb hsz11
    go_wp2_with fail
    refine (eqIntS_any x7 x11 d7 d11 x x W14 _ _ _ _ O7_14.out.rd O11_14.out.rd O7_14.out.len O11_14.out.len).mono ?_
    rintro e W15 ⟨rfl, hq0⟩
    have hq : Qt W14 W15 := hq0
    clear hq0
    rw [decide_eq_true rfl]
    have hb : Below W14.heap.size W14 W15 := hq.below
    have HB15 := Lib.hid (HB14.out.trans (hb.mono HB14.out.size))
    have hz15 : W14.heap.size ≤ W15.heap.size := hb.size
    have O7_15 := Lib.hid (O7_14.out.below hb (by omega))
    clear O7_14
    have O11_15 := Lib.hid (O11_14.out.below hb (by omega))
    clear O11_14
    clear HB14
    clear hq hb
    go_wp2_with fail
    clear O11_15
    clear O7_15
    go_ret
    exact ⟨rfl, HB15.out⟩
end Go.Proofs.Ytfjodcfbhpglhaa
