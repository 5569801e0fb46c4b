/- The law FnPairOf, walked. -/
import Derived.Test.YtfjodcfbhpglhaaGreatDoorM9
import Derived.Test.YtfjodcfbhpglhaaGreatDoorM27
import Derived.Test.YtfjodcfbhpglhaaGreatDoorM26
import Derived.Test.YtfjodcfbhpglhaaGreatDoorM22
import Derived.Test.YtfjodcfbhpglhaaGreatDoorM24
import Derived.Test.YtfjodcfbhpglhaaGreatDoorM3
namespace Go.Hyp
open Go.RowKit Go.Deep
theorem own_rd (w : World) (E R : Nat) : RdII ((w.alloc (.cells #[.int .i64 1] E)).alloc (.cells #[.slice (some ⟨w.heap.size, 0, none⟩) 1 1] R)) w.heap.size (w.heap.size + 2) (some ⟨w.heap.size + 1, 0, none⟩) ownP := by
  intro k hk
  have hk0 : k = 0 := by unfold ownP at hk; simp at hk; omega
  subst hk0
  refine ⟨w.heap.size + 1, 0, some ⟨w.heap.size, 0, none⟩, 1, rfl, by omega, by omega, ?_, ?_, by unfold maxLen ownP; simp⟩
  · exact blk_cell (alloc2 w _ _).2 rfl
  · have h := ((OwI_one w E 1).rd.below (below_alloc _ (.cells #[.slice (some ⟨w.heap.size, 0, none⟩) 1 1] R)) (by simp)).mono (Nat.le_refl _) (show w.heap.size + 1 ≤ w.heap.size + 2 by omega)
    exact h
end Go.Hyp
namespace Go.Proofs.YtfjodcfbhpglhaaGreatDoor
open Go.RowKit Go.Hyp Go.Deep

set_option maxRecDepth 4000 in
set_option maxHeartbeats 2000000 in
theorem fnPairOf_any (a : Option Addr) (cap : Nat) (l : List Int) (w : World) (h : RdB w w.heap.size a l) (hl : l.length ≤ maxLen ∧ l.length ≤ cap) :
    Calls Tryz.prog 5 #[.slice a l.length cap] w fun e w' => e = .returned (.bool true) ∧ Below w.heap.size w w' := by
  obtain ⟨hl, hcap⟩ := hl
  have HB := Lib.hid h
  clear h
  by_cases hbig : 1048576 < l.length
  · go_enter Tryz.func5, Tryz.ntmps5
    go_wp2_with fail
    go_ret
    exact ⟨rfl, Below.refl _ _⟩
  go_enter Tryz.func5, Tryz.ntmps5
  go_wp2_with fail
  refine (drawPairOf_any a cap l _ HB.out hl hcap).mono ?_
  rintro e w1 ⟨a2, c2, p, x, a3, c3, q, y, rfl, hp, hp5, hq, hq5, hb⟩
  have P1 := Lib.hid hp
  have Q1 := Lib.hid hq
  have H1 := Lib.hid hb
  have hm : Hid (p.length ≤ maxLen) := Lib.hid (by unfold maxLen; omega)
  have hm2 : Hid (q.length ≤ maxLen) := Lib.hid (by unfold maxLen; omega)
  clear hb hp hq
  go_wp2_with fail
  obtain ⟨X, hX⟩ : ∃ X, X = pairS p x q y := ⟨_, rfl⟩
  obtain ⟨b, hbb⟩ : ∃ b, b = pairQ p x q y := ⟨_, rfl⟩
  have HX := Lib.hid hX
  have HBB := Lib.hid hbb
  clear hX hbb
  have hO := implPairOf_any a2 c2 p x a3 c3 q y w1 _ _ _ _ P1.out (by omega) hm.out Q1.out (by omega) hm2.out
  rw [← HX.out, ← HBB.out] at hO
  have HO := Lib.hid hO
  clear hO
  refine (HO.out).mono ?_
  rintro e w2 ⟨aX, cX, rfl, hx, hb⟩
  have P2 := Lib.hid (P1.out.below hb (by omega))
  have Q2 := Lib.hid (Q1.out.below hb (by omega))
  have H2 := Lib.hid (H1.out.trans (hb.mono H1.out.size))
  have hz2 : w1.heap.size ≤ w2.heap.size := hb.size
  have X2 := Lib.hid hx.rd
  clear hb P1 Q1 H1 hx
  go_wp2_with fail
  clear HO
  have hO := specPairOf_any a2 c2 p x a3 c3 q y w2 _ _ _ _ P2.out (by omega) hm.out Q2.out (by omega) hm2.out
  rw [← HX.out, ← HBB.out] at hO
  have HO := Lib.hid hO
  clear hO
  refine (HO.out).mono ?_
  rintro e w3 ⟨aY, cY, rfl, hx, hb⟩
  have P3 := Lib.hid (P2.out.below hb (by omega))
  have Q3 := Lib.hid (Q2.out.below hb (by omega))
  have H3 := Lib.hid (H2.out.trans (hb.mono H2.out.size))
  have X3 := Lib.hid (X2.out.below hb (by omega))
  have hz3 : w2.heap.size ≤ w3.heap.size := hb.size
  have Y3 := Lib.hid hx.rd
  clear hb P2 Q2 H2 X2 hx
  go_wp2_with fail
  clear HO
  have hXs : X.length ≤ maxLen := by rw [HX.out]; have := (pairOf_small p x q y).1; unfold maxLen; omega
  have hmx := Lib.hid hXs
  clear hXs
  refine (sameRows_any aX aY cX cY X X w3 _ _ _ _ X3.out Y3.out hmx.out).mono ?_
  rintro e w4 ⟨rfl, hq⟩
  rw [decide_eq_true rfl]
  have hb : Below w3.heap.size w3 w4 := hq.below
  have P4 := Lib.hid (P3.out.below hb (by omega))
  have Q4 := Lib.hid (Q3.out.below hb (by omega))
  have H4 := Lib.hid (H3.out.trans (hb.mono H3.out.size))
  have X4 := Lib.hid (X3.out.below hb (by omega))
  have Y4 := Lib.hid (Y3.out.below hb (by omega))
  have hz4 : w3.heap.size ≤ w4.heap.size := hb.size
  clear hb P3 Q3 H3 X3 Y3 hq
  clear Y4
  have hb2 : (b != b) = false := by simp
  cases hok : b
  · have HF : Hid (X = []) := Lib.hid (by rw [HX.out]; exact pairs_none (HBB.out.symm.trans hok))
    rw [hok] at hb2
    clear hok
    rw [HF.out]
    go_wp2_with (go_at_call 20; refine (alive1_any _).mono ?_; rintro e w' ⟨rfl, rfl⟩)
    go_ret
    exact ⟨rfl, H4.out⟩
  · have hq1 := HBB.out.symm.trans hok
    rw [hok] at hb2
    obtain ⟨i, j, rfl, rfl, h1, h2⟩ := q_nodes hq1
    obtain ⟨k1, k2, k3, k4, k5, k6, k7, k8⟩ := pair_law h1 h2 hq1
    obtain ⟨o1, o2, o3⟩ := own_law
    rw [← HX.out] at k1 k2 k3 k4 k6 k7 k8
    obtain ⟨S, hS⟩ : ∃ S, S = sameSetB p i q j := ⟨_, rfl⟩
    rw [← hS] at k4
    have HS := Lib.hid hS
    have K1 := Lib.hid k1
    have K2 := Lib.hid k2
    have K3 := Lib.hid k3
    have K4 := Lib.hid k4
    have K5 := Lib.hid k5
    have K6 := Lib.hid k6
    have O2 := Lib.hid o2
    have O3 := Lib.hid o3
    clear hok hq1 h1 h2 k1 k2 k3 k4 k5 k6 o1 o2 o3 hS
    go_wp2_with fail
    refine (implSameSet_any a2 c2 p i a3 c3 q j w4 _ _ _ _ P4.out (by omega) hm.out Q4.out (by omega) hm2.out).mono ?_
    rintro e w5 ⟨rfl, hb⟩
    rw [← HS.out]
    have P5 := Lib.hid (P4.out.below hb (by omega))
    have Q5 := Lib.hid (Q4.out.below hb (by omega))
    have H5 := Lib.hid (H4.out.trans (hb.mono H4.out.size))
    have X5 := Lib.hid (X4.out.below hb (by omega))
    have hz5 : w4.heap.size ≤ w5.heap.size := hb.size
    clear hb P4 Q4 H4 X4 
    cases hs : S
    · have K4 : Hid (manyI X 0 = 2) := Lib.hid (by rw [K4.out, hs]; rfl)
      clear hs
      go_wp2_with fail
      have hO := implPairOf_any a3 c3 q j a2 c2 p i w5 _ _ _ _ Q5.out (by omega) hm2.out P5.out (by omega) hm.out
      rw [K5.out, K6.out] at hO
      have HO := Lib.hid hO
      clear hO
      refine (HO.out).mono ?_
      rintro e w6 ⟨aZ, cZ, rfl, hx, hb⟩
      have P6 := Lib.hid (P5.out.below hb (by omega))
      have Q6 := Lib.hid (Q5.out.below hb (by omega))
      have H6 := Lib.hid (H5.out.trans (hb.mono H5.out.size))
      have X6 := Lib.hid (X5.out.below hb (by omega))
      have hz6 : w5.heap.size ≤ w6.heap.size := hb.size
      have Z6 := Lib.hid hx.rd
      clear hb P5 Q5 H5 X5 hx
      have ORD := Lib.hid (own_rd w6 3 35)
      have HB9 := Lib.hid ((below_alloc w6 (.cells #[.int .i64 1] 3)).alloc (by simp) (.cells #[.slice (some ⟨w6.heap.size, 0, none⟩) 1 1] 35))
      have hO := implPairOf_any (some ⟨w6.heap.size + 1, 0, none⟩) 1 ownP 0 (some ⟨w6.heap.size + 1, 0, none⟩) 1 ownP 0 ((w6.alloc (.cells #[.int .i64 1] 3)).alloc (.cells #[.slice (some ⟨w6.heap.size, 0, none⟩) 1 1] 35)) _ _ _ _ ORD.out (by simp) (by unfold maxLen ownP; simp) ORD.out (by simp) (by unfold maxLen ownP; simp)
      rw [O2.out, O3.out] at hO
      have HO2 := Lib.hid hO
      clear hO HO
      go_wp2_with fail
      refine HO2.out.mono ?_
      rintro e w7 ⟨aW, cW, rfl, hx, hb0⟩
      have hb := HB9.out.trans (hb0.mono (by simp; omega))
      have OR7 := Lib.hid (ORD.out.below hb0 (by simp))
      have hzo : w6.heap.size + 2 ≤ w7.heap.size := by have h9 := hb0.size; simp at h9; omega
      clear hb0 HB9 HO2 ORD
      have P7 := Lib.hid (P6.out.below hb (by omega))
      have Q7 := Lib.hid (Q6.out.below hb (by omega))
      have H7 := Lib.hid (H6.out.trans (hb.mono H6.out.size))
      have X7 := Lib.hid (X6.out.below hb (by omega))
      have Z7 := Lib.hid (Z6.out.below hb (by omega))
      have hz7 : w6.heap.size ≤ w7.heap.size := hb.size
      have W7 := Lib.hid hx.rd
      clear hb P6 Q6 H6 X6 Z6 hx
      go_wp2_with fail
      refine (implLeastOk_any aX cX X w7 _ _ X7.out (by omega) hmx.out).mono ?_
      rintro e w8 ⟨rfl, hb⟩
      rw [K1.out]
      have P8 := Lib.hid (P7.out.below hb (by omega))
      have Q8 := Lib.hid (Q7.out.below hb (by omega))
      have H8 := Lib.hid (H7.out.trans (hb.mono H7.out.size))
      have X8 := Lib.hid (X7.out.below hb (by omega))
      have Z8 := Lib.hid (Z7.out.below hb (by omega))
      have W8 := Lib.hid (W7.out.below hb (by omega))
      have OR8 := Lib.hid (OR7.out.below hb (by omega))
      have hz8 : w7.heap.size ≤ w8.heap.size := hb.size
      clear hb P7 Q7 H7 X7 Z7 W7 OR7 
      go_wp2_with fail
      refine (implHasSet_any aX cX X 0 a2 c2 p i w8 _ _ _ _ X8.out (by omega) hmx.out P8.out (by omega) hm.out).mono ?_
      rintro e w9 ⟨rfl, hb⟩
      rw [K2.out]
      have P9 := Lib.hid (P8.out.below hb (by omega))
      have Q9 := Lib.hid (Q8.out.below hb (by omega))
      have H9 := Lib.hid (H8.out.trans (hb.mono H8.out.size))
      have X9 := Lib.hid (X8.out.below hb (by omega))
      have Z9 := Lib.hid (Z8.out.below hb (by omega))
      have W9 := Lib.hid (W8.out.below hb (by omega))
      have OR9 := Lib.hid (OR8.out.below hb (by omega))
      have hz9 : w8.heap.size ≤ w9.heap.size := hb.size
      clear hb P8 Q8 H8 X8 Z8 W8 OR8 
      go_wp2_with fail
      refine (implHasSet_any aX cX X 0 a3 c3 q j w9 _ _ _ _ X9.out (by omega) hmx.out Q9.out (by omega) hm2.out).mono ?_
      rintro e w10 ⟨rfl, hb⟩
      rw [K3.out]
      have P10 := Lib.hid (P9.out.below hb (by omega))
      have Q10 := Lib.hid (Q9.out.below hb (by omega))
      have H10 := Lib.hid (H9.out.trans (hb.mono H9.out.size))
      have X10 := Lib.hid (X9.out.below hb (by omega))
      have Z10 := Lib.hid (Z9.out.below hb (by omega))
      have W10 := Lib.hid (W9.out.below hb (by omega))
      have OR10 := Lib.hid (OR9.out.below hb (by omega))
      have hz10 : w9.heap.size ≤ w10.heap.size := hb.size
      clear hb P9 Q9 H9 X9 Z9 W9 OR9 
      go_wp2_with fail
      refine (implManyIn_any aX cX X 0 w10 _ _ X10.out (by omega) hmx.out).mono ?_
      rintro e w11 ⟨rfl, hb⟩
      rw [K4.out]
      have P11 := Lib.hid (P10.out.below hb (by omega))
      have Q11 := Lib.hid (Q10.out.below hb (by omega))
      have H11 := Lib.hid (H10.out.trans (hb.mono H10.out.size))
      have X11 := Lib.hid (X10.out.below hb (by omega))
      have Z11 := Lib.hid (Z10.out.below hb (by omega))
      have W11 := Lib.hid (W10.out.below hb (by omega))
      have OR11 := Lib.hid (OR10.out.below hb (by omega))
      have hz11 : w10.heap.size ≤ w11.heap.size := hb.size
      clear hb P10 Q10 H10 X10 Z10 W10 OR10 
      go_wp2_with fail
      refine (sameRows_any aZ aX cZ cX X X w11 _ _ _ _ Z11.out X11.out hmx.out).mono ?_
      rintro e w12 ⟨rfl, hq⟩
      rw [decide_eq_true rfl]
      have hb : Below w11.heap.size w11 w12 := hq.below
      have P12 := Lib.hid (P11.out.below hb (by omega))
      have Q12 := Lib.hid (Q11.out.below hb (by omega))
      have H12 := Lib.hid (H11.out.trans (hb.mono H11.out.size))
      have X12 := Lib.hid (X11.out.below hb (by omega))
      have Z12 := Lib.hid (Z11.out.below hb (by omega))
      have W12 := Lib.hid (W11.out.below hb (by omega))
      have OR12 := Lib.hid (OR11.out.below hb (by omega))
      have hz12 : w11.heap.size ≤ w12.heap.size := hb.size
      clear hb P11 Q11 H11 X11 Z11 W11 OR11 hq
      go_wp2_with fail
      refine (sameRows_any aW _ cW _ ownP ownP w12 _ _ _ _ W12.out OR12.out (by unfold maxLen ownP; simp)).mono ?_
      rintro e w13 ⟨rfl, hq⟩
      rw [decide_eq_true rfl]
      have hb : Below w12.heap.size w12 w13 := hq.below
      have P13 := Lib.hid (P12.out.below hb (by omega))
      have Q13 := Lib.hid (Q12.out.below hb (by omega))
      have H13 := Lib.hid (H12.out.trans (hb.mono H12.out.size))
      have X13 := Lib.hid (X12.out.below hb (by omega))
      have Z13 := Lib.hid (Z12.out.below hb (by omega))
      have W13 := Lib.hid (W12.out.below hb (by omega))
      have OR13 := Lib.hid (OR12.out.below hb (by omega))
      have hz13 : w12.heap.size ≤ w13.heap.size := hb.size
      clear hb P12 Q12 H12 X12 Z12 W12 OR12 hq
      go_wp2_with fail
      go_ret
      exact ⟨rfl, H13.out⟩
    · have K4 : Hid (manyI X 0 = 1) := Lib.hid (by rw [K4.out, hs]; rfl)
      clear hs
      go_wp2_with fail
      have hO := implPairOf_any a3 c3 q j a2 c2 p i w5 _ _ _ _ Q5.out (by omega) hm2.out P5.out (by omega) hm.out
      rw [K5.out, K6.out] at hO
      have HO := Lib.hid hO
      clear hO
      refine (HO.out).mono ?_
      rintro e w6 ⟨aZ, cZ, rfl, hx, hb⟩
      have P6 := Lib.hid (P5.out.below hb (by omega))
      have Q6 := Lib.hid (Q5.out.below hb (by omega))
      have H6 := Lib.hid (H5.out.trans (hb.mono H5.out.size))
      have X6 := Lib.hid (X5.out.below hb (by omega))
      have hz6 : w5.heap.size ≤ w6.heap.size := hb.size
      have Z6 := Lib.hid hx.rd
      clear hb P5 Q5 H5 X5 hx
      have ORD := Lib.hid (own_rd w6 3 35)
      have HB9 := Lib.hid ((below_alloc w6 (.cells #[.int .i64 1] 3)).alloc (by simp) (.cells #[.slice (some ⟨w6.heap.size, 0, none⟩) 1 1] 35))
      have hO := implPairOf_any (some ⟨w6.heap.size + 1, 0, none⟩) 1 ownP 0 (some ⟨w6.heap.size + 1, 0, none⟩) 1 ownP 0 ((w6.alloc (.cells #[.int .i64 1] 3)).alloc (.cells #[.slice (some ⟨w6.heap.size, 0, none⟩) 1 1] 35)) _ _ _ _ ORD.out (by simp) (by unfold maxLen ownP; simp) ORD.out (by simp) (by unfold maxLen ownP; simp)
      rw [O2.out, O3.out] at hO
      have HO2 := Lib.hid hO
      clear hO HO
      go_wp2_with fail
      refine HO2.out.mono ?_
      rintro e w7 ⟨aW, cW, rfl, hx, hb0⟩
      have hb := HB9.out.trans (hb0.mono (by simp; omega))
      have OR7 := Lib.hid (ORD.out.below hb0 (by simp))
      have hzo : w6.heap.size + 2 ≤ w7.heap.size := by have h9 := hb0.size; simp at h9; omega
      clear hb0 HB9 HO2 ORD
      have P7 := Lib.hid (P6.out.below hb (by omega))
      have Q7 := Lib.hid (Q6.out.below hb (by omega))
      have H7 := Lib.hid (H6.out.trans (hb.mono H6.out.size))
      have X7 := Lib.hid (X6.out.below hb (by omega))
      have Z7 := Lib.hid (Z6.out.below hb (by omega))
      have hz7 : w6.heap.size ≤ w7.heap.size := hb.size
      have W7 := Lib.hid hx.rd
      clear hb P6 Q6 H6 X6 Z6 hx
      go_wp2_with fail
      refine (implLeastOk_any aX cX X w7 _ _ X7.out (by omega) hmx.out).mono ?_
      rintro e w8 ⟨rfl, hb⟩
      rw [K1.out]
      have P8 := Lib.hid (P7.out.below hb (by omega))
      have Q8 := Lib.hid (Q7.out.below hb (by omega))
      have H8 := Lib.hid (H7.out.trans (hb.mono H7.out.size))
      have X8 := Lib.hid (X7.out.below hb (by omega))
      have Z8 := Lib.hid (Z7.out.below hb (by omega))
      have W8 := Lib.hid (W7.out.below hb (by omega))
      have OR8 := Lib.hid (OR7.out.below hb (by omega))
      have hz8 : w7.heap.size ≤ w8.heap.size := hb.size
      clear hb P7 Q7 H7 X7 Z7 W7 OR7 
      go_wp2_with fail
      refine (implHasSet_any aX cX X 0 a2 c2 p i w8 _ _ _ _ X8.out (by omega) hmx.out P8.out (by omega) hm.out).mono ?_
      rintro e w9 ⟨rfl, hb⟩
      rw [K2.out]
      have P9 := Lib.hid (P8.out.below hb (by omega))
      have Q9 := Lib.hid (Q8.out.below hb (by omega))
      have H9 := Lib.hid (H8.out.trans (hb.mono H8.out.size))
      have X9 := Lib.hid (X8.out.below hb (by omega))
      have Z9 := Lib.hid (Z8.out.below hb (by omega))
      have W9 := Lib.hid (W8.out.below hb (by omega))
      have OR9 := Lib.hid (OR8.out.below hb (by omega))
      have hz9 : w8.heap.size ≤ w9.heap.size := hb.size
      clear hb P8 Q8 H8 X8 Z8 W8 OR8 
      go_wp2_with fail
      refine (implHasSet_any aX cX X 0 a3 c3 q j w9 _ _ _ _ X9.out (by omega) hmx.out Q9.out (by omega) hm2.out).mono ?_
      rintro e w10 ⟨rfl, hb⟩
      rw [K3.out]
      have P10 := Lib.hid (P9.out.below hb (by omega))
      have Q10 := Lib.hid (Q9.out.below hb (by omega))
      have H10 := Lib.hid (H9.out.trans (hb.mono H9.out.size))
      have X10 := Lib.hid (X9.out.below hb (by omega))
      have Z10 := Lib.hid (Z9.out.below hb (by omega))
      have W10 := Lib.hid (W9.out.below hb (by omega))
      have OR10 := Lib.hid (OR9.out.below hb (by omega))
      have hz10 : w9.heap.size ≤ w10.heap.size := hb.size
      clear hb P9 Q9 H9 X9 Z9 W9 OR9 
      go_wp2_with fail
      refine (implManyIn_any aX cX X 0 w10 _ _ X10.out (by omega) hmx.out).mono ?_
      rintro e w11 ⟨rfl, hb⟩
      rw [K4.out]
      have P11 := Lib.hid (P10.out.below hb (by omega))
      have Q11 := Lib.hid (Q10.out.below hb (by omega))
      have H11 := Lib.hid (H10.out.trans (hb.mono H10.out.size))
      have X11 := Lib.hid (X10.out.below hb (by omega))
      have Z11 := Lib.hid (Z10.out.below hb (by omega))
      have W11 := Lib.hid (W10.out.below hb (by omega))
      have OR11 := Lib.hid (OR10.out.below hb (by omega))
      have hz11 : w10.heap.size ≤ w11.heap.size := hb.size
      clear hb P10 Q10 H10 X10 Z10 W10 OR10 
      go_wp2_with fail
      refine (sameRows_any aZ aX cZ cX X X w11 _ _ _ _ Z11.out X11.out hmx.out).mono ?_
      rintro e w12 ⟨rfl, hq⟩
      rw [decide_eq_true rfl]
      have hb : Below w11.heap.size w11 w12 := hq.below
      have P12 := Lib.hid (P11.out.below hb (by omega))
      have Q12 := Lib.hid (Q11.out.below hb (by omega))
      have H12 := Lib.hid (H11.out.trans (hb.mono H11.out.size))
      have X12 := Lib.hid (X11.out.below hb (by omega))
      have Z12 := Lib.hid (Z11.out.below hb (by omega))
      have W12 := Lib.hid (W11.out.below hb (by omega))
      have OR12 := Lib.hid (OR11.out.below hb (by omega))
      have hz12 : w11.heap.size ≤ w12.heap.size := hb.size
      clear hb P11 Q11 H11 X11 Z11 W11 OR11 hq
      go_wp2_with fail
      refine (sameRows_any aW _ cW _ ownP ownP w12 _ _ _ _ W12.out OR12.out (by unfold maxLen ownP; simp)).mono ?_
      rintro e w13 ⟨rfl, hq⟩
      rw [decide_eq_true rfl]
      have hb : Below w12.heap.size w12 w13 := hq.below
      have P13 := Lib.hid (P12.out.below hb (by omega))
      have Q13 := Lib.hid (Q12.out.below hb (by omega))
      have H13 := Lib.hid (H12.out.trans (hb.mono H12.out.size))
      have X13 := Lib.hid (X12.out.below hb (by omega))
      have Z13 := Lib.hid (Z12.out.below hb (by omega))
      have W13 := Lib.hid (W12.out.below hb (by omega))
      have OR13 := Lib.hid (OR12.out.below hb (by omega))
      have hz13 : w12.heap.size ≤ w13.heap.size := hb.size
      clear hb P12 Q12 H12 X12 Z12 W12 OR12 hq
      go_wp2_with fail
      go_ret
      exact ⟨rfl, H13.out⟩
end Go.Proofs.YtfjodcfbhpglhaaGreatDoor
