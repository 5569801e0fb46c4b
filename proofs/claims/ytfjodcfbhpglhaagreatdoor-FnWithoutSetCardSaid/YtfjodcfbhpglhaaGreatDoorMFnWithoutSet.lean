/- The law FnWithoutSet, walked. -/
import Derived.Test.YtfjodcfbhpglhaaGreatDoorM9
import Derived.Test.YtfjodcfbhpglhaaGreatDoorM29
import Derived.Test.YtfjodcfbhpglhaaGreatDoorM27
import Derived.Test.YtfjodcfbhpglhaaGreatDoorM26
import Derived.Test.YtfjodcfbhpglhaaGreatDoorM22
import Derived.Test.YtfjodcfbhpglhaaGreatDoorM24
import Derived.Test.YtfjodcfbhpglhaaGreatDoorM3
namespace Go.Proofs.YtfjodcfbhpglhaaGreatDoor
open Go.RowKit Go.Hyp Go.Deep

set_option maxRecDepth 4000 in
set_option maxHeartbeats 2000000 in
theorem fnWithoutSet_any (a : Option Addr) (cap : Nat) (l : List Int) (w : World) (h : RdB w w.heap.size a l) (hl : l.length ≤ maxLen ∧ l.length ≤ cap) :
    Calls Tryz.prog 7 #[.slice a l.length cap] w fun e w' => e = .returned (.bool true) ∧ Below w.heap.size w w' := by
  obtain ⟨hl, hcap⟩ := hl
  have HB := Lib.hid h
  clear h
  by_cases hbig : 1048576 < l.length
  · go_enter Tryz.func7, Tryz.ntmps7
    go_wp2_with fail
    go_ret
    exact ⟨rfl, Below.refl _ _⟩
  go_enter Tryz.func7, Tryz.ntmps7
  go_wp2_with fail
  refine (drawWithoutSet_any a cap l _ HB.out hl hcap).mono ?_
  rintro e w1 ⟨a2, c2, p, x, a3, c3, q, y, rfl, hp, hp5, hq, hq5, hb⟩
  have P1 := Lib.hid hp
  have Q1 := Lib.hid hq
  have H1 := Lib.hid hb
  have hm : Hid (p.length ≤ maxLen) := Lib.hid (by unfold maxLen; omega)
  have hm2 : Hid (q.length ≤ maxLen) := Lib.hid (by unfold maxLen; omega)
  clear hb hp hq
  go_wp2_with fail
  obtain ⟨X, hX⟩ : ∃ X, X = woS p x q y := ⟨_, rfl⟩
  obtain ⟨b, hbb⟩ : ∃ b, b = woQ p x q y := ⟨_, rfl⟩
  have HX := Lib.hid hX
  have HBB := Lib.hid hbb
  clear hX hbb
  have hO := implWithoutSet_any a2 c2 p x a3 c3 q y w1 _ _ _ _ P1.out (by omega) hm.out Q1.out (by omega) hm2.out
  rw [← HX.out, ← HBB.out] at hO
  have HO := Lib.hid hO
  clear hO
  refine (HO.out).mono ?_
  rintro e w2 ⟨aX, cX, rfl, hx, hb⟩
  have P2 := Lib.hid (P1.out.below hb (by omega))
  have Q2 := Lib.hid (Q1.out.below hb (by omega))
  have H2 := Lib.hid (H1.out.trans (hb.mono H1.out.size))
  have hz2 : w1.heap.size ≤ w2.heap.size := hb.size
  have X2 := Lib.hid hx.rd
  clear hb P1 Q1 H1 hx
  go_wp2_with fail
  clear HO
  have hO := specWithoutSet_any a2 c2 p x a3 c3 q y w2 _ _ _ _ P2.out (by omega) hm.out Q2.out (by omega) hm2.out
  rw [← HX.out, ← HBB.out] at hO
  have HO := Lib.hid hO
  clear hO
  refine (HO.out).mono ?_
  rintro e w3 ⟨aY, cY, rfl, hx, hb⟩
  have P3 := Lib.hid (P2.out.below hb (by omega))
  have Q3 := Lib.hid (Q2.out.below hb (by omega))
  have H3 := Lib.hid (H2.out.trans (hb.mono H2.out.size))
  have X3 := Lib.hid (X2.out.below hb (by omega))
  have hz3 : w2.heap.size ≤ w3.heap.size := hb.size
  have Y3 := Lib.hid hx.rd
  clear hb P2 Q2 H2 X2 hx
  go_wp2_with fail
  clear HO
  have hXs : X.length ≤ maxLen := by rw [HX.out]; have := (withoutSet_small p x q y).1; unfold maxLen; omega
  have hmx := Lib.hid hXs
  clear hXs
  refine (sameRows_any aX aY cX cY X X w3 _ _ _ _ X3.out Y3.out hmx.out).mono ?_
  rintro e w4 ⟨rfl, hq⟩
  rw [decide_eq_true rfl]
  have hb : Below w3.heap.size w3 w4 := hq.below
  have P4 := Lib.hid (P3.out.below hb (by omega))
  have Q4 := Lib.hid (Q3.out.below hb (by omega))
  have H4 := Lib.hid (H3.out.trans (hb.mono H3.out.size))
  have X4 := Lib.hid (X3.out.below hb (by omega))
  have Y4 := Lib.hid (Y3.out.below hb (by omega))
  have hz4 : w3.heap.size ≤ w4.heap.size := hb.size
  clear hb P3 Q3 H3 X3 Y3 hq
  clear Y4
  have hb2 : (b != b) = false := by simp
  cases hok : b
  · have HF : Hid (X = []) := Lib.hid (by rw [HX.out]; exact wos_none (HBB.out.symm.trans hok))
    rw [hok] at hb2
    clear hok
    rw [HF.out]
    go_wp2_with (go_at_call 20; refine (alive1_any _).mono ?_; rintro e w' ⟨rfl, rfl⟩)
    go_ret
    exact ⟨rfl, H4.out⟩
  · have hq1 := HBB.out.symm.trans hok
    rw [hok] at hb2
    obtain ⟨i, j, rfl, rfl, h1, h2⟩ := q_nodes hq1
    obtain ⟨k1, k2, k3, k4, k5, k6, k7⟩ := wo_law h1 h2 hq1
    rw [← HX.out] at k1 k2 k3 k4 k5 k6 k7
    have K1 := Lib.hid k1
    have K2 := Lib.hid k2
    have K3 := Lib.hid k3
    obtain ⟨T, hT⟩ : ∃ T, T = hasB p i q j := ⟨_, rfl⟩
    rw [← hT] at k4 k5
    have HT := Lib.hid hT
    obtain ⟨MX, hMX⟩ : ∃ M, M = manyI X 0 := ⟨_, rfl⟩
    obtain ⟨MP, hMP⟩ : ∃ M, M = manyI p i := ⟨_, rfl⟩
    have hMX5 : -1 ≤ MX ∧ MX ≤ 5 := by rw [hMX]; exact many_le k7
    have hMP5 : 0 ≤ MP ∧ MP ≤ 5 := by rw [hMP]; exact many_le2 h1
    rw [← hMX, ← hMP] at k4
    have HMX := Lib.hid hMX
    have HMP := Lib.hid hMP
    have K4 := Lib.hid k4
    have K5 := Lib.hid k5
    clear hok hq1 h1 h2 k1 k2 k3 k4 k5 hT hMX hMP
    go_wp2_with fail
    refine (implHasSet_any a2 c2 p i a3 c3 q j w4 _ _ _ _ P4.out (by omega) hm.out Q4.out (by omega) hm2.out).mono ?_
    rintro e w5 ⟨rfl, hb⟩
    rw [← HT.out]
    have P5 := Lib.hid (P4.out.below hb (by omega))
    have Q5 := Lib.hid (Q4.out.below hb (by omega))
    have H5 := Lib.hid (H4.out.trans (hb.mono H4.out.size))
    have X5 := Lib.hid (X4.out.below hb (by omega))
    have hz5 : w4.heap.size ≤ w5.heap.size := hb.size
    clear hb P4 Q4 H4 X4 
    cases ht : T
    · have K4b : Hid (MX = MP - 0) := Lib.hid (by rw [K4.out, ht]; rfl)
      have K5b := Lib.hid (K5.out ht)
      have hmb : (MX == MP - 0) = true := beq_iff_eq.2 K4b.out
      have hmb0 : (MX == MP) = true := beq_iff_eq.2 (by have := K4b.out; omega)
      clear ht
      go_wp2_with fail
      refine (implLeastOk_any aX cX X w5 _ _ X5.out (by omega) hmx.out).mono ?_
      rintro e w6 ⟨rfl, hb⟩
      rw [K1.out]
      have P6 := Lib.hid (P5.out.below hb (by omega))
      have Q6 := Lib.hid (Q5.out.below hb (by omega))
      have H6 := Lib.hid (H5.out.trans (hb.mono H5.out.size))
      have X6 := Lib.hid (X5.out.below hb (by omega))
      have hz6 : w5.heap.size ≤ w6.heap.size := hb.size
      clear hb P5 Q5 H5 X5 
      go_wp2_with fail
      refine (implHasSet_any aX cX X 0 a3 c3 q j w6 _ _ _ _ X6.out (by omega) hmx.out Q6.out (by omega) hm2.out).mono ?_
      rintro e w7 ⟨rfl, hb⟩
      rw [K2.out]
      have P7 := Lib.hid (P6.out.below hb (by omega))
      have Q7 := Lib.hid (Q6.out.below hb (by omega))
      have H7 := Lib.hid (H6.out.trans (hb.mono H6.out.size))
      have X7 := Lib.hid (X6.out.below hb (by omega))
      have hz7 : w6.heap.size ≤ w7.heap.size := hb.size
      clear hb P6 Q6 H6 X6 
      go_wp2_with fail
      refine (implInSet_any aX cX X 0 a2 c2 p i w7 _ _ _ _ X7.out (by omega) hmx.out P7.out (by omega) hm.out).mono ?_
      rintro e w8 ⟨rfl, hb⟩
      rw [K3.out]
      have P8 := Lib.hid (P7.out.below hb (by omega))
      have Q8 := Lib.hid (Q7.out.below hb (by omega))
      have H8 := Lib.hid (H7.out.trans (hb.mono H7.out.size))
      have X8 := Lib.hid (X7.out.below hb (by omega))
      have hz8 : w7.heap.size ≤ w8.heap.size := hb.size
      clear hb P7 Q7 H7 X7 
      go_wp2_with fail
      refine (implManyIn_any aX cX X 0 w8 _ _ X8.out (by omega) hmx.out).mono ?_
      rintro e w9 ⟨rfl, hb⟩
      rw [← HMX.out]
      have P9 := Lib.hid (P8.out.below hb (by omega))
      have Q9 := Lib.hid (Q8.out.below hb (by omega))
      have H9 := Lib.hid (H8.out.trans (hb.mono H8.out.size))
      have X9 := Lib.hid (X8.out.below hb (by omega))
      have hz9 : w8.heap.size ≤ w9.heap.size := hb.size
      clear hb P8 Q8 H8 X8 
      go_wp2_with fail
      refine (implManyIn_any a2 c2 p i w9 _ _ P9.out (by omega) hm.out).mono ?_
      rintro e w10 ⟨rfl, hb⟩
      rw [← HMP.out]
      have P10 := Lib.hid (P9.out.below hb (by omega))
      have Q10 := Lib.hid (Q9.out.below hb (by omega))
      have H10 := Lib.hid (H9.out.trans (hb.mono H9.out.size))
      have X10 := Lib.hid (X9.out.below hb (by omega))
      have hz10 : w9.heap.size ≤ w10.heap.size := hb.size
      clear hb P9 Q9 H9 X9 
      go_wp2_with fail
      refine (implSameSet_any aX cX X 0 a2 c2 p i w10 _ _ _ _ X10.out (by omega) hmx.out P10.out (by omega) hm.out).mono ?_
      rintro e w11 ⟨rfl, hb⟩
      rw [K5b.out]
      have P11 := Lib.hid (P10.out.below hb (by omega))
      have Q11 := Lib.hid (Q10.out.below hb (by omega))
      have H11 := Lib.hid (H10.out.trans (hb.mono H10.out.size))
      have X11 := Lib.hid (X10.out.below hb (by omega))
      have hz11 : w10.heap.size ≤ w11.heap.size := hb.size
      clear hb P10 Q10 H10 X10 
      go_wp2_with fail
      go_ret
      exact ⟨rfl, H11.out⟩
    · have K4b : Hid (MX = MP - 1) := Lib.hid (by rw [K4.out, ht]; rfl)
      have hmb : (MX == MP - 1) = true := beq_iff_eq.2 K4b.out
      clear ht
      go_wp2_with fail
      refine (implLeastOk_any aX cX X w5 _ _ X5.out (by omega) hmx.out).mono ?_
      rintro e w6 ⟨rfl, hb⟩
      rw [K1.out]
      have P6 := Lib.hid (P5.out.below hb (by omega))
      have Q6 := Lib.hid (Q5.out.below hb (by omega))
      have H6 := Lib.hid (H5.out.trans (hb.mono H5.out.size))
      have X6 := Lib.hid (X5.out.below hb (by omega))
      have hz6 : w5.heap.size ≤ w6.heap.size := hb.size
      clear hb P5 Q5 H5 X5 
      go_wp2_with fail
      refine (implHasSet_any aX cX X 0 a3 c3 q j w6 _ _ _ _ X6.out (by omega) hmx.out Q6.out (by omega) hm2.out).mono ?_
      rintro e w7 ⟨rfl, hb⟩
      rw [K2.out]
      have P7 := Lib.hid (P6.out.below hb (by omega))
      have Q7 := Lib.hid (Q6.out.below hb (by omega))
      have H7 := Lib.hid (H6.out.trans (hb.mono H6.out.size))
      have X7 := Lib.hid (X6.out.below hb (by omega))
      have hz7 : w6.heap.size ≤ w7.heap.size := hb.size
      clear hb P6 Q6 H6 X6 
      go_wp2_with fail
      refine (implInSet_any aX cX X 0 a2 c2 p i w7 _ _ _ _ X7.out (by omega) hmx.out P7.out (by omega) hm.out).mono ?_
      rintro e w8 ⟨rfl, hb⟩
      rw [K3.out]
      have P8 := Lib.hid (P7.out.below hb (by omega))
      have Q8 := Lib.hid (Q7.out.below hb (by omega))
      have H8 := Lib.hid (H7.out.trans (hb.mono H7.out.size))
      have X8 := Lib.hid (X7.out.below hb (by omega))
      have hz8 : w7.heap.size ≤ w8.heap.size := hb.size
      clear hb P7 Q7 H7 X7 
      go_wp2_with fail
      refine (implManyIn_any aX cX X 0 w8 _ _ X8.out (by omega) hmx.out).mono ?_
      rintro e w9 ⟨rfl, hb⟩
      rw [← HMX.out]
      have P9 := Lib.hid (P8.out.below hb (by omega))
      have Q9 := Lib.hid (Q8.out.below hb (by omega))
      have H9 := Lib.hid (H8.out.trans (hb.mono H8.out.size))
      have X9 := Lib.hid (X8.out.below hb (by omega))
      have hz9 : w8.heap.size ≤ w9.heap.size := hb.size
      clear hb P8 Q8 H8 X8 
      go_wp2_with fail
      refine (implManyIn_any a2 c2 p i w9 _ _ P9.out (by omega) hm.out).mono ?_
      rintro e w10 ⟨rfl, hb⟩
      rw [← HMP.out]
      have P10 := Lib.hid (P9.out.below hb (by omega))
      have Q10 := Lib.hid (Q9.out.below hb (by omega))
      have H10 := Lib.hid (H9.out.trans (hb.mono H9.out.size))
      have X10 := Lib.hid (X9.out.below hb (by omega))
      have hz10 : w9.heap.size ≤ w10.heap.size := hb.size
      clear hb P9 Q9 H9 X9 
      go_wp2_with fail
      go_ret
      exact ⟨rfl, H10.out⟩
end Go.Proofs.YtfjodcfbhpglhaaGreatDoor
