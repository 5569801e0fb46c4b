/- The law FnHasSet, walked. -/
import Derived.Test.YtiiohodkfipfbaaGreatDoorDrawQ
import Derived.Test.YtiiohodkfipfbaaGreatDoorLeastI
import Derived.Test.YtiiohodkfipfbaaGreatDoorBitHas
import Derived.Test.YtiiohodkfipfbaaGreatDoorHas
import Derived.Test.YtiiohodkfipfbaaGreatDoorAlive
import Derived.Test.YtiiohodkfipfbaaGreatDoorPutP
namespace Go.Hyp
open Go.RowKit Go.Deep
theorem code_has {p q : List (List Int)} {x y : Int} {n m : Nat} (h1 : nodeB p x = true) (h2 : nodeB q y = true) (h3 : Go.Hyp.Code p x.toNat n) (h4 : Go.Hyp.Code q y.toNat m) : hasB p x q y = n.testBit m := by
  obtain ⟨i, rfl, hi, _⟩ := nodeB_nat h1
  obtain ⟨j, rfl, hj, _⟩ := nodeB_nat h2
  rw [Int.toNat_natCast] at h3 h4
  rw [hasB_yes h1 h2, Bool.eq_iff_iff, hasL_mem hj, h3.has hj h4]
end Go.Hyp
namespace Go.Proofs.YtiiohodkfipfbaaGreatDoor
open Go.RowKit Go.Hyp Go.Deep

set_option maxRecDepth 4000 in
set_option maxHeartbeats 2000000 in
theorem fnHasSet_any (a : Option Addr) (cap : Nat) (l : List Int) (w : World) (h : RdB w w.heap.size a l) (hl : l.length ≤ maxLen ∧ l.length ≤ cap) :
    Calls Tryz.prog 3 #[.slice a l.length cap] w fun e w' => e = .returned (.bool true) ∧ Below w.heap.size w w' := by
  obtain ⟨hl, hcap⟩ := hl
  have HB := Lib.hid h
  clear h
  by_cases hbig : 1048576 < l.length
  · go_enter Tryz.func3, Tryz.ntmps3
    go_wp2_with fail
    go_ret
    exact ⟨rfl, Below.refl _ _⟩
  go_enter Tryz.func3, Tryz.ntmps3
  go_wp2_with fail
  refine (drawHasSet_any a cap l _ HB.out hl hcap).mono ?_
  rintro e w1 ⟨a2, c2, p, x, a3, c3, q, y, rfl, hp, hp5, hq, hq5, hb⟩
  have P1 := Lib.hid hp
  have Q1 := Lib.hid hq
  have H1 := Lib.hid hb
  have hm : Hid (p.length ≤ maxLen) := Lib.hid (by unfold maxLen; omega)
  have hm2 : Hid (q.length ≤ maxLen) := Lib.hid (by unfold maxLen; omega)
  clear hb hp hq
  go_wp2_with fail
  obtain ⟨V, hV⟩ : ∃ V, V = hasB p x q y := ⟨_, rfl⟩
  have HV := Lib.hid hV
  clear hV
  refine (implHasSet_any a2 c2 p x a3 c3 q y w1 _ _ _ _ P1.out (by omega) hm.out Q1.out (by omega) hm2.out).mono ?_
  rintro e w2 ⟨rfl, hb⟩
  rw [← HV.out]
  have P2 := Lib.hid (P1.out.below hb (by omega))
  have Q2 := Lib.hid (Q1.out.below hb (by omega))
  have H2 := Lib.hid (H1.out.trans (hb.mono H1.out.size))
  have hz2 : w1.heap.size ≤ w2.heap.size := hb.size
  clear hb P1 Q1 H1 
  go_wp2_with fail
  refine (specHasSet_any a2 c2 p x a3 c3 q y w2 _ _ _ _ P2.out (by omega) hm.out Q2.out (by omega) hm2.out).mono ?_
  rintro e w3 ⟨rfl, hb⟩
  rw [← HV.out]
  have P3 := Lib.hid (P2.out.below hb (by omega))
  have Q3 := Lib.hid (Q2.out.below hb (by omega))
  have H3 := Lib.hid (H2.out.trans (hb.mono H2.out.size))
  have hz3 : w2.heap.size ≤ w3.heap.size := hb.size
  clear hb P2 Q2 H2 
  have hvv : (V != V) = false := by simp
  go_wp2_with fail
  have hCA := implCodeAt_any a2 c2 p x w3 _ _ P3.out (by omega) hm.out
  have HCA := Lib.hid hCA
  clear hCA hvv
  refine HCA.out.mono ?_
  rintro e w4 ⟨cc, b1, rfl, hb, _, g2, g3⟩
  have G2 := Lib.hid g2
  have G3 := Lib.hid g3
  clear HCA
  have P4 := Lib.hid (P3.out.below hb (by omega))
  have Q4 := Lib.hid (Q3.out.below hb (by omega))
  have H4 := Lib.hid (H3.out.trans (hb.mono H3.out.size))
  have hz4 : w3.heap.size ≤ w4.heap.size := hb.size
  clear hb P3 Q3 H3 g2 g3
  go_wp2_with fail
  have hCB := implCodeAt_any a3 c3 q y w4 _ _ Q4.out (by omega) hm2.out
  have HCB := Lib.hid hCB
  clear hCB
  refine HCB.out.mono ?_
  rintro e w5 ⟨dd, b2, rfl, hb, _, g4, g5⟩
  have G4 := Lib.hid g4
  have G5 := Lib.hid g5
  clear HCB
  have P5 := Lib.hid (P4.out.below hb (by omega))
  have Q5 := Lib.hid (Q4.out.below hb (by omega))
  have H5 := Lib.hid (H4.out.trans (hb.mono H4.out.size))
  have hz5 : w4.heap.size ≤ w5.heap.size := hb.size
  clear hb P4 Q4 H4 g4 g5
  have hcase : b1 = false ∨ (b1 = true ∧ b2 = false) ∨ (b1 = true ∧ b2 = true) := by cases b1 <;> cases b2 <;> simp
  rcases hcase with rfl | ⟨rfl, rfl⟩ | ⟨rfl, rfl⟩
  · skip
    cases h1 : nodeB p x
    · have HN := Lib.hid h1
      have HF : Hid (V = false) := Lib.hid (HV.out.trans (hasB_no1 h1))
      rw [HF.out]
      clear h1
      go_wp2_with fail
      refine (specNodeOk_any a2 c2 p x w5 _ _ P5.out hm.out).mono ?_
      rintro e w' ⟨rfl, rfl⟩
      rw [HN.out]
      go_wp2_with (go_at_call 10; refine (alive1_any _).mono ?_; rintro e w' ⟨rfl, rfl⟩)
      go_ret
      exact ⟨rfl, H5.out⟩
    · have HN := Lib.hid h1
      cases h2 : nodeB q y
      · have HN2 := Lib.hid h2
        have HF : Hid (V = false) := Lib.hid (HV.out.trans (hasB_no2 h2))
        rw [HF.out]
        clear h1 h2
        go_wp2_with fail
        refine (specNodeOk_any a2 c2 p x w5 _ _ P5.out hm.out).mono ?_
        rintro e w' ⟨rfl, rfl⟩
        rw [HN.out]
        go_wp2_with fail
        refine (specNodeOk_any a3 c3 q y w5 _ _ Q5.out hm2.out).mono ?_
        rintro e w' ⟨rfl, rfl⟩
        rw [HN2.out]
        go_wp2_with (go_at_call 10; refine (alive1_any _).mono ?_; rintro e w' ⟨rfl, rfl⟩)
        go_ret
        exact ⟨rfl, H5.out⟩
      · have HN2 := Lib.hid h2
        have HLV : Hid (hasB (leastR p x) 0 (leastR q y) 0 = V) := Lib.hid ((has_least h1 h2).trans HV.out.symm)
        have hx5 := leastR_len (p := p) (n := x)
        have hy5 := leastR_len (p := q) (n := y)
        have hvt : (V == V) = true := by simp
        obtain ⟨X, hX⟩ : ∃ X, X = leastR p x := ⟨_, rfl⟩
        obtain ⟨Y, hY⟩ : ∃ Y, Y = leastR q y := ⟨_, rfl⟩
        rw [← hX] at hx5 HLV
        rw [← hY] at hy5 HLV
        have HX := Lib.hid hX
        have HY := Lib.hid hY
        clear h1 h2 hX hY
        go_wp2_with fail
        refine (specNodeOk_any a2 c2 p x w5 _ _ P5.out hm.out).mono ?_
        rintro e w' ⟨rfl, rfl⟩
        rw [HN.out]
        go_wp2_with fail
        refine (specNodeOk_any a3 c3 q y w5 _ _ Q5.out hm2.out).mono ?_
        rintro e w' ⟨rfl, rfl⟩
        rw [HN2.out]
        go_wp2_with fail
        have hLO := implLeastOf_any a2 c2 p x w5 _ _ P5.out (by omega) hm.out
        rw [← HX.out] at hLO
        have HLO := Lib.hid hLO
        clear hLO
        refine (HLO.out).mono ?_
        rintro e w6 ⟨aX, cX, rfl, hx, hb⟩
        have P6 := Lib.hid (P5.out.below hb (by omega))
        have Q6 := Lib.hid (Q5.out.below hb (by omega))
        have H6 := Lib.hid (H5.out.trans (hb.mono H5.out.size))
        have hz6 : w5.heap.size ≤ w6.heap.size := hb.size
        have X6 := Lib.hid hx.rd
        clear hb P5 Q5 H5 hx
        go_wp2_with fail
        have hLO2 := implLeastOf_any a3 c3 q y w6 _ _ Q6.out (by omega) hm2.out
        rw [← HY.out] at hLO2
        have HLO2 := Lib.hid hLO2
        clear hLO2
        refine (HLO2.out).mono ?_
        rintro e w7 ⟨aY, cY, rfl, hx, hb⟩
        have P7 := Lib.hid (P6.out.below hb (by omega))
        have Q7 := Lib.hid (Q6.out.below hb (by omega))
        have H7 := Lib.hid (H6.out.trans (hb.mono H6.out.size))
        have X7 := Lib.hid (X6.out.below hb (by omega))
        have hz7 : w6.heap.size ≤ w7.heap.size := hb.size
        have Y7 := Lib.hid hx.rd
        clear hb P6 Q6 H6 X6 hx
        go_wp2_with fail
        refine (implHasSet_any aX cX X 0 aY cY Y 0 w7 _ _ _ _ X7.out (by omega) (by unfold maxLen; omega) Y7.out (by omega) (by unfold maxLen; omega)).mono ?_
        rintro e w8 ⟨rfl, hb⟩
        rw [HLV.out]
        have P8 := Lib.hid (P7.out.below hb (by omega))
        have Q8 := Lib.hid (Q7.out.below hb (by omega))
        have H8 := Lib.hid (H7.out.trans (hb.mono H7.out.size))
        have X8 := Lib.hid (X7.out.below hb (by omega))
        have Y8 := Lib.hid (Y7.out.below hb (by omega))
        have hz8 : w7.heap.size ≤ w8.heap.size := hb.size
        clear hb P7 Q7 H7 X7 Y7 
        go_wp2_with fail
        go_ret
        exact ⟨rfl, H8.out⟩
  · skip
    cases h1 : nodeB p x
    · have HN := Lib.hid h1
      have HF : Hid (V = false) := Lib.hid (HV.out.trans (hasB_no1 h1))
      rw [HF.out]
      clear h1
      go_wp2_with fail
      refine (specNodeOk_any a2 c2 p x w5 _ _ P5.out hm.out).mono ?_
      rintro e w' ⟨rfl, rfl⟩
      rw [HN.out]
      go_wp2_with (go_at_call 10; refine (alive1_any _).mono ?_; rintro e w' ⟨rfl, rfl⟩)
      go_ret
      exact ⟨rfl, H5.out⟩
    · have HN := Lib.hid h1
      cases h2 : nodeB q y
      · have HN2 := Lib.hid h2
        have HF : Hid (V = false) := Lib.hid (HV.out.trans (hasB_no2 h2))
        rw [HF.out]
        clear h1 h2
        go_wp2_with fail
        refine (specNodeOk_any a2 c2 p x w5 _ _ P5.out hm.out).mono ?_
        rintro e w' ⟨rfl, rfl⟩
        rw [HN.out]
        go_wp2_with fail
        refine (specNodeOk_any a3 c3 q y w5 _ _ Q5.out hm2.out).mono ?_
        rintro e w' ⟨rfl, rfl⟩
        rw [HN2.out]
        go_wp2_with (go_at_call 10; refine (alive1_any _).mono ?_; rintro e w' ⟨rfl, rfl⟩)
        go_ret
        exact ⟨rfl, H5.out⟩
      · have HN2 := Lib.hid h2
        have HLV : Hid (hasB (leastR p x) 0 (leastR q y) 0 = V) := Lib.hid ((has_least h1 h2).trans HV.out.symm)
        have hx5 := leastR_len (p := p) (n := x)
        have hy5 := leastR_len (p := q) (n := y)
        have hvt : (V == V) = true := by simp
        obtain ⟨X, hX⟩ : ∃ X, X = leastR p x := ⟨_, rfl⟩
        obtain ⟨Y, hY⟩ : ∃ Y, Y = leastR q y := ⟨_, rfl⟩
        rw [← hX] at hx5 HLV
        rw [← hY] at hy5 HLV
        have HX := Lib.hid hX
        have HY := Lib.hid hY
        clear h1 h2 hX hY
        go_wp2_with fail
        refine (specNodeOk_any a2 c2 p x w5 _ _ P5.out hm.out).mono ?_
        rintro e w' ⟨rfl, rfl⟩
        rw [HN.out]
        go_wp2_with fail
        refine (specNodeOk_any a3 c3 q y w5 _ _ Q5.out hm2.out).mono ?_
        rintro e w' ⟨rfl, rfl⟩
        rw [HN2.out]
        go_wp2_with fail
        have hLO := implLeastOf_any a2 c2 p x w5 _ _ P5.out (by omega) hm.out
        rw [← HX.out] at hLO
        have HLO := Lib.hid hLO
        clear hLO
        refine (HLO.out).mono ?_
        rintro e w6 ⟨aX, cX, rfl, hx, hb⟩
        have P6 := Lib.hid (P5.out.below hb (by omega))
        have Q6 := Lib.hid (Q5.out.below hb (by omega))
        have H6 := Lib.hid (H5.out.trans (hb.mono H5.out.size))
        have hz6 : w5.heap.size ≤ w6.heap.size := hb.size
        have X6 := Lib.hid hx.rd
        clear hb P5 Q5 H5 hx
        go_wp2_with fail
        have hLO2 := implLeastOf_any a3 c3 q y w6 _ _ Q6.out (by omega) hm2.out
        rw [← HY.out] at hLO2
        have HLO2 := Lib.hid hLO2
        clear hLO2
        refine (HLO2.out).mono ?_
        rintro e w7 ⟨aY, cY, rfl, hx, hb⟩
        have P7 := Lib.hid (P6.out.below hb (by omega))
        have Q7 := Lib.hid (Q6.out.below hb (by omega))
        have H7 := Lib.hid (H6.out.trans (hb.mono H6.out.size))
        have X7 := Lib.hid (X6.out.below hb (by omega))
        have hz7 : w6.heap.size ≤ w7.heap.size := hb.size
        have Y7 := Lib.hid hx.rd
        clear hb P6 Q6 H6 X6 hx
        go_wp2_with fail
        refine (implHasSet_any aX cX X 0 aY cY Y 0 w7 _ _ _ _ X7.out (by omega) (by unfold maxLen; omega) Y7.out (by omega) (by unfold maxLen; omega)).mono ?_
        rintro e w8 ⟨rfl, hb⟩
        rw [HLV.out]
        have P8 := Lib.hid (P7.out.below hb (by omega))
        have Q8 := Lib.hid (Q7.out.below hb (by omega))
        have H8 := Lib.hid (H7.out.trans (hb.mono H7.out.size))
        have X8 := Lib.hid (X7.out.below hb (by omega))
        have Y8 := Lib.hid (Y7.out.below hb (by omega))
        have hz8 : w7.heap.size ≤ w8.heap.size := hb.size
        clear hb P7 Q7 H7 X7 Y7 
        go_wp2_with fail
        go_ret
        exact ⟨rfl, H8.out⟩
  · skip
    have n1 : nodeB p x = true := by
      cases h : nodeB p x
      · have := G3.out h; cases this
      · rfl
    have n2 : nodeB q y = true := by
      cases h : nodeB q y
      · have := G5.out h; cases this
      · rfl
    obtain ⟨n, rfl, hcn⟩ : ∃ n : Nat, cc = n ∧ Go.Hyp.Code p x.toNat n := by
      rcases G2.out n1 with ⟨_, h⟩ | ⟨h, _⟩
      · exact h
      · cases h
    obtain ⟨m, rfl, hcm⟩ : ∃ m : Nat, dd = m ∧ Go.Hyp.Code q y.toNat m := by
      rcases G4.out n2 with ⟨_, h⟩ | ⟨h, _⟩
      · exact h
      · cases h
    have hln := hcn.lt
    have hlm := hcm.lt
    have HTB : Hid (n.testBit m = V) := Lib.hid ((code_has n1 n2 hcn hcm).symm.trans HV.out.symm)
    have hhas := implHas_nat n m w5 (by omega) (by omega)
    rw [HTB.out] at hhas
    have HHAS := Lib.hid hhas
    have hvv : (V != V) = false := by simp
    clear hhas hcn hcm n1 n2
    go_wp2_with fail
    refine (HHAS.out).mono ?_
    rintro e w' ⟨rfl, rfl⟩
    clear HHAS
    cases h1 : nodeB p x
    · have HN := Lib.hid h1
      have HF : Hid (V = false) := Lib.hid (HV.out.trans (hasB_no1 h1))
      rw [HF.out]
      clear h1
      go_wp2_with fail
      refine (specNodeOk_any a2 c2 p x w5 _ _ P5.out hm.out).mono ?_
      rintro e w' ⟨rfl, rfl⟩
      rw [HN.out]
      go_wp2_with (go_at_call 10; refine (alive1_any _).mono ?_; rintro e w' ⟨rfl, rfl⟩)
      go_ret
      exact ⟨rfl, H5.out⟩
    · have HN := Lib.hid h1
      cases h2 : nodeB q y
      · have HN2 := Lib.hid h2
        have HF : Hid (V = false) := Lib.hid (HV.out.trans (hasB_no2 h2))
        rw [HF.out]
        clear h1 h2
        go_wp2_with fail
        refine (specNodeOk_any a2 c2 p x w5 _ _ P5.out hm.out).mono ?_
        rintro e w' ⟨rfl, rfl⟩
        rw [HN.out]
        go_wp2_with fail
        refine (specNodeOk_any a3 c3 q y w5 _ _ Q5.out hm2.out).mono ?_
        rintro e w' ⟨rfl, rfl⟩
        rw [HN2.out]
        go_wp2_with (go_at_call 10; refine (alive1_any _).mono ?_; rintro e w' ⟨rfl, rfl⟩)
        go_ret
        exact ⟨rfl, H5.out⟩
      · have HN2 := Lib.hid h2
        have HLV : Hid (hasB (leastR p x) 0 (leastR q y) 0 = V) := Lib.hid ((has_least h1 h2).trans HV.out.symm)
        have hx5 := leastR_len (p := p) (n := x)
        have hy5 := leastR_len (p := q) (n := y)
        have hvt : (V == V) = true := by simp
        obtain ⟨X, hX⟩ : ∃ X, X = leastR p x := ⟨_, rfl⟩
        obtain ⟨Y, hY⟩ : ∃ Y, Y = leastR q y := ⟨_, rfl⟩
        rw [← hX] at hx5 HLV
        rw [← hY] at hy5 HLV
        have HX := Lib.hid hX
        have HY := Lib.hid hY
        clear h1 h2 hX hY
        go_wp2_with fail
        refine (specNodeOk_any a2 c2 p x w5 _ _ P5.out hm.out).mono ?_
        rintro e w' ⟨rfl, rfl⟩
        rw [HN.out]
        go_wp2_with fail
        refine (specNodeOk_any a3 c3 q y w5 _ _ Q5.out hm2.out).mono ?_
        rintro e w' ⟨rfl, rfl⟩
        rw [HN2.out]
        go_wp2_with fail
        have hLO := implLeastOf_any a2 c2 p x w5 _ _ P5.out (by omega) hm.out
        rw [← HX.out] at hLO
        have HLO := Lib.hid hLO
        clear hLO
        refine (HLO.out).mono ?_
        rintro e w6 ⟨aX, cX, rfl, hx, hb⟩
        have P6 := Lib.hid (P5.out.below hb (by omega))
        have Q6 := Lib.hid (Q5.out.below hb (by omega))
        have H6 := Lib.hid (H5.out.trans (hb.mono H5.out.size))
        have hz6 : w5.heap.size ≤ w6.heap.size := hb.size
        have X6 := Lib.hid hx.rd
        clear hb P5 Q5 H5 hx
        go_wp2_with fail
        have hLO2 := implLeastOf_any a3 c3 q y w6 _ _ Q6.out (by omega) hm2.out
        rw [← HY.out] at hLO2
        have HLO2 := Lib.hid hLO2
        clear hLO2
        refine (HLO2.out).mono ?_
        rintro e w7 ⟨aY, cY, rfl, hx, hb⟩
        have P7 := Lib.hid (P6.out.below hb (by omega))
        have Q7 := Lib.hid (Q6.out.below hb (by omega))
        have H7 := Lib.hid (H6.out.trans (hb.mono H6.out.size))
        have X7 := Lib.hid (X6.out.below hb (by omega))
        have hz7 : w6.heap.size ≤ w7.heap.size := hb.size
        have Y7 := Lib.hid hx.rd
        clear hb P6 Q6 H6 X6 hx
        go_wp2_with fail
        refine (implHasSet_any aX cX X 0 aY cY Y 0 w7 _ _ _ _ X7.out (by omega) (by unfold maxLen; omega) Y7.out (by omega) (by unfold maxLen; omega)).mono ?_
        rintro e w8 ⟨rfl, hb⟩
        rw [HLV.out]
        have P8 := Lib.hid (P7.out.below hb (by omega))
        have Q8 := Lib.hid (Q7.out.below hb (by omega))
        have H8 := Lib.hid (H7.out.trans (hb.mono H7.out.size))
        have X8 := Lib.hid (X7.out.below hb (by omega))
        have Y8 := Lib.hid (Y7.out.below hb (by omega))
        have hz8 : w7.heap.size ≤ w8.heap.size := hb.size
        clear hb P7 Q7 H7 X7 Y7 
        go_wp2_with fail
        go_ret
        exact ⟨rfl, H8.out⟩
end Go.Proofs.YtiiohodkfipfbaaGreatDoor
