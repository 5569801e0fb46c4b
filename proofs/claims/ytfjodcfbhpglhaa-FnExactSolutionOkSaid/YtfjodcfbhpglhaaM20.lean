/- spec.LeastOf and spec.SameSet: the least picture at a node, and whether two are equal. -/
import Derived.Test.YtfjodcfbhpglhaaM15
import Derived.Test.YtfjodcfbhpglhaaM13
import Derived.Test.YtfjodcfbhpglhaaM19
import Derived.Test.YtfjodcfbhpglhaaM3
namespace Go.Proofs.Ytfjodcfbhpglhaa
open Go.RowKit Go.Hyp Go.Deep

set_option maxRecDepth 4000 in
set_option maxHeartbeats 1600000 in
theorem specLeastOf_any (a : Option Addr) (cap : Nat) (p : List (List Int)) (n : Int) (w : World) (B C : Nat) (h : RdII w B C a p) (hC : C ≤ w.heap.size) (hl : p.length ≤ maxLen) :
    Calls Try.prog 42 #[.slice a p.length cap, .int .i64 n] w (RetII 3 24 (leastR p n) w) := by
  have HJO := Lib.hid (specJoinedOf_any a cap p n w B C h hC hl)
  clear h
  cases hn : nodeB p n
  · have HJ := Lib.hid (joinedR_no hn)
    have HLR := Lib.hid (leastR_no hn)
    rw [HJ.out] at HJO
    clear hn
    go_enter Try.func42, Try.ntmps42
    go_wp2_with fail
    refine HJO.out.mono ?_
    rintro e w1 ⟨x, c, rfl, ho, hb⟩
    have HO := Lib.hid ho
    have HB := Lib.hid hb
    clear ho hb
    go_wp2_with fail
    go_ret
    exact retII_of HLR.out.symm HO.out HB.out
  · obtain ⟨i, rfl, hi, hp⟩ := nodeB_nat hn
    have HJ := Lib.hid (joinedR_yes hn)
    have HLR := Lib.hid (leastR_yes hn)
    rw [HJ.out] at HJO
    have hfl := (joinedL_fit hi).len
    have hfp := (joinedL_fit hi).pos
    have h5 := (picB_sq hp).2.2
    obtain ⟨X, hX⟩ : ∃ X, X = joinM p (joinedL p i) := ⟨_, rfl⟩
    have hXl : X.length = (joinedL p i).length := by rw [hX, joinM_len]
    have hXs : Sq X := by rw [hX]; exact joinM_sq _ _
    have hX1 : 1 ≤ X.length := by omega
    have hX5 : X.length ≤ 5 := by omega
    have HXP := Lib.hid (sq_picB hXs hX1 hX5)
    have HLL : Hid (leastR p (i : Int) = leastL X) := Lib.hid (by rw [HLR.out, hX]; rfl)
    rw [← hX] at HJO
    have HXS := Lib.hid hXs
    clear hn hp hX hXl hXs hfl hfp h5 HJ HLR
    have hne : ((X.length : Int) == 0) = false := beq_eq_false_iff_ne.2 (by omega)
    have HXM : Hid (X.length ≤ maxLen) := Lib.hid (by unfold maxLen; omega)
    go_enter Try.func42, Try.ntmps42
    go_wp2_with fail
    refine HJO.out.mono ?_
    rintro e w1 ⟨x, c, rfl, ho, hb⟩
    have HO := Lib.hid ho
    have HB := Lib.hid hb
    have hz1 : w.heap.size ≤ w1.heap.size := hb.size
    clear ho hb
    go_wp2_with fail
    refine (l4Orders_any X.length w1 hX1 hX5).mono ?_
    rintro e w2 ⟨y, d, rfl, ho, hb⟩
    obtain ⟨O, hOe⟩ : ∃ O, O = ords X.length (X.length - 1) := ⟨_, rfl⟩
    rw [← hOe] at ho ⊢
    have hOl : O.length ≤ 625 := by
      rw [hOe]
      have h1 := ords_len X.length hX5 (X.length - 1)
      have h2 : 5 ^ (X.length - 1) ≤ 5 ^ 4 := Nat.pow_le_pow_right (by omega) (by omega)
      have h3 : (5 : Nat) ^ 4 = 625 := rfl
      omega
    have HOE : Hid (∀ k (hk : k < O.length), Ord0 O[k] X.length) := Lib.hid (fun k hk => (ords_all hX1 _).1 (by rw [← hOe]; exact List.getElem_mem hk))
    have HLF : Hid (leastL X = bestK X O O.length) := Lib.hid (by rw [hOe]; rfl)
    have HQ := Lib.hid ho
    have HX2 := Lib.hid (HO.out.below hb (Nat.le_refl _))
    have HB2 := Lib.hid (HB.out.trans (hb.mono hz1))
    have hz2 : w1.heap.size ≤ w2.heap.size := hb.size
    clear ho hb hOe hne HO HB
    go_wp2_with fail
    go_loopw [6, 8] (fun o c2 wr => ∃ (k : Nat) (bb : Option Addr) (cb : Nat) (Y : List (List Int)), k ≤ O.length ∧ c2 = .int .i64 k ∧ o = .slice bb Y.length cb ∧ Y = bestK X O k ∧ OwII wr 3 24 w.heap.size wr.heap.size bb cb Y ∧ Below w2.heap.size w2 wr) (fun _ c2 _ => O.length - (intOf c2).toNat)
    case atStart => exact ⟨0, x, c, X, Nat.zero_le _, rfl, rfl, rfl, HX2.out.mono (Nat.le_refl _) hz2, Below.refl _ _⟩
    case round =>
      obtain ⟨k, bb, cb, Y, hk, rfl, rfl, hY, ho, hb⟩ := hrel
      have HYE := Lib.hid hY
      have HO := Lib.hid ho
      have HBR := Lib.hid hb
      have hzr : w2.heap.size ≤ wr.heap.size := hb.size
      have hYs := bestK_sq HXS.out O k
      rw [← hY] at hYs
      have HYP := Lib.hid (sq_picB hYs.1 (by omega) (by omega))
      clear hY ho hb hYs
      by_cases hlt : k < O.length
      · have hki : (k : Int) < (O.length : Int) := by omega
        obtain ⟨g, ar, cr, rfl, hg, hcell, hrow, _⟩ := (HQ.out.below HBR.out (Nat.le_refl _)).rowNew k hlt
        obtain ⟨q, hq⟩ : ∃ q, q = O.getD k [] := ⟨_, rfl⟩
        have hq2 : q = O[k] := by rw [hq]; simp [List.getD, hlt]
        rw [← hq] at hcell hrow
        have HROW := Lib.hid hrow
        have HORD := Lib.hid (HOE.out k hlt)
        rw [← hq2] at HORD
        have HBS := Lib.hid (bestK_succ (x := X) hlt)
        rw [← hq2, ← HYE.out] at HBS
        have hql : q.length = X.length := (isOrd_iff.1 HORD.out.1).1
        have HRO : Hid (reorderedR X q = reordL X q) := Lib.hid (by unfold reorderedR; rw [HXP.out, HORD.out.1]; rfl)
        have hql5 : q.length ≤ 5 := by omega
        have HRE := Lib.hid (specReordered_any x c X ar cr q wr w.heap.size w1.heap.size w1.heap.size w2.heap.size (HX2.out.below HBR.out hz2).rd (by omega) HXM.out HROW.out.rd hzr (by omega) ⟨HROW.out.lecap, HROW.out.capmax⟩)
        rw [HRO.out] at HRE
        clear hrow hq hq2 hql HOE
        go_wp2_with fail
        refine HRE.out.mono ?_
        rintro e w3 ⟨y3, c3, rfl, ho, hb⟩
        have HO3 := Lib.hid ho
        have HOB := Lib.hid (HO.out.below hb (Nat.le_refl _))
        have HB3 := Lib.hid (HBR.out.trans (hb.mono hzr))
        have hz3 : wr.heap.size ≤ w3.heap.size := hb.size
        have HRL := Lib.hid (reordL_len X q)
        have HRP := Lib.hid (sq_picB (reordL_sq X q) (by rw [reordL_len]; exact hX1) (by rw [reordL_len]; exact hX5))
        obtain ⟨Z, hZ⟩ : ∃ Z, Z = reordL X q := ⟨_, rfl⟩
        rw [← hZ] at HRL HRP HO3 ⊢
        have HZE := Lib.hid hZ
        clear ho hb hZ HRE HO HRO
        go_wp2_with fail
        refine (pictureText_any y3 c3 Z w3 _ _ HO3.out.rd (Nat.le_refl _) HRP.out).mono ?_
        rintro e w4 ⟨rfl, hb⟩
        have HO4 := Lib.hid (HO3.out.below hb (Nat.le_refl _))
        have HOB4 := Lib.hid (HOB.out.below hb hz3)
        have HB4 := Lib.hid (HB3.out.trans (hb.mono (by omega)))
        have hz4 : w3.heap.size ≤ w4.heap.size := hb.size
        clear hb HO3 HOB HB3
        go_wp2_with fail
        refine (pictureText_any bb cb Y w4 _ _ HOB4.out.rd (by omega) HYP.out).mono ?_
        rintro e w5 ⟨rfl, hb⟩
        have HO5 := Lib.hid (HO4.out.below hb hz4)
        have HOB5 := Lib.hid (HOB4.out.below hb (by omega))
        have HB5 := Lib.hid (HB4.out.trans (hb.mono (by omega)))
        have hz5 : w4.heap.size ≤ w5.heap.size := hb.size
        clear hb HO4 HOB4 HB4
        have hbt : better X Y q = if Op.bytesLess (textP Z) (textP Y) = true then Z else Y := by unfold better; rw [← HZE.out]
        have HBT := Lib.hid hbt
        clear hbt
        generalize hTZ : textP Z = TZ at *
        generalize hTY : textP Y = TY at *
        clear hTZ hTY
        cases hlx : Op.bytesLess TZ TY
        · have HN : Hid (bestK X O (k + 1) = Y) := Lib.hid (by rw [HBS.out, HBT.out, hlx]; rfl)
          go_wp2_with fail
          go_roundw
          case rel => exact ⟨k + 1, bb, cb, Y, by omega, by go_num, rfl, HN.out.symm, HOB5.out.mono (Nat.le_refl _) (by omega), HB5.out⟩
          case measure => simp [intOf]; omega
        · have HN : Hid (bestK X O (k + 1) = Z) := Lib.hid (by rw [HBS.out, HBT.out, hlx]; rfl)
          go_wp2_with fail
          go_roundw
          case rel => exact ⟨k + 1, y3, c3, Z, by omega, by go_num, rfl, HN.out.symm, HO5.out.mono (by omega) (by omega), HB5.out⟩
          case measure => simp [intOf]; omega
      · obtain rfl : k = O.length := by omega
        go_wp2_with fail
        go_ret
        exact retII_of (by rw [HYE.out, HLL.out, HLF.out]) HO.out (HB2.out.trans (HBR.out.mono (by omega)))

set_option maxRecDepth 4000 in
set_option maxHeartbeats 1600000 in
theorem specSameSet_any (a : Option Addr) (cap : Nat) (p : List (List Int)) (n : Int) (a' : Option Addr) (cap' : Nat) (q : List (List Int)) (m : Int) (w : World) (B C B' C' : Nat) (h : RdII w B C a p) (hC : C ≤ w.heap.size) (hl : p.length ≤ maxLen) (h' : RdII w B' C' a' q) (hC' : C' ≤ w.heap.size) (hl' : q.length ≤ maxLen) :
    Calls Try.prog 27 #[.slice a p.length cap, .int .i64 n, .slice a' q.length cap', .int .i64 m] w fun e w' => e = .returned (.bool (sameSetB p n q m)) ∧ Below w.heap.size w w' := by
  have HL1 := Lib.hid (specLeastOf_any a cap p n w B C h hC hl)
  have FQ := Lib.hid h'
  clear h h'
  have hcase : nodeB p n = false ∨ (nodeB p n = true ∧ nodeB q m = false) ∨ (nodeB p n = true ∧ nodeB q m = true) := by cases nodeB p n <;> cases nodeB q m <;> simp
  rcases hcase with h1 | ⟨h1, h2⟩ | ⟨h1, h2⟩
  · have HLR := Lib.hid (leastR_no h1)
    have HSB := Lib.hid (sameSetB_no1 (q := q) (b := m) h1)
    rw [HLR.out] at HL1
    clear h1
    go_enter Try.func27, Try.ntmps27
    go_wp2_with fail
    refine HL1.out.mono ?_
    rintro e w1 ⟨x, c, rfl, _, hb⟩
    have HB := Lib.hid hb
    have hz1 : w.heap.size ≤ w1.heap.size := hb.size
    clear hb
    go_wp2_with fail
    refine (specLeastOf_any a' cap' q m w1 B' C' (FQ.out.below HB.out hC') (by omega) hl').mono ?_
    rintro e w2 ⟨y, d, rfl, _, hb⟩
    have HB2 := Lib.hid (HB.out.trans (hb.mono hz1))
    clear hb
    go_wp2_with fail
    go_ret
    exact ⟨ret_bool HSB.out.symm, HB2.out⟩
  · have HLR := Lib.hid (leastR_no h2)
    have HSB := Lib.hid (sameSetB_no2 (p := p) (a := n) h2)
    have hpx := picB_sq (leastR_pic h1)
    obtain ⟨X, hX⟩ : ∃ X, X = leastR p n := ⟨_, rfl⟩
    rw [← hX] at HL1 hpx
    have hx1 : 1 ≤ X.length := hpx.2.1
    have hx5 : X.length ≤ 5 := hpx.2.2
    have hne : ((X.length : Int) == 0) = false := beq_eq_false_iff_ne.2 (by omega)
    clear h1 h2 hX hpx
    go_enter Try.func27, Try.ntmps27
    go_wp2_with fail
    refine HL1.out.mono ?_
    rintro e w1 ⟨x, c, rfl, _, hb⟩
    have HB := Lib.hid hb
    have hz1 : w.heap.size ≤ w1.heap.size := hb.size
    have HL2 := Lib.hid (specLeastOf_any a' cap' q m w1 B' C' (FQ.out.below HB.out hC') (by omega) hl')
    rw [HLR.out] at HL2
    clear hb
    go_wp2_with fail
    refine HL2.out.mono ?_
    rintro e w2 ⟨y, d, rfl, _, hb⟩
    have HB2 := Lib.hid (HB.out.trans (hb.mono hz1))
    clear hb
    go_wp2_with fail
    go_ret
    exact ⟨ret_bool HSB.out.symm, HB2.out⟩
  · obtain ⟨i, rfl, hi, hp⟩ := nodeB_nat h1
    obtain ⟨j, rfl, hj, hq⟩ := nodeB_nat h2
    have HE1 := Lib.hid (leastR_yes h1)
    have HE2 := Lib.hid (leastR_yes h2)
    have htx := least_text h1 h2
    have hpx := picB_sq (leastR_pic h1)
    have hpy := picB_sq (leastR_pic h2)
    have hpx2 := leastR_pic h1
    have hpy2 := leastR_pic h2
    rw [HE1.out] at HL1 hpx hpx2
    rw [HE2.out] at hpy hpy2
    obtain ⟨X, hX⟩ : ∃ X, X = leastC p i := ⟨_, rfl⟩
    obtain ⟨Y, hY⟩ : ∃ Y, Y = leastC q j := ⟨_, rfl⟩
    obtain ⟨S, hS⟩ : ∃ S, S = sameSetB p i q j := ⟨_, rfl⟩
    rw [← hX] at HL1 hpx hpx2 htx
    rw [← hY] at hpy hpy2 htx
    rw [← hS] at htx ⊢
    have hx1 : 1 ≤ X.length := hpx.2.1
    have hx5 : X.length ≤ 5 := hpx.2.2
    have HPX := Lib.hid hpx2
    have HPY := Lib.hid hpy2
    have HTX := Lib.hid htx
    have HYE := Lib.hid hY
    clear h1 h2 hX hY hS hpx hpy hpx2 hpy2 htx hp hq
    have hfin : X.length ≠ Y.length ∨ (X.length = Y.length ∧ textP X ≠ textP Y) ∨ (X.length = Y.length ∧ textP X = textP Y) := by
      by_cases e1 : X.length = Y.length
      · by_cases e2 : textP X = textP Y
        · exact .inr (.inr ⟨e1, e2⟩)
        · exact .inr (.inl ⟨e1, e2⟩)
      · exact .inl e1
    rcases hfin with hd | ⟨hd1, hd2⟩ | ⟨hd1, hd2⟩
    · have HS : Hid (S = false) := Lib.hid (by
        cases e : S
        · rfl
        · exact absurd (HTX.out.2 e).1 hd)
      have hne : ((X.length : Int) == (Y.length : Int)) = false := beq_eq_false_iff_ne.2 (by omega)
      clear hd
      go_enter Try.func27, Try.ntmps27
      go_wp2_with fail
      refine HL1.out.mono ?_
      rintro e w1 ⟨x, c, rfl, _, hb⟩
      have HB := Lib.hid hb
      have hz1 : w.heap.size ≤ w1.heap.size := hb.size
      have HL2 := Lib.hid (specLeastOf_any a' cap' q j w1 B' C' (FQ.out.below HB.out hC') (by omega) hl')
      rw [HE2.out, ← HYE.out] at HL2
      clear hb
      go_wp2_with fail
      refine HL2.out.mono ?_
      rintro e w2 ⟨y, d, rfl, _, hb⟩
      have HB2 := Lib.hid (HB.out.trans (hb.mono hz1))
      clear hb
      go_wp2_with fail
      go_ret
      exact ⟨ret_bool HS.out.symm, HB2.out⟩
    · have HS : Hid (S = false) := Lib.hid (by
        cases e : S
        · rfl
        · exact absurd (HTX.out.2 e).2 hd2)
      have HD := Lib.hid hd1
      have HD2 := Lib.hid hd2
      have hne : ((X.length : Int) == (Y.length : Int)) = true := beq_iff_eq.2 (by omega)
      clear hd1 hd2
      go_enter Try.func27, Try.ntmps27
      go_wp2_with fail
      refine HL1.out.mono ?_
      rintro e w1 ⟨x, c, rfl, ho, hb⟩
      have HB := Lib.hid hb
      have HO := Lib.hid ho
      have hz1 : w.heap.size ≤ w1.heap.size := hb.size
      have HL2 := Lib.hid (specLeastOf_any a' cap' q j w1 B' C' (FQ.out.below HB.out hC') (by omega) hl')
      rw [HE2.out, ← HYE.out] at HL2
      clear hb ho
      go_wp2_with fail
      refine HL2.out.mono ?_
      rintro e w2 ⟨y, d, rfl, ho, hb⟩
      have HB2 := Lib.hid (HB.out.trans (hb.mono hz1))
      have HO2 := Lib.hid (HO.out.below hb (Nat.le_refl _))
      have HY2 := Lib.hid ho
      have hz2 : w1.heap.size ≤ w2.heap.size := hb.size
      clear hb ho
      go_wp2_with fail
      refine (pictureText_any x c X w2 _ _ HO2.out.rd hz2 HPX.out).mono ?_
      rintro e w3 ⟨rfl, hb⟩
      have HY3 := Lib.hid (HY2.out.below hb (Nat.le_refl _))
      have HB3 := Lib.hid (HB2.out.trans (hb.mono (by omega)))
      have hz3 : w2.heap.size ≤ w3.heap.size := hb.size
      clear hb HO2 HY2 HB2
      go_wp2_with fail
      refine (pictureText_any y d Y w3 _ _ HY3.out.rd hz3 HPY.out).mono ?_
      rintro e w4 ⟨rfl, hb⟩
      have HB4 := Lib.hid (HB3.out.trans (hb.mono (by omega)))
      clear hb HY3 HB3
      have hbt : ∀ TX TY : List UInt8, TX ≠ TY → (TX == TY) = false := fun TX TY h => beq_eq_false_iff_ne.2 h
      have HBT := Lib.hid (hbt _ _ HD2.out)
      clear hbt
      generalize hTX : textP X = TX at *
      generalize hTY : textP Y = TY at *
      clear hTX hTY
      have hbt := HBT.out
      go_wp2_with fail
      go_ret
      exact ⟨ret_bool HS.out.symm, HB4.out⟩
    · have HS : Hid (S = true) := Lib.hid (HTX.out.1 ⟨hd1, hd2⟩)
      have HD := Lib.hid hd1
      have HD2 := Lib.hid hd2
      have hne : ((X.length : Int) == (Y.length : Int)) = true := beq_iff_eq.2 (by omega)
      clear hd1 hd2
      go_enter Try.func27, Try.ntmps27
      go_wp2_with fail
      refine HL1.out.mono ?_
      rintro e w1 ⟨x, c, rfl, ho, hb⟩
      have HB := Lib.hid hb
      have HO := Lib.hid ho
      have hz1 : w.heap.size ≤ w1.heap.size := hb.size
      have HL2 := Lib.hid (specLeastOf_any a' cap' q j w1 B' C' (FQ.out.below HB.out hC') (by omega) hl')
      rw [HE2.out, ← HYE.out] at HL2
      clear hb ho
      go_wp2_with fail
      refine HL2.out.mono ?_
      rintro e w2 ⟨y, d, rfl, ho, hb⟩
      have HB2 := Lib.hid (HB.out.trans (hb.mono hz1))
      have HO2 := Lib.hid (HO.out.below hb (Nat.le_refl _))
      have HY2 := Lib.hid ho
      have hz2 : w1.heap.size ≤ w2.heap.size := hb.size
      clear hb ho
      go_wp2_with fail
      refine (pictureText_any x c X w2 _ _ HO2.out.rd hz2 HPX.out).mono ?_
      rintro e w3 ⟨rfl, hb⟩
      have HY3 := Lib.hid (HY2.out.below hb (Nat.le_refl _))
      have HB3 := Lib.hid (HB2.out.trans (hb.mono (by omega)))
      have hz3 : w2.heap.size ≤ w3.heap.size := hb.size
      clear hb HO2 HY2 HB2
      go_wp2_with fail
      refine (pictureText_any y d Y w3 _ _ HY3.out.rd hz3 HPY.out).mono ?_
      rintro e w4 ⟨rfl, hb⟩
      have HB4 := Lib.hid (HB3.out.trans (hb.mono (by omega)))
      clear hb HY3 HB3
      rw [HD2.out]
      go_wp2_with fail
      go_ret
      exact ⟨ret_bool HS.out.symm, HB4.out⟩
end Go.Proofs.Ytfjodcfbhpglhaa
