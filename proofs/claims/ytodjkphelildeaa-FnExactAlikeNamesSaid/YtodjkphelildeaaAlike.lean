/- Names that are alike: impl.AlikeNames, spec.AlikeNames. -/
import Derived.Test.YtodjkphelildeaaSolve
namespace Go.Hyp
open Go.RowKit Go.Deep
/-- A number of a name. -/
def numB (s : List (List Int × Int)) (n : Int) : Bool := decide (0 ≤ n) && decide (n < s.length)
/-- What AlikeNames answers. -/
def alikeB (s : List (List Int × Int)) (a b : Int) : Bool := sysB s && numB s a && numB s b && simB (solL s) a.toNat b.toNat
theorem numB_nat {s : List (List Int × Int)} {n : Int} (h : numB s n = true) : ∃ i : Nat, n = i ∧ i < s.length := by
  unfold numB at h
  simp only [Bool.and_eq_true, decide_eq_true_eq] at h
  obtain ⟨i, rfl⟩ := Int.eq_ofNat_of_zero_le h.1
  exact ⟨i, rfl, by omega⟩
theorem numB_no {s : List (List Int × Int)} {n : Int} (h : numB s n = false) : n < 0 ∨ (0 ≤ n ∧ (s.length : Int) ≤ n) := by
  unfold numB at h
  rw [Bool.and_eq_false_iff, decide_eq_false_iff_not, decide_eq_false_iff_not] at h
  omega
theorem sol_pic {s : List (List Int × Int)} (h : sysB s = true) : picB (solL s) = true := sq_picB (solL_sq s) (by rw [solL_len]; omega) (by rw [solL_len]; have := (sysB_at h).1; omega)
end Go.Hyp
namespace Go.Proofs.Ytodjkphelildeaa
open Go.RowKit Go.Hyp Go.Deep

set_option maxRecDepth 4000 in
set_option maxHeartbeats 1600000 in
theorem implAlikeNames_any (a : Option Addr) (cap : Nat) (s : List (List Int × Int)) (n m : Int) (w : World) (B C : Nat) (h : RdY w B C a s) (hC : C ≤ w.heap.size) (hl : s.length ≤ maxLen) :
    Calls Try.prog 36 #[.slice a s.length cap, .int .i64 n, .int .i64 m] w fun e w' => e = .returned (.bool (alikeB s n m)) ∧ Below w.heap.size w w' := by
  have F := Lib.hid h
  have HIS := Lib.hid (isSystem_any a cap s w B C h hC hl)
  unfold maxLen at hl
  clear h
  cases hs : sysB s
  · have HS := Lib.hid hs
    have HE : Hid (alikeB s n m = false) := Lib.hid (by unfold alikeB; rw [hs]; rfl)
    clear hs
    go_enter Try.func36, Try.ntmps36
    go_wp2_with fail
    refine HIS.out.mono ?_
    rintro e w1 ⟨rfl, hb⟩
    rw [HS.out]
    have HB := Lib.hid hb
    clear hb
    go_wp2_with fail
    go_ret
    exact ⟨ret_bool HE.out.symm, HB.out⟩
  · have HS := Lib.hid hs
    have hcase : (numB s n = false ∧ alikeB s n m = false) ∨ (numB s n = true ∧ numB s m = false ∧ alikeB s n m = false) ∨ (numB s n = true ∧ numB s m = true ∧ alikeB s n m = simB (solL s) n.toNat m.toNat) := by
      unfold alikeB; rw [hs]; cases numB s n <;> cases numB s m <;> simp
    clear hs
    rcases hcase with ⟨h1, h2⟩ | ⟨h1, h2, h3⟩ | ⟨h1, h2, h3⟩
    · have HE := Lib.hid h2
      rcases numB_no h1 with h0 | ⟨h0, h4⟩
      all_goals
        clear h1 h2
        go_enter Try.func36, Try.ntmps36
        go_wp2_with fail
        refine HIS.out.mono ?_
        rintro e w1 ⟨rfl, hb⟩
        rw [HS.out]
        have HB := Lib.hid hb
        clear hb
        go_wp2_with fail
        go_ret
        exact ⟨ret_bool HE.out.symm, HB.out⟩
    · obtain ⟨i, rfl, hi⟩ := numB_nat h1
      have HE := Lib.hid h3
      have hii : (i : Int) < (s.length : Int) := by omega
      rcases numB_no h2 with h0 | ⟨h0, h4⟩
      all_goals
        clear h1 h2 h3
        go_enter Try.func36, Try.ntmps36
        go_wp2_with fail
        refine HIS.out.mono ?_
        rintro e w1 ⟨rfl, hb⟩
        rw [HS.out]
        have HB := Lib.hid hb
        clear hb
        go_wp2_with fail
        go_ret
        exact ⟨ret_bool HE.out.symm, HB.out⟩
    · obtain ⟨i, rfl, hi⟩ := numB_nat h1
      obtain ⟨j, rfl, hj⟩ := numB_nat h2
      rw [Int.toNat_natCast, Int.toNat_natCast] at h3
      have HE := Lib.hid h3
      have hii : (i : Int) < (s.length : Int) := by omega
      have hji : (j : Int) < (s.length : Int) := by omega
      obtain ⟨X, hX⟩ : ∃ X, X = solL s := ⟨_, rfl⟩
      have hXl : X.length = s.length + 2 := by rw [hX, solL_len]
      have h3s := (sysB_at HS.out).1
      have HXS : Hid (Sq X) := Lib.hid (by rw [hX]; exact solL_sq s)
      have HSB := fun w hw hc => Lib.hid (solvedBy_any a cap s w B C hw hc HS.out)
      rw [← hX] at HSB HE
      have hiX : i < X.length := by omega
      have hjX : j < X.length := by omega
      have hiXi : (i : Int) < (X.length : Int) := by omega
      have hjXi : (j : Int) < (X.length : Int) := by omega
      have hX5 : X.length ≤ 1024 := by omega
      clear h1 h2 h3 hX hXl
      go_enter Try.func36, Try.ntmps36
      go_wp2_with fail
      refine HIS.out.mono ?_
      rintro e w1 ⟨rfl, hb⟩
      rw [HS.out]
      have HB := Lib.hid hb
      have hz1 : w.heap.size ≤ w1.heap.size := hb.size
      clear hb
      go_wp2_with fail
      refine (HSB w1 (F.out.below HB.out hC) (by omega)).out.mono ?_
      rintro e w2 ⟨x, c, rfl, ho, hb⟩
      have HO := Lib.hid ho.rd
      have HB2 := Lib.hid (HB.out.trans (hb.mono hz1))
      have hz2 : w1.heap.size ≤ w2.heap.size := hb.size
      clear ho hb HSB
      go_wp2_with fail
      refine (leftAfter_any x c X X.length w2 _ _ HO.out (Nat.le_refl _) HXS.out hX5 hX5).mono ?_
      rintro e w3 ⟨y, d, rfl, ho, hb⟩
      have HB3 := Lib.hid (HB2.out.trans (hb.mono (by omega)))
      obtain ⟨g, r, ci, rfl, _, _, hgl, hhead, _, _, hrl, hd, _, _, _⟩ := ho.bitAt i j hiX hjX
      clear ho hb
      have HLS : Hid (simB X i j = left X X.length i j) := Lib.hid rfl
      cases hv : left X X.length i j
      all_goals
        rw [hv] at hd
        simp only [Bool.false_eq_true, if_false, if_true] at hd
        have HV := Lib.hid hv
        clear hv
        go_wp2_with fail
        go_ret
        exact ⟨ret_bool (by rw [HE.out, HLS.out, HV.out]), HB3.out⟩

set_option maxRecDepth 4000 in
set_option maxHeartbeats 1600000 in
theorem specAlikeNames_any (a : Option Addr) (cap : Nat) (s : List (List Int × Int)) (n m : Int) (w : World) (B C : Nat) (h : RdY w B C a s) (hC : C ≤ w.heap.size) (hl : s.length ≤ maxLen) :
    Calls Try.prog 34 #[.slice a s.length cap, .int .i64 n, .int .i64 m] w fun e w' => e = .returned (.bool (alikeB s n m)) ∧ Below w.heap.size w w' := by
  have F := Lib.hid h
  have HIS := Lib.hid (specSystemOk_any a cap s w B C h hl)
  have HSV := Lib.hid (specSolvedBy_any a cap s w B C h hC hl)
  unfold maxLen at hl
  clear h
  have hnum : ∀ k : Int, (decide (0 ≤ k) && decide (k ≤ (s.length : Int) - 1)) = numB s k := fun k => by unfold numB; congr 1; rw [Bool.eq_iff_iff]; simp; omega
  have HNUM := Lib.hid hnum
  clear hnum
  cases hs : sysB s
  · have HS := Lib.hid hs
    have HE : Hid (alikeB s n m = false) := Lib.hid (by unfold alikeB; rw [hs]; rfl)
    clear hs
    go_enter Try.func34, Try.ntmps34
    go_wp2_with fail
    refine HIS.out.mono ?_
    rintro e w1 ⟨rfl, rfl⟩
    rw [HS.out]
    go_wp2_with fail
    go_ret
    exact ⟨ret_bool HE.out.symm, Below.refl _ _⟩
  · have HS := Lib.hid hs
    have hcase : (numB s n = false ∧ alikeB s n m = false) ∨ (numB s n = true ∧ numB s m = false ∧ alikeB s n m = false) ∨ (numB s n = true ∧ numB s m = true ∧ alikeB s n m = simB (solL s) n.toNat m.toNat) := by
      unfold alikeB; rw [hs]; cases numB s n <;> cases numB s m <;> simp
    have HSL := Lib.hid (solR_yes hs)
    have HPIC := Lib.hid (sol_pic hs)
    rw [HSL.out] at HSV
    clear hs
    rcases hcase with ⟨h1, h2⟩ | ⟨h1, h2, h3⟩ | ⟨h1, h2, h3⟩
    · have HE := Lib.hid h2
      have H1 := Lib.hid h1
      clear h1 h2
      go_enter Try.func34, Try.ntmps34
      go_wp2_with fail
      refine HIS.out.mono ?_
      rintro e w1 ⟨rfl, rfl⟩
      rw [HS.out]
      go_wp2_with fail
      refine (l1In_any _ _ _ _).mono ?_
      rintro e w' ⟨rfl, rfl⟩
      rw [HNUM.out, H1.out]
      go_wp2_with fail
      go_ret
      exact ⟨ret_bool HE.out.symm, Below.refl _ _⟩
    · have HE := Lib.hid h3
      have H1 := Lib.hid h1
      have H2 := Lib.hid h2
      clear h1 h2 h3
      go_enter Try.func34, Try.ntmps34
      go_wp2_with fail
      refine HIS.out.mono ?_
      rintro e w1 ⟨rfl, rfl⟩
      rw [HS.out]
      go_wp2_with fail
      refine (l1In_any _ _ _ _).mono ?_
      rintro e w' ⟨rfl, rfl⟩
      rw [HNUM.out, H1.out]
      go_wp2_with fail
      refine (l1In_any _ _ _ _).mono ?_
      rintro e w' ⟨rfl, rfl⟩
      rw [HNUM.out, H2.out]
      go_wp2_with fail
      go_ret
      exact ⟨ret_bool HE.out.symm, Below.refl _ _⟩
    · obtain ⟨i, ei, hi⟩ := numB_nat h1
      obtain ⟨j, ej, hj⟩ := numB_nat h2
      have hsat : sameAtB (solL s) n m = alikeB s n m := by
        rw [h3]
        unfold sameAtB
        rw [ei, ej, nodeB_of HPIC.out (by rw [solL_len]; omega), nodeB_of HPIC.out (by rw [solL_len]; omega)]
        rfl
      have HE := Lib.hid hsat
      have H1 := Lib.hid h1
      have H2 := Lib.hid h2
      have HXM : Hid ((solL s).length ≤ maxLen) := Lib.hid (by rw [solL_len]; have := (sysB_at HS.out).1; unfold maxLen; omega)
      clear h1 h2 h3 ei ej hsat
      go_enter Try.func34, Try.ntmps34
      go_wp2_with fail
      refine HIS.out.mono ?_
      rintro e w1 ⟨rfl, rfl⟩
      rw [HS.out]
      go_wp2_with fail
      refine (l1In_any _ _ _ _).mono ?_
      rintro e w' ⟨rfl, rfl⟩
      rw [HNUM.out, H1.out]
      go_wp2_with fail
      refine (l1In_any _ _ _ _).mono ?_
      rintro e w' ⟨rfl, rfl⟩
      rw [HNUM.out, H2.out]
      go_wp2_with fail
      refine HSV.out.mono ?_
      rintro e w2 ⟨x, c, rfl, ho, hb⟩
      have HO := Lib.hid ho.rd
      have HB := Lib.hid hb
      clear ho hb
      go_wp2_with fail
      refine (specSameAt_any x c (solL s) n m w2 _ _ HO.out (Nat.le_refl _) HXM.out).mono ?_
      rintro e w3 ⟨rfl, hb⟩
      rw [HE.out]
      have HB3 := Lib.hid (HB.out.trans (hb.mono HB.out.size))
      clear hb
      go_wp2_with fail
      go_ret
      exact ⟨rfl, HB3.out⟩
end Go.Proofs.Ytodjkphelildeaa
