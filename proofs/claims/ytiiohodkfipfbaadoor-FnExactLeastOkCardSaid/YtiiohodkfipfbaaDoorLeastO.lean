/- The reference's LeastOk, walked. -/
import Derived.Test.YtiiohodkfipfbaaDoorLeastS
import Derived.Test.YtiiohodkfipfbaaDoorLawP
namespace Go.Proofs.YtiiohodkfipfbaaDoor
open Go.RowKit Go.Hyp Go.Deep

set_option maxRecDepth 4000 in
set_option maxHeartbeats 1600000 in
theorem specLeastOk_any (a : Option Addr) (cap : Nat) (p : List (List Int)) (w : World) (B C : Nat) (h : RdII w B C a p) (hC : C ≤ w.heap.size) (hl : p.length ≤ maxLen) :
    Calls Tryd.prog 29 #[.slice a p.length cap] w fun e w' => e = .returned (.bool (leastB p)) ∧ Below w.heap.size w w' := by
  have HL1 := Lib.hid (specLeastOf_any a cap p 0 w B C h hC hl)
  have FP := Lib.hid h
  clear h
  cases hp : picB p
  · have h1 : nodeB p 0 = false := by unfold nodeB; rw [hp]; rfl
    rw [leastR_no h1] at HL1
    have HB : Hid (leastB p = false) := Lib.hid (by unfold leastB; rw [hp]; rfl)
    clear h1 hp
    go_enter Tryd.func29, Tryd.ntmps29
    go_wp2_with fail
    refine HL1.out.mono ?_
    rintro e w1 ⟨x, c, rfl, _, hb⟩
    have HB1 := Lib.hid hb
    clear hb
    go_wp2_with fail
    go_ret
    exact ⟨ret_bool HB.out.symm, HB1.out⟩
  · have h1 := node0 hp
    have e1 : leastR p 0 = leastC p 0 := leastR_yes (i := 0) h1
    have hpx2 := leastR_pic h1
    rw [e1] at HL1 hpx2
    have hpx := picB_sq hpx2
    have hpp := picB_sq hp
    obtain ⟨X, hX⟩ : ∃ X, X = leastC p 0 := ⟨_, rfl⟩
    rw [← hX] at HL1 hpx hpx2
    have hlb : leastB p = decide (X = p) := by unfold leastB; rw [hp, hX]; rfl
    have hx1 : 1 ≤ X.length := hpx.2.1
    have hx5 : X.length ≤ 5 := hpx.2.2
    have HPX := Lib.hid hpx2
    have HPP := Lib.hid hp
    have hxi : (0 : Int) < (X.length : Int) := by omega
    rw [hlb]
    by_cases hd : X.length = p.length
    · have hne : ((X.length : Int) == (p.length : Int)) = true := beq_iff_eq.2 (by omega)
      have HT : Hid (decide (X = p) = (textP X == textP p)) := Lib.hid (by
        by_cases ht : textP X = textP p
        · rw [decide_eq_true (textP_inj hpx.1 hpp.1 hd (by omega) ht), beq_iff_eq.2 ht]
        · rw [decide_eq_false (fun e => ht (by rw [e])), beq_eq_false_iff_ne.2 ht])
      obtain ⟨D, hD⟩ : ∃ D, D = decide (X = p) := ⟨_, rfl⟩
      rw [← hD] at HT ⊢
      clear h1 e1 hp hX hlb hpx hpp hpx2 hd hD
      go_enter Tryd.func29, Tryd.ntmps29
      go_wp2_with fail
      refine HL1.out.mono ?_
      rintro e w1 ⟨x, c, rfl, ho, hb⟩
      have HO := Lib.hid ho
      have HB1 := Lib.hid hb
      have F1 := Lib.hid (FP.out.below hb hC)
      have hz1 : w.heap.size ≤ w1.heap.size := hb.size
      clear ho hb
      go_wp2_with fail
      refine (pictureText_any x c X w1 _ _ HO.out.rd (Nat.le_refl _) HPX.out).mono ?_
      rintro e w2 ⟨rfl, hb⟩
      have HB2 := Lib.hid (HB1.out.trans (hb.mono hz1))
      have F2 := Lib.hid (F1.out.below hb (by omega))
      have hz2 : w1.heap.size ≤ w2.heap.size := hb.size
      clear hb
      go_wp2_with fail
      refine (pictureText_any a cap p w2 _ _ F2.out (by omega) HPP.out).mono ?_
      rintro e w3 ⟨rfl, hb⟩
      have HB3 := Lib.hid (HB2.out.trans (hb.mono (by omega)))
      clear hb
      generalize hTX : textP X = TX at *
      generalize hTY : textP p = TY at *
      clear hTX hTY
      cases hD : D
      · have hbt : (TX == TY) = false := HT.out.symm.trans hD
        have HD := Lib.hid hD
        clear hD
        go_wp2_with fail
        go_ret
        exact ⟨ret_bool HD.out.symm, HB3.out⟩
      · have hbt : TX = TY := beq_iff_eq.1 (HT.out.symm.trans hD)
        have HD := Lib.hid hD
        clear hD HT
        subst hbt
        go_wp2_with fail
        go_ret
        exact ⟨ret_bool HD.out.symm, HB3.out⟩
    · have hne : ((X.length : Int) == (p.length : Int)) = false := beq_eq_false_iff_ne.2 (by omega)
      have HD : Hid (decide (X = p) = false) := Lib.hid (decide_eq_false fun e => hd (by rw [e]))
      rw [HD.out]
      clear h1 e1 hp hX hlb hpx hpp hpx2 hd HD
      go_enter Tryd.func29, Tryd.ntmps29
      go_wp2_with fail
      refine HL1.out.mono ?_
      rintro e w1 ⟨x, c, rfl, ho, hb⟩
      have HB1 := Lib.hid hb
      clear ho hb
      go_wp2_with fail
      go_ret
      exact ⟨rfl, HB1.out⟩
end Go.Proofs.YtiiohodkfipfbaaDoor
