/- The law FnHeldFor, walked. -/
import Derived.Test.YtgfoolneophkcaaHeld
import Derived.Test.YtgfoolneophkcaaDrawP
import Derived.Test.YtgfoolneophkcaaAlive
namespace Go.Hyp
theorem heldN_symm (p : List (List Int)) (a b : Nat) : heldN p a b = heldN p b a := by
  unfold heldN
  have e : (fun r => !left p (r + 1) a b) = fun r => !left p (r + 1) b a := by funext r; rw [left_symm]
  rw [e]
theorem heldOk_symm (p : List (List Int)) (a b : Int) : heldOk p a b = heldOk p b a := by
  unfold heldOk
  rw [Bool.and_comm (nodeB p a)]
  unfold simB
  rw [left_symm]
theorem heldI_symm (p : List (List Int)) (a b : Int) : heldI p a b = heldI p b a := by
  unfold heldI
  rw [heldOk_symm, heldN_symm]
theorem heldOk_nodes {p : List (List Int)} {a b : Int} (h : heldOk p a b = true) : ∃ i j : Nat, a = i ∧ b = j ∧ i < p.length ∧ j < p.length ∧ picB p = true ∧ simB p i j = false := by
  unfold heldOk at h
  simp only [Bool.and_eq_true, Bool.not_eq_true'] at h
  obtain ⟨i, rfl, hi, hp⟩ := nodeB_nat h.1.1
  obtain ⟨j, rfl, hj, _⟩ := nodeB_nat h.1.2
  exact ⟨i, j, rfl, rfl, hi, hj, hp, h.2⟩
theorem heldI_no {p : List (List Int)} {a b : Int} (h : heldOk p a b = false) : heldI p a b = -1 := by unfold heldI; rw [h]; rfl
theorem heldI_yes {p : List (List Int)} {i j : Nat} (h : heldOk p i j = true) : heldI p i j = (heldN p i j : Int) := by unfold heldI; rw [h]; rfl
end Go.Hyp
namespace Go.Proofs.Ytgfoolneophkcaa
open Go.RowKit Go.Hyp Go.Deep

set_option maxRecDepth 4000 in
set_option maxHeartbeats 1000000 in
theorem fnHeldFor_any (a : Option Addr) (cap : Nat) (l : List Int) (w : World) (h : RdB w w.heap.size a l) (hl : l.length ≤ maxLen ∧ l.length ≤ cap) :
    Calls Try.prog 12 #[.slice a l.length cap] w fun e w' => e = .returned (.bool true) ∧ Below w.heap.size w w' := by
  obtain ⟨hl, hcap⟩ := hl
  have HB := Lib.hid h
  clear h
  by_cases hbig : 1048576 < l.length
  · go_enter Try.func12, Try.ntmps12
    go_wp2_with fail
    go_ret
    exact ⟨rfl, Below.refl _ _⟩
  · go_enter Try.func12, Try.ntmps12
    go_wp2_with fail
    refine (drawHeldFor_any a cap l _ HB.out hl hcap).mono ?_
    rintro e w1 ⟨a2, c2, p, x, y, rfl, hrd, h5, h6, hb⟩
    have R1 := Lib.hid hrd
    have H1 := Lib.hid hb
    have hm : Hid (p.length ≤ maxLen) := Lib.hid (by unfold maxLen; omega)
    clear hrd h6 hb
    go_wp2_with fail
    refine (implHeldFor_any a2 c2 p x y w1 _ _ R1.out (Nat.le_refl _) hm.out).mono ?_
    rintro e w2 ⟨rfl, hb⟩
    have R2 := Lib.hid (R1.out.below hb (Nat.le_refl _))
    have H2 := Lib.hid (H1.out.trans (hb.mono H1.out.size))
    have hz2 : w1.heap.size ≤ w2.heap.size := hb.size
    clear hb R1 H1
    go_wp2_with fail
    refine (specHeldFor_any a2 c2 p x y w2 _ _ R2.out hz2 hm.out).mono ?_
    rintro e w3 ⟨rfl, hb⟩
    have R3 := Lib.hid (R2.out.below hb hz2)
    have H3 := Lib.hid (H2.out.trans (hb.mono H2.out.size))
    have hz3 : w1.heap.size ≤ w3.heap.size := by have := hb.size; omega
    clear hb R2 H2
    cases hok : heldOk p x y
    · rw [heldI_no hok]
      clear hok
      go_wp2_with (go_at_call 31; refine (alive1_any _).mono ?_; rintro e w' ⟨rfl, rfl⟩)
      go_ret
      exact ⟨rfl, H3.out⟩
    · obtain ⟨i, j, rfl, rfl, hi, hj, hp, hs⟩ := heldOk_nodes hok
      rw [heldI_yes hok]
      obtain ⟨hn1, hn2, hn3⟩ := heldN_apart hs
      have hok2 : heldOk p j i = true := by rw [heldOk_symm]; exact hok
      have e2 : heldI p j i = (heldN p i j : Int) := by rw [heldI_yes hok2, heldN_symm]
      have hI := implHeldFor_any a2 c2 p j i
      rw [hok2, e2] at hI
      have HI := Lib.hid hI
      obtain ⟨N, hN⟩ : ∃ N, N = heldN p i j := ⟨_, rfl⟩
      rw [← hN] at hn1 hn2 hn3 HI ⊢
      have l1 := hn2 N (Nat.le_refl _)
      have l2 := hn3 (N + 1) (Nat.lt_succ_self _)
      have L1 := Lib.hid l1
      have L2 := Lib.hid l2
      have HP := Lib.hid hp
      have hii : (i : Int) < (p.length : Int) := by omega
      have hji : (j : Int) < (p.length : Int) := by omega
      have hNi : (N : Int) < (p.length : Int) := by omega
      clear hok hs hok2 e2 hI hN hn2 hn3 l1 l2 hp
      have hA := specLeftAfter_any a2 c2 p N w3 _ _ R3.out hz3 hm.out
      rw [leftR_pic HP.out (by omega)] at hA
      have HA := Lib.hid hA
      clear hA
      go_wp2_with fail
      refine HA.out.mono ?_
      intro e w4 hret
      obtain ⟨b1, d1, rfl, ho1, hb⟩ := hret.toM
      have R4 := Lib.hid (R3.out.below hb hz3)
      have O4 := Lib.hid ho1.rd
      have H4 := Lib.hid (H3.out.trans (hb.mono H3.out.size))
      have hz4 : w3.heap.size ≤ w4.heap.size := hb.size
      clear hb hret ho1 R3 H3 HA
      have e1 : ((N + 1 : Nat) : Int) = (N : Int) + 1 := by omega
      have hA := specLeftAfter_any a2 c2 p ((N + 1 : Nat) : Int) w4 _ _ R4.out (by omega) hm.out
      rw [leftR_pic HP.out (by omega), e1] at hA
      have HA := Lib.hid hA
      clear hA e1
      go_wp2_with fail
      refine HA.out.mono ?_
      intro e w5 hret
      obtain ⟨b2, d2, rfl, ho2, hb⟩ := hret.toM
      have R5 := Lib.hid (R4.out.below hb (by omega))
      have O5 := Lib.hid ho2.rd
      have O4' := Lib.hid (O4.out.below hb (Nat.le_refl _))
      have H5 := Lib.hid (H4.out.trans (hb.mono H4.out.size))
      have hz5 : w4.heap.size ≤ w5.heap.size := hb.size
      clear hb hret ho2 R4 H4 HA O4
      go_wp2_with fail
      refine (HI.out w5 _ _ R5.out (by omega) hm.out).mono ?_
      rintro e w6 ⟨rfl, hb⟩
      have H6 := Lib.hid (H5.out.trans (hb.mono H5.out.size))
      obtain ⟨x1, o1, x2, o2, k1, rfl, _, _, q1, _, _, q2⟩ := (O4'.out.below hb hz5).bit (mat_sq _ _) i j (by rw [mat_len]; exact hi) (by rw [mat_len]; exact hj)
      obtain ⟨y1, r1, y2, r2, m1, rfl, _, _, q3, _, _, q4⟩ := (O5.out.below hb (Nat.le_refl _)).bit (mat_sq _ _) i j (by rw [mat_len]; exact hi) (by rw [mat_len]; exact hj)
      rw [mat_len] at q1 q3
      rw [mat_arr _ _ _ _ _ hi hj, L1.out] at q2
      rw [mat_arr _ _ _ _ _ hi hj, L2.out] at q4
      simp only [Bool.false_eq_true, if_false, if_true] at q2 q4
      clear hb O4' O5 HI R5
      go_wp2_with fail
      go_ret
      exact ⟨rfl, H6.out⟩
end Go.Proofs.Ytgfoolneophkcaa
