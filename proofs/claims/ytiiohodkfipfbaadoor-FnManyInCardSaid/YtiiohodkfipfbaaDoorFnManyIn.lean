/- The law FnManyIn, walked. -/
import Derived.Test.YtiiohodkfipfbaaDoorDrawR
import Derived.Test.YtiiohodkfipfbaaDoorLeastI
import Derived.Test.YtiiohodkfipfbaaDoorMany
import Derived.Test.YtiiohodkfipfbaaDoorAlive
namespace Go.Proofs.YtiiohodkfipfbaaDoor
open Go.RowKit Go.Hyp Go.Deep

set_option maxRecDepth 4000 in
set_option maxHeartbeats 2000000 in
theorem fnManyIn_any (a : Option Addr) (cap : Nat) (l : List Int) (w : World) (h : RdB w w.heap.size a l) (hl : l.length ≤ maxLen ∧ l.length ≤ cap) :
    Calls Tryd.prog 4 #[.slice a l.length cap] w fun e w' => e = .returned (.bool true) ∧ Below w.heap.size w w' := by
  obtain ⟨hl, hcap⟩ := hl
  have HB := Lib.hid h
  clear h
  by_cases hbig : 1048576 < l.length
  · go_enter Tryd.func4, Tryd.ntmps4
    go_wp2_with fail
    go_ret
    exact ⟨rfl, Below.refl _ _⟩
  go_enter Tryd.func4, Tryd.ntmps4
  go_wp2_with fail
  refine (drawManyIn_any a cap l _ HB.out hl hcap).mono ?_
  rintro e w1 ⟨a2, c2, p, n, rfl, hp, hp5, hb⟩
  have P1 := Lib.hid hp
  have H1 := Lib.hid hb
  have hm : Hid (p.length ≤ maxLen) := Lib.hid (by unfold maxLen; omega)
  clear hb hp
  go_wp2_with fail
  obtain ⟨M, hM⟩ : ∃ M, M = manyI p n := ⟨_, rfl⟩
  have HM := Lib.hid hM
  clear hM
  refine (implManyIn_any a2 c2 p n w1 _ _ P1.out (by omega) hm.out).mono ?_
  rintro e w2 ⟨rfl, hb⟩
  rw [← HM.out]
  have P2 := Lib.hid (P1.out.below hb (by omega))
  have H2 := Lib.hid (H1.out.trans (hb.mono H1.out.size))
  have hz2 : w1.heap.size ≤ w2.heap.size := hb.size
  clear hb P1 H1 
  go_wp2_with fail
  refine (specManyIn_any a2 c2 p n w2 _ _ P2.out (by omega) hm.out).mono ?_
  rintro e w3 ⟨rfl, hb⟩
  rw [← HM.out]
  have P3 := Lib.hid (P2.out.below hb (by omega))
  have H3 := Lib.hid (H2.out.trans (hb.mono H2.out.size))
  have hz3 : w2.heap.size ≤ w3.heap.size := hb.size
  clear hb P2 H2 
  cases hn : nodeB p n
  · have HF : Hid (M = -1) := Lib.hid (by rw [HM.out]; unfold manyI; rw [hn]; rfl)
    clear hn
    rw [HF.out]
    go_wp2_with (go_at_call 15; refine (alive1_any _).mono ?_; rintro e w' ⟨rfl, rfl⟩)
    go_ret
    exact ⟨rfl, H3.out⟩
  · obtain ⟨i, rfl, hi, hp⟩ := nodeB_nat hn
    have HR := Lib.hid (many_row hn)
    have hc := many_card hn
    rw [← HM.out] at hc
    have hpx := picB_sq (leastR_pic hn)
    have hm0 : ¬ M < 0 := by omega
    have hm1 : 0 ≤ M := by omega
    obtain ⟨X, hX⟩ : ∃ X, X = leastR p i := ⟨_, rfl⟩
    rw [← hX, ← HM.out] at HR
    rw [← hX] at hpx
    have hx1 : 1 ≤ X.length := hpx.2.1
    have hx5 : X.length ≤ 5 := hpx.2.2
    have hne : ((X.length : Int) == 0) = false := beq_eq_false_iff_ne.2 (by omega)
    have HXS := Lib.hid hpx.1
    have HXE := Lib.hid hX
    clear hn hp hpx hc hX
    go_wp2_with fail
    have hLO := implLeastOf_any a2 c2 p i w3 _ _ P3.out (by omega) hm.out
    rw [← HXE.out] at hLO
    have HLO := Lib.hid hLO
    clear hLO
    refine (HLO.out).mono ?_
    rintro e w4 ⟨aX, cX, rfl, hx, hb⟩
    have P4 := Lib.hid (P3.out.below hb (by omega))
    have H4 := Lib.hid (H3.out.trans (hb.mono H3.out.size))
    have hz4 : w3.heap.size ≤ w4.heap.size := hb.size
    have X4 := Lib.hid hx.rd
    clear hb P3 H3 hx
    go_wp2_with fail
    clear hne
    obtain ⟨b, off, a', c', rfl, _, hbC, hcx, hr⟩ := X4.out.rowAt HXS.out 0 hx1
    rw [Nat.add_zero] at hcx
    have HRR := Lib.hid hr
    have hRL := Lib.hid (rowOf_len X.length (arr X 0))
    have hx0 : (0 : Int) < (X.length : Int) := by omega
    clear hr
    go_loop [7, 8] (fun si ki => ∃ k : Nat, k ≤ X.length ∧ ki = .int .i64 k ∧ si = .int .i64 (arrL X 0 k).length) (fun _ ki => X.length - (intOf ki).toNat)
    case atStart => exact ⟨0, Nat.zero_le _, rfl, rfl⟩
    case round =>
      obtain ⟨k, hk, rfl, rfl⟩ := hrel
      by_cases hlt : k < X.length
      · have hki : (k : Int) < (X.length : Int) := by omega
        have hle := arrL_le X 0 k
        obtain ⟨b', off', rfl, _, _, hd⟩ := HRR.out.at k (by rw [hRL.out]; exact hlt)
        rw [rowOf_get] at hd
        cases hx : arr X 0 k
        · have HL : Hid ((arrL X 0 (k + 1)).length = (arrL X 0 k).length) := Lib.hid (by rw [arrL_succ, hx]; simp)
          rw [hx] at hd
          simp only [Bool.false_eq_true, if_false] at hd
          clear hx
          obtain ⟨S, hS⟩ : ∃ S, S = (arrL X 0 k).length := ⟨_, rfl⟩
          rw [← hS] at hle HL ⊢
          clear hS
          go_wp2_with fail
          go_round
          case rel => exact ⟨k + 1, by omega, by go_num, int_eq (by have := HL.out; omega)⟩
          case measure => simp [intOf]; omega
        · have HL : Hid ((arrL X 0 (k + 1)).length = (arrL X 0 k).length + 1) := Lib.hid (by rw [arrL_succ, hx]; simp)
          rw [hx] at hd
          simp only [if_true] at hd
          clear hx
          obtain ⟨S, hS⟩ : ∃ S, S = (arrL X 0 k).length := ⟨_, rfl⟩
          rw [← hS] at hle HL ⊢
          clear hS
          go_wp2_with fail
          go_round
          case rel => exact ⟨k + 1, by omega, by go_num, int_eq (by have := HL.out; omega)⟩
          case measure => simp [intOf]; omega
      · obtain rfl : k = X.length := by omega
        rw [HR.out]
        go_wp2_with (go_at_call 15; refine (alive1_any _).mono ?_; rintro e w' ⟨rfl, rfl⟩)
        go_ret
        exact ⟨rfl, H4.out⟩
end Go.Proofs.YtiiohodkfipfbaaDoor
