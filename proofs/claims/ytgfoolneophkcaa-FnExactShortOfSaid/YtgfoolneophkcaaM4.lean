/- Walks of the functions that ask for a stream's bit at a place. -/
import Derived.IntWalk
import Derived.Test.YtgfoolneophkcaaM3
namespace Go.Proofs.Ytgfoolneophkcaa
open Go.RowKit Go.Hyp Go.Deep

set_option maxHeartbeats 400000 in
theorem specBitAt_any (a1 a2 : Option Addr) (c1 c2 : Nat) (l1 l2 : List Int) (n : Int) (w : World) (B C B' C' : Nat) (h1 : RdI w B C a1 l1) (h2 : RdI w B' C' a2 l2) (hC : C ≤ w.heap.size) (hC' : C' ≤ w.heap.size)
    (hl1 : l1.length ≤ 1048576) (hl2 : l2.length ≤ 1048576) :
    Calls Try.prog 69 #[.agg #[.slice a1 l1.length c1, .slice a2 l2.length c2], .int .i64 n] w fun e w' => e = .returned (.int .i64 (bitAtI l1 l2 n)) ∧ Below w.heap.size w w' := by
  have hb0 := below_alloc w (.cells #[.slice a1 l1.length c1, .slice a2 l2.length c2] 34)
  have F1 := Lib.hid (h1.below hb0 hC)
  have F2 := Lib.hid (h2.below hb0 hC')
  have B0 := Lib.hid (alloc1 w (.cells #[.slice a1 l1.length c1, .slice a2 l2.length c2] 34))
  have H0 := Lib.hid hb0
  clear h1 h2 hb0
  have hx : streamB l1 l2 = true ∨ streamB l1 l2 = false := by cases streamB l1 l2 <;> simp
  generalize hy : streamB l1 l2 = y at hx
  have HY := Lib.hid hy
  clear hy
  rcases hx with rfl | rfl
  · have hx : (decide (0 ≤ n) && decide (n ≤ 999)) = true ∨ (decide (0 ≤ n) && decide (n ≤ 999)) = false := by cases (decide (0 ≤ n) && decide (n ≤ 999)) <;> simp
    generalize hy : (decide (0 ≤ n) && decide (n ≤ 999)) = y at hx
    have HZ := Lib.hid hy
    clear hy
    rcases hx with rfl | rfl
    · obtain ⟨h0, h9⟩ : 0 ≤ n ∧ n ≤ 999 := by have := HZ.out; simpa using this
      obtain ⟨k, rfl⟩ := Int.eq_ofNat_of_zero_le h0
      have hpos := streamB_pos HY.out
      have E : Hid (bitAtI l1 l2 k = bitOf l1 l2 k) := by
        show _ = _
        unfold bitAtI; rw [HY.out]; simp [h0, h9]
      by_cases hlt : k < l1.length
      · go_enter Try.func69, Try.ntmps69
        go_wp2_with fail
        refine (specStreamOk_any _ _ _ _ _ _ _ _ _ _ _ F1.out F2.out (by simp; omega) (by simp; omega) hl1 hl2).mono ?_
        rintro e w1 ⟨rfl, hb1⟩
        rw [HY.out]
        obtain ⟨p1, p2, _, _⟩ := blk2 (hb1.blk B0.out (by simp))
        have H1 := Lib.hid (below_trans H0.out hb1)
        obtain ⟨b, off, rfl, _, _, hc⟩ := (F1.out.below hb1 (by simp; omega)).at k hlt
        have e : Hid (l1[k] = bitOf l1 l2 k) := by
          show _ = _
          unfold bitOf; rw [if_pos hlt]; simp [List.getD, hlt]
        clear hb1
        go_wp2_with (go_at_call 64; refine (l1In_any _ _ _ _).mono ?_; rintro e w' ⟨rfl, rfl⟩; rw [HZ.out])
        go_ret
        exact ⟨ret_int (by rw [E.out]; exact e.out), H1.out⟩
      · obtain ⟨j, hj⟩ : ∃ j : Nat, j = k - l1.length := ⟨_, rfl⟩
        obtain ⟨m, hm⟩ : ∃ m : Nat, m = j % l2.length := ⟨_, rfl⟩
        have hml : m < l2.length := by rw [hm]; exact Nat.mod_lt _ (by omega)
        have hw : IntKind.i64.wrap ((k : Int) - (l1.length : Int)) = (j : Int) := by rw [IntWalk.i64_in _ (by omega)]; omega
        have hr : (j : Int).tmod (l2.length : Int) = (m : Int) := by rw [IntWalk.rem_in _ _ (by omega), hm]; rfl
        have hz : ((l2.length : Int) == 0) = false := beq_eq_false_iff_ne.2 (by omega)
        have e : Hid (l2[m] = bitOf l1 l2 k) := by
          show _ = _
          unfold bitOf; rw [if_neg hlt, ← hj, ← hm]; simp [List.getD, hml]
        have hmi : (m : Int) < (l2.length : Int) := by omega
        have hm0 : (0 : Int) ≤ (m : Int) := by omega
        clear hj hm
        go_enter Try.func69, Try.ntmps69
        go_wp2_with fail
        refine (specStreamOk_any _ _ _ _ _ _ _ _ _ _ _ F1.out F2.out (by simp; omega) (by simp; omega) hl1 hl2).mono ?_
        rintro e w1 ⟨rfl, hb1⟩
        rw [HY.out]
        obtain ⟨p1, p2, _, _⟩ := blk2 (hb1.blk B0.out (by simp))
        have H1 := Lib.hid (below_trans H0.out hb1)
        obtain ⟨b, off, rfl, _, _, hc⟩ := (F2.out.below hb1 (by simp; omega)).at m hml
        clear hb1
        go_wp2_with (go_at_call 64; refine (l1In_any _ _ _ _).mono ?_; rintro e w' ⟨rfl, rfl⟩; rw [HZ.out])
        go_quiet (fail)
        go_wp2_with fail
        go_ret
        exact ⟨ret_int (by rw [E.out]; exact e.out), below_drewN H1.out _⟩
    · go_enter Try.func69, Try.ntmps69
      go_wp2_with fail
      refine (specStreamOk_any _ _ _ _ _ _ _ _ _ _ _ F1.out F2.out (by simp; omega) (by simp; omega) hl1 hl2).mono ?_
      rintro e w1 ⟨rfl, hb1⟩
      rw [HY.out]
      have H1 := Lib.hid (below_trans H0.out hb1)
      clear hb1
      go_wp2_with (go_at_call 64; refine (l1In_any _ _ _ _).mono ?_; rintro e w' ⟨rfl, rfl⟩; rw [HZ.out])
      go_ret
      exact ⟨ret_int (by unfold bitAtI; rw [HY.out, Bool.true_and, HZ.out]; rfl), H1.out⟩
  · go_enter Try.func69, Try.ntmps69
    go_wp2_with fail
    refine (specStreamOk_any _ _ _ _ _ _ _ _ _ _ _ F1.out F2.out (by simp; omega) (by simp; omega) hl1 hl2).mono ?_
    rintro e w1 ⟨rfl, hb1⟩
    rw [HY.out]
    have H1 := Lib.hid (below_trans H0.out hb1)
    clear hb1
    go_wp2_with fail
    go_ret
    exact ⟨ret_int (by unfold bitAtI; rw [HY.out]; simp), H1.out⟩

end Go.Proofs.Ytgfoolneophkcaa
