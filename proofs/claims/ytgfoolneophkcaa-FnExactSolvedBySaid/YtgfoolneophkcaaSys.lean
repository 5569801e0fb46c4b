/- Walks of the functions on systems: what each computes. -/
import Derived.Test.YtgfoolneophkcaaStr
import Derived.Test.YtgfoolneophkcaaLibY
namespace Go.Proofs.Ytgfoolneophkcaa
open Go.RowKit Go.Hyp Go.Deep

set_option maxHeartbeats 400000 in
theorem isSystem_any (a : Option Addr) (cap : Nat) (s : List (List Int × Int)) (w : World) (B C : Nat) (h : RdY w B C a s) (hC : C ≤ w.heap.size) (hl : s.length ≤ maxLen) :
    Calls Try.prog 66 #[.slice a s.length cap] w fun e w' => e = .returned (.bool (sysB s)) ∧ Below w.heap.size w w' := by
  unfold maxLen at hl
  go_enter Try.func66, Try.ntmps66
  go_wp2_with fail
  go_loopw [2, 7] (fun r i wr => ∃ k : Nat, k ≤ s.length ∧ r = .bool false ∧ i = .int .i64 k ∧ saidsB s.length (s.take k) = true ∧ Below w.heap.size w wr) (fun _ i _ => s.length - (intOf i).toNat)
  case atStart => exact ⟨0, Nat.zero_le _, rfl, rfl, rfl, Below.refl _ _⟩
  case round =>
    obtain ⟨k, hk, rfl, rfl, hb, hw⟩ := hrel
    have HB := Lib.hid hb
    have HW := Lib.hid hw
    clear hb hw
    by_cases hlt : k < s.length
    · obtain ⟨b, off, x, c, rfl, _, hbC, hc, hd, hr, hll⟩ := (h.below HW.out hC).at k hlt
      have HS := Lib.hid (saidsB_succ s.length s k hlt)
      have HN := Lib.hid (saidsB_no s.length s k hlt)
      have HR := Lib.hid (hr.below (below_alloc wr (.cells #[.slice x s[k].1.length c, .int .i64 s[k].2] 75)) (by have := HW.out.size; omega))
      clear h hr
      have hx : (bitsB s[k].1 && decide (s[k].1.length = s.length)) = true ∨ (bitsB s[k].1 && decide (s[k].1.length = s.length)) = false := by cases (bitsB s[k].1 && decide (s[k].1.length = s.length)) <;> simp
      generalize hy : (bitsB s[k].1 && decide (s[k].1.length = s.length)) = y at hx
      have HY := Lib.hid hy
      have HZ : Hid ((bitsB s[k].1 && ((s[k].1.length : Int) == (s.length : Int))) = y) := by rw [← hy]; exact congrArg (bitsB s[k].1 && ·) (by rw [Bool.eq_iff_iff]; simp; omega)
      clear hy
      rcases hx with rfl | rfl
      · by_cases c0 : 0 ≤ s[k].2
        · by_cases c3 : s[k].2 ≤ 3
          · go_wp2_with (go_at_call 97; refine (areBits_any _ _ _ _ _ B C HR.out hll).mono ?_; rintro e w' ⟨rfl, rfl⟩; rw [HZ.out])
            go_roundw
            case rel => exact ⟨k + 1, by omega, rfl, by go_num, by rw [HS.out, HB.out]; unfold saidB; rw [HY.out]; simp [c0, c3], HW.out.alloc HW.out.size _⟩
            case measure => simp [intOf]; omega
          · go_wp2_with (go_at_call 97; refine (areBits_any _ _ _ _ _ B C HR.out hll).mono ?_; rintro e w' ⟨rfl, rfl⟩; rw [HZ.out])
            go_ret
            exact ⟨ret_bool (by unfold sysB; rw [HN.out (by unfold saidB; rw [decide_eq_false (p := s[k].2 ≤ 3) (by omega)]; simp)]; rfl), HW.out.alloc HW.out.size _⟩
        · go_wp2_with (go_at_call 97; refine (areBits_any _ _ _ _ _ B C HR.out hll).mono ?_; rintro e w' ⟨rfl, rfl⟩; rw [HZ.out])
          go_ret
          exact ⟨ret_bool (by unfold sysB; rw [HN.out (by unfold saidB; rw [decide_eq_false (p := 0 ≤ s[k].2) (by omega)]; simp)]; rfl), HW.out.alloc HW.out.size _⟩
      · go_wp2_with (go_at_call 97; refine (areBits_any _ _ _ _ _ B C HR.out hll).mono ?_; rintro e w' ⟨rfl, rfl⟩; rw [HZ.out])
        go_ret
        exact ⟨ret_bool (by unfold sysB; rw [HN.out (by unfold saidB; rw [HY.out]; rfl)]; rfl), HW.out.alloc HW.out.size _⟩
    · have E1 : Hid (saidsB s.length s = true) := by have := HB.out; rwa [List.take_of_length_le (by omega)] at this
      by_cases h1 : 1 ≤ s.length
      · by_cases h3 : s.length ≤ 3
        all_goals
          go_wp2_with fail
          go_ret
          exact ⟨ret_bool (by unfold sysB; rw [E1.out]; simp [h1, h3]; try omega), HW.out⟩
      · go_wp2_with fail
        go_ret
        exact ⟨ret_bool (by unfold sysB; rw [E1.out, decide_eq_false (p := 1 ≤ s.length) (by omega)]; rfl), HW.out⟩

theorem implSystemOk_any (a : Option Addr) (cap : Nat) (s : List (List Int × Int)) (w : World) (B C : Nat) (h : RdY w B C a s) (hC : C ≤ w.heap.size) (hl : s.length ≤ maxLen) :
    Calls Try.prog 18 #[.slice a s.length cap] w fun e w' => e = .returned (.bool (sysB s)) ∧ Below w.heap.size w w' := by
  have H := Lib.hid h
  have HL := Lib.hid hl
  clear h hl
  go_enter Try.func18, Try.ntmps18
  go_wp2_with fail
  refine (isSystem_any _ _ _ _ B C H.out hC HL.out).mono ?_
  rintro e w1 ⟨rfl, hb⟩
  go_wp2_with fail
  go_ret
  exact ⟨rfl, hb⟩

set_option maxHeartbeats 800000 in
theorem specSystemOk_any (a : Option Addr) (cap : Nat) (s : List (List Int × Int)) (w : World) (B C : Nat) (h : RdY w B C a s) (hl : s.length ≤ maxLen) :
    Calls Try.prog 16 #[.slice a s.length cap] w fun e w' => e = .returned (.bool (sysB s)) ∧ w = w' := by
  unfold maxLen at hl
  go_enter Try.func16, Try.ntmps16
  go_wp2_with fail
  go_loop [2, 3] (fun r i => ∃ k : Nat, k ≤ s.length ∧ r = .bool false ∧ i = .int .i64 k ∧ saidsB s.length (s.take k) = true) (fun _ i => s.length - (intOf i).toNat)
  case atStart => exact ⟨0, Nat.zero_le _, rfl, rfl, rfl⟩
  case round =>
    obtain ⟨k, hk, rfl, rfl, hb⟩ := hrel
    have HB := Lib.hid hb
    clear hb
    by_cases hlt : k < s.length
    · obtain ⟨b, off, x, c, rfl, _, _, hc, hd, hr, hll⟩ := h.at k hlt
      have HS := Lib.hid (saidsB_succ s.length s k hlt)
      have HN := Lib.hid (saidsB_no s.length s k hlt)
      clear h
      by_cases hlen : s[k].1.length = s.length
      · have hne : (((s[k].1.length : Nat) : Int) != ((s.length : Nat) : Int)) = false := by simp [hlen]
        have Hlen := Lib.hid hlen
        clear hlen
        have hx : (decide (0 ≤ s[k].2) && decide (s[k].2 ≤ 3)) = true ∨ (decide (0 ≤ s[k].2) && decide (s[k].2 ≤ 3)) = false := by cases (decide (0 ≤ s[k].2) && decide (s[k].2 ≤ 3)) <;> simp
        generalize hy : (decide (0 ≤ s[k].2) && decide (s[k].2 ≤ 3)) = y at hx
        have HY := Lib.hid hy
        clear hy
        rcases hx with rfl | rfl
        · go_wp2_with (go_at_call 64; refine (l1In_any _ _ _ _).mono ?_; rintro e w' ⟨rfl, rfl⟩; rw [HY.out])
          go_loop [2, 4] (fun r i => ∃ j : Nat, j ≤ s.length ∧ r = .bool false ∧ i = .int .i64 j ∧ bitsB (s[k].1.take j) = true) (fun _ i => s.length - (intOf i).toNat)
          case atStart => exact ⟨0, Nat.zero_le _, rfl, rfl, rfl⟩
          case round =>
            obtain ⟨j, hj, rfl, rfl, hb'⟩ := hrel
            have HB' := Lib.hid hb'
            clear hb'
            by_cases hlt' : j < s.length
            · have hlt2 : j < s[k].1.length := by rw [Hlen.out]; exact hlt'
              obtain ⟨b', off', rfl, _, _, hc'⟩ := hr.at j hlt2
              have HS' := Lib.hid (bitsB_succ s[k].1 j hlt2)
              have HN' := Lib.hid (bitsB_no s[k].1 j hlt2)
              clear hr
              have hx : bitB s[k].1[j] = true ∨ bitB s[k].1[j] = false := by cases bitB s[k].1[j] <;> simp
              generalize hy : bitB s[k].1[j] = y at hx
              have HY' := Lib.hid hy
              clear hy
              rcases hx with rfl | rfl
              · go_wp2_with (go_at_call 64; refine (l1In_bit _ _).mono ?_; rintro e w' ⟨rfl, rfl⟩; rw [HY'.out])
                go_round
                case rel => exact ⟨j + 1, by omega, rfl, by go_num, by rw [HS'.out, HB'.out, HY'.out]; rfl⟩
                case measure => simp [intOf]; omega
              · go_wp2_with (go_at_call 64; refine (l1In_bit _ _).mono ?_; rintro e w' ⟨rfl, rfl⟩; rw [HY'.out])
                go_ret
                exact ⟨ret_bool (by unfold sysB; rw [HN.out (by unfold saidB; rw [HN'.out HY'.out]; rfl)]; rfl), rfl⟩
            · have E1 : Hid (bitsB s[k].1 = true) := by have := HB'.out; rwa [List.take_of_length_le (by have := Hlen.out; omega)] at this
              clear HB'
              go_wp2_with fail
              go_round
              case rel => exact ⟨k + 1, by omega, rfl, by go_num, by rw [HS.out, HB.out]; unfold saidB; rw [E1.out, decide_eq_true Hlen.out, HY.out]; rfl⟩
              case measure => simp [intOf]; omega
        · go_wp2_with (go_at_call 64; refine (l1In_any _ _ _ _).mono ?_; rintro e w' ⟨rfl, rfl⟩; rw [HY.out])
          go_ret
          exact ⟨ret_bool (by unfold sysB; rw [HN.out (by unfold saidB; rw [HY.out]; simp)]; rfl), rfl⟩
      · have hne : (((s[k].1.length : Nat) : Int) != ((s.length : Nat) : Int)) = true := by simp; omega
        go_wp2_with fail
        go_ret
        exact ⟨ret_bool (by unfold sysB; rw [HN.out (by unfold saidB; rw [decide_eq_false hlen]; simp)]; rfl), rfl⟩
    · have E1 : Hid (saidsB s.length s = true) := by have := HB.out; rwa [List.take_of_length_le (by omega)] at this
      go_wp2_with (go_at_call 64; refine (l1In_any _ _ _ _).mono ?_; rintro e w' ⟨rfl, rfl⟩)
      go_ret
      exact ⟨ret_bool (by unfold sysB; rw [E1.out, Bool.true_and]; congr 1 <;> (rw [Bool.eq_iff_iff]; simp; omega)), rfl⟩
end Go.Proofs.Ytgfoolneophkcaa
