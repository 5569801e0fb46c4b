/- Walks of the functions on rows of numbers and on pictures: what each computes. -/
import Derived.Test.YtiiohodkfipfbaaGreatDoorStr
namespace Go.Proofs.YtiiohodkfipfbaaGreatDoor
open Go.RowKit Go.Hyp Go.Deep

theorem Tryz.infoRow : (Tryz.prog.info? 37).map (fun i => (i.zero, i.size, i.bytes)) = some (some (.slice none 0 0), 1, 24) := by kernel_rfl

set_option maxHeartbeats 400000 in
theorem isPicture_any (a : Option Addr) (cap : Nat) (p : List (List Int)) (w : World) (B C : Nat) (h : RdII w B C a p) (hl : p.length ≤ maxLen) :
    Calls Tryz.prog 26 #[.slice a p.length cap] w fun e w' => e = .returned (.bool (picB p)) ∧ w = w' := by
  unfold maxLen at hl
  by_cases h1 : 1 ≤ p.length
  · by_cases h5 : p.length ≤ 5
    · go_enter Tryz.func26, Tryz.ntmps26
      go_wp2_with fail
      go_loop [2, 15] (fun r i => ∃ k : Nat, k ≤ p.length ∧ r = .bool false ∧ i = .int .i64 k ∧ rowsB p.length (p.take k) = true) (fun _ i => p.length - (intOf i).toNat)
      case atStart => exact ⟨0, Nat.zero_le _, rfl, rfl, rfl⟩
      case round =>
        obtain ⟨k, hk, rfl, rfl, hb⟩ := hrel
        have HB := Lib.hid hb
        clear hb
        by_cases hlt : k < p.length
        · obtain ⟨b, off, x, c, rfl, _, _, hc, hr, hll⟩ := h.at k hlt
          have HR := Lib.hid hr
          have HS := Lib.hid (rowsB_succ p.length p k hlt)
          have HN := Lib.hid (rowsB_no p.length p k hlt)
          clear h hr
          have hx : (bitsB p[k] && decide (p[k].length = p.length)) = true ∨ (bitsB p[k] && decide (p[k].length = p.length)) = false := by cases (bitsB p[k] && decide (p[k].length = p.length)) <;> simp
          generalize hy : (bitsB p[k] && decide (p[k].length = p.length)) = y at hx
          have HY := Lib.hid hy
          have HZ : Hid ((bitsB p[k] && ((p[k].length : Int) == (p.length : Int))) = y) := by rw [← hy]; exact congrArg (bitsB p[k] && ·) (by rw [Bool.eq_iff_iff]; simp; omega)
          clear hy
          rcases hx with rfl | rfl
          · go_wp2_with (go_at_call 42; refine (areBits_any _ _ _ _ _ B C HR.out hll).mono ?_; rintro e w' ⟨rfl, rfl⟩; rw [HZ.out])
            go_round
            case rel => exact ⟨k + 1, by omega, rfl, by go_num, by rw [HS.out, HB.out, HY.out]; rfl⟩
            case measure => simp [intOf]; omega
          · go_wp2_with (go_at_call 42; refine (areBits_any _ _ _ _ _ B C HR.out hll).mono ?_; rintro e w' ⟨rfl, rfl⟩; rw [HZ.out])
            go_ret
            exact ⟨ret_bool (by unfold picB; rw [HN.out HY.out]; simp), rfl⟩
        · have E1 : Hid (rowsB p.length p = true) := by have := HB.out; rwa [List.take_of_length_le (by omega)] at this
          go_wp2_with fail
          go_ret
          exact ⟨ret_bool (by unfold picB; rw [E1.out]; simp [h1, h5]), rfl⟩
    · go_enter Tryz.func26, Tryz.ntmps26
      go_wp2_with fail
      go_ret
      exact ⟨ret_bool (by unfold picB; simp [h1, h5]), rfl⟩
  · go_enter Tryz.func26, Tryz.ntmps26
    go_wp2_with fail
    go_ret
    exact ⟨ret_bool (by unfold picB; simp [h1]), rfl⟩

set_option maxHeartbeats 400000 in
theorem hasNode_any (a : Option Addr) (cap : Nat) (p : List (List Int)) (n : Int) (w : World) (B C : Nat) (h : RdII w B C a p) (hl : p.length ≤ maxLen) :
    Calls Tryz.prog 14 #[.slice a p.length cap, .int .i64 n] w fun e w' => e = .returned (.bool (nodeB p n)) ∧ w = w' := by
  have H := Lib.hid h
  have HL := Lib.hid hl
  clear h hl
  have hx : picB p = true ∨ picB p = false := by cases picB p <;> simp
  generalize hy : picB p = y at hx
  have HY := Lib.hid hy
  clear hy
  rcases hx with rfl | rfl
  · by_cases h0 : 0 ≤ n
    · by_cases h1 : n < p.length
      all_goals
        go_enter Tryz.func14, Tryz.ntmps14
        go_wp2_with (go_at_call 26; refine (isPicture_any _ _ _ _ B C H.out HL.out).mono ?_; rintro e w' ⟨rfl, rfl⟩; rw [HY.out])
        go_ret
        exact ⟨ret_bool (by unfold nodeB; rw [HY.out]; simp [h0, h1]), rfl⟩
    · go_enter Tryz.func14, Tryz.ntmps14
      go_wp2_with (go_at_call 26; refine (isPicture_any _ _ _ _ B C H.out HL.out).mono ?_; rintro e w' ⟨rfl, rfl⟩; rw [HY.out])
      go_ret
      exact ⟨ret_bool (by unfold nodeB; rw [HY.out, decide_eq_false (p := 0 ≤ n) (by omega)]; rfl), rfl⟩
  · go_enter Tryz.func14, Tryz.ntmps14
    go_wp2_with (go_at_call 26; refine (isPicture_any _ _ _ _ B C H.out HL.out).mono ?_; rintro e w' ⟨rfl, rfl⟩; rw [HY.out])
    go_ret
    exact ⟨ret_bool (by unfold nodeB; rw [HY.out]; simp), rfl⟩

set_option maxHeartbeats 800000 in
theorem specPictureOk_any (a : Option Addr) (cap : Nat) (p : List (List Int)) (w : World) (B C : Nat) (h : RdII w B C a p) (hl : p.length ≤ maxLen) :
    Calls Tryz.prog 21 #[.slice a p.length cap] w fun e w' => e = .returned (.bool (picB p)) ∧ w = w' := by
  unfold maxLen at hl
  go_enter Tryz.func21, Tryz.ntmps21
  go_wp2_with fail
  go_loop [2, 3] (fun r i => ∃ k : Nat, k ≤ p.length ∧ r = .bool false ∧ i = .int .i64 k ∧ rowsB p.length (p.take k) = true) (fun _ i => p.length - (intOf i).toNat)
  case atStart => exact ⟨0, Nat.zero_le _, rfl, rfl, rfl⟩
  case round =>
    obtain ⟨k, hk, rfl, rfl, hb⟩ := hrel
    have HB := Lib.hid hb
    clear hb
    by_cases hlt : k < p.length
    · obtain ⟨b, off, x, c, rfl, _, _, hc, hr, hll⟩ := h.at k hlt
      have HS := Lib.hid (rowsB_succ p.length p k hlt)
      have HN := Lib.hid (rowsB_no p.length p k hlt)
      clear h
      by_cases hlen : p[k].length = p.length
      · have hne : (((p[k].length : Nat) : Int) != ((p.length : Nat) : Int)) = false := by simp [hlen]
        have Hlen := Lib.hid hlen
        clear hlen
        go_wp2_with fail
        go_loop [2, 4] (fun r i => ∃ j : Nat, j ≤ p.length ∧ r = .bool false ∧ i = .int .i64 j ∧ bitsB (p[k].take j) = true) (fun _ i => p.length - (intOf i).toNat)
        case atStart => exact ⟨0, Nat.zero_le _, rfl, rfl, rfl⟩
        case round =>
          obtain ⟨j, hj, rfl, rfl, hb'⟩ := hrel
          have HB' := Lib.hid hb'
          clear hb'
          by_cases hlt' : j < p.length
          · have hlt2 : j < p[k].length := by rw [Hlen.out]; exact hlt'
            obtain ⟨b', off', rfl, _, _, hc'⟩ := hr.at j hlt2
            have HS' := Lib.hid (bitsB_succ p[k] j hlt2)
            have HN' := Lib.hid (bitsB_no p[k] j hlt2)
            clear hr
            have hx : bitB p[k][j] = true ∨ bitB p[k][j] = false := by cases bitB p[k][j] <;> simp
            generalize hy : bitB p[k][j] = y at hx
            have HY := Lib.hid hy
            clear hy
            rcases hx with rfl | rfl
            · go_wp2_with (go_at_call 22; refine (l1In_bit _ _).mono ?_; rintro e w' ⟨rfl, rfl⟩; rw [HY.out])
              go_round
              case rel => exact ⟨j + 1, by omega, rfl, by go_num, by rw [HS'.out, HB'.out, HY.out]; rfl⟩
              case measure => simp [intOf]; omega
            · go_wp2_with (go_at_call 22; refine (l1In_bit _ _).mono ?_; rintro e w' ⟨rfl, rfl⟩; rw [HY.out])
              go_ret
              exact ⟨ret_bool (by unfold picB; rw [HN.out (by rw [HN'.out HY.out]; rfl)]; simp), rfl⟩
          · have E1 : Hid (bitsB p[k] = true) := by have := HB'.out; rwa [List.take_of_length_le (by have := Hlen.out; omega)] at this
            clear HB'
            go_wp2_with fail
            go_round
            case rel => exact ⟨k + 1, by omega, rfl, by go_num, by rw [HS.out, HB.out, E1.out, decide_eq_true Hlen.out]; rfl⟩
            case measure => simp [intOf]; omega
      · have hne : (((p[k].length : Nat) : Int) != ((p.length : Nat) : Int)) = true := by simp; omega
        go_wp2_with fail
        go_ret
        exact ⟨ret_bool (by unfold picB; rw [HN.out (by rw [decide_eq_false hlen]; simp)]; simp), rfl⟩
    · have E1 : Hid (rowsB p.length p = true) := by have := HB.out; rwa [List.take_of_length_le (by omega)] at this
      go_wp2_with (go_at_call 22; refine (l1In_any _ _ _ _).mono ?_; rintro e w' ⟨rfl, rfl⟩)
      go_ret
      exact ⟨ret_bool (by unfold picB; rw [E1.out, Bool.and_true]; congr 1 <;> (rw [Bool.eq_iff_iff]; simp; omega)), rfl⟩

set_option maxHeartbeats 400000 in
theorem specNodeOk_any (a : Option Addr) (cap : Nat) (p : List (List Int)) (n : Int) (w : World) (B C : Nat) (h : RdII w B C a p) (hl : p.length ≤ maxLen) :
    Calls Tryz.prog 9 #[.slice a p.length cap, .int .i64 n] w fun e w' => e = .returned (.bool (nodeB p n)) ∧ w = w' := by
  have H := Lib.hid h
  have HL := Lib.hid hl
  have hl' := hl
  unfold maxLen at hl'
  clear h hl
  have hx : picB p = true ∨ picB p = false := by cases picB p <;> simp
  generalize hy : picB p = y at hx
  have HY := Lib.hid hy
  clear hy
  rcases hx with rfl | rfl
  · go_enter Tryz.func9, Tryz.ntmps9
    go_wp2_with (first | (go_at_call 21; refine (specPictureOk_any _ _ _ _ B C H.out HL.out).mono ?_; rintro e w' ⟨rfl, rfl⟩; rw [HY.out]) | (go_at_call 22; refine (l1In_any _ _ _ _).mono ?_; rintro e w' ⟨rfl, rfl⟩))
    go_ret
    exact ⟨ret_bool (by unfold nodeB; rw [HY.out]; congr 1; rw [Bool.eq_iff_iff]; simp; omega), rfl⟩
  · go_enter Tryz.func9, Tryz.ntmps9
    go_wp2_with (first | (go_at_call 21; refine (specPictureOk_any _ _ _ _ B C H.out HL.out).mono ?_; rintro e w' ⟨rfl, rfl⟩; rw [HY.out]) | (go_at_call 22; refine (l1In_any _ _ _ _).mono ?_; rintro e w' ⟨rfl, rfl⟩))
    go_ret
    exact ⟨ret_bool (by unfold nodeB; rw [HY.out]; simp), rfl⟩

end Go.Proofs.YtiiohodkfipfbaaGreatDoor
