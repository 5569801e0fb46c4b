/- Walks of the functions on rows of numbers and on pictures: what each computes. -/
import Derived.Test.YtiiohodkfipfbaaDoorStr
namespace Go.Proofs.YtiiohodkfipfbaaDoor
open Go.RowKit Go.Hyp Go.Deep

theorem Tryd.infoRow : (Tryd.prog.info? 38).map (fun i => (i.zero, i.size, i.bytes)) = some (some (.slice none 0 0), 1, 24) := by kernel_rfl

set_option maxHeartbeats 400000 in
theorem toIntSS_any (a : Option Addr) (cap : Nat) (p : List (List Int)) (w : World) (B C : Nat) (h : RdII w B C a p) (hC : C ≤ w.heap.size) (hl : p.length ≤ 1048576) (hls : lens p ≤ 1048576) :
    Calls Tryd.prog 30 #[.slice a p.length cap] w (RetII 3 38 p w) := by
  have hmk := run_make_row' (P := Tryd.prog) 23 38 _ _ Tryd.underlying23 Tryd.infoRow rfl .i64 .i64 p.length (by omega) (by omega)
  go_enter Tryd.func30, Tryd.ntmps30
  go_wp2_with fail
  go_loopw [4] (fun i wr => ∃ k : Nat, k ≤ p.length ∧ i = .int .i64 k ∧ PartII wr 3 38 (w.heap.size + 1) w.heap.size p.length p k ∧ Below w.heap.size w wr ∧ w.heap.size < wr.heap.size) (fun i _ => p.length - (intOf i).toNat)
  case atStart => exact ⟨0, Nat.zero_le _, rfl, .start ((World.rowIs_made w _ _ _).congr (fun i _ => rfl)), below_alloc _ _, by simp⟩
  case round =>
    obtain ⟨k, hk, rfl, hpart, hb, hz⟩ := hrel
    by_cases hlt : k < p.length
    · obtain ⟨b, off, a', c', rfl, h1, h2, hc, hr, hll⟩ := (h.below hb hC).at k hlt
      have hle : p[k].length ≤ 1048576 := Nat.le_trans (lens_at p k hlt) hls
      have HP := Lib.hid hpart
      have HB := Lib.hid hb
      have HR := Lib.hid hr
      clear hpart h hb hr
      go_wp2_with fail
      refine (toIntS_any a' c' p[k] _ B C HR.out (by have := HB.out.size; omega) hle).mono ?_
      rintro e w1 ⟨a'', c'', rfl, ho, hb1⟩
      obtain ⟨ra, rc, hrow, _, _⟩ := id HP.out
      have hrow1 := hrow.of_block (hb1.block _ hrow.lt)
      have hd := hrow1.cell hlt
      have hfz := hrow1.frozen k
      have HPS := Lib.hid (HP.out.step (k := k) hb1 ho (by simp [List.getD, hlt]) (by omega) (by omega))
      have HB1 := Lib.hid (HB.out.trans (hb1.mono (by omega)))
      have hz1 : w.heap.size < w1.heap.size := by have := hb1.size; omega
      clear hrow hrow1 ho hb1
      go_wp2_with fail
      go_roundw
      case rel => exact ⟨k + 1, by omega, by go_num, HPS.out, HB1.out.setCell (by simp) _, by simpa using hz1⟩
      case measure => simp [intOf]; omega
    · obtain rfl : k = p.length := by omega
      have HP := Lib.hid hpart
      clear hpart h
      go_wp2_with fail
      go_ret
      exact ⟨_, _, rfl, HP.out.done rfl (by unfold maxLen; omega), hb⟩

set_option maxHeartbeats 400000 in
theorem szIntSS_any (a : Option Addr) (cap : Nat) (p : List (List Int)) (n : Int) (w : World) (B C : Nat) (h : RdII w B C a p) (hl : p.length ≤ maxLen) (h0 : 0 ≤ n) (h1 : n ≤ 1048576) :
    Calls Tryd.prog 28 #[.slice a p.length cap, .int .i64 n] w fun e w' => e = .returned (.int .i64 (szII n p)) ∧ w = w' := by
  unfold maxLen at hl
  by_cases hlt : n < p.length
  · have hc : n - p.length < 0 := by omega
    go_enter Tryd.func28, Tryd.ntmps28
    go_wp2_with fail
    go_ret
    exact ⟨ret_int (by unfold szII; rw [if_pos (by omega)]), rfl⟩
  · have hc : ¬ (n - p.length < 0) := by omega
    go_enter Tryd.func28, Tryd.ntmps28
    go_wp2_with fail
    go_loop [1, 4, 5] (fun m r i => ∃ (k : Nat) (m' : Int), k ≤ p.length ∧ r = .int .i64 0 ∧ i = .int .i64 k ∧ m = .int .i64 m' ∧ 0 ≤ m' ∧ m' ≤ 1048576 ∧ m' = n - p.length - lens (p.take k)) (fun _ _ i => p.length - (intOf i).toNat)
    case atStart => exact ⟨0, _, Nat.zero_le _, rfl, rfl, rfl, by omega, by omega, by simp [lens]⟩
    case round =>
      obtain ⟨k, m', hk, rfl, rfl, rfl, hm0, hm1, hm⟩ := hrel
      have HM := Lib.hid hm
      clear hm
      by_cases hlt' : k < p.length
      · obtain ⟨b, off, a', c', rfl, _, _, hc, hr, hll⟩ := h.at k hlt'
        have HS := Lib.hid (lens_succ p k hlt')
        have HL := Lib.hid (lens_le p (k + 1))
        have HC := Lib.hid (szI_cases m' p[k].length)
        clear h hr
        by_cases hneg : szI m' p[k].length < 0
        · go_wp2_with fail
          refine (szIntS_any a' c' p[k].length m' _ hll hm0 hm1).mono ?_
          rintro e w' ⟨rfl, rfl⟩
          go_wp2_with fail
          go_ret
          exact ⟨ret_int (by unfold szII; rw [if_pos (by have := HM.out; have := HS.out; have := HL.out; rcases HC.out with hx | hx <;> omega)]), rfl⟩
        · go_wp2_with fail
          refine (szIntS_any a' c' p[k].length m' _ hll hm0 hm1).mono ?_
          rintro e w' ⟨rfl, rfl⟩
          go_wp2_with fail
          go_round
          case rel => exact ⟨k + 1, _, by omega, rfl, by go_num, rfl, by omega, by rcases HC.out with hx | hx <;> omega, by have := HM.out; have := HS.out; rcases HC.out with hx | hx <;> omega⟩
          case measure => simp [intOf]; omega
      · go_wp2_with fail
        go_ret
        exact ⟨ret_int (by have := HM.out; rw [List.take_of_length_le (by omega)] at this; unfold szII; rw [if_neg (by omega)]; omega), rfl⟩

set_option maxHeartbeats 400000 in
theorem eqIntSS_any (a a' : Option Addr) (cap cap' : Nat) (p p' : List (List Int)) (w : World) (B C B' C' : Nat) (h : RdII w B C a p) (h' : RdII w B' C' a' p') (hl : p.length ≤ maxLen) :
    Calls Tryd.prog 32 #[.slice a p.length cap, .slice a' p'.length cap'] w fun e w' => e = .returned (.bool (decide (p = p'))) ∧ Qt w w' := by
  unfold maxLen at hl
  by_cases hlen : p.length = p'.length
  · have hb : (((p.length : Nat) : Int) != ((p'.length : Nat) : Int)) = false := by simp [hlen]
    have Hlen := Lib.hid hlen
    clear hlen
    go_enter Tryd.func32, Tryd.ntmps32
    go_wp2_with fail
    go_loopw [4, 5] (fun r i wr => ∃ k : Nat, k ≤ p.length ∧ r = .bool false ∧ i = .int .i64 k ∧ p.take k = p'.take k ∧ Qt w wr) (fun _ i _ => p.length - (intOf i).toNat)
    case atStart => exact ⟨0, Nat.zero_le _, rfl, rfl, rfl, Qt.refl _⟩
    case round =>
      obtain ⟨k, hk, rfl, rfl, he, hq⟩ := hrel
      have HE := Lib.hid he
      have HQ := Lib.hid hq
      clear he hq
      by_cases hlt : k < p.length
      · have hlt' : k < p'.length := by have := Hlen.out; omega
        obtain ⟨b, off, x, c, rfl, _, _, hc, hr, hll⟩ := (h.agr HQ.out.agr).at k hlt
        obtain ⟨b', off', x', c', rfl, _, _, hc', hr', hll'⟩ := (h'.agr HQ.out.agr).at k hlt'
        have HR := Lib.hid hr
        have HR' := Lib.hid hr'
        clear h h' hr hr'
        by_cases hx : p[k] = p'[k]
        · have HX := Lib.hid hx
          have HC : Hid (∀ n, Calls Tryd.prog 67 #[.slice x p[k].length c, .slice x' p'[k].length c'] (wr.drewN n) fun e w' => e = .returned (.bool true) ∧ Qt (wr.drewN n) w') := fun n => by
            have h := eqIntS_any x x' c c' p[k] p'[k] (wr.drewN n) B C B' C' (HR.out.agr ((Qt.refl _).n n).agr) (HR'.out.agr ((Qt.refl _).n n).agr) hll hll'
            rwa [decide_eq_true hx] at h
          clear hx
          go_wp2_with fail
          go_quiet ((go_at_call 67; exact quietQ (HC.out _)))
          go_wp2_with fail
          go_roundw
          case rel => exact ⟨k + 1, by omega, rfl, by go_num, take_eq_succ hlt hlt' HE.out HX.out, HQ.out.n _⟩
          case measure => simp [intOf]; omega
        · have HX := Lib.hid hx
          have HC : Hid (∀ n, Calls Tryd.prog 67 #[.slice x p[k].length c, .slice x' p'[k].length c'] (wr.drewN n) fun e w' => e = .returned (.bool false) ∧ Qt (wr.drewN n) w') := fun n => by
            have h := eqIntS_any x x' c c' p[k] p'[k] (wr.drewN n) B C B' C' (HR.out.agr ((Qt.refl _).n n).agr) (HR'.out.agr ((Qt.refl _).n n).agr) hll hll'
            rwa [decide_eq_false hx] at h
          clear hx
          go_wp2_with fail
          go_quiet ((go_at_call 67; exact quietQ (HC.out _)))
          go_wp2_with fail
          go_ret
          exact ⟨ret_bool (by rw [decide_eq_false]; exact fun e => HX.out (by simp [e])), HQ.out.n _⟩
      · go_wp2_with fail
        go_ret
        exact ⟨ret_bool (by rw [decide_eq_true]; have e := HE.out; have := Hlen.out; rwa [List.take_of_length_le (by omega), List.take_of_length_le (by omega)] at e), HQ.out⟩
  · have hb : (((p.length : Nat) : Int) != ((p'.length : Nat) : Int)) = true := by simp; omega
    have hne : p ≠ p' := fun e => hlen (by rw [e])
    go_enter Tryd.func32, Tryd.ntmps32
    go_wp2_with fail
    go_ret
    exact ⟨ret_bool (by simp [hne]), Qt.refl _⟩

set_option maxHeartbeats 400000 in
theorem isPicture_any (a : Option Addr) (cap : Nat) (p : List (List Int)) (w : World) (B C : Nat) (h : RdII w B C a p) (hl : p.length ≤ maxLen) :
    Calls Tryd.prog 46 #[.slice a p.length cap] w fun e w' => e = .returned (.bool (picB p)) ∧ w = w' := by
  unfold maxLen at hl
  by_cases h1 : 1 ≤ p.length
  · by_cases h5 : p.length ≤ 5
    · go_enter Tryd.func46, Tryd.ntmps46
      go_wp2_with fail
      go_loop [2, 15] (fun r i => ∃ k : Nat, k ≤ p.length ∧ r = .bool false ∧ i = .int .i64 k ∧ rowsB p.length (p.take k) = true) (fun _ i => p.length - (intOf i).toNat)
      case atStart => exact ⟨0, Nat.zero_le _, rfl, rfl, rfl⟩
      case round =>
        obtain ⟨k, hk, rfl, rfl, hb⟩ := hrel
        have HB := Lib.hid hb
        clear hb
        by_cases hlt : k < p.length
        · obtain ⟨b, off, x, c, rfl, _, _, hc, hr, hll⟩ := h.at k hlt
          have HR := Lib.hid hr
          have HS := Lib.hid (rowsB_succ p.length p k hlt)
          have HN := Lib.hid (rowsB_no p.length p k hlt)
          clear h hr
          have hx : (bitsB p[k] && decide (p[k].length = p.length)) = true ∨ (bitsB p[k] && decide (p[k].length = p.length)) = false := by cases (bitsB p[k] && decide (p[k].length = p.length)) <;> simp
          generalize hy : (bitsB p[k] && decide (p[k].length = p.length)) = y at hx
          have HY := Lib.hid hy
          have HZ : Hid ((bitsB p[k] && ((p[k].length : Int) == (p.length : Int))) = y) := by rw [← hy]; exact congrArg (bitsB p[k] && ·) (by rw [Bool.eq_iff_iff]; simp; omega)
          clear hy
          rcases hx with rfl | rfl
          · go_wp2_with (go_at_call 79; refine (areBits_any _ _ _ _ _ B C HR.out hll).mono ?_; rintro e w' ⟨rfl, rfl⟩; rw [HZ.out])
            go_round
            case rel => exact ⟨k + 1, by omega, rfl, by go_num, by rw [HS.out, HB.out, HY.out]; rfl⟩
            case measure => simp [intOf]; omega
          · go_wp2_with (go_at_call 79; refine (areBits_any _ _ _ _ _ B C HR.out hll).mono ?_; rintro e w' ⟨rfl, rfl⟩; rw [HZ.out])
            go_ret
            exact ⟨ret_bool (by unfold picB; rw [HN.out HY.out]; simp), rfl⟩
        · have E1 : Hid (rowsB p.length p = true) := by have := HB.out; rwa [List.take_of_length_le (by omega)] at this
          go_wp2_with fail
          go_ret
          exact ⟨ret_bool (by unfold picB; rw [E1.out]; simp [h1, h5]), rfl⟩
    · go_enter Tryd.func46, Tryd.ntmps46
      go_wp2_with fail
      go_ret
      exact ⟨ret_bool (by unfold picB; simp [h1, h5]), rfl⟩
  · go_enter Tryd.func46, Tryd.ntmps46
    go_wp2_with fail
    go_ret
    exact ⟨ret_bool (by unfold picB; simp [h1]), rfl⟩

set_option maxHeartbeats 400000 in
theorem hasNode_any (a : Option Addr) (cap : Nat) (p : List (List Int)) (n : Int) (w : World) (B C : Nat) (h : RdII w B C a p) (hl : p.length ≤ maxLen) :
    Calls Tryd.prog 48 #[.slice a p.length cap, .int .i64 n] w fun e w' => e = .returned (.bool (nodeB p n)) ∧ w = w' := by
  have H := Lib.hid h
  have HL := Lib.hid hl
  clear h hl
  have hx : picB p = true ∨ picB p = false := by cases picB p <;> simp
  generalize hy : picB p = y at hx
  have HY := Lib.hid hy
  clear hy
  rcases hx with rfl | rfl
  · by_cases h0 : 0 ≤ n
    · by_cases h1 : n < p.length
      all_goals
        go_enter Tryd.func48, Tryd.ntmps48
        go_wp2_with (go_at_call 46; refine (isPicture_any _ _ _ _ B C H.out HL.out).mono ?_; rintro e w' ⟨rfl, rfl⟩; rw [HY.out])
        go_ret
        exact ⟨ret_bool (by unfold nodeB; rw [HY.out]; simp [h0, h1]), rfl⟩
    · go_enter Tryd.func48, Tryd.ntmps48
      go_wp2_with (go_at_call 46; refine (isPicture_any _ _ _ _ B C H.out HL.out).mono ?_; rintro e w' ⟨rfl, rfl⟩; rw [HY.out])
      go_ret
      exact ⟨ret_bool (by unfold nodeB; rw [HY.out, decide_eq_false (p := 0 ≤ n) (by omega)]; rfl), rfl⟩
  · go_enter Tryd.func48, Tryd.ntmps48
    go_wp2_with (go_at_call 46; refine (isPicture_any _ _ _ _ B C H.out HL.out).mono ?_; rintro e w' ⟨rfl, rfl⟩; rw [HY.out])
    go_ret
    exact ⟨ret_bool (by unfold nodeB; rw [HY.out]; simp), rfl⟩

set_option maxHeartbeats 800000 in
theorem specPictureOk_any (a : Option Addr) (cap : Nat) (p : List (List Int)) (w : World) (B C : Nat) (h : RdII w B C a p) (hl : p.length ≤ maxLen) :
    Calls Tryd.prog 37 #[.slice a p.length cap] w fun e w' => e = .returned (.bool (picB p)) ∧ w = w' := by
  unfold maxLen at hl
  go_enter Tryd.func37, Tryd.ntmps37
  go_wp2_with fail
  go_loop [2, 3] (fun r i => ∃ k : Nat, k ≤ p.length ∧ r = .bool false ∧ i = .int .i64 k ∧ rowsB p.length (p.take k) = true) (fun _ i => p.length - (intOf i).toNat)
  case atStart => exact ⟨0, Nat.zero_le _, rfl, rfl, rfl⟩
  case round =>
    obtain ⟨k, hk, rfl, rfl, hb⟩ := hrel
    have HB := Lib.hid hb
    clear hb
    by_cases hlt : k < p.length
    · obtain ⟨b, off, x, c, rfl, _, _, hc, hr, hll⟩ := h.at k hlt
      have HS := Lib.hid (rowsB_succ p.length p k hlt)
      have HN := Lib.hid (rowsB_no p.length p k hlt)
      clear h
      by_cases hlen : p[k].length = p.length
      · have hne : (((p[k].length : Nat) : Int) != ((p.length : Nat) : Int)) = false := by simp [hlen]
        have Hlen := Lib.hid hlen
        clear hlen
        go_wp2_with fail
        go_loop [2, 4] (fun r i => ∃ j : Nat, j ≤ p.length ∧ r = .bool false ∧ i = .int .i64 j ∧ bitsB (p[k].take j) = true) (fun _ i => p.length - (intOf i).toNat)
        case atStart => exact ⟨0, Nat.zero_le _, rfl, rfl, rfl⟩
        case round =>
          obtain ⟨j, hj, rfl, rfl, hb'⟩ := hrel
          have HB' := Lib.hid hb'
          clear hb'
          by_cases hlt' : j < p.length
          · have hlt2 : j < p[k].length := by rw [Hlen.out]; exact hlt'
            obtain ⟨b', off', rfl, _, _, hc'⟩ := hr.at j hlt2
            have HS' := Lib.hid (bitsB_succ p[k] j hlt2)
            have HN' := Lib.hid (bitsB_no p[k] j hlt2)
            clear hr
            have hx : bitB p[k][j] = true ∨ bitB p[k][j] = false := by cases bitB p[k][j] <;> simp
            generalize hy : bitB p[k][j] = y at hx
            have HY := Lib.hid hy
            clear hy
            rcases hx with rfl | rfl
            · go_wp2_with (go_at_call 61; refine (l1In_bit _ _).mono ?_; rintro e w' ⟨rfl, rfl⟩; rw [HY.out])
              go_round
              case rel => exact ⟨j + 1, by omega, rfl, by go_num, by rw [HS'.out, HB'.out, HY.out]; rfl⟩
              case measure => simp [intOf]; omega
            · go_wp2_with (go_at_call 61; refine (l1In_bit _ _).mono ?_; rintro e w' ⟨rfl, rfl⟩; rw [HY.out])
              go_ret
              exact ⟨ret_bool (by unfold picB; rw [HN.out (by rw [HN'.out HY.out]; rfl)]; simp), rfl⟩
          · have E1 : Hid (bitsB p[k] = true) := by have := HB'.out; rwa [List.take_of_length_le (by have := Hlen.out; omega)] at this
            clear HB'
            go_wp2_with fail
            go_round
            case rel => exact ⟨k + 1, by omega, rfl, by go_num, by rw [HS.out, HB.out, E1.out, decide_eq_true Hlen.out]; rfl⟩
            case measure => simp [intOf]; omega
      · have hne : (((p[k].length : Nat) : Int) != ((p.length : Nat) : Int)) = true := by simp; omega
        go_wp2_with fail
        go_ret
        exact ⟨ret_bool (by unfold picB; rw [HN.out (by rw [decide_eq_false hlen]; simp)]; simp), rfl⟩
    · have E1 : Hid (rowsB p.length p = true) := by have := HB.out; rwa [List.take_of_length_le (by omega)] at this
      go_wp2_with (go_at_call 61; refine (l1In_any _ _ _ _).mono ?_; rintro e w' ⟨rfl, rfl⟩)
      go_ret
      exact ⟨ret_bool (by unfold picB; rw [E1.out, Bool.and_true]; congr 1 <;> (rw [Bool.eq_iff_iff]; simp; omega)), rfl⟩

set_option maxHeartbeats 400000 in
theorem specNodeOk_any (a : Option Addr) (cap : Nat) (p : List (List Int)) (n : Int) (w : World) (B C : Nat) (h : RdII w B C a p) (hl : p.length ≤ maxLen) :
    Calls Tryd.prog 55 #[.slice a p.length cap, .int .i64 n] w fun e w' => e = .returned (.bool (nodeB p n)) ∧ w = w' := by
  have H := Lib.hid h
  have HL := Lib.hid hl
  have hl' := hl
  unfold maxLen at hl'
  clear h hl
  have hx : picB p = true ∨ picB p = false := by cases picB p <;> simp
  generalize hy : picB p = y at hx
  have HY := Lib.hid hy
  clear hy
  rcases hx with rfl | rfl
  · go_enter Tryd.func55, Tryd.ntmps55
    go_wp2_with (first | (go_at_call 37; refine (specPictureOk_any _ _ _ _ B C H.out HL.out).mono ?_; rintro e w' ⟨rfl, rfl⟩; rw [HY.out]) | (go_at_call 61; refine (l1In_any _ _ _ _).mono ?_; rintro e w' ⟨rfl, rfl⟩))
    go_ret
    exact ⟨ret_bool (by unfold nodeB; rw [HY.out]; congr 1; rw [Bool.eq_iff_iff]; simp; omega), rfl⟩
  · go_enter Tryd.func55, Tryd.ntmps55
    go_wp2_with (first | (go_at_call 37; refine (specPictureOk_any _ _ _ _ B C H.out HL.out).mono ?_; rintro e w' ⟨rfl, rfl⟩; rw [HY.out]) | (go_at_call 61; refine (l1In_any _ _ _ _).mono ?_; rintro e w' ⟨rfl, rfl⟩))
    go_ret
    exact ⟨ret_bool (by unfold nodeB; rw [HY.out]; simp), rfl⟩

end Go.Proofs.YtiiohodkfipfbaaDoor
