/- The game: best moves, both ways of finding them. -/
import Derived.Test.YtodjkphelildeaaPlay
namespace Go.Hyp
/-- The moves of the first k sides. -/
def movesK (p : List (List Int)) (a b : Nat) : Nat → List (Int × Int)
  | 0 => []
  | 1 => [] ++ (arrL p a p.length).map fun m => (0, m)
  | _ + 2 => ([] ++ (arrL p a p.length).map fun m => (0, m)) ++ (arrL p b p.length).map fun m => (1, m)
/-- What MoveOf answers: the side and the member. -/
def moveS (p : List (List Int)) (a b : Int) : Int := if heldOk p a b = true then (bestM p a.toNat b.toNat).1 else -1
def moveM (p : List (List Int)) (a b : Int) : Int := if heldOk p a b = true then (bestM p a.toNat b.toNat).2 else -1
theorem move_no {p : List (List Int)} {a b : Int} (h : heldOk p a b = false) : moveS p a b = -1 ∧ moveM p a b = -1 := by
  unfold moveS moveM; rw [h]; exact ⟨rfl, rfl⟩
theorem move_yes {p : List (List Int)} {i j : Nat} (h : heldOk p i j = true) : moveS p i j = (bestM p i j).1 ∧ moveM p i j = (bestM p i j).2 := by
  unfold moveS moveM; rw [h]; exact ⟨rfl, rfl⟩
theorem heldOk_nodes2 {p : List (List Int)} {a b : Int} (h : heldOk p a b = true) : ∃ i j : Nat, a = i ∧ b = j ∧ i < p.length ∧ j < p.length ∧ picB p = true ∧ simB p i j = false := by
  unfold heldOk at h
  simp only [Bool.and_eq_true, Bool.not_eq_true'] at h
  obtain ⟨i, rfl, hi, hp⟩ := nodeB_nat h.1.1
  obtain ⟨j, rfl, hj, _⟩ := nodeB_nat h.1.2
  exact ⟨i, j, rfl, rfl, hi, hj, hp, h.2⟩
theorem movesK_all (p : List (List Int)) (a b : Nat) : movesK p a b 2 = moves p a b := rfl
end Go.Hyp
namespace Go.Proofs.Ytodjkphelildeaa
open Go.RowKit Go.Hyp Go.Deep

set_option maxRecDepth 4000 in
set_option maxHeartbeats 1000000 in
theorem moveOf_any (a : Option Addr) (cap : Nat) (p : List (List Int)) (i j : Nat) (w : World) (B C : Nat) (h : RdII w B C a p) (hC : C ≤ w.heap.size) (hs : Sq p) (hi : i < p.length) (hj : j < p.length) (hl : p.length ≤ 900) :
    Calls Try.prog 64 #[.slice a p.length cap, .int .i64 i, .int .i64 j] w fun e w' => e = .returned (.tuple #[.int .i64 (bestM p i j).1, .int .i64 (bestM p i j).2]) ∧ Below w.heap.size w w' := by
  have F := Lib.hid h
  have HS := Lib.hid hs
  clear h hs
  go_enter Try.func64, Try.ntmps64
  go_wp2_with fail
  have HX0 := Lib.hid (alloc1 w (.cells #[.int .i64 i, .int .i64 j, .int .i64 j, .int .i64 i] 88))
  have HB0 := Lib.hid (below_alloc w (.cells #[.int .i64 i, .int .i64 j, .int .i64 j, .int .i64 i] 88))
  obtain ⟨w1, hw1⟩ : ∃ w1, w1 = w.alloc (.cells #[.int .i64 i, .int .i64 j, .int .i64 j, .int .i64 i] 88) := ⟨_, rfl⟩
  rw [← hw1] at HX0 HB0 ⊢
  clear hw1
  have hz1 : w.heap.size < w1.heap.size := lt_of_block HX0.out
  go_loopw [8, 9, 10, 25] (fun s m le c wr => ∃ (k : Nat) (sv mv lv : Int), k ≤ 2 ∧ c = .int .i64 k ∧ s = .int .i64 sv ∧ m = .int .i64 mv ∧ le = .int .i64 lv ∧ fmin (moveZ p i j) 1000 (movesK p i j k) = ((sv, mv), lv) ∧ Below w1.heap.size w1 wr) (fun _ _ _ c _ => 2 - (intOf c).toNat)
  case atStart => exact ⟨0, -1, -1, 1000, by omega, rfl, rfl, rfl, rfl, rfl, Below.refl _ _⟩
  case round =>
    obtain ⟨k, sv, mv, lv, hk, rfl, rfl, rfl, rfl, hf, hb⟩ := hrel
    have HF := Lib.hid hf
    have HB := Lib.hid hb
    have HBW := Lib.hid (HB0.out.trans (hb.mono HB0.out.size))
    have X0 := hb.blk HX0.out hz1
    clear hf hb
    obtain ⟨wkk, hwkk⟩ : ∃ wkk : World, wkk.heap.size = wr.heap.size := ⟨wr, rfl⟩
    obtain rfl | rfl | rfl : k = 0 ∨ k = 1 ∨ k = 2 := by omega
    · have e0 := (blk_cell (o := 0) X0 rfl)
      have e1 := (blk_cell (o := 1) X0 rfl)
      have HXP := Lib.hid (alloc1 wr (.cells #[.int .i64 i, .int .i64 j] 88))
      have HBP := Lib.hid (HBW.out.alloc HBW.out.size (.cells #[.int .i64 i, .int .i64 j] 88))
      have HBQ := Lib.hid (HB.out.alloc HB.out.size (.cells #[.int .i64 i, .int .i64 j] 88))
      have x0w : w.heap.size < wr.heap.size := lt_of_block X0
      clear X0
      go_wp2_with fail
      refine (arrowsOf_any a cap p i _ B C (F.out.below HBP.out hC) (by have := HBW.out.size; simp; omega) HS.out hi (by omega)).mono ?_
      rintro e w3 ⟨x, c, rfl, hox, hb⟩
      have HXA := Lib.hid (hb.blk HXP.out (by simp))
      have HR := Lib.hid (hox.rd.mono (Nat.zero_le _) (Nat.le_refl _))
      have HB3 := Lib.hid (HBP.out.trans (hb.mono HBP.out.size))
      have HQ3 := Lib.hid (HBQ.out.trans (hb.mono HBQ.out.size))
      have hal := arrL_le p i p.length
      have hzp : wr.heap.size < w3.heap.size := lt_of_block HXA.out
      have hwz3 : w.heap.size ≤ w3.heap.size := HB3.out.size
      clear hox hb HXP HBP HBQ e0 e1
      go_wp2_with fail
      go_loopw [8, 9, 10, 35] (fun s m le c wi => ∃ (t : Nat) (sv mv lv : Int), t ≤ (arrL p i p.length).length ∧ c = .int .i64 t ∧ s = .int .i64 sv ∧ m = .int .i64 mv ∧ le = .int .i64 lv ∧ fmin (moveZ p i j) 1000 (movesK p i j 0 ++ ((arrL p i p.length).take t).map fun v => ((0 : Int), v)) = ((sv, mv), lv) ∧ Below w3.heap.size w3 wi) (fun _ _ _ c _ => (arrL p i p.length).length - (intOf c).toNat)
      case atStart => exact ⟨0, sv, mv, lv, Nat.zero_le _, rfl, rfl, rfl, rfl, by simpa using HF.out, Below.refl _ _⟩
      case round =>
        obtain ⟨t, sv, mv, lv, ht, rfl, rfl, rfl, rfl, hf, hb⟩ := hrel
        have HFI := Lib.hid hf
        have HBI := Lib.hid hb
        have hzi : w3.heap.size ≤ wr.heap.size := hb.size
        clear hf hb HF
        by_cases hlt : t < (arrL p i p.length).length
        · obtain ⟨b, off, rfl, _, hbC, hd⟩ := (HR.out.below HBI.out (Nat.le_refl _)).at t hlt
          obtain ⟨v, hvv, hvn, hva⟩ := arrL_at hlt
          rw [hvv] at hd
          have hnx : fmin (moveZ p i j) 1000 (movesK p i j 0 ++ ((arrL p i p.length).take (t + 1)).map fun v => ((0 : Int), v)) = if longA p v j < lv then (((0 : Int), (v : Int)), longA p v j) else ((sv, mv), lv) := by
            rw [List.take_succ_eq_append_getElem hlt, List.map_append, ← List.append_assoc, hvv]
            show fmin _ _ (_ ++ [((0 : Int), (v : Int))]) = _
            rw [fmin_snoc, HFI.out]
            rfl
          have HNX := Lib.hid hnx
          have HX4 := HBI.out.blk HXA.out hzp
          obtain ⟨q0, q1, _, _⟩ := blk2 HX4
          have HBR := Lib.hid (HB3.out.trans (HBI.out.mono hwz3))
          have HQR := Lib.hid (HQ3.out.trans (HBI.out.mono HQ3.out.size))
          have hzw := HBR.out.size
          have hpw : wkk.heap.size < wr.heap.size := by omega
          clear hvv hnx HX4
          go_wp2_with fail
          refine (answerTo_any a cap p v j wr B C (F.out.below HBR.out hC) (by omega) HS.out hvn hj (by omega)).mono ?_
          rintro e w5 ⟨rfl, hb5⟩
          have HB5 := Lib.hid (HBI.out.trans (hb5.mono hzi))
          have HBR5 := Lib.hid (HBR.out.trans (hb5.mono hzw))
          have hzw5 := HBR5.out.size
          clear hb5 q0 q1
          by_cases he : arrL p j p.length = []
          · obtain ⟨n1, n2⟩ := bestA_none (m := v) he
            rw [n1]
            rw [n2] at HNX
            clear n1 n2 he
            by_cases hgt : (-1 : Int) < lv
            · go_wp2_with fail
              go_roundw
              case rel => exact ⟨t + 1, 0, v, -1, by omega, by go_num, rfl, rfl, rfl, by rw [HNX.out, if_pos hgt], HB5.out⟩
              case measure => simp [intOf]; omega
            · go_wp2_with fail
              go_roundw
              case rel => exact ⟨t + 1, sv, mv, lv, by omega, by go_num, rfl, rfl, rfl, by rw [HNX.out, if_neg (Int.not_lt.2 (by omega))], HB5.out⟩
              case measure => simp [intOf]; omega
          · obtain ⟨u, u1, u2, _, u4, _⟩ := bestA_some (m := v) he
            rw [u1]
            rw [u4] at HNX
            clear u1 u4 he
            go_wp2_with fail
            refine (heldFor_any a cap p v u w5 B C (F.out.below HBR5.out hC) (by omega) HS.out hvn u2 (by omega)).mono ?_
            rintro e w6 ⟨rfl, hb6⟩
            have HB6 := Lib.hid (HB5.out.trans (hb6.mono HB5.out.size))
            clear hb6
            by_cases hgt : (heldN p v u : Int) < lv
            · go_wp2_with fail
              go_roundw
              case rel => exact ⟨t + 1, 0, v, heldN p v u, by omega, by go_num, rfl, rfl, rfl, by rw [HNX.out, if_pos hgt], HB6.out⟩
              case measure => simp [intOf]; omega
            · go_wp2_with fail
              go_roundw
              case rel => exact ⟨t + 1, sv, mv, lv, by omega, by go_num, rfl, rfl, rfl, by rw [HNX.out, if_neg (Int.not_lt.2 (by omega))], HB6.out⟩
              case measure => simp [intOf]; omega
        · obtain rfl : t = (arrL p i p.length).length := by omega
          have HFE : Hid (fmin (moveZ p i j) 1000 (movesK p i j 1) = ((sv, mv), lv)) := Lib.hid (by
            have := HFI.out
            rw [List.take_of_length_le (Nat.le_refl _)] at this
            exact this)
          go_wp2_with fail
          go_roundw
          case rel => exact ⟨1, sv, mv, lv, by omega, by go_num, rfl, rfl, rfl, HFE.out, HQ3.out.trans (HBI.out.mono HQ3.out.size)⟩
          case measure => simp [intOf]
    · have e0 := (blk_cell (o := 2) X0 rfl)
      have e1 := (blk_cell (o := 3) X0 rfl)
      have HXP := Lib.hid (alloc1 wr (.cells #[.int .i64 j, .int .i64 i] 88))
      have HBP := Lib.hid (HBW.out.alloc HBW.out.size (.cells #[.int .i64 j, .int .i64 i] 88))
      have HBQ := Lib.hid (HB.out.alloc HB.out.size (.cells #[.int .i64 j, .int .i64 i] 88))
      have x0w : w.heap.size < wr.heap.size := lt_of_block X0
      clear X0
      go_wp2_with fail
      refine (arrowsOf_any a cap p j _ B C (F.out.below HBP.out hC) (by have := HBW.out.size; simp; omega) HS.out hj (by omega)).mono ?_
      rintro e w3 ⟨x, c, rfl, hox, hb⟩
      have HXA := Lib.hid (hb.blk HXP.out (by simp))
      have HR := Lib.hid (hox.rd.mono (Nat.zero_le _) (Nat.le_refl _))
      have HB3 := Lib.hid (HBP.out.trans (hb.mono HBP.out.size))
      have HQ3 := Lib.hid (HBQ.out.trans (hb.mono HBQ.out.size))
      have hal := arrL_le p j p.length
      have hzp : wr.heap.size < w3.heap.size := lt_of_block HXA.out
      have hwz3 : w.heap.size ≤ w3.heap.size := HB3.out.size
      clear hox hb HXP HBP HBQ e0 e1
      go_wp2_with fail
      go_loopw [8, 9, 10, 35] (fun s m le c wi => ∃ (t : Nat) (sv mv lv : Int), t ≤ (arrL p j p.length).length ∧ c = .int .i64 t ∧ s = .int .i64 sv ∧ m = .int .i64 mv ∧ le = .int .i64 lv ∧ fmin (moveZ p i j) 1000 (movesK p i j 1 ++ ((arrL p j p.length).take t).map fun v => ((1 : Int), v)) = ((sv, mv), lv) ∧ Below w3.heap.size w3 wi) (fun _ _ _ c _ => (arrL p j p.length).length - (intOf c).toNat)
      case atStart => exact ⟨0, sv, mv, lv, Nat.zero_le _, rfl, rfl, rfl, rfl, by simpa using HF.out, Below.refl _ _⟩
      case round =>
        obtain ⟨t, sv, mv, lv, ht, rfl, rfl, rfl, rfl, hf, hb⟩ := hrel
        have HFI := Lib.hid hf
        have HBI := Lib.hid hb
        have hzi : w3.heap.size ≤ wr.heap.size := hb.size
        clear hf hb HF
        by_cases hlt : t < (arrL p j p.length).length
        · obtain ⟨b, off, rfl, _, hbC, hd⟩ := (HR.out.below HBI.out (Nat.le_refl _)).at t hlt
          obtain ⟨v, hvv, hvn, hva⟩ := arrL_at hlt
          rw [hvv] at hd
          have hnx : fmin (moveZ p i j) 1000 (movesK p i j 1 ++ ((arrL p j p.length).take (t + 1)).map fun v => ((1 : Int), v)) = if longA p v i < lv then (((1 : Int), (v : Int)), longA p v i) else ((sv, mv), lv) := by
            rw [List.take_succ_eq_append_getElem hlt, List.map_append, ← List.append_assoc, hvv]
            show fmin _ _ (_ ++ [((1 : Int), (v : Int))]) = _
            rw [fmin_snoc, HFI.out]
            rfl
          have HNX := Lib.hid hnx
          have HX4 := HBI.out.blk HXA.out hzp
          obtain ⟨q0, q1, _, _⟩ := blk2 HX4
          have HBR := Lib.hid (HB3.out.trans (HBI.out.mono hwz3))
          have HQR := Lib.hid (HQ3.out.trans (HBI.out.mono HQ3.out.size))
          have hzw := HBR.out.size
          have hpw : wkk.heap.size < wr.heap.size := by omega
          clear hvv hnx HX4
          go_wp2_with fail
          refine (answerTo_any a cap p v i wr B C (F.out.below HBR.out hC) (by omega) HS.out hvn hi (by omega)).mono ?_
          rintro e w5 ⟨rfl, hb5⟩
          have HB5 := Lib.hid (HBI.out.trans (hb5.mono hzi))
          have HBR5 := Lib.hid (HBR.out.trans (hb5.mono hzw))
          have hzw5 := HBR5.out.size
          clear hb5 q0 q1
          by_cases he : arrL p i p.length = []
          · obtain ⟨n1, n2⟩ := bestA_none (m := v) he
            rw [n1]
            rw [n2] at HNX
            clear n1 n2 he
            by_cases hgt : (-1 : Int) < lv
            · go_wp2_with fail
              go_roundw
              case rel => exact ⟨t + 1, 1, v, -1, by omega, by go_num, rfl, rfl, rfl, by rw [HNX.out, if_pos hgt], HB5.out⟩
              case measure => simp [intOf]; omega
            · go_wp2_with fail
              go_roundw
              case rel => exact ⟨t + 1, sv, mv, lv, by omega, by go_num, rfl, rfl, rfl, by rw [HNX.out, if_neg (Int.not_lt.2 (by omega))], HB5.out⟩
              case measure => simp [intOf]; omega
          · obtain ⟨u, u1, u2, _, u4, _⟩ := bestA_some (m := v) he
            rw [u1]
            rw [u4] at HNX
            clear u1 u4 he
            go_wp2_with fail
            refine (heldFor_any a cap p v u w5 B C (F.out.below HBR5.out hC) (by omega) HS.out hvn u2 (by omega)).mono ?_
            rintro e w6 ⟨rfl, hb6⟩
            have HB6 := Lib.hid (HB5.out.trans (hb6.mono HB5.out.size))
            clear hb6
            by_cases hgt : (heldN p v u : Int) < lv
            · go_wp2_with fail
              go_roundw
              case rel => exact ⟨t + 1, 1, v, heldN p v u, by omega, by go_num, rfl, rfl, rfl, by rw [HNX.out, if_pos hgt], HB6.out⟩
              case measure => simp [intOf]; omega
            · go_wp2_with fail
              go_roundw
              case rel => exact ⟨t + 1, sv, mv, lv, by omega, by go_num, rfl, rfl, rfl, by rw [HNX.out, if_neg (Int.not_lt.2 (by omega))], HB6.out⟩
              case measure => simp [intOf]; omega
        · obtain rfl : t = (arrL p j p.length).length := by omega
          have HFE : Hid (fmin (moveZ p i j) 1000 (movesK p i j 2) = ((sv, mv), lv)) := Lib.hid (by
            have := HFI.out
            rw [List.take_of_length_le (Nat.le_refl _)] at this
            exact this)
          go_wp2_with fail
          go_roundw
          case rel => exact ⟨2, sv, mv, lv, by omega, by go_num, rfl, rfl, rfl, HFE.out, HQ3.out.trans (HBI.out.mono HQ3.out.size)⟩
          case measure => simp [intOf]
    · have e := HF.out
      clear X0
      go_wp2_with fail
      go_ret2
      have hm : bestM p i j = (sv, mv) := by
        show (fmin (moveZ p i j) 1000 (movesK p i j 2)).1 = _
        rw [e]
      exact ⟨by rw [hm]; rfl, HBW.out⟩

set_option maxRecDepth 4000 in
set_option maxHeartbeats 800000 in
theorem implMoveOf_any (a : Option Addr) (cap : Nat) (p : List (List Int)) (i j : Int) (w : World) (B C : Nat) (h : RdII w B C a p) (hC : C ≤ w.heap.size) (hl : p.length ≤ maxLen) :
    Calls Try.prog 24 #[.slice a p.length cap, .int .i64 i, .int .i64 j] w fun e w' => e = .returned (.tuple #[.int .i64 (moveS p i j), .int .i64 (moveM p i j), .bool (heldOk p i j)]) ∧ Below w.heap.size w w' := by
  have F := Lib.hid h
  have HL := Lib.hid hl
  unfold maxLen at hl
  clear h
  have HN := fun n => Lib.hid (hasNode_any a cap p n w B C F.out HL.out)
  cases h1 : nodeB p i
  · have e1 : heldOk p i j = false := by unfold heldOk; rw [h1]; rfl
    have E1 := Lib.hid e1
    have E2 := Lib.hid (move_no e1)
    have H1 := Lib.hid h1
    clear h1 e1
    go_enter Try.func24, Try.ntmps24
    go_wp2_with fail
    refine (HN i).out.mono ?_
    rintro e w' ⟨rfl, rfl⟩
    rw [H1.out]
    go_wp2_with fail
    go_ret3
    exact ⟨by rw [E1.out, E2.out.1, E2.out.2]; rfl, Below.refl _ _⟩
  · cases h2 : nodeB p j
    · have e1 : heldOk p i j = false := by unfold heldOk; rw [h1, h2]; rfl
      have E1 := Lib.hid e1
      have E2 := Lib.hid (move_no e1)
      have H1 := Lib.hid h1
      have H2 := Lib.hid h2
      clear h1 h2 e1
      go_enter Try.func24, Try.ntmps24
      go_wp2_with fail
      refine (HN i).out.mono ?_
      rintro e w' ⟨rfl, rfl⟩
      rw [H1.out]
      go_wp2_with fail
      refine (HN j).out.mono ?_
      rintro e w' ⟨rfl, rfl⟩
      rw [H2.out]
      go_wp2_with fail
      go_ret3
      exact ⟨by rw [E1.out, E2.out.1, E2.out.2]; rfl, Below.refl _ _⟩
    · obtain ⟨n, rfl, hn, hp⟩ := nodeB_nat h1
      obtain ⟨m, rfl, hm, _⟩ := nodeB_nat h2
      obtain ⟨sq, s1, s5⟩ := picB_sq hp
      have HS := Lib.hid sq
      have H1 := Lib.hid h1
      have H2 := Lib.hid h2
      have hok : heldOk p n m = !simB p n m := by unfold heldOk; rw [h1, h2]; rfl
      cases h3 : simB p n m
      · have e1 : heldOk p n m = true := by rw [hok, h3]; rfl
        have E1 := Lib.hid e1
        have E2 := Lib.hid (move_yes e1)
        obtain ⟨hlt, _, _⟩ := heldN_apart h3
        have hne : ((heldN p n m : Int) == 1000) = false := beq_eq_false_iff_ne.2 (by omega)
        clear h1 h2 h3 e1 sq hp hok
        go_enter Try.func24, Try.ntmps24
        go_wp2_with fail
        refine (HN n).out.mono ?_
        rintro e w' ⟨rfl, rfl⟩
        rw [H1.out]
        go_wp2_with fail
        refine (HN m).out.mono ?_
        rintro e w' ⟨rfl, rfl⟩
        rw [H2.out]
        go_wp2_with fail
        refine (heldFor_any a cap p n m _ B C F.out hC HS.out hn hm (by omega)).mono ?_
        rintro e w1 ⟨rfl, hb⟩
        have HB := Lib.hid hb
        clear hb
        go_wp2_with fail
        refine (moveOf_any a cap p n m w1 B C (F.out.below HB.out hC) (Nat.le_trans hC HB.out.size) HS.out hn hm (by omega)).mono ?_
        rintro e w2 ⟨rfl, hb⟩
        go_wp2_with fail
        go_ret3
        exact ⟨by rw [E1.out, E2.out.1, E2.out.2]; rfl, HB.out.trans (hb.mono HB.out.size)⟩
      · have e1 : heldOk p n m = false := by rw [hok, h3]; rfl
        have E1 := Lib.hid e1
        have E2 := Lib.hid (move_no e1)
        have hne : ((heldN p n m : Int) == 1000) = true := by rw [(heldN_sim hn hm h3).1]; rfl
        clear h1 h2 h3 e1 sq hp hok
        go_enter Try.func24, Try.ntmps24
        go_wp2_with fail
        refine (HN n).out.mono ?_
        rintro e w' ⟨rfl, rfl⟩
        rw [H1.out]
        go_wp2_with fail
        refine (HN m).out.mono ?_
        rintro e w' ⟨rfl, rfl⟩
        rw [H2.out]
        go_wp2_with fail
        refine (heldFor_any a cap p n m _ B C F.out hC HS.out hn hm (by omega)).mono ?_
        rintro e w1 ⟨rfl, hb⟩
        go_wp2_with fail
        go_ret3
        exact ⟨by rw [E1.out, E2.out.1, E2.out.2]; rfl, hb⟩

set_option maxRecDepth 4000 in
set_option maxHeartbeats 1600000 in
theorem specMoveOf_any (a : Option Addr) (cap : Nat) (p : List (List Int)) (ai bi : Int) (w : World) (B C : Nat) (h : RdII w B C a p) (hC : C ≤ w.heap.size) (hl : p.length ≤ maxLen) :
    Calls Try.prog 23 #[.slice a p.length cap, .int .i64 ai, .int .i64 bi] w fun e w' => e = .returned (.tuple #[.int .i64 (moveS p ai bi), .int .i64 (moveM p ai bi), .bool (heldOk p ai bi)]) ∧ Below w.heap.size w w' := by
  have F := Lib.hid h
  have HL := Lib.hid hl
  unfold maxLen at hl
  clear h
  have hcall := specHeldFor_any a cap p ai bi w B C F.out hC HL.out
  cases hok : heldOk p ai bi
  · have E2 := Lib.hid (move_no hok)
    rw [hok] at hcall
    have HC := Lib.hid hcall
    clear hok hcall
    go_enter Try.func23, Try.ntmps23
    go_wp2_with fail
    refine HC.out.mono ?_
    rintro e w1 ⟨rfl, hb⟩
    have HB := Lib.hid hb
    clear hb
    go_wp2_with fail
    go_loopw [11, 12, 13, 14] (fun s m l c wr => s = .int .i64 (-1) ∧ m = .int .i64 (-1) ∧ l = .int .i64 6 ∧ c = .int .i64 0 ∧ wr = w1) (fun _ _ _ _ _ => 0)
    case atStart => exact ⟨rfl, rfl, rfl, rfl, rfl⟩
    case round =>
      obtain ⟨rfl, rfl, rfl, rfl, rfl⟩ := hrel
      go_wp2_with fail
      go_ret3
      exact ⟨by rw [E2.out.1, E2.out.2]; rfl, HB.out⟩
  · obtain ⟨i, j, rfl, rfl, hi, hj, hp, hs⟩ := heldOk_nodes2 hok
    have E2 := Lib.hid (move_yes hok)
    obtain ⟨sq, s1, s5⟩ := picB_sq hp
    obtain ⟨_, _, hbm⟩ := bestM_spec s5 hs
    have HBM := Lib.hid hbm
    rw [hok] at hcall
    have HC := Lib.hid hcall
    have HP := Lib.hid hp
    have HS := Lib.hid sq
    clear hok hcall hp sq hs hbm
    go_enter Try.func23, Try.ntmps23
    go_wp2_with fail
    refine HC.out.mono ?_
    rintro e w1 ⟨rfl, hb⟩
    have HB1 := Lib.hid hb
    have hz1 : w.heap.size ≤ w1.heap.size := hb.size
    clear hb
    go_wp2_with fail
    go_loopw [11, 12, 13, 14] (fun s m le c wr => ∃ (k : Nat) (sv mv lv : Int), k ≤ 2 ∧ c = .int .i64 k ∧ s = .int .i64 sv ∧ m = .int .i64 mv ∧ le = .int .i64 lv ∧ fmin (move5 p i j) 6 (movesK p i j k) = ((sv, mv), lv) ∧ Below w.heap.size w wr) (fun _ _ _ c _ => 2 - (intOf c).toNat)
    case atStart => exact ⟨0, -1, -1, 6, by omega, rfl, rfl, rfl, rfl, rfl, HB1.out⟩
    case round =>
      obtain ⟨k, sv, mv, lv, hk, rfl, rfl, rfl, rfl, hf, hb⟩ := hrel
      have HF := Lib.hid hf
      have HB := Lib.hid hb
      clear hf hb
      obtain rfl | rfl | rfl : k = 0 ∨ k = 1 ∨ k = 2 := by omega
      · go_wp2_with fail
        refine (l6Arrows_any a cap p i wr B C (F.out.below HB.out hC) (Nat.le_trans hC HB.out.size) HS.out hi (by omega)).mono ?_
        rintro e w3 ⟨x, c, rfl, hox, hb⟩
        have HR := Lib.hid (hox.rd.mono (Nat.zero_le _) (Nat.le_refl _))
        have HB3 := Lib.hid (HB.out.trans (hb.mono HB.out.size))
        have hal := arrL_le p i p.length
        have hwz3 : w.heap.size ≤ w3.heap.size := HB3.out.size
        clear hox hb
        go_wp2_with fail
        go_loopw [11, 12, 13, 18] (fun s m le c wi => ∃ (t : Nat) (sv mv lv : Int), t ≤ (arrL p i p.length).length ∧ c = .int .i64 t ∧ s = .int .i64 sv ∧ m = .int .i64 mv ∧ le = .int .i64 lv ∧ fmin (move5 p i j) 6 (movesK p i j 0 ++ ((arrL p i p.length).take t).map fun v => ((0 : Int), v)) = ((sv, mv), lv) ∧ Below w3.heap.size w3 wi) (fun _ _ _ c _ => (arrL p i p.length).length - (intOf c).toNat)
        case atStart => exact ⟨0, sv, mv, lv, Nat.zero_le _, rfl, rfl, rfl, rfl, by simpa using HF.out, Below.refl _ _⟩
        case round =>
          obtain ⟨t, sv, mv, lv, ht, rfl, rfl, rfl, rfl, hf, hb⟩ := hrel
          have HFI := Lib.hid hf
          have HBI := Lib.hid hb
          have hzi : w3.heap.size ≤ wr.heap.size := hb.size
          clear hf hb HF
          by_cases hlt : t < (arrL p i p.length).length
          · obtain ⟨b, off, rfl, _, hbC, hd⟩ := (HR.out.below HBI.out (Nat.le_refl _)).at t hlt
            obtain ⟨v, hvv, hvn, hva⟩ := arrL_at hlt
            rw [hvv] at hd
            obtain ⟨L, hL⟩ : ∃ L, L = phi (longA p v j) := ⟨_, rfl⟩
            have hnx : fmin (move5 p i j) 6 (movesK p i j 0 ++ ((arrL p i p.length).take (t + 1)).map fun v => ((0 : Int), v)) = if L < lv then (((0 : Int), (v : Int)), L) else ((sv, mv), lv) := by
              rw [List.take_succ_eq_append_getElem hlt, List.map_append, ← List.append_assoc, hvv, hL]
              show fmin _ _ (_ ++ [((0 : Int), (v : Int))]) = _
              rw [fmin_snoc, HFI.out]
              rfl
            have HNX := Lib.hid hnx
            have HBR := Lib.hid (HB3.out.trans (HBI.out.mono hwz3))
            have hzw := HBR.out.size
            have hcl := l7Best_any a cap p v j wr B C (F.out.below HBR.out hC) (by omega) HP.out hvn hj
            rw [← hL] at hcl
            have HCL := Lib.hid hcl
            have hbw : b < wr.heap.size := by omega
            clear hvv hnx hL hcl
            by_cases hgt : L < lv
            all_goals
              go_wp2_with fail
              refine HCL.out.mono ?_
              rintro e w5 ⟨rfl, hb5⟩
              have HB5 := Lib.hid (HBI.out.trans (hb5.mono hzi))
              have hd5 := (bcell hb5).1 b (off + t) hbw
              rw [hd] at hd5
              have hbw5 : b < w5.heap.size := by have := hb5.size; omega
              clear hb5
              go_wp2_with fail
              go_roundw
              case rel => first | exact ⟨t + 1, 0, v, L, by omega, by go_num, rfl, rfl, rfl, by rw [HNX.out, if_pos hgt], HB5.out⟩ | exact ⟨t + 1, sv, mv, lv, by omega, by go_num, rfl, rfl, rfl, by rw [HNX.out, if_neg (Int.not_lt.2 (by omega))], HB5.out⟩
              case measure => simp [intOf]; omega
          · obtain rfl : t = (arrL p i p.length).length := by omega
            have HFE : Hid (fmin (move5 p i j) 6 (movesK p i j 1) = ((sv, mv), lv)) := Lib.hid (by
              have := HFI.out
              rw [List.take_of_length_le (Nat.le_refl _)] at this
              exact this)
            go_wp2_with fail
            go_roundw
            case rel => exact ⟨1, sv, mv, lv, by omega, by go_num, rfl, rfl, rfl, HFE.out, HB3.out.trans (HBI.out.mono hwz3)⟩
            case measure => simp [intOf]
      · go_wp2_with fail
        refine (l6Arrows_any a cap p j wr B C (F.out.below HB.out hC) (Nat.le_trans hC HB.out.size) HS.out hj (by omega)).mono ?_
        rintro e w3 ⟨x, c, rfl, hox, hb⟩
        have HR := Lib.hid (hox.rd.mono (Nat.zero_le _) (Nat.le_refl _))
        have HB3 := Lib.hid (HB.out.trans (hb.mono HB.out.size))
        have hal := arrL_le p j p.length
        have hwz3 : w.heap.size ≤ w3.heap.size := HB3.out.size
        clear hox hb
        go_wp2_with fail
        go_loopw [11, 12, 13, 18] (fun s m le c wi => ∃ (t : Nat) (sv mv lv : Int), t ≤ (arrL p j p.length).length ∧ c = .int .i64 t ∧ s = .int .i64 sv ∧ m = .int .i64 mv ∧ le = .int .i64 lv ∧ fmin (move5 p i j) 6 (movesK p i j 1 ++ ((arrL p j p.length).take t).map fun v => ((1 : Int), v)) = ((sv, mv), lv) ∧ Below w3.heap.size w3 wi) (fun _ _ _ c _ => (arrL p j p.length).length - (intOf c).toNat)
        case atStart => exact ⟨0, sv, mv, lv, Nat.zero_le _, rfl, rfl, rfl, rfl, by simpa using HF.out, Below.refl _ _⟩
        case round =>
          obtain ⟨t, sv, mv, lv, ht, rfl, rfl, rfl, rfl, hf, hb⟩ := hrel
          have HFI := Lib.hid hf
          have HBI := Lib.hid hb
          have hzi : w3.heap.size ≤ wr.heap.size := hb.size
          clear hf hb HF
          by_cases hlt : t < (arrL p j p.length).length
          · obtain ⟨b, off, rfl, _, hbC, hd⟩ := (HR.out.below HBI.out (Nat.le_refl _)).at t hlt
            obtain ⟨v, hvv, hvn, hva⟩ := arrL_at hlt
            rw [hvv] at hd
            obtain ⟨L, hL⟩ : ∃ L, L = phi (longA p v i) := ⟨_, rfl⟩
            have hnx : fmin (move5 p i j) 6 (movesK p i j 1 ++ ((arrL p j p.length).take (t + 1)).map fun v => ((1 : Int), v)) = if L < lv then (((1 : Int), (v : Int)), L) else ((sv, mv), lv) := by
              rw [List.take_succ_eq_append_getElem hlt, List.map_append, ← List.append_assoc, hvv, hL]
              show fmin _ _ (_ ++ [((1 : Int), (v : Int))]) = _
              rw [fmin_snoc, HFI.out]
              rfl
            have HNX := Lib.hid hnx
            have HBR := Lib.hid (HB3.out.trans (HBI.out.mono hwz3))
            have hzw := HBR.out.size
            have hcl := l7Best_any a cap p v i wr B C (F.out.below HBR.out hC) (by omega) HP.out hvn hi
            rw [← hL] at hcl
            have HCL := Lib.hid hcl
            have hbw : b < wr.heap.size := by omega
            clear hvv hnx hL hcl
            by_cases hgt : L < lv
            all_goals
              go_wp2_with fail
              refine HCL.out.mono ?_
              rintro e w5 ⟨rfl, hb5⟩
              have HB5 := Lib.hid (HBI.out.trans (hb5.mono hzi))
              have hd5 := (bcell hb5).1 b (off + t) hbw
              rw [hd] at hd5
              have hbw5 : b < w5.heap.size := by have := hb5.size; omega
              clear hb5
              go_wp2_with fail
              go_roundw
              case rel => first | exact ⟨t + 1, 1, v, L, by omega, by go_num, rfl, rfl, rfl, by rw [HNX.out, if_pos hgt], HB5.out⟩ | exact ⟨t + 1, sv, mv, lv, by omega, by go_num, rfl, rfl, rfl, by rw [HNX.out, if_neg (Int.not_lt.2 (by omega))], HB5.out⟩
              case measure => simp [intOf]; omega
          · obtain rfl : t = (arrL p j p.length).length := by omega
            have HFE : Hid (fmin (move5 p i j) 6 (movesK p i j 2) = ((sv, mv), lv)) := Lib.hid (by
              have := HFI.out
              rw [List.take_of_length_le (Nat.le_refl _)] at this
              exact this)
            go_wp2_with fail
            go_roundw
            case rel => exact ⟨2, sv, mv, lv, by omega, by go_num, rfl, rfl, rfl, HFE.out, HB3.out.trans (HBI.out.mono hwz3)⟩
            case measure => simp [intOf]
      · have e := HF.out
        go_wp2_with fail
        go_ret3
        have hm : bestM p i j = (sv, mv) := by
          rw [← HBM.out]
          show (fmin (move5 p i j) 6 (movesK p i j 2)).1 = _
          rw [e]
        rw [E2.out.1, E2.out.2, hm]
        exact ⟨rfl, HB.out⟩
end Go.Proofs.Ytodjkphelildeaa
