/- The reference's SameStreams, walked. -/
import Derived.Deep.RegionHeld3
import Derived.Test.YtgfoolneophkcaaM4
import Derived.Test.YtgfoolneophkcaaM1
namespace Go.Hyp
/-- Two streams are streams, and the same. -/
def SameP (l1 l2 m1 m2 : List Int) : Prop := streamB l1 l2 = true ∧ streamB m1 m2 = true ∧ bitOf l1 l2 = bitOf m1 m2
end Go.Hyp
namespace Go.Proofs.Ytgfoolneophkcaa
open Go.RowKit Go.Hyp Go.Deep

set_option maxRecDepth 4000 in
set_option maxHeartbeats 1200000 in
theorem specSame_any (a1 a2 b1 b2 : Option Addr) (c1 c2 d1 d2 : Nat) (l1 l2 m1 m2 : List Int) (w : World) (B C : Nat) (h1 : RdI w B C a1 l1) (h2 : RdI w B C a2 l2) (h3 : RdI w B C b1 m1) (h4 : RdI w B C b2 m2) (hC : C ≤ w.heap.size)
    (hl1 : l1.length ≤ 1048576) (hl2 : l2.length ≤ 1048576) (hm1 : m1.length ≤ 1048576) (hm2 : m2.length ≤ 1048576) :
    Calls Try.prog 21 #[.agg #[.slice a1 l1.length c1, .slice a2 l2.length c2], .agg #[.slice b1 m1.length d1, .slice b2 m2.length d2]] w fun e w' => ∃ b : Bool, e = .returned (.bool b) ∧ (b = true ↔ SameP l1 l2 m1 m2) ∧ Below w.heap.size w w' := by
  have hb := (below_alloc w (.cells #[.slice a1 l1.length c1, .slice a2 l2.length c2] 34)).alloc (by simp) (.cells #[.slice b1 m1.length d1, .slice b2 m2.length d2] 34)
  have b0 := alloc2 w (.cells #[.slice a1 l1.length c1, .slice a2 l2.length c2] 34) (.cells #[.slice b1 m1.length d1, .slice b2 m2.length d2] 34)
  have F1 := Lib.hid h1
  have F2 := Lib.hid h2
  have F3 := Lib.hid h3
  have F4 := Lib.hid h4
  have HB := Lib.hid hb
  have B0 := Lib.hid b0
  clear h1 h2 h3 h4 hb b0
  cases hx : streamB l1 l2
  · have HX := Lib.hid hx
    clear hx
    go_enter Try.func21, Try.ntmps21
    go_wp2_with fail
    refine (specStreamOk_any a1 a2 c1 c2 l1 l2 _ B C B C (F1.out.below HB.out hC) (F2.out.below HB.out hC) (by simp; omega) (by simp; omega) hl1 hl2).mono ?_
    rintro e w1 ⟨rfl, hb1⟩
    rw [HX.out]
    have H1 := Lib.hid (below_trans HB.out (hb1.mono (by first | (simp; done) | (simp; omega))))
    clear hb1
    go_wp2_with fail
    go_ret
    exact ⟨false, rfl, ⟨(fun h => by cases h), (fun h => by have := h.1; rw [HX.out] at this; cases this)⟩, H1.out⟩
  · have HX := Lib.hid hx
    clear hx
    cases hy : streamB m1 m2
    · have HY := Lib.hid hy
      clear hy
      go_enter Try.func21, Try.ntmps21
      go_wp2_with fail
      refine (specStreamOk_any a1 a2 c1 c2 l1 l2 _ B C B C (F1.out.below HB.out hC) (F2.out.below HB.out hC) (by simp; omega) (by simp; omega) hl1 hl2).mono ?_
      rintro e w1 ⟨rfl, hb1⟩
      rw [HX.out]
      have x2 := hb1.blk B0.out.2 (by simp)
      obtain ⟨q1, q2, q3, q4⟩ := blk2 x2
      have H1 := Lib.hid (below_trans HB.out (hb1.mono (by first | (simp; done) | (simp; omega))))
      have hz1 : w.heap.size + 2 ≤ w1.heap.size := by have := hb1.size; simpa using this
      clear hb1 x2
      go_wp2_with fail
      refine (specStreamOk_any b1 b2 d1 d2 m1 m2 w1 B C B C (F3.out.below H1.out hC) (F4.out.below H1.out hC) (by omega) (by omega) hm1 hm2).mono ?_
      rintro e w2 ⟨rfl, hb2⟩
      rw [HY.out]
      have H2 := Lib.hid (below_trans H1.out (hb2.mono (by omega)))
      clear hb2
      go_wp2_with fail
      go_ret
      exact ⟨false, rfl, ⟨(fun h => by cases h), (fun h => by have := h.2.1; rw [HY.out] at this; cases this)⟩, H2.out⟩
    · have HY := Lib.hid hy
      clear hy
      go_enter Try.func21, Try.ntmps21
      go_wp2_with fail
      refine (specStreamOk_any a1 a2 c1 c2 l1 l2 _ B C B C (F1.out.below HB.out hC) (F2.out.below HB.out hC) (by simp; omega) (by simp; omega) hl1 hl2).mono ?_
      rintro e w1 ⟨rfl, hb1⟩
      rw [HX.out]
      have x1 := hb1.blk B0.out.1 (by simp; omega)
      have x2 := hb1.blk B0.out.2 (by simp)
      obtain ⟨q1, q2, q3, q4⟩ := blk2 x2
      have X1 := Lib.hid x1
      have X2 := Lib.hid x2
      have H1 := Lib.hid (below_trans HB.out (hb1.mono (by first | (simp; done) | (simp; omega))))
      have hz1 : w.heap.size + 2 ≤ w1.heap.size := by have := hb1.size; simpa using this
      clear hb1 x1 x2
      go_wp2_with fail
      refine (specStreamOk_any b1 b2 d1 d2 m1 m2 w1 B C B C (F3.out.below H1.out hC) (F4.out.below H1.out hC) (by omega) (by omega) hm1 hm2).mono ?_
      rintro e w2 ⟨rfl, hb2⟩
      rw [HY.out]
      have Y1 := Lib.hid (hb2.blk X1.out (by omega))
      have Y2 := Lib.hid (hb2.blk X2.out (by omega))
      have H2 := Lib.hid (below_trans H1.out (hb2.mono (by omega)))
      have hz2 : w.heap.size + 2 ≤ w2.heap.size := by have := hb2.size; omega
      clear hb2 q1 q2 q3 q4 X1 X2 H1
      go_wp2_with fail
      go_loopw [4, 5] (fun r i wr => ∃ k : Nat, r = .bool false ∧ i = .int .i64 k ∧ k ≤ 156 ∧ (∀ i, i < k → bitOf l1 l2 i = bitOf m1 m2 i) ∧ wr.heap[w.heap.size]? = some (.cells #[.slice a1 l1.length c1, .slice a2 l2.length c2] 34 (0, 0)) ∧
        wr.heap[w.heap.size + 1]? = some (.cells #[.slice b1 m1.length d1, .slice b2 m2.length d2] 34 (0, 0)) ∧ Below w.heap.size w wr ∧ w.heap.size + 2 ≤ wr.heap.size) (fun _ i _ => 156 - (intOf i).toNat)
      case atStart => exact ⟨0, rfl, rfl, by omega, fun i hi => by omega, Y1.out, Y2.out, H2.out, hz2⟩
      case round =>
        obtain ⟨k, rfl, rfl, hk, he, y1, y2, hb, hz⟩ := hrel
        obtain ⟨p1, p2, p3, p4⟩ := blk2 y1
        obtain ⟨q1, q2, q3, q4⟩ := blk2 y2
        have HE := Lib.hid he
        have Y1' := Lib.hid y1
        have Y2' := Lib.hid y2
        have HBR := Lib.hid hb
        clear he y1 y2 hb Y1 Y2 H2 hz2
        by_cases hlt : k < 156
        · have HA : Hid (bitAtI l1 l2 k = bitOf l1 l2 k) := by
            have : (streamB l1 l2 && (decide (0 ≤ (k : Int)) && decide ((k : Int) ≤ 999))) = true := by rw [HX.out]; simp; omega
            have e : bitAtI l1 l2 k = bitOf l1 l2 k := by unfold bitAtI; rw [if_pos this]; simp
            exact Lib.hid e
          have HA2 : Hid (bitAtI m1 m2 k = bitOf m1 m2 k) := by
            have : (streamB m1 m2 && (decide (0 ≤ (k : Int)) && decide ((k : Int) ≤ 999))) = true := by rw [HY.out]; simp; omega
            have e : bitAtI m1 m2 k = bitOf m1 m2 k := by unfold bitAtI; rw [if_pos this]; simp
            exact Lib.hid e
          have hCr : C ≤ wr.heap.size := by omega
          have G1 := Lib.hid (F1.out.below HBR.out.drew hC)
          have G2 := Lib.hid (F2.out.below HBR.out.drew hC)
          have hcmp : ((bitOf l1 l2 k != bitOf m1 m2 k) = false ∧ bitOf l1 l2 k = bitOf m1 m2 k) ∨ ((bitOf l1 l2 k != bitOf m1 m2 k) = true ∧ ¬ bitOf l1 l2 k = bitOf m1 m2 k) := by by_cases e : bitOf l1 l2 k = bitOf m1 m2 k <;> simp [e]
          rcases hcmp with ⟨hbq, hq⟩ | ⟨hbq, hq⟩
          all_goals
            have HQ := Lib.hid hq
            clear hq
            go_wp2_with fail
            go_region_held3 (fun w' => w'.cell? ⟨w.heap.size, 0, none⟩ = some (.slice a1 l1.length c1) ∧ w'.cell? ⟨w.heap.size, 1, none⟩ = some (.slice a2 l2.length c2) ∧
                w'.cell? ⟨w.heap.size + 1, 0, none⟩ = some (.slice b1 m1.length d1) ∧ w'.cell? ⟨w.heap.size + 1, 1, none⟩ = some (.slice b2 m2.length d2))
              (go_keep)
              (first
                | (have H6x := H6
                   clear H6x
                   go_at_call 69
                   go_loud (
                   refine (specBitAt_any b1 b2 d1 d2 m1 m2 k _ B C B C (by exact G3.out) (by exact G4.out) (by exact hC6) (by exact hC6) hm1 hm2).mono ?_
                   rintro e w7 ⟨rfl, hb7⟩
                   rw [HA2.out]
                   have z1 := hb7.blk Z1.out (by omega)
                   have z2 := hb7.blk Z2.out (by omega)
                   obtain ⟨p1, p2, _, _⟩ := blk2 z1
                   obtain ⟨q1, q2, _, _⟩ := blk2 z2
                   have U1 := Lib.hid z1
                   have U2 := Lib.hid z2
                   have H7 := Lib.hid (below_trans H6.out (hb7.mono (by omega)))
                   have hz7 : w.heap.size + 2 ≤ w7.heap.size := by have := hb7.size; omega
                   clear z1 z2 hb7))
                | (go_at_call 69
                   go_loud (
                   refine (specBitAt_any a1 a2 c1 c2 l1 l2 k _ B C B C (by exact G1.out) (by exact G2.out) (by exact hCr) (by exact hCr) hl1 hl2).mono ?_
                   rintro e w6 ⟨rfl, hb6⟩
                   rw [HA.out]
                   replace hb6 := undrew hb6
                   have z1 := hb6.blk Y1'.out (by omega)
                   have z2 := hb6.blk Y2'.out (by omega)
                   obtain ⟨p1, p2, _, _⟩ := blk2 z1
                   obtain ⟨q1, q2, _, _⟩ := blk2 z2
                   have Z1 := Lib.hid z1
                   have Z2 := Lib.hid z2
                   have H6 := Lib.hid (below_trans HBR.out (hb6.mono (by omega)))
                   have hz6 : w.heap.size + 2 ≤ w6.heap.size := by have := hb6.size; omega
                   have hC6 : C ≤ w6.heap.size := by omega
                   have G3 := Lib.hid (F3.out.below H6.out hC)
                   have G4 := Lib.hid (F4.out.below H6.out hC)
                   clear z1 z2 hb6)))
            go_wp2_with fail
            first
              | (go_roundw
                 case rel =>
                   refine ⟨k + 1, rfl, by go_num, by omega, fun i hi => ?_, U1.out, U2.out, H7.out, hz7⟩
                   by_cases e : i = k
                   · subst e; exact HQ.out
                   · exact HE.out i (by omega)
                 case measure => simp [intOf]; omega)
              | (go_ret
                 exact ⟨false, rfl, ⟨(fun h => by cases h), (fun h => absurd (congrFun h.2.2 k) HQ.out)⟩, H7.out⟩)
        · obtain rfl : k = 156 := by omega
          go_wp2_with fail
          go_ret
          exact ⟨true, rfl, ⟨fun _ => ⟨HX.out, HY.out, same_156 HX.out HY.out HE.out⟩, fun _ => rfl⟩, HBR.out⟩
end Go.Proofs.Ytgfoolneophkcaa
