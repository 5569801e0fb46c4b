/- The law FnBitAt, walked. -/
import Derived.Test.YtkaekaofmaljoaaDrawS
import Derived.Test.YtkaekaofmaljoaaBit
namespace Go.Proofs.Ytkaekaofmaljoaa
open Go.RowKit Go.Hyp Go.Deep

/-- A drawn stream and a place. -/
def DrewSA (w : World) (e : Ending) (w' : World) : Prop :=
  ∃ a1 c1 l1 a2 c2 l2, ∃ n : Int, e = .returned (.tuple #[.agg #[.slice a1 l1.length c1, .slice a2 l2.length c2], .int .i64 n]) ∧ RdI w' w.heap.size w'.heap.size a1 l1 ∧ RdI w' w.heap.size w'.heap.size a2 l2 ∧ l1.length ≤ 12 ∧ l2.length ≤ 12 ∧
    -10 ≤ n ∧ n ≤ 2000 ∧ Below w.heap.size w w'

set_option maxHeartbeats 400000 in
theorem drawBitAt_any (a : Option Addr) (cap : Nat) (l : List Int) (w : World) (h : RdB w w.heap.size a l) (hl : l.length ≤ maxLen) (hcap : l.length ≤ cap) :
    Calls Try.prog 26 #[.slice a l.length cap] w (DrewSA w) := by
  have HB := Lib.hid (h.agr2 (below_alloc w (.cells #[.slice none 0 0, .slice none 0 0] 27)) (Nat.le_refl _) (by simp))
  clear h
  go_enter Try.func26, Try.ntmps26
  go_wp2_with fail
  refine (open_any a cap l _ HB.out hl hcap).mono ?_
  rintro e w1 ⟨l', rfl, hr1, hb1, hz1⟩
  rw [World.size_alloc] at hr1
  have HB1 := Lib.hid (hb1.blk (alloc1 w (.cells #[.slice none 0 0, .slice none 0 0] 27)) (by simp))
  have HR1 := Lib.hid hr1
  have HH1 := Lib.hid (below_trans (below_alloc w _) hb1)
  clear hr1 hb1
  simp at hz1
  have HZ1 := Lib.hid hz1
  clear hz1
  go_wp2_with fail
  refine (l20Stream_any _ l' 0 12 w1 HR1.out (by omega) (by omega)).mono ?_
  rintro e w2 ⟨a1, c1, l1, a2, c2, l2, rfl, r1, r2, hl1, hl2, ⟨p1, _, hp1, hr2⟩, hc2⟩
  have HB2 := Lib.hid (hc2.blk HB1.out (by simp))
  have HH2 := Lib.hid (HH1.out.trans (hc2.below (D := w.heap.size) (fun k hk => by subst hk; simp) (by have := HZ1.out; omega)))
  have HS1 := Lib.hid r1
  have HS2 := Lib.hid r2
  have HR2 := Lib.hid hr2
  have hz2 : w.heap.size + 2 ≤ w2.heap.size := by have := hc2.size; have := HZ1.out; omega
  clear r1 r2 hc2 hr2
  go_wp2_with fail
  refine (pick_rdr _ l' p1 40 w2 HR2.out (by omega) (by omega)).mono ?_
  rintro e w3 ⟨v1, rfl, v10, v11, hr3, hc3, hz3⟩
  have HR3 := Lib.hid hr3
  have HC3 := Lib.hid hc3
  clear hr3 hc3
  go_wp2_with fail
  refine (pick_rdr _ l' (p1 + 1) 20 w3 HR3.out (by omega) (by omega)).mono ?_
  rintro e w4 ⟨v2, rfl, v20, v21, hr4, hc4, hz4⟩
  have HR4 := Lib.hid hr4
  have HC4 := Lib.hid (HC3.out.trans hc4)
  clear hr4 hc4
  go_wp2_with fail
  refine (pick_rdr _ l' (p1 + 1 + 1) 20 w4 HR4.out (by omega) (by omega)).mono ?_
  rintro e w5 ⟨v3, rfl, v30, v31, hr5, hc5, hz5⟩
  have HC5 := Lib.hid (HC4.out.trans hc5)
  clear hr5 hc5
  have HB5 := Lib.hid (HC5.out.blk HB2.out (by simp))
  have HH5 := Lib.hid (HH2.out.trans (HC5.out.below (D := w.heap.size) (fun k hk => by subst hk; simp) (by omega)))
  have HS1' := Lib.hid (HS1.out.agr (HC5.out.agr (Nat.le_refl _) (fun k h1 h2 => by have := HZ1.out; omega)))
  have HS2' := Lib.hid (HS2.out.agr (HC5.out.agr (Nat.le_refl _) (fun k h1 h2 => by have := HZ1.out; omega)))
  obtain ⟨q0, q1, q2, q3⟩ := blk2 HB5.out
  have d2 : 0 ≤ v2 / 19 ∧ v2 / 19 ≤ 1 := by omega
  have d3 : 0 ≤ v3 / 19 ∧ v3 / 19 ≤ 1 := by omega
  obtain ⟨d20, d21⟩ := d2
  obtain ⟨d30, d31⟩ := d3
  go_wp2_with fail
  obtain ⟨r0, r1, _, _⟩ := blk2 (blk_set (.slice a2 l2.length c2) (i := 1) (blk_set (.slice a1 l1.length c1) (i := 0) HB5.out))
  refine bodyPost_ret (v := .tuple #[.agg #[.slice a1 l1.length c1, .slice a2 l2.length c2], .int .i64 (v1 - v2 / 19 + v3 / 19 * 990)]) (by simp [results, Try.results26, go_sem, r0, r1]) rfl
    ⟨a1, c1, l1, a2, c2, l2, _, rfl, ?_, ?_, hl1, hl2, by omega, by omega, (HH5.out.setCell (by simp) _).setCell (by simp) _⟩
  · exact (HS1'.out.agr (((Agr.refl _ _ _).set (by have := HZ1.out; omega) _).set (by have := HZ1.out; omega) _)).mono (by have := HZ1.out; omega) (by simp; omega)
  · exact (HS2'.out.agr (((Agr.refl _ _ _).set (by have := HZ1.out; omega) _).set (by have := HZ1.out; omega) _)).mono (by have := HZ1.out; omega) (by simp; omega)

set_option maxHeartbeats 400000 in
theorem fnBitAt_any (a : Option Addr) (cap : Nat) (l : List Int) (w : World) (h : RdB w w.heap.size a l) (hl : l.length ≤ maxLen ∧ l.length ≤ cap) :
    Calls Try.prog 8 #[.slice a l.length cap] w fun e w' => e = .returned (.bool true) ∧ Below w.heap.size w w' := by
  obtain ⟨hl, hcap⟩ := hl
  have HB := Lib.hid h
  clear h
  by_cases hbig : 1048576 < l.length
  · go_enter Try.func8, Try.ntmps8
    go_wp2_with fail
    go_ret
    exact ⟨rfl, Below.refl _ _⟩
  · go_enter Try.func8, Try.ntmps8
    go_wp2_with fail
    refine (drawBitAt_any a cap l _ HB.out hl hcap).mono ?_
    rintro e w1 ⟨a1, c1, l1, a2, c2, l2, n, rfl, r1, r2, hl1, hl2, hn0, hn1, hb1⟩
    have H1 := Lib.hid (hb1.alloc hb1.size (.cells #[.slice a1 l1.length c1, .slice a2 l2.length c2] 27))
    have X1 := Lib.hid (alloc1 w1 (.cells #[.slice a1 l1.length c1, .slice a2 l2.length c2] 27))
    have R1 := Lib.hid (r1.below (below_alloc w1 (.cells #[.slice a1 l1.length c1, .slice a2 l2.length c2] 27)) (Nat.le_refl _))
    have R2 := Lib.hid (r2.below (below_alloc w1 (.cells #[.slice a1 l1.length c1, .slice a2 l2.length c2] 27)) (Nat.le_refl _))
    clear r1 r2 hb1
    go_wp2_with fail
    refine (implBitAt_any a1 a2 c1 c2 l1 l2 n _ _ _ _ _ R1.out R2.out (by simp) (by simp) (by omega) (by omega)).mono ?_
    rintro e w2 ⟨rfl, hb2⟩
    have x2 := hb2.blk X1.out (by simp)
    obtain ⟨q0, q1, q2, q3⟩ := blk2 x2
    have hlt2 : w1.heap.size < w2.heap.size := lt_of_block x2
    have X2 := Lib.hid x2
    have H2 := Lib.hid (below_trans H1.out hb2)
    have S1 := Lib.hid (R1.out.below hb2 (by simp))
    have S2 := Lib.hid (R2.out.below hb2 (by simp))
    clear x2 hb2 R1 R2 X1
    go_wp2_with fail
    refine (specBitAt_any a1 a2 c1 c2 l1 l2 n w2 _ _ _ _ S1.out S2.out (by omega) (by omega) (by omega) (by omega)).mono ?_
    rintro e w3 ⟨rfl, hb3⟩
    have x3 := hb3.blk X2.out hlt2
    have X3 := Lib.hid x3
    have hlt3 : w1.heap.size < w3.heap.size := lt_of_block x3
    have H3 := Lib.hid (below_trans H2.out hb3)
    have U1 := Lib.hid (S1.out.below hb3 (by omega))
    have U2 := Lib.hid (S2.out.below hb3 (by omega))
    clear q0 q1 q2 q3
    obtain ⟨q0, q1, q2, q3⟩ := blk2 x3
    clear x3 hb3 S1 S2 X2
    rcases bitAtI_cases l1 l2 n with hneg | ⟨k, rfl, hk9, hst, hv, hv0, hv1⟩
    · rw [hneg]
      go_wp2_with (go_at_call 15; refine (alive_any _).mono ?_; rintro e w' ⟨rfl, rfl⟩)
      go_ret
      exact ⟨rfl, H3.out⟩
    · rw [hv]
      have HV := Lib.hid hv
      have HS := Lib.hid hst
      generalize hx : bitOf l1 l2 k = x at hv0 hv1 ⊢
      have HX := Lib.hid hx
      clear hv hst hx
      have hnn : (x != x) = false := by simp
      by_cases g1 : k < l1.length
      · have g1' : decide ((k : Int) < (l1.length : Int)) = true := by simp; omega
        go_wp2_with (go_at_call 15; refine (alive_any _).mono ?_; rintro e w' ⟨rfl, rfl⟩)
        go_ret
        exact ⟨rfl, H3.out⟩
      · by_cases g2 : 999 < k + l2.length
        · go_wp2_with (go_at_call 15; refine (alive_any _).mono ?_; rintro e w' ⟨rfl, rfl⟩)
          go_ret
          exact ⟨rfl, H3.out⟩
        · have HY : Hid (bitAtI l1 l2 ((k : Int) + (l2.length : Int)) = x) := bitAtI_again HS.out HX.out (by omega) (by omega)
          go_wp2_with fail
          refine (implBitAt_any a1 a2 c1 c2 l1 l2 _ _ _ _ _ _ U1.out U2.out (by omega) (by omega) (by omega) (by omega)).mono ?_
          rintro e w4 ⟨rfl, hb4⟩
          have H4 := Lib.hid (below_trans H3.out hb4)
          clear hb4
          rw [HY.out]
          go_wp2_with (go_at_call 15; refine (alive_any _).mono ?_; rintro e w' ⟨rfl, rfl⟩)
          go_ret
          exact ⟨rfl, H4.out⟩

end Go.Proofs.Ytkaekaofmaljoaa
