/- The law FnJoinedOf, walked. -/
import Derived.Test.YtiiohodkfipfbaaDrawR
import Derived.Test.YtiiohodkfipfbaaJoinI
import Derived.Test.YtiiohodkfipfbaaCodeI
import Derived.Test.YtiiohodkfipfbaaSameR
import Derived.Test.YtiiohodkfipfbaaAlive
namespace Go.Hyp
open Go.RowKit Go.Deep
theorem red_kind {p : List (List Int)} (h : Red p) {k : Nat} (hk : k < p.length) : kind p k = k := by
  obtain ⟨h1, _⟩ := kind_spec hk
  exact (h k (kind p k) hk h1 (kind_same hk)).symm
theorem acc_reach {p : List (List Int)} (h : Acc p) (h0 : 0 < p.length) : (natL (reachL p 0)).length = p.length := by
  rw [natL_len]
  unfold reachL
  rw [List.filter_eq_self.2, List.length_range]
  intro a ha
  have h1 := (reachL_mem h0).2 ⟨List.mem_range.1 ha, h a (List.mem_range.1 ha)⟩
  unfold reachL at h1
  exact (List.mem_filter.1 h1).2
theorem code_pair {p q : List (List Int)} {i j : Nat} {c d : Int} {b e : Bool} (hi : i < p.length) (h : Same p i q j) (h1 : CodeRes p i c b) (h2 : CodeRes q j d e) (h3 : b = false → c = -1) (h4 : e = false → d = -1) : b = e ∧ c = d := by
  rcases h1 with ⟨rfl, m, rfl, h1⟩ | ⟨rfl, h1⟩
  · rcases h2 with ⟨rfl, n, rfl, h2⟩ | ⟨rfl, h2⟩
    · exact ⟨rfl, by rw [h1.unique j n h h2]⟩
    · exact absurd (h1.same j h) (h2 m)
  · rcases h2 with ⟨rfl, n, rfl, h2⟩ | ⟨rfl, h2⟩
    · exact absurd (h2.same i h.symm) (h1 n)
    · exact ⟨rfl, by rw [h3 rfl, h4 rfl]⟩
end Go.Hyp
namespace Go.Proofs.Ytiiohodkfipfbaa
open Go.RowKit Go.Hyp Go.Deep

theorem implPictureOk2_any (a : Option Addr) (cap : Nat) (p : List (List Int)) (w : World) (B C : Nat) (h : RdII w B C a p) (hl : p.length ≤ maxLen) :
    Calls Try.prog 18 #[.slice a p.length cap] w fun e w' => e = .returned (.bool (picB p)) ∧ w = w' := by
  have H := Lib.hid (isPicture_any a cap p w B C h hl)
  clear h
  go_enter Try.func18, Try.ntmps18
  go_wp2_with fail
  refine H.out.mono ?_
  rintro e w' ⟨rfl, rfl⟩
  go_wp2_with fail
  go_ret
  exact ⟨rfl, rfl⟩

theorem implKindsOf_yes (a : Option Addr) (cap : Nat) (p : List (List Int)) (w : World) (B C : Nat) (h : RdII w B C a p) (hC : C ≤ w.heap.size) (hp : picB p = true) :
    Calls Try.prog 16 #[.slice a p.length cap] w (RetI 3 (kindsL p p.length) w) := by
  obtain ⟨sq, s1, s5⟩ := picB_sq hp
  have H := Lib.hid (isPicture_any a cap p w B C h (by unfold maxLen; omega))
  have HK := Lib.hid (kindsOf_any a cap p w B C h hC sq (by omega))
  rw [hp] at H
  clear h hp sq
  go_enter Try.func16, Try.ntmps16
  go_wp2_with fail
  refine H.out.mono ?_
  rintro e w' ⟨rfl, rfl⟩
  go_wp2_with fail
  refine HK.out.mono ?_
  rintro e w1 ⟨a1, c1, rfl, ho, hb⟩
  have HO := Lib.hid ho
  have HB := Lib.hid hb
  clear ho hb
  go_wp2_with fail
  go_ret
  exact ⟨a1, c1, rfl, HO.out, HB.out⟩

set_option maxRecDepth 4000 in
set_option maxHeartbeats 1000000 in
theorem fnJoinedOf_any (a : Option Addr) (cap : Nat) (l : List Int) (w : World) (h : RdB w w.heap.size a l) (hl : l.length ≤ maxLen ∧ l.length ≤ cap) :
    Calls Try.prog 4 #[.slice a l.length cap] w fun e w' => e = .returned (.bool true) ∧ Below w.heap.size w w' := by
  obtain ⟨hl, hcap⟩ := hl
  have HB := Lib.hid h
  clear h
  by_cases hbig : 1048576 < l.length
  · go_enter Try.func4, Try.ntmps4
    go_wp2_with fail
    go_ret
    exact ⟨rfl, Below.refl _ _⟩
  · go_enter Try.func4, Try.ntmps4
    go_wp2_with fail
    refine (drawJoinedOf_any a cap l _ HB.out hl hcap).mono ?_
    rintro e w1 ⟨a2, c2, p, n, rfl, hp, hp5, hb⟩
    have P1 := Lib.hid hp
    have H1 := Lib.hid hb
    have hm : Hid (p.length ≤ maxLen) := Lib.hid (by unfold maxLen; omega)
    clear hp hb
    go_wp2_with fail
    refine (implJoinedOf_any a2 c2 p n w1 _ _ P1.out (Nat.le_refl _) hm.out).mono ?_
    rintro e w2 ⟨a4, c4, rfl, hx, hb⟩
    have P2 := Lib.hid (P1.out.below hb (Nat.le_refl _))
    have X2 := Lib.hid hx.rd
    have H2 := Lib.hid (H1.out.trans (hb.mono H1.out.size))
    have hz2 : w1.heap.size ≤ w2.heap.size := hb.size
    clear hb hx P1 H1
    go_wp2_with fail
    refine (specJoinedOf_any a2 c2 p n w2 _ _ P2.out hz2 hm.out).mono ?_
    rintro e w3 ⟨a5, c5, rfl, hx, hb⟩
    have P3 := Lib.hid (P2.out.below hb hz2)
    have X3 := Lib.hid (X2.out.below hb (Nat.le_refl _))
    have Y3 := Lib.hid hx.rd
    have H3 := Lib.hid (H2.out.trans (hb.mono H2.out.size))
    have hz3 : w2.heap.size ≤ w3.heap.size := hb.size
    have hxl : (joinedR p n).length ≤ 1048576 := (joinedOf_small p n).1
    clear hb hx P2 X2 H2
    go_wp2_with fail
    refine (sameRows_any a4 a5 c4 c5 _ _ w3 _ _ _ _ X3.out Y3.out (by unfold maxLen; omega)).mono ?_
    rintro e w4 ⟨rfl, hq⟩
    rw [decide_eq_true rfl]
    have P4 := Lib.hid (P3.out.agr hq.agr)
    have X4 := Lib.hid (X3.out.agr hq.agr)
    have H4 := Lib.hid (H3.out.trans hq.below)
    have hz4 : w3.heap.size ≤ w4.heap.size := (hq.below (B := w3.heap.size)).size
    clear hq P3 X3 Y3 H3
    cases hok : nodeB p n
    · rw [joinedR_no hok]
      clear hok
      go_wp2_with (go_at_call 15; refine (alive1_any _).mono ?_; rintro e w' ⟨rfl, rfl⟩)
      go_ret
      exact ⟨rfl, H4.out⟩
    · have hx4 := X4.out
      obtain ⟨i, rfl, hi, hpp⟩ := nodeB_nat hok
      rw [joinedR_yes hok] at hx4 hxl ⊢
      have hf := joinedL_fit hi
      obtain ⟨X, hX⟩ : ∃ X, X = joinM p (joinedL p i) := ⟨_, rfl⟩
      have HRED := Lib.hid (show Red X by rw [hX]; exact hf.red)
      have HACC := Lib.hid (show Acc X by rw [hX]; exact hf.acc hi)
      have HSAME := Lib.hid (show Same p i X 0 by rw [hX]; exact hf.first hi)
      have hX1 : 0 < X.length := by rw [hX, joinM_len]; exact hf.pos
      have hX5 : X.length ≤ 5 := by rw [hX, joinM_len]; exact Nat.le_trans hf.len hp5
      have hxp : picB X = true := sq_picB (by rw [hX]; exact joinM_sq _ _) hX1 hX5
      rw [← hX] at hx4 hxl ⊢
      have HX4 := Lib.hid hx4
      have HXP := Lib.hid hxp
      have HOK := Lib.hid hok
      have hxm : Hid (X.length ≤ maxLen) := Lib.hid (by unfold maxLen; omega)
      have hli : (X.length : Int) ≠ 0 := by omega
      have hlb : ((X.length : Int) == 0) = false := beq_eq_false_iff_ne.2 hli
      clear hX hx4 hxp hok X4 hf hpp
      go_wp2_with fail
      refine (implKindsOf_yes a4 c4 X w4 _ _ HX4.out (by omega) HXP.out).mono ?_
      rintro e w5 ⟨a6, c6, rfl, hk, hb⟩
      have P5 := Lib.hid (P4.out.below hb (by omega))
      have X5 := Lib.hid (HX4.out.below hb (by omega))
      have K5 := Lib.hid hk.rd
      have H5 := Lib.hid (H4.out.trans (hb.mono H4.out.size))
      have hz5 : w4.heap.size ≤ w5.heap.size := hb.size
      rw [kindsL_len]
      clear hk hb P4 HX4 H4
      go_wp2_with fail
      go_loopw [7] (fun ki wr => ∃ k : Nat, k ≤ X.length ∧ ki = .int .i64 k ∧ wr = w5) (fun ki _ => X.length - (intOf ki).toNat)
      case atStart => exact ⟨0, Nat.zero_le _, rfl, by first | trivial | rfl⟩
      case round =>
        obtain ⟨k, hk, rfl, hw⟩ := hrel
        obtain rfl := hw.symm
        by_cases hlt : k < X.length
        · have hki : (k : Int) < (X.length : Int) := by omega
          obtain ⟨b, off, rfl, _, hbl, hd⟩ := K5.out.at k (by rw [kindsL_len]; exact hlt)
          rw [kindsL_get, red_kind HRED.out hlt] at hd
          go_wp2_with fail
          go_roundw
          case rel => exact ⟨k + 1, by omega, by go_num, by first | trivial | rfl⟩
          case measure => simp [intOf]; omega
        · obtain rfl : k = X.length := by omega
          have hC1 := Lib.hid (implCodeAt_any a2 c2 p i w5 _ _ P5.out (by omega) hm.out)
          go_wp2_with fail
          refine hC1.out.mono ?_
          rintro e w6 ⟨cc, bb, rfl, hb6, g1, g2, _⟩
          have X6 := Lib.hid (X5.out.below hb6 (by omega))
          have H6 := Lib.hid (H5.out.trans (hb6.mono H5.out.size))
          have G1 := Lib.hid g1
          have G2 := Lib.hid (g2 HOK.out)
          have hz6 : w5.heap.size ≤ w6.heap.size := hb6.size
          clear hb6 g1 g2 hC1 P5 X5 H5 K5
          have hC2 := Lib.hid (implCodeAt_any a4 c4 X ((0 : Nat) : Int) w6 _ _ X6.out (by omega) hxm.out)
          go_wp2_with fail
          refine hC2.out.mono ?_
          rintro e w7 ⟨dd, ee, rfl, hb7, g3, g4, _⟩
          obtain ⟨rfl, rfl⟩ := code_pair hi HSAME.out (by have := G2.out; rwa [Int.toNat_natCast] at this) (g4 (nodeB_of HXP.out hX1)) G1.out g3
          have X7 := Lib.hid (X6.out.below hb7 (by omega))
          have H7 := Lib.hid (H6.out.trans (hb7.mono H6.out.size))
          have hz7 : w6.heap.size ≤ w7.heap.size := hb7.size
          clear hb7 g3 g4 hC2 X6 H6 G1 G2
          have hPK := Lib.hid (implPictureOk2_any a4 c4 X w7 _ _ X7.out hxm.out)
          rw [HXP.out] at hPK
          have hRF := Lib.hid (implReachedFrom_any a4 c4 X ((0 : Nat) : Int) w7 _ _ X7.out (by omega) hxm.out)
          go_wp2_with fail
          refine hPK.out.mono ?_
          rintro e w' ⟨rfl, rfl⟩
          go_wp2_with fail
          refine hRF.out.mono ?_
          rintro e w8 (⟨h, _⟩ | ⟨i', hi', hi2, _, L, ar, cr, rfl, hre, _, _, hb8⟩)
          · rw [nodeB_of HXP.out hX1] at h; cases h
          · obtain rfl : i' = 0 := by omega
            have hLl : L.length = X.length := by rw [hre.unique (reachL_is hX1)]; exact acc_reach HACC.out hX1
            rw [hLl]
            have H8 := Lib.hid (H7.out.trans (hb8.mono H7.out.size))
            clear hb8 hLl hre hi' hi2
            cases bb
            all_goals
              go_wp2_with fail
              go_ret
              exact ⟨rfl, H8.out⟩
end Go.Proofs.Ytiiohodkfipfbaa
