/- The law FnLeastOf, walked. -/
import Derived.Test.YtiiohodkfipfbaaDoorDrawR
import Derived.Test.YtiiohodkfipfbaaDoorLeastI
import Derived.Test.YtiiohodkfipfbaaDoorKindS
import Derived.Test.YtiiohodkfipfbaaDoorAlive
import Derived.Test.YtiiohodkfipfbaaDoorSameR
import Derived.Test.YtiiohodkfipfbaaDoorReachS
import Derived.Test.YtiiohodkfipfbaaDoorBeside
namespace Go.Proofs.YtiiohodkfipfbaaDoor
open Go.RowKit Go.Hyp Go.Deep

theorem specReach_node (a : Option Addr) (cap : Nat) (p : List (List Int)) (i : Nat) (w : World) (B C : Nat) (h : RdII w B C a p) (hC : C ≤ w.heap.size) (hl : p.length ≤ maxLen) (hn : nodeB p i = true) :
    Calls Tryd.prog 39 #[.slice a p.length cap, .int .i64 i] w (RetI 3 (natL (reachL p i)) w) :=
  (specReachedFrom_any a cap p i w B C h hC hl).mono fun e w1 h => by
    rcases h with ⟨hno, _, _⟩ | ⟨j, e0, hj, _, L, ar, cr, rfl, hre, hll, ho, hb⟩
    · rw [hn] at hno; cases hno
    · obtain rfl : i = j := by omega
      obtain rfl := hre.unique (reachL_is hj)
      exact ⟨ar, cr, rfl, ho, hb⟩
set_option maxHeartbeats 400000 in
theorem hasInt_any (a : Option Addr) (cap : Nat) (l : List Int) (x : Int) (w : World) (B C : Nat) (h : RdI w B C a l) (hl : l.length ≤ maxLen) :
    Calls Tryd.prog 41 #[.slice a l.length cap, .int .i64 x] w fun e w' => e = .returned (.bool (decide (x ∈ l))) ∧ w = w' := by
  have F := Lib.hid h
  clear h
  unfold maxLen at hl
  go_enter Tryd.func41, Tryd.ntmps41
  go_wp2_with fail
  go_loop [4, 5] (fun r i => ∃ k : Nat, k ≤ l.length ∧ r = .bool false ∧ i = .int .i64 k ∧ ¬ x ∈ l.take k) (fun _ i => l.length - (intOf i).toNat)
  case atStart => exact ⟨0, Nat.zero_le _, rfl, rfl, by simp⟩
  case round =>
    obtain ⟨k, hk, rfl, rfl, hno⟩ := hrel
    have HN := Lib.hid hno
    clear hno
    by_cases hlt : k < l.length
    · obtain ⟨b, off, rfl, _, _, hd⟩ := F.out.at k hlt
      have hki : (k : Int) < (l.length : Int) := by omega
      obtain ⟨y, hy⟩ : ∃ y, y = l[k] := ⟨_, rfl⟩
      rw [← hy] at hd
      have HY := Lib.hid hy
      clear hy
      by_cases hx : y = x
      · have HX : Hid (x ∈ l) := Lib.hid (by rw [← hx, HY.out]; exact List.getElem_mem hlt)
        have hb : (y == x) = true := beq_iff_eq.2 hx
        clear hx
        go_wp2_with fail
        go_ret
        exact ⟨ret_bool (decide_eq_true HX.out).symm, rfl⟩
      · have HX : Hid (¬ x ∈ l.take (k + 1)) := Lib.hid (by rw [List.take_succ_eq_append_getElem hlt, List.mem_append]; intro h; rcases h with h | h; exact HN.out h; simp at h; exact hx (by rw [HY.out, h]))
        have hb : (y == x) = false := beq_eq_false_iff_ne.2 hx
        clear hx
        go_wp2_with fail
        clear hb
        go_round
        case rel => exact ⟨k + 1, by omega, rfl, by go_num, HX.out⟩
        case measure => simp [intOf]; omega
    · obtain rfl : k = l.length := by omega
      go_wp2_with fail
      go_ret
      exact ⟨ret_bool (by have h := HN.out; rw [List.take_of_length_le (Nat.le_refl _)] at h; rw [decide_eq_false h]), rfl⟩
set_option maxRecDepth 4000 in
set_option maxHeartbeats 2000000 in
theorem fnLeastOf_any (a : Option Addr) (cap : Nat) (l : List Int) (w : World) (h : RdB w w.heap.size a l) (hl : l.length ≤ maxLen ∧ l.length ≤ cap) :
    Calls Tryd.prog 9 #[.slice a l.length cap] w fun e w' => e = .returned (.bool true) ∧ Below w.heap.size w w' := by
  obtain ⟨hl, hcap⟩ := hl
  have HB := Lib.hid h
  clear h
  by_cases hbig : 1048576 < l.length
  · go_enter Tryd.func9, Tryd.ntmps9
    go_wp2_with fail
    go_ret
    exact ⟨rfl, Below.refl _ _⟩
  go_enter Tryd.func9, Tryd.ntmps9
  go_wp2_with fail
  refine (drawLeastOf_any a cap l _ HB.out hl hcap).mono ?_
  rintro e w1 ⟨a2, c2, p, n, rfl, hp, hp5, hb⟩
  have P1 := Lib.hid hp
  have H1 := Lib.hid hb
  have hm : Hid (p.length ≤ maxLen) := Lib.hid (by unfold maxLen; omega)
  clear hb hp
  go_wp2_with fail
  obtain ⟨X, hX⟩ : ∃ X, X = leastR p n := ⟨_, rfl⟩
  have HX := Lib.hid hX
  have hX5 : X.length ≤ 5 := by rw [hX]; exact leastR_len
  have hmx : Hid (X.length ≤ maxLen) := Lib.hid (by unfold maxLen; omega)
  clear hX
  have hLO := implLeastOf_any a2 c2 p n w1 _ _ P1.out (by omega) hm.out
  rw [← HX.out] at hLO
  have HLO := Lib.hid hLO
  clear hLO
  refine (HLO.out).mono ?_
  rintro e w2 ⟨aX, cX, rfl, hx, hb⟩
  have P2 := Lib.hid (P1.out.below hb (by omega))
  have H2 := Lib.hid (H1.out.trans (hb.mono H1.out.size))
  have hz2 : w1.heap.size ≤ w2.heap.size := hb.size
  have X2 := Lib.hid hx.rd
  clear hb P1 H1 hx
  go_wp2_with fail
  have hLO := specLeastOf_any a2 c2 p n w2 _ _ P2.out (by omega) hm.out
  rw [← HX.out] at hLO
  have HLO := Lib.hid hLO
  clear hLO
  refine (HLO.out).mono ?_
  rintro e w3 ⟨aY, cY, rfl, hx, hb⟩
  have P3 := Lib.hid (P2.out.below hb (by omega))
  have H3 := Lib.hid (H2.out.trans (hb.mono H2.out.size))
  have X3 := Lib.hid (X2.out.below hb (by omega))
  have hz3 : w2.heap.size ≤ w3.heap.size := hb.size
  have Y3 := Lib.hid hx.rd
  clear hb P2 H2 X2 hx
  go_wp2_with fail
  refine (sameRows_any aX aY cX cY X X w3 _ _ _ _ X3.out Y3.out hmx.out).mono ?_
  rintro e w4 ⟨rfl, hq⟩
  rw [decide_eq_true rfl]
  have hb : Below w3.heap.size w3 w4 := hq.below
  have P4 := Lib.hid (P3.out.below hb (by omega))
  have H4 := Lib.hid (H3.out.trans (hb.mono H3.out.size))
  have X4 := Lib.hid (X3.out.below hb (by omega))
  have Y4 := Lib.hid (Y3.out.below hb (by omega))
  have hz4 : w3.heap.size ≤ w4.heap.size := hb.size
  clear hb P3 H3 X3 Y3 hq
  clear Y4
  cases hn : nodeB p n
  · have HF : Hid (X = []) := Lib.hid (HX.out.trans (leastR_no hn))
    clear hn
    rw [HF.out]
    go_wp2_with (go_at_call 15; refine (alive1_any _).mono ?_; rintro e w' ⟨rfl, rfl⟩)
    go_ret
    exact ⟨rfl, H4.out⟩
  · obtain ⟨i, rfl, hi, hp⟩ := nodeB_nat hn
    have hpx := picB_sq (leastR_pic hn)
    have hxp := leastR_pic hn
    have hxe := leastR_yes hn
    rw [← HX.out] at hpx hxp hxe
    have hx1 : 1 ≤ X.length := hpx.2.1
    have hne : ((X.length : Int) == 0) = false := beq_eq_false_iff_ne.2 (by omega)
    have hlen : (kfold ((reachL p i).map fun v => ((kind p v : Nat) : Int))).length = X.length := by rw [kfold_joined hi, hxe, leastC_len hi]
    have hss : sameSetB p i X 0 = true := by rw [HX.out]; exact same_draws hn
    have hll : leastR X 0 = X := leastB_eq (by rw [HX.out]; exact leastB_R hn)
    have HN := Lib.hid hn
    have HP := Lib.hid hp
    have HK := Lib.hid (kindsS_yes hp)
    have HSS := Lib.hid hss
    have HLL := Lib.hid hll
    have HLEN := Lib.hid hlen
    have HXP := Lib.hid hxp
    clear hn hp hpx hxp hxe hlen hss hll
    go_wp2_with fail
    refine (specReach_node a2 c2 p i w4 _ _ P4.out (by omega) hm.out HN.out).mono ?_
    rintro e w5 ⟨aR, cR, rfl, hx, hb⟩
    have P5 := Lib.hid (P4.out.below hb (by omega))
    have H5 := Lib.hid (H4.out.trans (hb.mono H4.out.size))
    have X5 := Lib.hid (X4.out.below hb (by omega))
    have hz5 : w4.heap.size ≤ w5.heap.size := hb.size
    have R5 := Lib.hid hx.rd
    clear hb P4 H4 X4 hx
    go_wp2_with fail
    clear hne
    have hKO := specKindsOf_any a2 c2 p w5 _ _ P5.out (by omega) hm.out
    rw [HK.out] at hKO
    have HKO := Lib.hid hKO
    clear hKO
    refine (HKO.out).mono ?_
    rintro e w6 ⟨aK, cK, rfl, hx, hb⟩
    have P6 := Lib.hid (P5.out.below hb (by omega))
    have H6 := Lib.hid (H5.out.trans (hb.mono H5.out.size))
    have X6 := Lib.hid (X5.out.below hb (by omega))
    have R6 := Lib.hid (R5.out.below hb (by omega))
    have hz6 : w5.heap.size ≤ w6.heap.size := hb.size
    have K6 := Lib.hid hx.rd
    clear hb P5 H5 X5 R5 hx
    go_wp2_with fail
    rw [natL_len, kindsL_len]
    have hrl : (reachL p i).length ≤ p.length := by unfold reachL; exact Nat.le_trans (List.length_filter_le _ _) (by simp)
    obtain ⟨RL, hRL⟩ : ∃ RL, RL = reachL p i := ⟨_, rfl⟩
    have hRm : ∀ k (hk : k < RL.length), RL[k] < p.length := fun k hk => by subst hRL; exact ((reachL_mem hi).1 (List.getElem_mem hk)).1
    rw [← hRL] at hrl HLEN R6 ⊢
    have HRM := Lib.hid hRm
    have HO0 := Lib.hid (OwI_empty w6 3)
    have HB0 := Lib.hid (below_alloc w6 (.cells #[] 3))
    clear hRL hRm
    go_loopw [8, 9] (fun s8 ki wr => ∃ (k : Nat) (x : Option Addr) (c : Nat) (S : List Int), k ≤ RL.length ∧ ki = .int .i64 k ∧ s8 = .slice x S.length c ∧ S = kfold ((RL.take k).map fun v => ((kind p v : Nat) : Int)) ∧ OwI wr 3 w6.heap.size wr.heap.size x c S ∧ Below w6.heap.size w6 wr) (fun _ ki _ => RL.length - (intOf ki).toNat)
    case atStart => exact ⟨0, _, 0, [], Nat.zero_le _, rfl, rfl, by simp [kfold], HO0.out.mono (Nat.le_refl _) (by simp), HB0.out⟩
    case round =>
      obtain ⟨k, x, c, S, hk, rfl, rfl, hS, ho, hb⟩ := hrel
      have HS := Lib.hid hS
      have HO := Lib.hid ho
      have HBR := Lib.hid hb
      have hzr : w6.heap.size ≤ wr.heap.size := hb.size
      have hSl : S.length ≤ 5 := by
        rw [hS]
        have := kfold_le ((RL.take k).map fun v => ((kind p v : Nat) : Int))
        rw [List.length_map, List.length_take] at this
        omega
      clear hS ho hb HO0 HB0
      by_cases hlt : k < RL.length
      · have hki : (k : Int) < (RL.length : Int) := by omega
        have hV := HRM.out k hlt
        obtain ⟨V, hVe⟩ : ∃ V, V = RL[k] := ⟨_, rfl⟩
        obtain ⟨b1, o1, rfl, _, hb1, hd1⟩ := (R6.out.below HBR.out (by omega)).at k (by rw [natL_len]; exact hlt)
        have hgv : (natL RL)[k]'(by rw [natL_len]; exact hlt) = ((V : Nat) : Int) := by rw [natL_get, getD_nat hlt, hVe]
        rw [hgv] at hd1
        rw [← hVe] at hV
        obtain ⟨b2, o2, rfl, _, hb2, hd2⟩ := (K6.out.below HBR.out (by omega)).at V (by rw [kindsL_len]; exact hV)
        rw [kindsL_get] at hd2
        obtain ⟨KV, hKV⟩ : ∃ KV, KV = kind p V := ⟨_, rfl⟩
        rw [← hKV] at hd2
        have hVi : (V : Int) < (p.length : Int) := by omega
        have hVi2 : ¬ (p.length : Int) ≤ (V : Int) := by omega
        have hstep : kfold ((RL.take (k + 1)).map fun v => ((kind p v : Nat) : Int)) = kstep S ((KV : Nat) : Int) := by
          rw [List.take_succ_eq_append_getElem hlt, List.map_append, List.map_cons, List.map_nil, kfold_snoc, ← HS.out, ← hVe, ← hKV]
        have HST := Lib.hid hstep
        clear hVe hgv hKV hstep
        have hHI := hasInt_any x c S (KV : Int) wr _ _ HO.out.rd (by unfold maxLen; omega)
        by_cases hm2 : ((KV : Nat) : Int) ∈ S
        · rw [decide_eq_true hm2] at hHI
          have HHI := Lib.hid hHI
          have HST2 : Hid (kfold ((RL.take (k + 1)).map fun v => ((kind p v : Nat) : Int)) = S) := Lib.hid (by rw [HST.out]; unfold kstep; rw [if_pos hm2])
          clear hHI hm2
          go_wp2_with (go_at_call 41; refine HHI.out.mono ?_; rintro e w' ⟨rfl, rfl⟩)
          go_roundw
          case rel => exact ⟨k + 1, x, c, S, by omega, by go_num, rfl, HST2.out.symm, HO.out, HBR.out⟩
          case measure => simp [intOf]; omega
        · rw [decide_eq_false hm2] at hHI
          have HHI := Lib.hid hHI
          have HST2 : Hid (kfold ((RL.take (k + 1)).map fun v => ((kind p v : Nat) : Int)) = S ++ [((KV : Nat) : Int)]) := Lib.hid (by rw [HST.out]; unfold kstep; rw [if_neg hm2])
          clear hHI hm2
          go_wp2_with (first
            | (go_at_call 41; refine HHI.out.mono ?_; rintro e w' ⟨rfl, rfl⟩)
            | (at_builtin; go_loud (refine wpList_appI Tryd.underlying38 Tryd.infoInt _ rfl _ _ rfl w6.heap.size wr.heap.size x c S rfl (HO.out.agr ((Agr.refl _ _ _).alloc (Nat.le_refl _) _)) (by simp; omega) ⟨wr.heap.size, 0, none⟩ KV rfl (new_cellE _ _ _ rfl) (by omega) ?_); intro g c1 w9 hown hgrow hat hg))
          have HO1 := Lib.hid hown
          have HB1 := Lib.hid (below_app HBR.out hgrow (HO.out.app_in (Nat.le_refl _)) (Nat.le_refl _) (Nat.le_refl _))
          clear hown hgrow hat
          go_roundw
          case rel => exact ⟨k + 1, some ⟨g, 0, none⟩, c1, S ++ [((KV : Nat) : Int)], by omega, by go_num, by rw [List.length_append]; rfl, HST2.out.symm, HO1.out, HB1.out⟩
          case measure => simp [intOf]; omega
      · obtain rfl : k = RL.length := by omega
        have hSX : S.length = X.length := by rw [HS.out, List.take_of_length_le (Nat.le_refl _), HLEN.out]
        rw [hSX]
        have HZ := Lib.hid (H6.out.trans (HBR.out.mono H6.out.size))
        have PZ := Lib.hid (P6.out.below HBR.out (by omega))
        have XZ := Lib.hid (X6.out.below HBR.out (by omega))
        have hbt : ((X.length : Int) == (X.length : Int)) = true := beq_iff_eq.2 rfl
        clear hSX
        go_wp2_with fail
        obtain ⟨w7, hwk⟩ : ∃ x, x = wr := ⟨_, rfl⟩
        subst hwk
        have P7 := PZ
        have X7 := XZ
        have H7 := HZ
        clear PZ XZ HZ hbt
        refine (implSameSet_any a2 c2 p i aX cX X 0 w7 _ _ _ _ P7.out (by omega) hm.out X7.out (by omega) hmx.out).mono ?_
        rintro e w8 ⟨rfl, hb⟩
        rw [HSS.out]
        have P8 := Lib.hid (P7.out.below hb (by omega))
        have X8 := Lib.hid (X7.out.below hb (by omega))
        have H8 := Lib.hid (H7.out.trans (hb.mono H7.out.size))
        have hz8 : w7.heap.size ≤ w8.heap.size := hb.size
        clear hb P7 X7 H7 
        go_wp2_with fail
        have hLO := implLeastOf_any aX cX X 0 w8 _ _ X8.out (by omega) hmx.out
        rw [HLL.out] at hLO
        have HLO := Lib.hid hLO
        clear hLO
        refine (HLO.out).mono ?_
        rintro e w9 ⟨aZ, cZ, rfl, hx, hb⟩
        have P9 := Lib.hid (P8.out.below hb (by omega))
        have X9 := Lib.hid (X8.out.below hb (by omega))
        have H9 := Lib.hid (H8.out.trans (hb.mono H8.out.size))
        have hz9 : w8.heap.size ≤ w9.heap.size := hb.size
        have Z9 := Lib.hid hx.rd
        clear hb P8 X8 H8 hx
        go_wp2_with fail
        refine (sameRows_any aZ aX cZ cX X X w9 _ _ _ _ Z9.out X9.out hmx.out).mono ?_
        rintro e w10 ⟨rfl, hq⟩
        rw [decide_eq_true rfl]
        have hb : Below w9.heap.size w9 w10 := hq.below
        have P10 := Lib.hid (P9.out.below hb (by omega))
        have X10 := Lib.hid (X9.out.below hb (by omega))
        have H10 := Lib.hid (H9.out.trans (hb.mono H9.out.size))
        have Z10 := Lib.hid (Z9.out.below hb (by omega))
        have hz10 : w9.heap.size ≤ w10.heap.size := hb.size
        clear hb P9 X9 H9 Z9 hq
        go_wp2_with fail
        go_ret
        exact ⟨rfl, H10.out⟩
end Go.Proofs.YtiiohodkfipfbaaDoor
