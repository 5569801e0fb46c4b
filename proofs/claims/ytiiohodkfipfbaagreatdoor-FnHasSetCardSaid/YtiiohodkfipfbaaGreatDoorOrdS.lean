/- spec.l4Orders: all orders that keep the first node first. -/
import Derived.Test.YtiiohodkfipfbaaGreatDoorOrdP
import Derived.Test.YtiiohodkfipfbaaGreatDoorMark
import Derived.Test.YtiiohodkfipfbaaGreatDoorReach
namespace Go.Hyp
open Go.RowKit Go.Deep
theorem ext_one (o : List Int) : ext o 1 = [] := by unfold ext; simp
theorem rows_zero (w : World) (E R : Nat) : OwII ((w.alloc (.cells #[.int .i64 0] E)).alloc (.cells #[.slice (some ⟨w.heap.size, 0, none⟩) 1 1] R)) E R w.heap.size (w.heap.size + 2) (some ⟨w.heap.size + 1, 0, none⟩) 1 [[0]] := by
  have hr := World.rowIs_alloc (w.alloc (.cells #[.int .i64 0] E)) #[.slice (some ⟨w.heap.size, 0, none⟩) 1 1] R (fun _ => .slice (some ⟨w.heap.size, 0, none⟩) 1 1) (fun i hi => by
    have : i = 0 := by simp at hi; omega
    subst this; rfl)
  have hs : (w.alloc (.cells #[.int .i64 0] E)).heap.size = w.heap.size + 1 := by simp
  rw [hs] at hr
  refine ⟨fun _ => some ⟨w.heap.size, 0, none⟩, fun _ => 1, .inr ⟨w.heap.size + 1, _, rfl, by omega, by omega, hr, by simp, by unfold maxLen; omega, fun i hi => ?_⟩, fun i hi => ?_, fun i j hij hj => ?_, fun i hi x y hx hy => ?_⟩
  · have : i = 0 := by simp at hi; omega
    subst this; rfl
  · have : i = 0 := by simp at hi; omega
    subst this
    exact ((OwI_one w E 0).agr ((Agr.refl _ _ _).alloc (by simp) _)).mono (Nat.le_refl _) (by omega)
  · simp at hj; omega
  · injection hx with hx; injection hy with hy; subst hx; subst hy; simp
end Go.Hyp
namespace Go.Proofs.YtiiohodkfipfbaaGreatDoor
open Go.RowKit Go.Hyp Go.Deep

set_option maxRecDepth 4000 in
set_option maxHeartbeats 1600000 in
theorem l4Orders_any (n : Nat) (w : World) (h1 : 1 ≤ n) (h5 : n ≤ 5) :
    Calls Tryz.prog 47 #[.int .i64 n] w (RetII 3 37 (ords n (n - 1)) w) := by
  have HO0 := Lib.hid (rows_zero w 3 37)
  have HB0 := Lib.hid ((below_alloc w (.cells #[.int .i64 0] 3)).alloc (by simp) (.cells #[.slice (some ⟨w.heap.size, 0, none⟩) 1 1] 37))
  go_enter Tryz.func47, Tryz.ntmps47
  go_wp2_with fail
  go_loopw [3, 4] (fun o c wr => ∃ (k : Nat) (O : List (List Int)) (x : Option Addr) (cc : Nat), k + 1 ≤ n ∧ c = .int .i64 ((k : Int) + 1) ∧ O = ords n k ∧ O.length ≤ 625 ∧ o = .slice x O.length cc ∧ OwII wr 3 37 w.heap.size wr.heap.size x cc O ∧ Below w.heap.size w wr) (fun _ c _ => n - (intOf c).toNat)
  case atStart => exact ⟨0, [[0]], _, 1, h1, rfl, rfl, by simp, rfl, HO0.out.mono (Nat.le_refl _) (by simp), HB0.out⟩
  case round =>
    obtain ⟨k, O, x, cc, hk, rfl, hO, hOl, rfl, ho, hb⟩ := hrel
    have HO := Lib.hid ho
    have HB := Lib.hid hb
    have HE := Lib.hid hO
    have hzr : w.heap.size ≤ wr.heap.size := hb.size
    clear ho hb hO HO0 HB0
    by_cases hlt : k + 1 < n
    · have hki : (k : Int) + 1 < (n : Int) := by omega
      have HA := Lib.hid (below_alloc wr (.cells #[] 37))
      have HN0 := Lib.hid (OwII_empty wr 3 37)
      have HOR := Lib.hid ((HO.out.rd).below HA.out (Nat.le_refl _))
      have hz00 : nxt n O 0 = [] := rfl
      have HZ0 := Lib.hid hz00
      obtain ⟨wk, rfl⟩ : ∃ wk : World, wk = wr := ⟨_, rfl⟩
      clear hz00
      go_wp2_with fail
      go_loopw [5, 6] (fun o c wi => ∃ (i : Nat) (N : List (List Int)) (y : Option Addr) (cy : Nat), i ≤ O.length ∧ c = .int .i64 i ∧ N = nxt n O i ∧ o = .slice y N.length cy ∧ OwII wi 3 37 wk.heap.size wi.heap.size y cy N ∧ Below wk.heap.size wk wi) (fun _ c _ => O.length - (intOf c).toNat)
      case atStart => exact ⟨0, [], _, 0, Nat.zero_le _, rfl, rfl, rfl, HN0.out.mono (Nat.le_refl _) (by simp), HA.out⟩
      case round =>
        obtain ⟨i, N, y, cy, hi, rfl, hN, rfl, hn, hb⟩ := hrel
        have HN := Lib.hid hn
        have HBN := Lib.hid hb
        have HNE := Lib.hid hN
        have hnl := nxt_len n O i
        rw [← hN] at hnl
        have hzk : wk.heap.size ≤ wr.heap.size := hb.size
        clear hn hb hN HN0 HA HOR
        by_cases hlt2 : i < O.length
        · have hii : (i : Int) < (O.length : Int) := by omega
          obtain ⟨q, hq⟩ : ∃ q, q = O[i] := ⟨_, rfl⟩
          have hql : Pre n k q := (ords_mem h1 k q).1 (by rw [← HE.out, hq]; exact List.getElem_mem _)
          have hqlen := hql.len
          have hqle1 : q.length ≤ k + 1 := by omega
          have hqle2 : k + 1 ≤ q.length := by omega
          have HQ := Lib.hid hq
          have HE1 := Lib.hid (ext_one q)
          clear hq hql hqlen
          go_wp2_with fail
          go_loopw [5, 7] (fun o c wi => ∃ (m : Nat) (N2 : List (List Int)) (y : Option Addr) (cy : Nat), m + 1 ≤ n ∧ c = .int .i64 ((m : Int) + 1) ∧ N2 = N ++ ext q (m + 1) ∧ o = .slice y N2.length cy ∧ OwII wi 3 37 wk.heap.size wi.heap.size y cy N2 ∧ Below wk.heap.size wk wi) (fun _ c _ => n - (intOf c).toNat)
          case atStart => exact ⟨0, N, y, cy, h1, rfl, by rw [HE1.out, List.append_nil], rfl, HN.out, HBN.out⟩
          case round =>
            obtain ⟨m, N2, y2, cy2, hm, rfl, hN2, rfl, hn, hb⟩ := hrel
            have HN2 := Lib.hid hn
            have HBM := Lib.hid hb
            have HNE2 := Lib.hid hN2
            have hel := ext_len q (m + 1)
            have hnl2 : N2.length ≤ 4000 := by
              have h : N2.length = N.length + (ext q (m + 1)).length := by rw [hN2, List.length_append]
              have : i * n ≤ 625 * 5 := Nat.mul_le_mul (by omega) h5
              omega
            have hzm : wk.heap.size ≤ wr.heap.size := hb.size
            clear hn hb hN2 HN HBN
            by_cases hlt3 : m + 1 < n
            · have hmi : (m : Int) + 1 < (n : Int) := by omega
              have HOW := Lib.hid ((HO.out.rd).below HBM.out (Nat.le_refl _))
              obtain ⟨b1, o1, x1, c1, rfl, hbx1, hbx2, hc1, hr1, hl1⟩ := HOW.out.at i hlt2
              rw [← HQ.out] at hc1 hr1
              have HR1 := Lib.hid hr1
              have hes := ext_succ q (m + 1)
              have HES := Lib.hid hes
              have ht0 : decide (((m : Int) + 1) ∈ q.take 0) = false := by simp
              have HT0 := Lib.hid ht0
              obtain ⟨wj, rfl⟩ : ∃ wj : World, wj = wr := ⟨_, rfl⟩
              clear hr1 hes ht0
              go_wp2_with fail
              go_loopw [8, 9] (fun f c wi => ∃ (j : Nat) (b : Bool), j ≤ q.length ∧ c = .int .i64 j ∧ f = .bool b ∧ decide (((m : Int) + 1) ∈ q.take j) = b ∧ wi = wj) (fun _ c _ => q.length - (intOf c).toNat)
              case atStart => exact ⟨0, false, Nat.zero_le _, rfl, rfl, HT0.out, rfl⟩
              case round =>
                obtain ⟨j, fb, hj, rfl, rfl, hfb, rfl⟩ := hrel
                have HFB := Lib.hid hfb
                clear hfb
                by_cases hlt4 : j < q.length
                · have hji : (j : Int) < (q.length : Int) := by omega
                  obtain ⟨b2, o2, rfl, _, hb2, hd2⟩ := HR1.out.at j hlt4
                  obtain ⟨v, hv⟩ : ∃ v, v = q[j] := ⟨_, rfl⟩
                  rw [← hv] at hd2
                  have hts : ((m : Int) + 1) ∈ q.take (j + 1) ↔ ((m : Int) + 1) ∈ q.take j ∨ (m : Int) + 1 = v := by
                    rw [List.take_succ_eq_append_getElem hlt4, ← hv, List.mem_append, List.mem_singleton]
                  have HTS := Lib.hid hts
                  clear hv hts
                  cases fb
                  · have hno : ¬ ((m : Int) + 1) ∈ q.take j := of_decide_eq_false HFB.out
                    by_cases hvm : v = (m : Int) + 1
                    · have HN : Hid (decide (((m : Int) + 1) ∈ q.take (j + 1)) = true) := Lib.hid (decide_eq_true (HTS.out.2 (.inr hvm.symm)))
                      subst hvm
                      clear hno
                      go_wp2_with fail
                      go_roundw
                      case rel => exact ⟨j + 1, true, by omega, by go_num, rfl, HN.out, by first | rfl | trivial⟩
                      case measure => simp [intOf]; omega
                    · have HN : Hid (decide (((m : Int) + 1) ∈ q.take (j + 1)) = false) := Lib.hid (decide_eq_false (fun h => by
                        rcases HTS.out.1 h with h | h
                        · exact hno h
                        · exact hvm h.symm))
                      have hbf : (v == (m : Int) + 1) = false := beq_eq_false_iff_ne.2 hvm
                      clear hno hvm
                      go_wp2_with fail
                      go_roundw
                      case rel => exact ⟨j + 1, false, by omega, by go_num, rfl, HN.out, by first | rfl | trivial⟩
                      case measure => simp [intOf]; omega
                  · have HN : Hid (decide (((m : Int) + 1) ∈ q.take (j + 1)) = true) := Lib.hid (decide_eq_true (HTS.out.2 (.inl (of_decide_eq_true HFB.out))))
                    go_wp2_with fail
                    go_roundw
                    case rel => exact ⟨j + 1, true, by omega, by go_num, rfl, HN.out, by first | rfl | trivial⟩
                    case measure => simp [intOf]; omega
                · obtain rfl : j = q.length := by omega
                  have hfull := HFB.out
                  rw [List.take_of_length_le (Nat.le_refl _)] at hfull
                  have hcast : ((m + 1 : Nat) : Int) = (m : Int) + 1 := by omega
                  cases fb
                  · have HEX : Hid (N ++ ext q (m + 1 + 1) = N2 ++ [q ++ [(m : Int) + 1]]) := Lib.hid (by
                      rw [HES.out, HNE2.out, hcast, hfull]
                      simp)
                    clear hfull hcast
                    obtain ⟨b2, o2, rfl, hb21, hb22, _⟩ := HR1.out.at 0 (by omega)
                    have hq5 : q.length ≤ 5 := by omega
                    have hb1w : b1 < wr.heap.size := by omega
                    have hb2w : b2 < wr.heap.size := by omega
                    have HE3 := Lib.hid (OwI_empty wr 3)
                    have HR3 := Lib.hid (HR1.out.below (below_alloc wr (.cells #[] 3)) (Nat.le_trans (Nat.le_refl _) hzm))
                    go_wp2_with (at_builtin; first | (refine wpList_appIs Tryz.underlying37 Tryz.infoInt (wr.alloc (.cells #[] 3)) rfl _ _ rfl wr.heap.size (wr.heap.size + 1) (some ⟨wr.heap.size, 0, none⟩) 0 [] rfl HE3.out (by simp) _ _ (some ⟨b2, o2, none⟩) c1 q rfl HR3.out (fun e => by cases e) (by simp; omega) ?_; intro a3 c3 w3 hown3 hgrow3 hat3; rw [List.nil_append] at hown3; have HO3 := Lib.hid hown3; have HG3 := Lib.hid hgrow3; clear hown3 hgrow3 hat3; have hz3 : wr.heap.size + 1 ≤ w3.heap.size := (by have := HG3.out.size; simpa using this); have HP3 := Lib.hid (HN2.out.agr (fun b h1 h2 => (HG3.out.block b (by simp; omega) (fun e => by simp [blockOf] at e; omega)).trans (Below.heap_alloc _ _ _ (by omega)))); have HB3 := Lib.hid (below_app HBM.out HG3.out (fun k hk => by simp [blockOf] at hk; exact Nat.le_of_eq hk) hzm (Nat.le_refl _))) | (refine wpList_appI Tryz.underlying37 Tryz.infoInt _ rfl _ _ rfl wr.heap.size w3.heap.size a3 c3 q (by first | rfl | exact congrArg (fun k => Value.slice a3 k c3) (Nat.zero_add _).symm | exact congrArg (fun k => Value.slice a3 k c3) (Nat.zero_add _)) (HO3.out.agr ((Agr.refl _ _ _).alloc (Nat.le_refl _) _)) (by simp; omega) ⟨w3.heap.size, 0, none⟩ ((m : Int) + 1) rfl (new_cellE _ _ _ rfl) (by omega) ?_; intro g4 c4 w4 hown4 hgrow4 hat4 hg4; have HO4 := Lib.hid hown4; have HG4 := Lib.hid hgrow4; clear hown4 hgrow4 hat4; have hz4 : w3.heap.size + 1 ≤ w4.heap.size := (by have := HG4.out.size; simpa using this); have HP4 := Lib.hid (HP3.out.agr (fun b h1 h2 => (HG4.out.block b (by simp; omega) (fun e => by have := HO3.out.block_in e.symm; omega)).trans (Below.heap_alloc _ _ _ (by omega)))); have HB4 := Lib.hid (below_app HB3.out HG4.out (fun k hk => (HO3.out.block_in hk).1) hzm (Nat.le_refl _))) | (go_loud (refine wpList_appII Tryz.underlying23 Tryz.infoRow _ rfl _ _ rfl wk.heap.size wr.heap.size y2 cy2 N2 rfl (HP4.out.agr ((Agr.refl _ _ _).alloc (by omega) _)) (by simp; omega) (by simp; omega) ⟨w4.heap.size, 0, none⟩ (some ⟨g4, 0, none⟩) c4 (q ++ [(m : Int) + 1]) rfl (by rw [List.length_append]; exact new_cellE _ _ _ rfl) wr.heap.size w4.heap.size (HO4.out.agr ((Agr.refl _ _ _).alloc (Nat.le_refl _) _)) (Nat.le_refl _) hzm (by simp) (by omega) ?_; intro a5 c5 w5 hown5 hgrow5 hat5; have HO5 := Lib.hid hown5; have HB5 := Lib.hid (below_app HB4.out hgrow5 (fun k hk => (HP4.out.block_in hk).1) (Nat.le_refl _) (Nat.le_refl _)); clear hown5 hgrow5 hat5)))
                    go_roundw
                    case rel => exact ⟨m + 1, N2 ++ [q ++ [(m : Int) + 1]], a5, c5, by omega, by go_num, HEX.out.symm, by simp, HO5.out, HB5.out⟩
                    case measure => simp [intOf]; omega
                  · have HEX : Hid (N ++ ext q (m + 1 + 1) = N2) := Lib.hid (by
                      rw [HES.out, HNE2.out, hcast, hfull]
                      simp)
                    clear hfull hcast
                    go_wp2_with fail
                    go_roundw
                    case rel => exact ⟨m + 1, N2, y2, cy2, by omega, by go_num, HEX.out.symm, rfl, HN2.out, HBM.out⟩
                    case measure => simp [intOf]; omega
            · obtain rfl : m + 1 = n := by omega
              have HNN : Hid (N2 = nxt (m + 1) O (i + 1)) := Lib.hid (by rw [HNE2.out, HNE.out, nxt_succ hlt2, ← HQ.out])
              go_wp2_with fail
              go_roundw
              case rel => exact ⟨i + 1, N2, y2, cy2, by omega, by go_num, HNN.out, rfl, HN2.out, HBM.out⟩
              case measure => simp [intOf]; omega
        · obtain rfl : i = O.length := by omega
          have HOE : Hid (N = ords n (k + 1)) := Lib.hid (by rw [HNE.out, HE.out]; rfl)
          have hb625 : N.length ≤ 625 := by
            rw [HOE.out]
            have h1 := ords_len n h5 (k + 1)
            have h2 : 5 ^ (k + 1) ≤ 5 ^ 4 := Nat.pow_le_pow_right (by omega) (by omega)
            have h3 : (5 : Nat) ^ 4 = 625 := rfl
            omega
          go_wp2_with fail
          go_roundw
          case rel => exact ⟨k + 1, N, y, cy, by omega, by go_num, HOE.out, hb625, rfl, HN.out.mono hzr (Nat.le_refl _), HB.out.trans (HBN.out.mono hzr)⟩
          case measure => simp [intOf]; omega
    · have hki : ¬ ((k : Int) + 1 < (n : Int)) := by omega
      have HEE : Hid (O = ords n (n - 1)) := Lib.hid (by rw [HE.out]; congr 1; omega)
      go_wp2_with fail
      go_ret
      exact retII_of HEE.out HO.out HB.out
end Go.Proofs.YtiiohodkfipfbaaGreatDoor
