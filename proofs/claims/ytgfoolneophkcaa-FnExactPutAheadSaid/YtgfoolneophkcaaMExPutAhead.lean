/- The law FnExactPutAhead, walked. -/
import Derived.Deep.RegionHeld3
import Derived.Test.YtgfoolneophkcaaM8
import Derived.Test.YtgfoolneophkcaaM3
namespace Go.Proofs.Ytgfoolneophkcaa
open Go.RowKit Go.Hyp Go.Deep

set_option maxRecDepth 8000 in
set_option maxHeartbeats 8000000 in
theorem fnExactPutAhead_any (bit : Int) (a1 a2 : Option Addr) (c1 c2 : Nat) (l1 l2 : List Int) (w : World) (h1 : RdI w 0 w.heap.size a1 l1) (h2 : RdI w 0 w.heap.size a2 l2) (hl1 : l1.length ≤ maxLen) (hl2 : l2.length ≤ maxLen) :
    Calls Try.prog 7 #[.int .i64 bit, .agg #[.slice a1 l1.length c1, .slice a2 l2.length c2]] w fun e w' => e = .returned (.bool true) ∧ Below w.heap.size w w' := by
  have H := Lib.hid (below_alloc w (.cells #[.slice a1 l1.length c1, .slice a2 l2.length c2] 31))
  have F1 := Lib.hid h1
  have F2 := Lib.hid h2
  have BA := Lib.hid (blk_new (w := w) (o := .cells #[.slice a1 l1.length c1, .slice a2 l2.length c2] 31) rfl)
  clear h1 h2
  have s1 := szI_cases 1048576 l1.length
  have s2 := szI_cases (szI 1048576 l1.length) l2.length
  obtain ⟨left, hleft⟩ : ∃ v, v = szI (szI 1048576 l1.length) l2.length := ⟨_, rfl⟩
  by_cases hs : left < 0
  · clear s1 s2
    have HLE := Lib.hid hleft
    clear hleft
    go_enter Try.func7, Try.ntmps7
    go_wp2_with fail
    refine (szStream_any a1 a2 c1 c2 l1.length l2.length _ hl1 hl2).mono ?_
    rintro e w1 ⟨rfl, hb1⟩
    rw [← HLE.out]
    have H1 := Lib.hid (below_then H.out hb1)
    clear hb1
    go_wp2_with fail
    go_ret
    exact ⟨rfl, H1.out⟩
  have hq : l1.length ≤ 1048576 ∧ l2.length ≤ 1048576 ∧ left ≤ 1048576 := by omega
  obtain ⟨hn1, hn2, hle⟩ := hq
  clear s1 s2
  have HLE := Lib.hid hleft
  clear hleft
  go_enter Try.func7, Try.ntmps7
  go_wp2_with fail
  obtain ⟨W0, hW⟩ : ∃ v, v = w.alloc (.cells #[.slice a1 l1.length c1, .slice a2 l2.length c2] 31) := ⟨_, rfl⟩
  have hz0 : w.heap.size < W0.heap.size := by rw [hW]; simp
  rw [← hW] at BA H ⊢
  clear hW
  refine (szStream_any a1 a2 c1 c2 l1.length l2.length W0 hl1 hl2).mono ?_
  rintro e W1 ⟨rfl, hb⟩
  rw [← HLE.out]
  have hz1 : W0.heap.size ≤ W1.heap.size := hb.size
  replace BA := Lib.hid (hb.blk BA.out (blk_lt BA.out))
  replace H := Lib.hid (below_then H.out hb)
  clear hb HLE
  obtain ⟨cA1, cA2, _, _⟩ := blk2 BA.out
  go_wp2_with fail
  clear cA1 cA2
  refine (toStream_any a1 a2 c1 c2 l1 l2 W1 0 w.heap.size 0 w.heap.size (F1.out.below H.out (Nat.le_refl _)) (F2.out.below H.out (Nat.le_refl _)) H.out.size H.out.size hn1 hn2).mono ?_
  rintro e W2 ⟨xS1, gS1, xS2, gS2, rfl, o1, o2, hd, hb⟩
  have hz2 : W1.heap.size ≤ W2.heap.size := hb.size
  replace BA := Lib.hid (hb.blk BA.out (blk_lt BA.out))
  replace H := Lib.hid (below_then H.out hb)
  obtain ⟨loS, hlo⟩ : ∃ v, v = W1.heap.size := ⟨_, rfl⟩
  obtain ⟨hiS, hhi⟩ : ∃ v, v = W2.heap.size := ⟨_, rfl⟩
  rw [← hlo, ← hhi] at o1 o2
  have OS1 := Lib.hid o1
  have OS2 := Lib.hid o2
  have DS := Lib.hid hd
  have hlhS : loS ≤ hiS := by omega
  have hhwS : hiS ≤ W2.heap.size := by omega
  have hwlS : w.heap.size < loS := by omega
  have hbcAS : w.heap.size < loS := by omega
  clear hlo hhi o1 o2 hd
  clear hb
  obtain ⟨cA1, cA2, _, _⟩ := blk2 BA.out
  go_wp2_with fail
  clear cA1 cA2
  refine (specPutAhead_any bit xS1 xS2 gS1 gS2 l1 l2 W2 loS hiS OS1.out.rd OS2.out.rd (by omega) hn1 hn2).mono ?_
  rintro e W3 ⟨m1, m2, vb, hsa, xW1, gW1, xW2, gW2, rfl, o1, o2, hd, hb⟩
  have hbb : (vb != vb) = false := by simp
  have HSA := Lib.hid hsa
  have hm12 := hsa.len
  obtain ⟨hm1, hm2⟩ := hm12
  clear hsa
  have hz3 : W2.heap.size ≤ W3.heap.size := hb.size
  replace BA := Lib.hid (hb.blk BA.out (blk_lt BA.out))
  replace OS1 := Lib.hid (OS1.out.below hb (by omega))
  replace OS2 := Lib.hid (OS2.out.below hb (by omega))
  replace H := Lib.hid (below_then H.out hb)
  obtain ⟨loW, hlo⟩ : ∃ v, v = W2.heap.size := ⟨_, rfl⟩
  obtain ⟨hiW, hhi⟩ : ∃ v, v = W3.heap.size := ⟨_, rfl⟩
  rw [← hlo, ← hhi] at o1 o2
  have OW1 := Lib.hid o1
  have OW2 := Lib.hid o2
  have DW := Lib.hid hd
  have hlhW : loW ≤ hiW := by omega
  have hhwW : hiW ≤ W3.heap.size := by omega
  have hwlW : w.heap.size < loW := by omega
  have hccSW : hiS ≤ loW := by omega
  have hbcAW : w.heap.size < loW := by omega
  clear hlo hhi o1 o2 hd
  clear hb
  clear OS1 OS2 DS
  have hal := below_alloc W3 (.cells #[.slice xW1 m1.length gW1, .slice xW2 m2.length gW2] 34)
  replace BA := Lib.hid (blk_old (o := .cells #[.slice xW1 m1.length gW1, .slice xW2 m2.length gW2] 34) BA.out)
  replace OW1 := Lib.hid (OW1.out.below hal (by omega))
  replace OW2 := Lib.hid (OW2.out.below hal (by omega))
  have BW := Lib.hid (blk_new (w := W3) (o := .cells #[.slice xW1 m1.length gW1, .slice xW2 m2.length gW2] 34) rfl)
  replace H := Lib.hid (below_alloc' H.out (.cells #[.slice xW1 m1.length gW1, .slice xW2 m2.length gW2] 34))
  clear hal
  have hcbWW : hiW ≤ W3.heap.size := by omega
  obtain ⟨cA1, cA2, _, _⟩ := blk2 BA.out
  obtain ⟨cW1, cW2, _, _⟩ := blk2 BW.out
  go_wp2_with fail
  clear cA1 cA2 cW1 cW2
  obtain ⟨W4, hW⟩ : ∃ v, v = W3.alloc (.cells #[.slice xW1 m1.length gW1, .slice xW2 m2.length gW2] 34) := ⟨_, rfl⟩
  have hz4 : W3.heap.size < W4.heap.size := by rw [hW]; simp
  rw [← hW] at BA BW OW1 OW2 H ⊢
  clear hW
  refine (toStream_any a1 a2 c1 c2 l1 l2 W4 0 w.heap.size 0 w.heap.size (F1.out.below H.out (Nat.le_refl _)) (F2.out.below H.out (Nat.le_refl _)) H.out.size H.out.size hn1 hn2).mono ?_
  rintro e W5 ⟨xX1, gX1, xX2, gX2, rfl, o1, o2, hd, hb⟩
  have hz5 : W4.heap.size ≤ W5.heap.size := hb.size
  replace BA := Lib.hid (hb.blk BA.out (blk_lt BA.out))
  replace BW := Lib.hid (hb.blk BW.out (blk_lt BW.out))
  replace OW1 := Lib.hid (OW1.out.below hb (by omega))
  replace OW2 := Lib.hid (OW2.out.below hb (by omega))
  replace H := Lib.hid (below_then H.out hb)
  obtain ⟨loX, hlo⟩ : ∃ v, v = W4.heap.size := ⟨_, rfl⟩
  obtain ⟨hiX, hhi⟩ : ∃ v, v = W5.heap.size := ⟨_, rfl⟩
  rw [← hlo, ← hhi] at o1 o2
  have OX1 := Lib.hid o1
  have OX2 := Lib.hid o2
  have DX := Lib.hid hd
  have hlhX : loX ≤ hiX := by omega
  have hhwX : hiX ≤ W5.heap.size := by omega
  have hwlX : w.heap.size < loX := by omega
  have hccWX : hiW ≤ loX := by omega
  have hbcAX : w.heap.size < loX := by omega
  have hbcWX : W3.heap.size < loX := by omega
  clear hlo hhi o1 o2 hd
  clear hb
  have hal := below_alloc W5 (.cells #[.slice xX1 l1.length gX1, .slice xX2 l2.length gX2] 34)
  replace BA := Lib.hid (blk_old (o := .cells #[.slice xX1 l1.length gX1, .slice xX2 l2.length gX2] 34) BA.out)
  replace BW := Lib.hid (blk_old (o := .cells #[.slice xX1 l1.length gX1, .slice xX2 l2.length gX2] 34) BW.out)
  replace OW1 := Lib.hid (OW1.out.below hal (by omega))
  replace OW2 := Lib.hid (OW2.out.below hal (by omega))
  replace OX1 := Lib.hid (OX1.out.below hal (by omega))
  replace OX2 := Lib.hid (OX2.out.below hal (by omega))
  have BX := Lib.hid (blk_new (w := W5) (o := .cells #[.slice xX1 l1.length gX1, .slice xX2 l2.length gX2] 34) rfl)
  replace H := Lib.hid (below_alloc' H.out (.cells #[.slice xX1 l1.length gX1, .slice xX2 l2.length gX2] 34))
  clear hal
  have hcbWX : hiW ≤ W5.heap.size := by omega
  have hcbXX : hiX ≤ W5.heap.size := by omega
  obtain ⟨cA1, cA2, _, _⟩ := blk2 BA.out
  obtain ⟨cW1, cW2, _, _⟩ := blk2 BW.out
  obtain ⟨cX1, cX2, _, _⟩ := blk2 BX.out
  go_wp2_with fail
  clear cA1 cA2 cW1 cW2 cX1 cX2
  obtain ⟨W6, hW⟩ : ∃ v, v = W5.alloc (.cells #[.slice xX1 l1.length gX1, .slice xX2 l2.length gX2] 34) := ⟨_, rfl⟩
  have hz6 : W5.heap.size < W6.heap.size := by rw [hW]; simp
  rw [← hW] at BA BW BX OW1 OW2 OX1 OX2 H ⊢
  clear hW
  refine (implPutAhead_any bit xX1 xX2 gX1 gX2 l1 l2 W6 loX hiX OX1.out.rd OX2.out.rd (by omega) hn1 hn2).mono ?_
  rintro e W7 ⟨n1, n2, vc, hsa, xG1, gG1, xG2, gG2, rfl, o1, o2, hd, hb⟩
  obtain ⟨rfl, rfl, rfl⟩ := HSA.out.one hsa
  clear hsa
  have hz7 : W6.heap.size ≤ W7.heap.size := hb.size
  replace BA := Lib.hid (hb.blk BA.out (blk_lt BA.out))
  replace BW := Lib.hid (hb.blk BW.out (blk_lt BW.out))
  replace BX := Lib.hid (hb.blk BX.out (blk_lt BX.out))
  replace OW1 := Lib.hid (OW1.out.below hb (by omega))
  replace OW2 := Lib.hid (OW2.out.below hb (by omega))
  replace OX1 := Lib.hid (OX1.out.below hb (by omega))
  replace OX2 := Lib.hid (OX2.out.below hb (by omega))
  replace H := Lib.hid (below_then H.out hb)
  obtain ⟨loG, hlo⟩ : ∃ v, v = W6.heap.size := ⟨_, rfl⟩
  obtain ⟨hiG, hhi⟩ : ∃ v, v = W7.heap.size := ⟨_, rfl⟩
  rw [← hlo, ← hhi] at o1 o2
  have OG1 := Lib.hid o1
  have OG2 := Lib.hid o2
  have DG := Lib.hid hd
  have hlhG : loG ≤ hiG := by omega
  have hhwG : hiG ≤ W7.heap.size := by omega
  have hwlG : w.heap.size < loG := by omega
  have hccWG : hiW ≤ loG := by omega
  have hccXG : hiX ≤ loG := by omega
  have hbcAG : w.heap.size < loG := by omega
  have hbcWG : W3.heap.size < loG := by omega
  have hbcXG : W5.heap.size < loG := by omega
  clear hlo hhi o1 o2 hd
  clear hb
  have hal := below_alloc W7 (.cells #[.slice xG1 m1.length gG1, .slice xG2 m2.length gG2] 34)
  replace BA := Lib.hid (blk_old (o := .cells #[.slice xG1 m1.length gG1, .slice xG2 m2.length gG2] 34) BA.out)
  replace BW := Lib.hid (blk_old (o := .cells #[.slice xG1 m1.length gG1, .slice xG2 m2.length gG2] 34) BW.out)
  replace BX := Lib.hid (blk_old (o := .cells #[.slice xG1 m1.length gG1, .slice xG2 m2.length gG2] 34) BX.out)
  replace OW1 := Lib.hid (OW1.out.below hal (by omega))
  replace OW2 := Lib.hid (OW2.out.below hal (by omega))
  replace OX1 := Lib.hid (OX1.out.below hal (by omega))
  replace OX2 := Lib.hid (OX2.out.below hal (by omega))
  replace OG1 := Lib.hid (OG1.out.below hal (by omega))
  replace OG2 := Lib.hid (OG2.out.below hal (by omega))
  have BG := Lib.hid (blk_new (w := W7) (o := .cells #[.slice xG1 m1.length gG1, .slice xG2 m2.length gG2] 34) rfl)
  replace H := Lib.hid (below_alloc' H.out (.cells #[.slice xG1 m1.length gG1, .slice xG2 m2.length gG2] 34))
  clear hal
  have hcbWG : hiW ≤ W7.heap.size := by omega
  have hcbXG : hiX ≤ W7.heap.size := by omega
  have hcbGG : hiG ≤ W7.heap.size := by omega
  obtain ⟨cA1, cA2, _, _⟩ := blk2 BA.out
  obtain ⟨cW1, cW2, _, _⟩ := blk2 BW.out
  obtain ⟨cX1, cX2, _, _⟩ := blk2 BX.out
  obtain ⟨cG1, cG2, _, _⟩ := blk2 BG.out
  go_wp2_with fail
  clear cA1 cA2 cW1 cW2 cX1 cX2 cG1 cG2
  obtain ⟨W8, hW⟩ : ∃ v, v = W7.alloc (.cells #[.slice xG1 m1.length gG1, .slice xG2 m2.length gG2] 34) := ⟨_, rfl⟩
  have hz8 : W7.heap.size < W8.heap.size := by rw [hW]; simp
  rw [← hW] at BA BW BX BG OW1 OW2 OX1 OX2 OG1 OG2 H ⊢
  clear hW
  refine (eqStream_any xG1 xG2 xW1 xW2 gG1 gG2 gW1 gW2 m1 m2 m1 m2 W8 0 (OG1.out.rd.mono (Nat.zero_le _) (by omega)) (OG2.out.rd.mono (Nat.zero_le _) (by omega)) (OW1.out.rd.mono (Nat.zero_le _) (by omega)) (OW2.out.rd.mono (Nat.zero_le _) (by omega)) (by unfold maxLen; omega) (by unfold maxLen; omega) (by unfold maxLen; omega) (by unfold maxLen; omega)).mono ?_
  rintro e W9 ⟨rfl, hb⟩
  rw [decide_eq_true rfl, decide_eq_true rfl]
  have hz9 : W8.heap.size ≤ W9.heap.size := hb.size
  replace BA := Lib.hid (hb.blk BA.out (blk_lt BA.out))
  replace BW := Lib.hid (hb.blk BW.out (blk_lt BW.out))
  replace BX := Lib.hid (hb.blk BX.out (blk_lt BX.out))
  replace BG := Lib.hid (hb.blk BG.out (blk_lt BG.out))
  replace OW1 := Lib.hid (OW1.out.below hb (by omega))
  replace OW2 := Lib.hid (OW2.out.below hb (by omega))
  replace OX1 := Lib.hid (OX1.out.below hb (by omega))
  replace OX2 := Lib.hid (OX2.out.below hb (by omega))
  replace OG1 := Lib.hid (OG1.out.below hb (by omega))
  replace OG2 := Lib.hid (OG2.out.below hb (by omega))
  replace H := Lib.hid (below_then H.out hb)
  clear hb
  obtain ⟨cA1, cA2, _, _⟩ := blk2 BA.out
  obtain ⟨cW1, cW2, _, _⟩ := blk2 BW.out
  obtain ⟨cX1, cX2, _, _⟩ := blk2 BX.out
  obtain ⟨cG1, cG2, _, _⟩ := blk2 BG.out
  go_wp2_with fail
  clear cA1 cA2 cW1 cW2 cX1 cX2 cG1 cG2
  obtain ⟨cA1, cA2, _, _⟩ := blk2 BA.out
  obtain ⟨cW1, cW2, _, _⟩ := blk2 BW.out
  obtain ⟨cX1, cX2, _, _⟩ := blk2 BX.out
  obtain ⟨cG1, cG2, _, _⟩ := blk2 BG.out
  refine wp_region_held_drew (S := (fun w' => w'.cell? ⟨W5.heap.size, 0, none⟩ = some (.slice xX1 l1.length gX1) ∧ w'.cell? ⟨W5.heap.size, 1, none⟩ = some (.slice xX2 l2.length gX2) ∧ w'.cell? ⟨w.heap.size, 0, none⟩ = some (.slice a1 l1.length c1) ∧ w'.cell? ⟨w.heap.size, 1, none⟩ = some (.slice a2 l2.length c2))) (by kernel_rfl) (by exact ⟨cX1, cX2, cA1, cA2⟩) (fun hHeld => ?_)
  refine wpAnyH_take (i := 0) (v := ?_) rfl (by kernel_rfl) (by kernel_rfl) (by kernel_rfl) (fun _ _ _ h => h) (Or.inl ⟨by rfl, ?_⟩) hHeld ?_
  rotate_left
  · intro w hSw; (try dsimp only at hSw); first | (go_simp; done) | (go_simp; with_reducible rfl)
  simp only [Act.put, List.setIfInBounds_toArray, List.set_cons_zero, List.set_cons_succ, List.getElem_toArray, List.getElem_cons_zero, List.getElem_cons_succ]
  refine wpAnyH_take (i := 1) (v := ?_) rfl (by kernel_rfl) (by kernel_rfl) (by kernel_rfl) (fun _ _ _ h => h) (Or.inl ⟨by rfl, ?_⟩) hHeld ?_
  rotate_left
  · intro w hSw; (try dsimp only at hSw); first | (go_simp; done) | (go_simp; with_reducible rfl)
  simp only [Act.put, List.setIfInBounds_toArray, List.set_cons_zero, List.set_cons_succ, List.getElem_toArray, List.getElem_cons_zero, List.getElem_cons_succ]
  clear cA1 cA2 cW1 cW2 cX1 cX2 cG1 cG2
  refine wpAnyH_ready (rs := [2]) (by kernel_rfl) (by simp) ?_
  refine AllReadyH.cons rfl (fun K hK => ?_) AllReadyH.nil
  go_simp
  refine (toStream_any a1 a2 c1 c2 l1 l2 W9.drew 0 w.heap.size 0 w.heap.size (by exact F1.out.below H.out.drew (Nat.le_refl _)) (by exact F2.out.below H.out.drew (Nat.le_refl _)) (by exact H.out.size) (by exact H.out.size) hn1 hn2).mono ?_
  rintro e W10 ⟨xY1, gY1, xY2, gY2, rfl, o1, o2, hd, hb0⟩
  have hb := undrew hb0
  clear hb0
  replace o1 : OwI W10 3 W9.heap.size W10.heap.size xY1 gY1 l1 := o1
  replace o2 : OwI W10 3 W9.heap.size W10.heap.size xY2 gY2 l2 := o2
  have hz10 : W9.heap.size ≤ W10.heap.size := hb.size
  replace BA := Lib.hid (hb.blk BA.out (blk_lt BA.out))
  replace BW := Lib.hid (hb.blk BW.out (blk_lt BW.out))
  replace BX := Lib.hid (hb.blk BX.out (blk_lt BX.out))
  replace BG := Lib.hid (hb.blk BG.out (blk_lt BG.out))
  replace OW1 := Lib.hid (OW1.out.below hb (by omega))
  replace OW2 := Lib.hid (OW2.out.below hb (by omega))
  replace OX1 := Lib.hid (OX1.out.below hb (by omega))
  replace OX2 := Lib.hid (OX2.out.below hb (by omega))
  replace OG1 := Lib.hid (OG1.out.below hb (by omega))
  replace OG2 := Lib.hid (OG2.out.below hb (by omega))
  replace H := Lib.hid (below_then H.out hb)
  obtain ⟨loY, hlo⟩ : ∃ v, v = W9.heap.size := ⟨_, rfl⟩
  obtain ⟨hiY, hhi⟩ : ∃ v, v = W10.heap.size := ⟨_, rfl⟩
  rw [← hlo, ← hhi] at o1 o2
  have OY1 := Lib.hid o1
  have OY2 := Lib.hid o2
  have DY := Lib.hid hd
  have hlhY : loY ≤ hiY := by omega
  have hhwY : hiY ≤ W10.heap.size := by omega
  have hwlY : w.heap.size < loY := by omega
  have hccWY : hiW ≤ loY := by omega
  have hccXY : hiX ≤ loY := by omega
  have hccGY : hiG ≤ loY := by omega
  have hbcAY : w.heap.size < loY := by omega
  have hbcWY : W3.heap.size < loY := by omega
  have hbcXY : W5.heap.size < loY := by omega
  have hbcGY : W7.heap.size < loY := by omega
  clear hlo hhi o1 o2 hd
  clear hb
  obtain ⟨cA1, cA2, _, _⟩ := blk2 BA.out
  obtain ⟨cW1, cW2, _, _⟩ := blk2 BW.out
  obtain ⟨cX1, cX2, _, _⟩ := blk2 BX.out
  obtain ⟨cG1, cG2, _, _⟩ := blk2 BG.out
  refine hK.out _ _ (by exact ⟨cX1, cX2, cA1, cA2⟩) (fun hHeld2 => ?_)
  clear hK K hHeld
  have hHeld := hHeld2
  clear hHeld2
  (try simp only [Act.put, List.setIfInBounds_toArray, List.set_cons_zero, List.set_cons_succ])
  clear cA1 cA2 cW1 cW2 cX1 cX2 cG1 cG2
  refine wpAnyH_ready (rs := [3]) (by kernel_rfl) (by simp) ?_
  refine AllReadyH.cons rfl (fun K hK => ?_) AllReadyH.nil
  go_simp
  refine (eqStream_any xX1 xX2 xY1 xY2 gX1 gX2 gY1 gY2 l1 l2 l1 l2 W10 0 (OX1.out.rd.mono (Nat.zero_le _) (by omega)) (OX2.out.rd.mono (Nat.zero_le _) (by omega)) (OY1.out.rd.mono (Nat.zero_le _) (by omega)) (OY2.out.rd.mono (Nat.zero_le _) (by omega)) (by unfold maxLen; omega) (by unfold maxLen; omega) (by unfold maxLen; omega) (by unfold maxLen; omega)).mono ?_
  rintro e W11 ⟨rfl, hb⟩
  rw [decide_eq_true rfl, decide_eq_true rfl]
  have hz11 : W10.heap.size ≤ W11.heap.size := hb.size
  replace BA := Lib.hid (hb.blk BA.out (blk_lt BA.out))
  replace BW := Lib.hid (hb.blk BW.out (blk_lt BW.out))
  replace BX := Lib.hid (hb.blk BX.out (blk_lt BX.out))
  replace BG := Lib.hid (hb.blk BG.out (blk_lt BG.out))
  replace OW1 := Lib.hid (OW1.out.below hb (by omega))
  replace OW2 := Lib.hid (OW2.out.below hb (by omega))
  replace OX1 := Lib.hid (OX1.out.below hb (by omega))
  replace OX2 := Lib.hid (OX2.out.below hb (by omega))
  replace OG1 := Lib.hid (OG1.out.below hb (by omega))
  replace OG2 := Lib.hid (OG2.out.below hb (by omega))
  replace OY1 := Lib.hid (OY1.out.below hb (by omega))
  replace OY2 := Lib.hid (OY2.out.below hb (by omega))
  replace H := Lib.hid (below_then H.out hb)
  clear hb
  obtain ⟨cA1, cA2, _, _⟩ := blk2 BA.out
  obtain ⟨cW1, cW2, _, _⟩ := blk2 BW.out
  obtain ⟨cX1, cX2, _, _⟩ := blk2 BX.out
  obtain ⟨cG1, cG2, _, _⟩ := blk2 BG.out
  refine hK.out _ _ (by exact ⟨cX1, cX2, cA1, cA2⟩) (fun hHeld2 => ?_)
  clear hK K hHeld
  have hHeld := hHeld2
  clear hHeld2
  (try simp only [Act.put, List.setIfInBounds_toArray, List.set_cons_zero, List.set_cons_succ])
  clear cA1 cA2 cW1 cW2 cX1 cX2 cG1 cG2
  refine wpAnyH_take (i := 4) (v := ?_) rfl (by kernel_rfl) (by kernel_rfl) (by kernel_rfl) (fun _ _ _ h => h) (Or.inl ⟨by rfl, ?_⟩) hHeld ?_
  rotate_left
  · intro w hSw; (try dsimp only at hSw); first | (go_simp; done) | (go_simp; with_reducible rfl)
  simp only [Act.put, List.setIfInBounds_toArray, List.set_cons_zero, List.set_cons_succ, List.getElem_toArray, List.getElem_cons_zero, List.getElem_cons_succ]
  refine wpAnyH_done (by kernel_rfl) ?_ _
  obtain ⟨cA1, cA2, _, _⟩ := blk2 BA.out
  obtain ⟨cW1, cW2, _, _⟩ := blk2 BW.out
  obtain ⟨cX1, cX2, _, _⟩ := blk2 BX.out
  obtain ⟨cG1, cG2, _, _⟩ := blk2 BG.out
  go_wp2_with fail
  clear cA1 cA2 cW1 cW2 cX1 cX2 cG1 cG2
  clear OY1 OY2 DY
  refine (markStream_any xX1 xX2 gX1 gX2 l1 l2 1 W11 loX hiX OX1.out OX2.out DX.out (by omega) (by omega) (by omega) (by omega)).mono ?_
  rintro e W12 ⟨he, o1, o2, hc⟩
  obtain ⟨K1, hK1⟩ : ∃ v : Nat, v = 1 + l1.length + l2.length := ⟨_, rfl⟩
  rw [← hK1] at he
  subst he
  have gK1 : K1 ≤ 2097153 := by omega
  have HK1 := Lib.hid hK1
  clear hK1
  have tK1 : ¬ ((K1 : Int) < 0) := by omega
  have hin : ∀ q, (blockOf xX1 = some q ∨ blockOf xX2 = some q) → loX ≤ q ∧ q < hiX := fun q hq => by
    rcases hq with hq | hq
    · exact OX1.out.block_in hq
    · exact OX2.out.block_in hq
  have hz12 : W11.heap.size ≤ W12.heap.size := hc.size
  replace BA := Lib.hid (hc.blk BA.out (fun hs => by have := hin _ hs; omega))
  replace BW := Lib.hid (hc.blk BW.out (fun hs => by have := hin _ hs; omega))
  replace BX := Lib.hid (hc.blk BX.out (fun hs => by have := hin _ hs; omega))
  replace BG := Lib.hid (hc.blk BG.out (fun hs => by have := hin _ hs; omega))
  replace OW1 := Lib.hid (OW1.out.agr (hc.agr (by omega) (fun q h1 h2 h3 => by have := hin q h3; omega)))
  replace OW2 := Lib.hid (OW2.out.agr (hc.agr (by omega) (fun q h1 h2 h3 => by have := hin q h3; omega)))
  replace OG1 := Lib.hid (OG1.out.agr (hc.agr (by omega) (fun q h1 h2 h3 => by have := hin q h3; omega)))
  replace OG2 := Lib.hid (OG2.out.agr (hc.agr (by omega) (fun q h1 h2 h3 => by have := hin q h3; omega)))
  replace OX1 := Lib.hid o1
  replace OX2 := Lib.hid o2
  replace H := Lib.hid (H.out.trans (hc.below (D := w.heap.size) (fun q hq => by have := hin q hq; omega) H.out.size))
  clear o1 o2 hc hin
  obtain ⟨cA1, cA2, _, _⟩ := blk2 BA.out
  obtain ⟨cW1, cW2, _, _⟩ := blk2 BW.out
  obtain ⟨cX1, cX2, _, _⟩ := blk2 BX.out
  obtain ⟨cG1, cG2, _, _⟩ := blk2 BG.out
  go_wp2_with fail
  clear cA1 cA2 cW1 cW2 cX1 cX2 cG1 cG2
  clear OX1 OX2 DX
  refine (eqStream_any xG1 xG2 xW1 xW2 gG1 gG2 gW1 gW2 m1 m2 m1 m2 W12 0 (OG1.out.rd.mono (Nat.zero_le _) (by omega)) (OG2.out.rd.mono (Nat.zero_le _) (by omega)) (OW1.out.rd.mono (Nat.zero_le _) (by omega)) (OW2.out.rd.mono (Nat.zero_le _) (by omega)) (by unfold maxLen; omega) (by unfold maxLen; omega) (by unfold maxLen; omega) (by unfold maxLen; omega)).mono ?_
  rintro e W13 ⟨rfl, hb⟩
  rw [decide_eq_true rfl, decide_eq_true rfl]
  have hz13 : W12.heap.size ≤ W13.heap.size := hb.size
  replace BA := Lib.hid (hb.blk BA.out (blk_lt BA.out))
  replace BW := Lib.hid (hb.blk BW.out (blk_lt BW.out))
  replace BX := Lib.hid (hb.blk BX.out (blk_lt BX.out))
  replace BG := Lib.hid (hb.blk BG.out (blk_lt BG.out))
  replace OW1 := Lib.hid (OW1.out.below hb (by omega))
  replace OW2 := Lib.hid (OW2.out.below hb (by omega))
  replace OG1 := Lib.hid (OG1.out.below hb (by omega))
  replace OG2 := Lib.hid (OG2.out.below hb (by omega))
  replace H := Lib.hid (below_then H.out hb)
  clear hb
  obtain ⟨cA1, cA2, _, _⟩ := blk2 BA.out
  obtain ⟨cW1, cW2, _, _⟩ := blk2 BW.out
  obtain ⟨cX1, cX2, _, _⟩ := blk2 BX.out
  obtain ⟨cG1, cG2, _, _⟩ := blk2 BG.out
  go_wp2_with fail
  clear cA1 cA2 cW1 cW2 cX1 cX2 cG1 cG2
  refine (markStream_any xG1 xG2 gG1 gG2 m1 m2 1 W13 loG hiG OG1.out OG2.out DG.out (by omega) (by omega) (by omega) (by omega)).mono ?_
  rintro e W14 ⟨he, o1, o2, hc⟩
  obtain ⟨K2, hK2⟩ : ∃ v : Nat, v = 1 + m1.length + m2.length := ⟨_, rfl⟩
  rw [← hK2] at he
  subst he
  have gK2 : K2 ≤ 2097153 := by omega
  have HK2 := Lib.hid hK2
  clear hK2
  have tK2 : ¬ ((K2 : Int) < 0) := by omega
  have hin : ∀ q, (blockOf xG1 = some q ∨ blockOf xG2 = some q) → loG ≤ q ∧ q < hiG := fun q hq => by
    rcases hq with hq | hq
    · exact OG1.out.block_in hq
    · exact OG2.out.block_in hq
  have hz14 : W13.heap.size ≤ W14.heap.size := hc.size
  replace BA := Lib.hid (hc.blk BA.out (fun hs => by have := hin _ hs; omega))
  replace BW := Lib.hid (hc.blk BW.out (fun hs => by have := hin _ hs; omega))
  replace BX := Lib.hid (hc.blk BX.out (fun hs => by have := hin _ hs; omega))
  replace BG := Lib.hid (hc.blk BG.out (fun hs => by have := hin _ hs; omega))
  replace OW1 := Lib.hid (OW1.out.agr (hc.agr (by omega) (fun q h1 h2 h3 => by have := hin q h3; omega)))
  replace OW2 := Lib.hid (OW2.out.agr (hc.agr (by omega) (fun q h1 h2 h3 => by have := hin q h3; omega)))
  replace OG1 := Lib.hid o1
  replace OG2 := Lib.hid o2
  replace H := Lib.hid (H.out.trans (hc.below (D := w.heap.size) (fun q hq => by have := hin q hq; omega) H.out.size))
  clear o1 o2 hc hin
  obtain ⟨cA1, cA2, _, _⟩ := blk2 BA.out
  obtain ⟨cW1, cW2, _, _⟩ := blk2 BW.out
  obtain ⟨cX1, cX2, _, _⟩ := blk2 BX.out
  obtain ⟨cG1, cG2, _, _⟩ := blk2 BG.out
  go_wp2_with fail
  clear cA1 cA2 cW1 cW2 cX1 cX2 cG1 cG2
  refine (heldStream_any xG1 xG2 gG1 gG2 m1.length m2.length 1 W14 loG hiG OG1.out.rd OG2.out.rd (by omega) (by omega) (by omega) (by omega)).mono ?_
  rintro e W15 ⟨he, hb⟩
  rw [← HK2.out] at he
  subst he
  have hz15 : W14.heap.size ≤ W15.heap.size := hb.size
  replace BA := Lib.hid (hb.blk BA.out (blk_lt BA.out))
  replace BW := Lib.hid (hb.blk BW.out (blk_lt BW.out))
  replace BX := Lib.hid (hb.blk BX.out (blk_lt BX.out))
  replace BG := Lib.hid (hb.blk BG.out (blk_lt BG.out))
  replace OW1 := Lib.hid (OW1.out.below hb (by omega))
  replace OW2 := Lib.hid (OW2.out.below hb (by omega))
  replace OG1 := Lib.hid (OG1.out.below hb (by omega))
  replace OG2 := Lib.hid (OG2.out.below hb (by omega))
  replace H := Lib.hid (below_then H.out hb)
  clear hb
  obtain ⟨cA1, cA2, _, _⟩ := blk2 BA.out
  obtain ⟨cW1, cW2, _, _⟩ := blk2 BW.out
  obtain ⟨cX1, cX2, _, _⟩ := blk2 BX.out
  obtain ⟨cG1, cG2, _, _⟩ := blk2 BG.out
  go_wp2_with fail
  clear cA1 cA2 cW1 cW2 cX1 cX2 cG1 cG2
  refine (toStream_any a1 a2 c1 c2 l1 l2 W15 0 w.heap.size 0 w.heap.size (F1.out.below H.out (Nat.le_refl _)) (F2.out.below H.out (Nat.le_refl _)) H.out.size H.out.size hn1 hn2).mono ?_
  rintro e W16 ⟨xS1, gS1, xS2, gS2, rfl, o1, o2, hd, hb⟩
  have hz16 : W15.heap.size ≤ W16.heap.size := hb.size
  replace BA := Lib.hid (hb.blk BA.out (blk_lt BA.out))
  replace BW := Lib.hid (hb.blk BW.out (blk_lt BW.out))
  replace BX := Lib.hid (hb.blk BX.out (blk_lt BX.out))
  replace BG := Lib.hid (hb.blk BG.out (blk_lt BG.out))
  replace OW1 := Lib.hid (OW1.out.below hb (by omega))
  replace OW2 := Lib.hid (OW2.out.below hb (by omega))
  replace OG1 := Lib.hid (OG1.out.below hb (by omega))
  replace OG2 := Lib.hid (OG2.out.below hb (by omega))
  replace H := Lib.hid (below_then H.out hb)
  obtain ⟨loS, hlo⟩ : ∃ v, v = W15.heap.size := ⟨_, rfl⟩
  obtain ⟨hiS, hhi⟩ : ∃ v, v = W16.heap.size := ⟨_, rfl⟩
  rw [← hlo, ← hhi] at o1 o2
  have OS1 := Lib.hid o1
  have OS2 := Lib.hid o2
  have DS := Lib.hid hd
  have hlhS : loS ≤ hiS := by omega
  have hhwS : hiS ≤ W16.heap.size := by omega
  have hwlS : w.heap.size < loS := by omega
  have hccWS : hiW ≤ loS := by omega
  have hccGS : hiG ≤ loS := by omega
  have hbcAS : w.heap.size < loS := by omega
  have hbcWS : W3.heap.size < loS := by omega
  have hbcXS : W5.heap.size < loS := by omega
  have hbcGS : W7.heap.size < loS := by omega
  clear hlo hhi o1 o2 hd
  clear hb
  obtain ⟨cA1, cA2, _, _⟩ := blk2 BA.out
  obtain ⟨cW1, cW2, _, _⟩ := blk2 BW.out
  obtain ⟨cX1, cX2, _, _⟩ := blk2 BX.out
  obtain ⟨cG1, cG2, _, _⟩ := blk2 BG.out
  go_wp2_with fail
  clear cA1 cA2 cW1 cW2 cX1 cX2 cG1 cG2
  refine (implPutAhead_any bit xS1 xS2 gS1 gS2 l1 l2 W16 loS hiS OS1.out.rd OS2.out.rd (by omega) hn1 hn2).mono ?_
  rintro e W17 ⟨n1, n2, vc, hsa, xZ1, gZ1, xZ2, gZ2, rfl, o1, o2, hd, hb⟩
  obtain ⟨rfl, rfl, rfl⟩ := HSA.out.one hsa
  clear hsa
  have hz17 : W16.heap.size ≤ W17.heap.size := hb.size
  replace BA := Lib.hid (hb.blk BA.out (blk_lt BA.out))
  replace BW := Lib.hid (hb.blk BW.out (blk_lt BW.out))
  replace BX := Lib.hid (hb.blk BX.out (blk_lt BX.out))
  replace BG := Lib.hid (hb.blk BG.out (blk_lt BG.out))
  replace OW1 := Lib.hid (OW1.out.below hb (by omega))
  replace OW2 := Lib.hid (OW2.out.below hb (by omega))
  replace OG1 := Lib.hid (OG1.out.below hb (by omega))
  replace OG2 := Lib.hid (OG2.out.below hb (by omega))
  replace OS1 := Lib.hid (OS1.out.below hb (by omega))
  replace OS2 := Lib.hid (OS2.out.below hb (by omega))
  replace H := Lib.hid (below_then H.out hb)
  obtain ⟨loZ, hlo⟩ : ∃ v, v = W16.heap.size := ⟨_, rfl⟩
  obtain ⟨hiZ, hhi⟩ : ∃ v, v = W17.heap.size := ⟨_, rfl⟩
  rw [← hlo, ← hhi] at o1 o2
  have OZ1 := Lib.hid o1
  have OZ2 := Lib.hid o2
  have DZ := Lib.hid hd
  have hlhZ : loZ ≤ hiZ := by omega
  have hhwZ : hiZ ≤ W17.heap.size := by omega
  have hwlZ : w.heap.size < loZ := by omega
  have hccWZ : hiW ≤ loZ := by omega
  have hccGZ : hiG ≤ loZ := by omega
  have hccSZ : hiS ≤ loZ := by omega
  have hbcAZ : w.heap.size < loZ := by omega
  have hbcWZ : W3.heap.size < loZ := by omega
  have hbcXZ : W5.heap.size < loZ := by omega
  have hbcGZ : W7.heap.size < loZ := by omega
  clear hlo hhi o1 o2 hd
  clear hb
  clear OS1 OS2 DS
  have hal := below_alloc W17 (.cells #[.slice xZ1 m1.length gZ1, .slice xZ2 m2.length gZ2] 34)
  replace BA := Lib.hid (blk_old (o := .cells #[.slice xZ1 m1.length gZ1, .slice xZ2 m2.length gZ2] 34) BA.out)
  replace BW := Lib.hid (blk_old (o := .cells #[.slice xZ1 m1.length gZ1, .slice xZ2 m2.length gZ2] 34) BW.out)
  replace BX := Lib.hid (blk_old (o := .cells #[.slice xZ1 m1.length gZ1, .slice xZ2 m2.length gZ2] 34) BX.out)
  replace BG := Lib.hid (blk_old (o := .cells #[.slice xZ1 m1.length gZ1, .slice xZ2 m2.length gZ2] 34) BG.out)
  replace OW1 := Lib.hid (OW1.out.below hal (by omega))
  replace OW2 := Lib.hid (OW2.out.below hal (by omega))
  replace OG1 := Lib.hid (OG1.out.below hal (by omega))
  replace OG2 := Lib.hid (OG2.out.below hal (by omega))
  replace OZ1 := Lib.hid (OZ1.out.below hal (by omega))
  replace OZ2 := Lib.hid (OZ2.out.below hal (by omega))
  have BZ := Lib.hid (blk_new (w := W17) (o := .cells #[.slice xZ1 m1.length gZ1, .slice xZ2 m2.length gZ2] 34) rfl)
  replace H := Lib.hid (below_alloc' H.out (.cells #[.slice xZ1 m1.length gZ1, .slice xZ2 m2.length gZ2] 34))
  clear hal
  have hcbWZ : hiW ≤ W17.heap.size := by omega
  have hcbGZ : hiG ≤ W17.heap.size := by omega
  have hcbZZ : hiZ ≤ W17.heap.size := by omega
  obtain ⟨cA1, cA2, _, _⟩ := blk2 BA.out
  obtain ⟨cW1, cW2, _, _⟩ := blk2 BW.out
  obtain ⟨cX1, cX2, _, _⟩ := blk2 BX.out
  obtain ⟨cG1, cG2, _, _⟩ := blk2 BG.out
  obtain ⟨cZ1, cZ2, _, _⟩ := blk2 BZ.out
  go_wp2_with fail
  clear cA1 cA2 cW1 cW2 cX1 cX2 cG1 cG2 cZ1 cZ2
  obtain ⟨W18, hW⟩ : ∃ v, v = W17.alloc (.cells #[.slice xZ1 m1.length gZ1, .slice xZ2 m2.length gZ2] 34) := ⟨_, rfl⟩
  have hz18 : W17.heap.size < W18.heap.size := by rw [hW]; simp
  rw [← hW] at BA BW BX BG BZ OW1 OW2 OG1 OG2 OZ1 OZ2 H ⊢
  clear hW
  refine (eqStream_any xZ1 xZ2 xW1 xW2 gZ1 gZ2 gW1 gW2 m1 m2 m1 m2 W18 0 (OZ1.out.rd.mono (Nat.zero_le _) (by omega)) (OZ2.out.rd.mono (Nat.zero_le _) (by omega)) (OW1.out.rd.mono (Nat.zero_le _) (by omega)) (OW2.out.rd.mono (Nat.zero_le _) (by omega)) (by unfold maxLen; omega) (by unfold maxLen; omega) (by unfold maxLen; omega) (by unfold maxLen; omega)).mono ?_
  rintro e W19 ⟨rfl, hb⟩
  rw [decide_eq_true rfl, decide_eq_true rfl]
  have hz19 : W18.heap.size ≤ W19.heap.size := hb.size
  replace BA := Lib.hid (hb.blk BA.out (blk_lt BA.out))
  replace BW := Lib.hid (hb.blk BW.out (blk_lt BW.out))
  replace BX := Lib.hid (hb.blk BX.out (blk_lt BX.out))
  replace BG := Lib.hid (hb.blk BG.out (blk_lt BG.out))
  replace BZ := Lib.hid (hb.blk BZ.out (blk_lt BZ.out))
  replace OW1 := Lib.hid (OW1.out.below hb (by omega))
  replace OW2 := Lib.hid (OW2.out.below hb (by omega))
  replace OG1 := Lib.hid (OG1.out.below hb (by omega))
  replace OG2 := Lib.hid (OG2.out.below hb (by omega))
  replace OZ1 := Lib.hid (OZ1.out.below hb (by omega))
  replace OZ2 := Lib.hid (OZ2.out.below hb (by omega))
  replace H := Lib.hid (below_then H.out hb)
  clear hb
  obtain ⟨cA1, cA2, _, _⟩ := blk2 BA.out
  obtain ⟨cW1, cW2, _, _⟩ := blk2 BW.out
  obtain ⟨cX1, cX2, _, _⟩ := blk2 BX.out
  obtain ⟨cG1, cG2, _, _⟩ := blk2 BG.out
  obtain ⟨cZ1, cZ2, _, _⟩ := blk2 BZ.out
  go_wp2_with fail
  clear cA1 cA2 cW1 cW2 cX1 cX2 cG1 cG2 cZ1 cZ2
  clear OZ1 OZ2 DZ
  clear OW1 OW2 DW
  refine (heldStream_any xG1 xG2 gG1 gG2 m1.length m2.length 1 W19 loG hiG OG1.out.rd OG2.out.rd (by omega) (by omega) (by omega) (by omega)).mono ?_
  rintro e W20 ⟨he, hb⟩
  rw [← HK2.out] at he
  subst he
  have hz20 : W19.heap.size ≤ W20.heap.size := hb.size
  replace BA := Lib.hid (hb.blk BA.out (blk_lt BA.out))
  replace BW := Lib.hid (hb.blk BW.out (blk_lt BW.out))
  replace BX := Lib.hid (hb.blk BX.out (blk_lt BX.out))
  replace BG := Lib.hid (hb.blk BG.out (blk_lt BG.out))
  replace BZ := Lib.hid (hb.blk BZ.out (blk_lt BZ.out))
  replace OG1 := Lib.hid (OG1.out.below hb (by omega))
  replace OG2 := Lib.hid (OG2.out.below hb (by omega))
  replace H := Lib.hid (below_then H.out hb)
  clear hb
  obtain ⟨cA1, cA2, _, _⟩ := blk2 BA.out
  obtain ⟨cW1, cW2, _, _⟩ := blk2 BW.out
  obtain ⟨cX1, cX2, _, _⟩ := blk2 BX.out
  obtain ⟨cG1, cG2, _, _⟩ := blk2 BG.out
  obtain ⟨cZ1, cZ2, _, _⟩ := blk2 BZ.out
  go_wp2_with fail
  clear cA1 cA2 cW1 cW2 cX1 cX2 cG1 cG2 cZ1 cZ2
  go_ret
  exact ⟨rfl, H.out⟩
end Go.Proofs.Ytgfoolneophkcaa
