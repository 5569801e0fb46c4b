/- The law FnExactSameStreams, walked. -/
import Derived.Deep.RegionHeld3
import Derived.Test.YtgfoolneophkcaaM7
import Derived.Test.YtgfoolneophkcaaM3
namespace Go.Proofs.Ytgfoolneophkcaa
open Go.RowKit Go.Hyp Go.Deep

set_option maxRecDepth 4000 in
set_option maxHeartbeats 8000000 in
theorem fnExactSameStreams_any (a1 a2 : Option Addr) (c1 c2 : Nat) (l1 l2 : List Int) (b1 b2 : Option Addr) (d1 d2 : Nat) (m1 m2 : List Int) (w : World) (h1 : RdI w 0 w.heap.size a1 l1) (h2 : RdI w 0 w.heap.size a2 l2) (hl1 : l1.length ≤ maxLen) (hl2 : l2.length ≤ maxLen)
    (h3 : RdI w 0 w.heap.size b1 m1) (h4 : RdI w 0 w.heap.size b2 m2) (hm1 : m1.length ≤ maxLen) (hm2 : m2.length ≤ maxLen) :
    Calls Try.prog 4 #[.agg #[.slice a1 l1.length c1, .slice a2 l2.length c2], .agg #[.slice b1 m1.length d1, .slice b2 m2.length d2]] w fun e w' => e = .returned (.bool true) ∧ Below w.heap.size w w' := by
  have hb0 := (below_alloc w (.cells #[.slice a1 l1.length c1, .slice a2 l2.length c2] 31)).alloc (by simp) (.cells #[.slice b1 m1.length d1, .slice b2 m2.length d2] 31)
  have b0 := alloc2 w (.cells #[.slice a1 l1.length c1, .slice a2 l2.length c2] 31) (.cells #[.slice b1 m1.length d1, .slice b2 m2.length d2] 31)
  have H0 := Lib.hid hb0
  have F1 := Lib.hid h1
  have F2 := Lib.hid h2
  have F3 := Lib.hid h3
  have F4 := Lib.hid h4
  have BA0 := Lib.hid b0.1
  have BB0 := Lib.hid b0.2
  clear hb0 h1 h2 h3 h4 b0
  have s1 := szI_cases 1048576 l1.length
  have s2 := szI_cases (szI 1048576 l1.length) l2.length
  obtain ⟨left, hleft⟩ : ∃ v, v = szI (szI 1048576 l1.length) l2.length := ⟨_, rfl⟩
  have s3 := szI_cases left m1.length
  have s4 := szI_cases (szI left m1.length) m2.length
  by_cases hs : left < 0
  · clear s1 s2 s3 s4
    have HLE := Lib.hid hleft
    clear hleft
    go_enter Try.func4, Try.ntmps4
    go_wp2_with fail
    refine (szStream_any a1 a2 c1 c2 l1.length l2.length _ hl1 hl2).mono ?_
    rintro e w1 ⟨rfl, hb1⟩
    rw [← HLE.out]
    have H1 := Lib.hid (below_then H0.out hb1)
    clear hb1
    go_wp2_with fail
    go_ret
    exact ⟨rfl, H1.out⟩
  have hq : l1.length ≤ 1048576 ∧ l2.length ≤ 1048576 ∧ left ≤ 1048576 := by omega
  obtain ⟨hn1, hn2, hle⟩ := hq
  clear s1 s2
  have HLE := Lib.hid hleft
  clear hleft
  by_cases hs2 : szI (szI left m1.length) m2.length < 0
  · clear s3 s4
    go_enter Try.func4, Try.ntmps4
    go_wp2_with fail
    refine (szStream_any a1 a2 c1 c2 l1.length l2.length _ hl1 hl2).mono ?_
    rintro e w1 ⟨rfl, hb1⟩
    rw [← HLE.out]
    have H1 := Lib.hid (below_then H0.out hb1)
    have ba1 := hb1.blk BA0.out (by simp; omega)
    have bb1 := hb1.blk BB0.out (by simp)
    obtain ⟨p1, p2, _, _⟩ := blk2 ba1
    obtain ⟨q1, q2, _, _⟩ := blk2 bb1
    have BA1 := Lib.hid ba1
    have BB1 := Lib.hid bb1
    clear hb1 ba1 bb1 BA0 BB0 H0
    go_wp2_with fail
    refine (szStreamN_any b1 b2 d1 d2 m1.length m2.length left w1 hm1 hm2 (by omega) hle).mono ?_
    rintro e w2 ⟨rfl, hb2⟩
    have H2 := Lib.hid (below_then H1.out hb2)
    clear hb2 p1 p2 q1 q2
    go_wp2_with fail
    go_ret
    exact ⟨rfl, H2.out⟩
  have hq : m1.length ≤ 1048576 ∧ m2.length ≤ 1048576 := by omega
  obtain ⟨hn3, hn4⟩ := hq
  clear s3 s4
  go_enter Try.func4, Try.ntmps4
  go_wp2_with fail
  refine (szStream_any a1 a2 c1 c2 l1.length l2.length _ hl1 hl2).mono ?_
  rintro e w1 ⟨rfl, hb1⟩
  rw [← HLE.out]
  have H1 := Lib.hid (below_then H0.out hb1)
  have ba1 := hb1.blk BA0.out (by simp; omega)
  have bb1 := hb1.blk BB0.out (by simp)
  obtain ⟨p1, p2, _, _⟩ := blk2 ba1
  obtain ⟨q1, q2, _, _⟩ := blk2 bb1
  have BA1 := Lib.hid ba1
  have BB1 := Lib.hid bb1
  clear hb1 ba1 bb1 BA0 BB0 H0
  go_wp2_with fail
  refine (szStreamN_any b1 b2 d1 d2 m1.length m2.length left w1 hm1 hm2 (by omega) hle).mono ?_
  rintro e w2 ⟨rfl, hb2⟩
  have BA2 := Lib.hid (hb2.blk BA1.out (blk_lt BA1.out))
  have BB2 := Lib.hid (hb2.blk BB1.out (blk_lt BB1.out))
  have H2 := Lib.hid (below_then H1.out hb2)
  clear hb2 p1 p2 q1 q2 BA1 BB1 H1
  obtain ⟨p1, p2, _, _⟩ := blk2 BA2.out
  obtain ⟨q1, q2, _, _⟩ := blk2 BB2.out
  have hlA := blk_lt BA2.out
  have hlB := blk_lt BB2.out
  have hzw2 : w.heap.size ≤ w2.heap.size := H2.out.size
  go_wp2_with fail
  refine wp_region_held_drew (S := (fun w' => w'.cell? ⟨w.heap.size, 0, none⟩ = some (.slice a1 l1.length c1) ∧ w'.cell? ⟨w.heap.size, 1, none⟩ = some (.slice a2 l2.length c2) ∧ w'.cell? ⟨w.heap.size + 1, 0, none⟩ = some (.slice b1 m1.length d1) ∧ w'.cell? ⟨w.heap.size + 1, 1, none⟩ = some (.slice b2 m2.length d2))) (by kernel_rfl) (by exact ⟨p1, p2, q1, q2⟩) (fun hHeld => ?_)
  refine wpAnyH_take (i := 0) (v := ?_) rfl (by kernel_rfl) (by kernel_rfl) (by kernel_rfl) (fun _ _ _ h => h) (Or.inl ⟨by rfl, ?_⟩) hHeld ?_
  rotate_left
  · intro w hSw; (try dsimp only at hSw); first | (go_simp; done) | (go_simp; with_reducible rfl)
  simp only [Act.put, List.setIfInBounds_toArray, List.set_cons_zero, List.set_cons_succ, List.getElem_toArray, List.getElem_cons_zero, List.getElem_cons_succ]
  refine wpAnyH_take (i := 2) (v := ?_) rfl (by kernel_rfl) (by kernel_rfl) (by kernel_rfl) (fun _ _ _ h => h) (Or.inl ⟨by rfl, ?_⟩) hHeld ?_
  rotate_left
  · intro w hSw; (try dsimp only at hSw); first | (go_simp; done) | (go_simp; with_reducible rfl)
  simp only [Act.put, List.setIfInBounds_toArray, List.set_cons_zero, List.set_cons_succ, List.getElem_toArray, List.getElem_cons_zero, List.getElem_cons_succ]
  refine wpAnyH_ready (rs := [1]) (by kernel_rfl) (by simp) ?_
  refine AllReadyH.cons rfl (fun K hK => ?_) AllReadyH.nil
  go_simp
  refine (toStream_any a1 a2 c1 c2 l1 l2 _ 0 w.heap.size 0 w.heap.size (by exact F1.out.below H2.out.drew (Nat.le_refl _)) (by exact F2.out.below H2.out.drew (Nat.le_refl _)) (by exact H2.out.size) (by exact H2.out.size) hn1 hn2).mono ?_
  rintro e w3 ⟨x1, g1, x2, g2, rfl, ho1, ho2, _, hb3⟩
  replace hb3 := undrew hb3
  have BA3 := Lib.hid (hb3.blk BA2.out (blk_lt BA2.out))
  have BB3 := Lib.hid (hb3.blk BB2.out (blk_lt BB2.out))
  clear p1 p2 q1 q2
  obtain ⟨p1, p2, _, _⟩ := blk2 BA3.out
  obtain ⟨q1, q2, _, _⟩ := blk2 BB3.out
  have P1 := Lib.hid ho1.rd
  have P2 := Lib.hid ho2.rd
  have H3 := Lib.hid (below_then H2.out hb3)
  have hz3 : w.heap.size ≤ w3.heap.size := H3.out.size
  clear ho1 ho2 hb3
  refine hK.out _ _ (by exact ⟨p1, p2, q1, q2⟩) (fun hHeld2 => ?_)
  clear hK K hHeld
  have hHeld := hHeld2
  clear hHeld2
  (try simp only [Act.put, List.setIfInBounds_toArray, List.set_cons_zero, List.set_cons_succ])
  refine wpAnyH_ready (rs := [3]) (by kernel_rfl) (by simp) ?_
  refine AllReadyH.cons rfl (fun K hK => ?_) AllReadyH.nil
  go_simp
  refine (toStream_any b1 b2 d1 d2 m1 m2 w3 0 w.heap.size 0 w.heap.size (by exact F3.out.below H3.out (Nat.le_refl _)) (by exact F4.out.below H3.out (Nat.le_refl _)) hz3 hz3 hn3 hn4).mono ?_
  rintro e w4 ⟨y1, k1, y2, k2, rfl, ho3, ho4, _, hb4⟩
  have BA4 := Lib.hid (hb4.blk BA3.out (blk_lt BA3.out))
  have BB4 := Lib.hid (hb4.blk BB3.out (blk_lt BB3.out))
  clear p1 p2 q1 q2
  obtain ⟨p1, p2, _, _⟩ := blk2 BA4.out
  obtain ⟨q1, q2, _, _⟩ := blk2 BB4.out
  have O1 := Lib.hid ((P1.out.below hb4 (Nat.le_refl _)).mono (Nat.zero_le _) hb4.size)
  have O2 := Lib.hid ((P2.out.below hb4 (Nat.le_refl _)).mono (Nat.zero_le _) hb4.size)
  have O3 := Lib.hid (ho3.rd.mono (Nat.zero_le _) (Nat.le_refl _))
  have O4 := Lib.hid (ho4.rd.mono (Nat.zero_le _) (Nat.le_refl _))
  have H4 := Lib.hid (below_then H3.out hb4)
  clear ho3 ho4 hb4
  refine hK.out _ _ (by exact ⟨p1, p2, q1, q2⟩) (fun hHeld2 => ?_)
  clear hK K hHeld
  have hHeld := hHeld2
  clear hHeld2
  (try simp only [Act.put, List.setIfInBounds_toArray, List.set_cons_zero, List.set_cons_succ])
  refine wpAnyH_ready (rs := [4]) (by kernel_rfl) (by simp) ?_
  refine AllReadyH.cons rfl (fun K hK => ?_) AllReadyH.nil
  go_simp
  refine (specSame_any x1 x2 y1 y2 g1 g2 k1 k2 l1 l2 m1 m2 w4 0 w4.heap.size (by exact O1.out) (by exact O2.out) (by exact O3.out) (by exact O4.out) (Nat.le_refl _) hn1 hn2 hn3 hn4).mono ?_
  rintro e w5 ⟨vb, rfl, hvb, hb5⟩
  have HVB := Lib.hid hvb
  have BA5 := Lib.hid (hb5.blk BA4.out (blk_lt BA4.out))
  have BB5 := Lib.hid (hb5.blk BB4.out (blk_lt BB4.out))
  clear p1 p2 q1 q2
  obtain ⟨p1, p2, _, _⟩ := blk2 BA5.out
  obtain ⟨q1, q2, _, _⟩ := blk2 BB5.out
  have H5 := Lib.hid (below_then H4.out hb5)
  clear hb5 hvb
  refine hK.out _ _ (by exact ⟨p1, p2, q1, q2⟩) (fun hHeld2 => ?_)
  clear hK K hHeld
  have hHeld := hHeld2
  clear hHeld2
  (try simp only [Act.put, List.setIfInBounds_toArray, List.set_cons_zero, List.set_cons_succ])
  refine wpAnyH_take (i := 5) (v := ?_) rfl (by kernel_rfl) (by kernel_rfl) (by kernel_rfl) (fun _ _ _ h => h) (Or.inl ⟨by rfl, ?_⟩) hHeld ?_
  rotate_left
  · intro w hSw; (try dsimp only at hSw); first | (go_simp; done) | (go_simp; with_reducible rfl)
  simp only [Act.put, List.setIfInBounds_toArray, List.set_cons_zero, List.set_cons_succ, List.getElem_toArray, List.getElem_cons_zero, List.getElem_cons_succ]
  refine wpAnyH_done (by kernel_rfl) ?_ _
  clear O1 O2 O3 O4 P1 P2 BA2 BB2 BA3 BB3 BA4 BB4
  have hz5 : w.heap.size ≤ w5.heap.size := H5.out.size
  go_wp2_with fail
  refine (toStream_any a1 a2 c1 c2 l1 l2 w5 0 w.heap.size 0 w.heap.size (F1.out.below H5.out (Nat.le_refl _)) (F2.out.below H5.out (Nat.le_refl _)) hz5 hz5 hn1 hn2).mono ?_
  rintro e w6 ⟨x1', g1', x2', g2', rfl, ho1, ho2, _, hb6⟩
  clear p1 p2 q1 q2
  have ba6 := blk_old (o := .cells #[.slice x1' l1.length g1', .slice x2' l2.length g2'] 34) (hb6.blk BA5.out (blk_lt BA5.out))
  have bb6 := blk_old (o := .cells #[.slice x1' l1.length g1', .slice x2' l2.length g2'] 34) (hb6.blk BB5.out (blk_lt BB5.out))
  have bx6 := blk_new (w := w6) (o := .cells #[.slice x1' l1.length g1', .slice x2' l2.length g2'] 34) rfl
  have H6 := Lib.hid (below_alloc' (below_then H5.out hb6) (.cells #[.slice x1' l1.length g1', .slice x2' l2.length g2'] 34))
  have P1 := Lib.hid (ho1.rd.below (below_alloc w6 (.cells #[.slice x1' l1.length g1', .slice x2' l2.length g2'] 34)) (Nat.le_refl _))
  have P2 := Lib.hid (ho2.rd.below (below_alloc w6 (.cells #[.slice x1' l1.length g1', .slice x2' l2.length g2'] 34)) (Nat.le_refl _))
  have hz6 : w6.heap.size ≤ (w6.alloc (.cells #[.slice x1' l1.length g1', .slice x2' l2.length g2'] 34)).heap.size := by simp
  obtain ⟨pa, q1, _, _⟩ := blk2 bb6
  obtain ⟨p1, p2, _, _⟩ := blk2 ba6
  have BA6 := Lib.hid ba6
  have BB6 := Lib.hid bb6
  have BX6 := Lib.hid bx6
  have hzw6 : w.heap.size ≤ w6.heap.size := Nat.le_trans hz5 hb6.size
  clear ho1 ho2 hb6 ba6 bb6 bx6 BA5 BB5 H5
  go_wp2_with fail
  refine (toStream_any b1 b2 d1 d2 m1 m2 _ 0 w.heap.size 0 w.heap.size (F3.out.below H6.out (Nat.le_refl _)) (F4.out.below H6.out (Nat.le_refl _)) H6.out.size H6.out.size hn3 hn4).mono ?_
  rintro e w7 ⟨y1', k1', y2', k2', rfl, ho3, ho4, _, hb7⟩
  clear p1 p2 pa q1
  have ba7 := blk_old (o := .cells #[.slice y1' m1.length k1', .slice y2' m2.length k2'] 34) (hb7.blk BA6.out (blk_lt BA6.out))
  have bb7 := blk_old (o := .cells #[.slice y1' m1.length k1', .slice y2' m2.length k2'] 34) (hb7.blk BB6.out (blk_lt BB6.out))
  have bx7 := blk_old (o := .cells #[.slice y1' m1.length k1', .slice y2' m2.length k2'] 34) (hb7.blk BX6.out (blk_lt BX6.out))
  have by7 := blk_new (w := w7) (o := .cells #[.slice y1' m1.length k1', .slice y2' m2.length k2'] 34) rfl
  have H7 := Lib.hid (below_alloc' (below_then H6.out hb7) (.cells #[.slice y1' m1.length k1', .slice y2' m2.length k2'] 34))
  have Q1 := Lib.hid ((P1.out.below hb7 hz6).below (below_alloc w7 (.cells #[.slice y1' m1.length k1', .slice y2' m2.length k2'] 34)) (Nat.le_trans hz6 hb7.size))
  have Q2 := Lib.hid ((P2.out.below hb7 hz6).below (below_alloc w7 (.cells #[.slice y1' m1.length k1', .slice y2' m2.length k2'] 34)) (Nat.le_trans hz6 hb7.size))
  have Q3 := Lib.hid (ho3.rd.below (below_alloc w7 (.cells #[.slice y1' m1.length k1', .slice y2' m2.length k2'] 34)) (Nat.le_refl _))
  have Q4 := Lib.hid (ho4.rd.below (below_alloc w7 (.cells #[.slice y1' m1.length k1', .slice y2' m2.length k2'] 34)) (Nat.le_refl _))
  have hz7 : w6.heap.size + 1 ≤ w7.heap.size := by have := hb7.size; simpa using this
  obtain ⟨W, hW⟩ : ∃ v, v = w7.alloc (.cells #[.slice y1' m1.length k1', .slice y2' m2.length k2'] 34) := ⟨_, rfl⟩
  have hWs : w7.heap.size < W.heap.size := by rw [hW]; simp
  rw [← hW] at ba7 bb7 bx7 by7 H7 Q1 Q2 Q3 Q4
  have BA7 := Lib.hid ba7
  have BB7 := Lib.hid bb7
  have BX7 := Lib.hid bx7
  have BY7 := Lib.hid by7
  have HW := Lib.hid hW
  clear ho3 ho4 hb7 P1 P2 BA6 BB6 BX6 H6 ba7 bb7 bx7 by7 hz6
  have RX1 := Lib.hid (Q1.out.mono (Nat.zero_le _) (show w6.heap.size ≤ W.heap.size by omega))
  have RX2 := Lib.hid (Q2.out.mono (Nat.zero_le _) (show w6.heap.size ≤ W.heap.size by omega))
  have RX3 := Lib.hid (Q3.out.mono (Nat.zero_le _) (show w7.heap.size ≤ W.heap.size by omega))
  have RX4 := Lib.hid (Q4.out.mono (Nat.zero_le _) (show w7.heap.size ≤ W.heap.size by omega))
  clear Q1 Q2 Q3 Q4
  rw [HW.out] at BX7 BY7 BA7 BB7
  obtain ⟨r1, r2, _, _⟩ := blk2 BX7.out
  obtain ⟨s1, s2, _, _⟩ := blk2 BY7.out
  rw [← HW.out] at BX7 BY7 BA7 BB7
  go_wp2_with fail
  rw [← HW.out]
  clear r1 r2 s1 s2
  refine (implSame_any x1' x2' y1' y2' g1' g2' k1' k2' l1 l2 m1 m2 W 0 W.heap.size RX1.out RX2.out RX3.out RX4.out (Nat.le_refl _) hn1 hn2 hn3 hn4).mono ?_
  rintro e w8 ⟨vc, rfl, hvc, hb8⟩
  have hvv : vc = vb := by
    have h1 := HVB.out
    cases vb <;> cases vc <;> simp_all
  subst hvv
  have hne : (vc != vc) = false := by simp
  have BA8 := Lib.hid (hb8.blk BA7.out (blk_lt BA7.out))
  have BB8 := Lib.hid (hb8.blk BB7.out (blk_lt BB7.out))
  have BX8 := Lib.hid (hb8.blk BX7.out (blk_lt BX7.out))
  have BY8 := Lib.hid (hb8.blk BY7.out (blk_lt BY7.out))
  have H8 := Lib.hid (below_then H7.out hb8)
  have RX1' := Lib.hid (RX1.out.below hb8 (Nat.le_refl _))
  have RX2' := Lib.hid (RX2.out.below hb8 (Nat.le_refl _))
  have RX3' := Lib.hid (RX3.out.below hb8 (Nat.le_refl _))
  have RX4' := Lib.hid (RX4.out.below hb8 (Nat.le_refl _))
  have hz8 : W.heap.size ≤ w8.heap.size := hb8.size
  have hzw8 : w.heap.size ≤ w8.heap.size := H8.out.size
  obtain ⟨p1, p2, _, _⟩ := blk2 BA8.out
  obtain ⟨q1, q2, _, _⟩ := blk2 BB8.out
  obtain ⟨r1, r2, _, _⟩ := blk2 BX8.out
  obtain ⟨s1, s2, _, _⟩ := blk2 BY8.out
  have hla := blk_lt BA8.out
  have hlb := blk_lt BB8.out
  have hlx := blk_lt BX8.out
  have hly := blk_lt BY8.out
  clear hb8 RX1 RX2 RX3 RX4 BA7 BB7 BX7 BY7 H7 HW hvc HVB hW
  go_wp2_with fail
  refine wp_region_held_drew (S := (fun w' => w'.cell? ⟨w.heap.size, 0, none⟩ = some (.slice a1 l1.length c1) ∧ w'.cell? ⟨w.heap.size, 1, none⟩ = some (.slice a2 l2.length c2) ∧ w'.cell? ⟨w.heap.size + 1, 0, none⟩ = some (.slice b1 m1.length d1) ∧ w'.cell? ⟨w.heap.size + 1, 1, none⟩ = some (.slice b2 m2.length d2) ∧ w'.cell? ⟨w6.heap.size, 0, none⟩ = some (.slice x1' l1.length g1') ∧ w'.cell? ⟨w6.heap.size, 1, none⟩ = some (.slice x2' l2.length g2') ∧ w'.cell? ⟨w7.heap.size, 0, none⟩ = some (.slice y1' m1.length k1') ∧ w'.cell? ⟨w7.heap.size, 1, none⟩ = some (.slice y2' m2.length k2'))) (by kernel_rfl) (by exact ⟨p1, p2, q1, q2, r1, r2, s1, s2⟩) (fun hHeld => ?_)
  refine wpAnyH_take (i := 0) (v := ?_) rfl (by kernel_rfl) (by kernel_rfl) (by kernel_rfl) (fun _ _ _ h => h) (Or.inl ⟨by rfl, ?_⟩) hHeld ?_
  rotate_left
  · intro w hSw; (try dsimp only at hSw); first | (go_simp; done) | (go_simp; with_reducible rfl)
  simp only [Act.put, List.setIfInBounds_toArray, List.set_cons_zero, List.set_cons_succ, List.getElem_toArray, List.getElem_cons_zero, List.getElem_cons_succ]
  refine wpAnyH_take (i := 1) (v := ?_) rfl (by kernel_rfl) (by kernel_rfl) (by kernel_rfl) (fun _ _ _ h => h) (Or.inl ⟨by rfl, ?_⟩) hHeld ?_
  rotate_left
  · intro w hSw; (try dsimp only at hSw); first | (go_simp; done) | (go_simp; with_reducible rfl)
  simp only [Act.put, List.setIfInBounds_toArray, List.set_cons_zero, List.set_cons_succ, List.getElem_toArray, List.getElem_cons_zero, List.getElem_cons_succ]
  refine wpAnyH_ready (rs := [2]) (by kernel_rfl) (by simp) ?_
  refine AllReadyH.cons rfl (fun K hK => ?_) AllReadyH.nil
  go_simp
  refine (toStream_any a1 a2 c1 c2 l1 l2 _ 0 w.heap.size 0 w.heap.size (by exact F1.out.below H8.out.drew (Nat.le_refl _)) (by exact F2.out.below H8.out.drew (Nat.le_refl _)) (by exact H8.out.size) (by exact H8.out.size) hn1 hn2).mono ?_
  rintro e w9 ⟨z1, j1, z2, j2, rfl, ho1, ho2, _, hbN⟩
  replace hbN := undrew hbN
  clear p1 p2 q1 q2 r1 r2 s1 s2
  have BA9 := Lib.hid (hbN.blk BA8.out (blk_lt BA8.out))
  have BB9 := Lib.hid (hbN.blk BB8.out (blk_lt BB8.out))
  have BX9 := Lib.hid (hbN.blk BX8.out (blk_lt BX8.out))
  have BY9 := Lib.hid (hbN.blk BY8.out (blk_lt BY8.out))
  obtain ⟨p1, p2, _, _⟩ := blk2 BA9.out
  obtain ⟨q1, q2, _, _⟩ := blk2 BB9.out
  obtain ⟨r1, r2, _, _⟩ := blk2 BX9.out
  obtain ⟨s1, s2, _, _⟩ := blk2 BY9.out
  have U1 := Lib.hid (RX1'.out.below hbN (by omega))
  have U2 := Lib.hid (RX2'.out.below hbN (by omega))
  have V1 := Lib.hid (ho1.rd.mono (Nat.zero_le _) (Nat.le_refl _))
  have V2 := Lib.hid (ho2.rd.mono (Nat.zero_le _) (Nat.le_refl _))
  have H9 := Lib.hid (below_then H8.out hbN)
  have hz9 := hbN.size
  have HBN := Lib.hid hbN
  clear ho1 ho2 hbN
  refine hK.out _ _ (by exact ⟨p1, p2, q1, q2, r1, r2, s1, s2⟩) (fun hHeld2 => ?_)
  clear hK K hHeld
  have hHeld := hHeld2
  clear hHeld2
  (try simp only [Act.put, List.setIfInBounds_toArray, List.set_cons_zero, List.set_cons_succ])
  refine wpAnyH_ready (rs := [3]) (by kernel_rfl) (by simp) ?_
  refine AllReadyH.cons rfl (fun K hK => ?_) AllReadyH.nil
  go_simp
  refine (eqStream_any x1' x2' z1 z2 g1' g2' j1 j2 l1 l2 l1 l2 w9 0 (U1.out.mono (Nat.le_refl _) (by omega)) (U2.out.mono (Nat.le_refl _) (by omega)) V1.out V2.out hl1 hl2 hl1 hl2).mono ?_
  rintro e w10 ⟨rfl, hbN⟩
  rw [decide_eq_true rfl, decide_eq_true rfl]
  clear p1 p2 q1 q2 r1 r2 s1 s2
  have BA10 := Lib.hid (hbN.blk BA9.out (blk_lt BA9.out))
  have BB10 := Lib.hid (hbN.blk BB9.out (blk_lt BB9.out))
  have BX10 := Lib.hid (hbN.blk BX9.out (blk_lt BX9.out))
  have BY10 := Lib.hid (hbN.blk BY9.out (blk_lt BY9.out))
  obtain ⟨p1, p2, _, _⟩ := blk2 BA10.out
  obtain ⟨q1, q2, _, _⟩ := blk2 BB10.out
  obtain ⟨r1, r2, _, _⟩ := blk2 BX10.out
  obtain ⟨s1, s2, _, _⟩ := blk2 BY10.out
  have H10 := Lib.hid (below_then H9.out hbN)
  have hz10 := hbN.size
  have RX3'' := Lib.hid ((RX3'.out.below HBN.out (by omega)).below hbN (by omega))
  have RX4'' := Lib.hid ((RX4'.out.below HBN.out (by omega)).below hbN (by omega))
  clear hbN HBN U1 U2 V1 V2
  refine hK.out _ _ (by exact ⟨p1, p2, q1, q2, r1, r2, s1, s2⟩) (fun hHeld2 => ?_)
  clear hK K hHeld
  have hHeld := hHeld2
  clear hHeld2
  (try simp only [Act.put, List.setIfInBounds_toArray, List.set_cons_zero, List.set_cons_succ])
  refine wpAnyH_take (i := 4) (v := ?_) rfl (by kernel_rfl) (by kernel_rfl) (by kernel_rfl) (fun _ _ _ h => h) (Or.inl ⟨by rfl, ?_⟩) hHeld ?_
  rotate_left
  · intro w hSw; (try dsimp only at hSw); first | (go_simp; done) | (go_simp; with_reducible rfl)
  simp only [Act.put, List.setIfInBounds_toArray, List.set_cons_zero, List.set_cons_succ, List.getElem_toArray, List.getElem_cons_zero, List.getElem_cons_succ]
  refine wpAnyH_done (by kernel_rfl) ?_ _
  go_wp2_with fail
  refine wp_region_held_drew (S := (fun w' => w'.cell? ⟨w.heap.size, 0, none⟩ = some (.slice a1 l1.length c1) ∧ w'.cell? ⟨w.heap.size, 1, none⟩ = some (.slice a2 l2.length c2) ∧ w'.cell? ⟨w.heap.size + 1, 0, none⟩ = some (.slice b1 m1.length d1) ∧ w'.cell? ⟨w.heap.size + 1, 1, none⟩ = some (.slice b2 m2.length d2) ∧ w'.cell? ⟨w6.heap.size, 0, none⟩ = some (.slice x1' l1.length g1') ∧ w'.cell? ⟨w6.heap.size, 1, none⟩ = some (.slice x2' l2.length g2') ∧ w'.cell? ⟨w7.heap.size, 0, none⟩ = some (.slice y1' m1.length k1') ∧ w'.cell? ⟨w7.heap.size, 1, none⟩ = some (.slice y2' m2.length k2'))) (by kernel_rfl) (by exact ⟨p1, p2, q1, q2, r1, r2, s1, s2⟩) (fun hHeld => ?_)
  refine wpAnyH_take (i := 0) (v := ?_) rfl (by kernel_rfl) (by kernel_rfl) (by kernel_rfl) (fun _ _ _ h => h) (Or.inl ⟨by rfl, ?_⟩) hHeld ?_
  rotate_left
  · intro w hSw; (try dsimp only at hSw); first | (go_simp; done) | (go_simp; with_reducible rfl)
  simp only [Act.put, List.setIfInBounds_toArray, List.set_cons_zero, List.set_cons_succ, List.getElem_toArray, List.getElem_cons_zero, List.getElem_cons_succ]
  refine wpAnyH_take (i := 1) (v := ?_) rfl (by kernel_rfl) (by kernel_rfl) (by kernel_rfl) (fun _ _ _ h => h) (Or.inl ⟨by rfl, ?_⟩) hHeld ?_
  rotate_left
  · intro w hSw; (try dsimp only at hSw); first | (go_simp; done) | (go_simp; with_reducible rfl)
  simp only [Act.put, List.setIfInBounds_toArray, List.set_cons_zero, List.set_cons_succ, List.getElem_toArray, List.getElem_cons_zero, List.getElem_cons_succ]
  refine wpAnyH_ready (rs := [2]) (by kernel_rfl) (by simp) ?_
  refine AllReadyH.cons rfl (fun K hK => ?_) AllReadyH.nil
  go_simp
  refine (toStream_any b1 b2 d1 d2 m1 m2 _ 0 w.heap.size 0 w.heap.size (by exact F3.out.below H10.out.drew (Nat.le_refl _)) (by exact F4.out.below H10.out.drew (Nat.le_refl _)) (by exact H10.out.size) (by exact H10.out.size) hn3 hn4).mono ?_
  rintro e w11 ⟨z1, j1, z2, j2, rfl, ho1, ho2, _, hbN⟩
  replace hbN := undrew hbN
  clear p1 p2 q1 q2 r1 r2 s1 s2
  have BA11 := Lib.hid (hbN.blk BA10.out (blk_lt BA10.out))
  have BB11 := Lib.hid (hbN.blk BB10.out (blk_lt BB10.out))
  have BX11 := Lib.hid (hbN.blk BX10.out (blk_lt BX10.out))
  have BY11 := Lib.hid (hbN.blk BY10.out (blk_lt BY10.out))
  obtain ⟨p1, p2, _, _⟩ := blk2 BA11.out
  obtain ⟨q1, q2, _, _⟩ := blk2 BB11.out
  obtain ⟨r1, r2, _, _⟩ := blk2 BX11.out
  obtain ⟨s1, s2, _, _⟩ := blk2 BY11.out
  have U1 := Lib.hid (RX3''.out.below hbN (by omega))
  have U2 := Lib.hid (RX4''.out.below hbN (by omega))
  have V1 := Lib.hid (ho1.rd.mono (Nat.zero_le _) (Nat.le_refl _))
  have V2 := Lib.hid (ho2.rd.mono (Nat.zero_le _) (Nat.le_refl _))
  have H11 := Lib.hid (below_then H10.out hbN)
  have hz11 := hbN.size
  have HBN := Lib.hid hbN
  clear ho1 ho2 hbN
  refine hK.out _ _ (by exact ⟨p1, p2, q1, q2, r1, r2, s1, s2⟩) (fun hHeld2 => ?_)
  clear hK K hHeld
  have hHeld := hHeld2
  clear hHeld2
  (try simp only [Act.put, List.setIfInBounds_toArray, List.set_cons_zero, List.set_cons_succ])
  refine wpAnyH_ready (rs := [3]) (by kernel_rfl) (by simp) ?_
  refine AllReadyH.cons rfl (fun K hK => ?_) AllReadyH.nil
  go_simp
  refine (eqStream_any y1' y2' z1 z2 k1' k2' j1 j2 m1 m2 m1 m2 w11 0 (U1.out.mono (Nat.le_refl _) (by omega)) (U2.out.mono (Nat.le_refl _) (by omega)) V1.out V2.out hm1 hm2 hm1 hm2).mono ?_
  rintro e w12 ⟨rfl, hbN⟩
  rw [decide_eq_true rfl, decide_eq_true rfl]
  clear p1 p2 q1 q2 r1 r2 s1 s2
  have BA12 := Lib.hid (hbN.blk BA11.out (blk_lt BA11.out))
  have BB12 := Lib.hid (hbN.blk BB11.out (blk_lt BB11.out))
  have BX12 := Lib.hid (hbN.blk BX11.out (blk_lt BX11.out))
  have BY12 := Lib.hid (hbN.blk BY11.out (blk_lt BY11.out))
  obtain ⟨p1, p2, _, _⟩ := blk2 BA12.out
  obtain ⟨q1, q2, _, _⟩ := blk2 BB12.out
  obtain ⟨r1, r2, _, _⟩ := blk2 BX12.out
  obtain ⟨s1, s2, _, _⟩ := blk2 BY12.out
  have H12 := Lib.hid (below_then H11.out hbN)
  have hz12 := hbN.size
  skip
  clear hbN HBN U1 U2 V1 V2
  refine hK.out _ _ (by exact ⟨p1, p2, q1, q2, r1, r2, s1, s2⟩) (fun hHeld2 => ?_)
  clear hK K hHeld
  have hHeld := hHeld2
  clear hHeld2
  (try simp only [Act.put, List.setIfInBounds_toArray, List.set_cons_zero, List.set_cons_succ])
  refine wpAnyH_take (i := 4) (v := ?_) rfl (by kernel_rfl) (by kernel_rfl) (by kernel_rfl) (fun _ _ _ h => h) (Or.inl ⟨by rfl, ?_⟩) hHeld ?_
  rotate_left
  · intro w hSw; (try dsimp only at hSw); first | (go_simp; done) | (go_simp; with_reducible rfl)
  simp only [Act.put, List.setIfInBounds_toArray, List.set_cons_zero, List.set_cons_succ, List.getElem_toArray, List.getElem_cons_zero, List.getElem_cons_succ]
  refine wpAnyH_done (by kernel_rfl) ?_ _
  go_wp2_with fail
  go_ret
  exact ⟨rfl, H12.out⟩
end Go.Proofs.Ytgfoolneophkcaa
