/- The law FnExactBitAt, walked. -/
import Derived.Test.YtkaekaofmaljoaaBit
import Derived.Deep.RegionHeld3
namespace Go.Proofs.Ytkaekaofmaljoaa
open Go.RowKit Go.Hyp Go.Deep

set_option maxHeartbeats 400000 in
theorem fnExactBitAt_any (a1 a2 : Option Addr) (c1 c2 : Nat) (l1 l2 : List Int) (n : Int) (w : World) (h1 : RdI w 0 w.heap.size a1 l1) (h2 : RdI w 0 w.heap.size a2 l2)
    (hl1 : l1.length ≤ maxLen) (hl2 : l2.length ≤ maxLen) :
    Calls Try.prog 7 #[.agg #[.slice a1 l1.length c1, .slice a2 l2.length c2], .int .i64 n] w fun e w' => e = .returned (.bool true) ∧ Below w.heap.size w w' := by
  have hb0 := below_alloc w (.cells #[.slice a1 l1.length c1, .slice a2 l2.length c2] 24)
  have H0 := Lib.hid hb0
  have F1 := Lib.hid h1
  have F2 := Lib.hid h2
  have B0 := Lib.hid (alloc1 w (.cells #[.slice a1 l1.length c1, .slice a2 l2.length c2] 24))
  clear hb0 h1 h2
  by_cases hs : szI (szI 1048576 l1.length) l2.length < 0
  · go_enter Try.func7, Try.ntmps7
    go_wp2_with fail
    refine (szStream_any a1 a2 c1 c2 l1.length l2.length _ hl1 hl2).mono ?_
    rintro e w1 ⟨rfl, hb1⟩
    have H1 := Lib.hid (below_trans H0.out hb1)
    clear hb1
    go_wp2_with fail
    go_ret
    exact ⟨rfl, H1.out⟩
  · have hlen : l1.length ≤ 1048576 ∧ l2.length ≤ 1048576 := by
      have s1 := szI_cases 1048576 l1.length
      have s2 := szI_cases (szI 1048576 l1.length) l2.length
      omega
    obtain ⟨hn1, hn2⟩ := hlen
    go_enter Try.func7, Try.ntmps7
    go_wp2_with fail
    refine (szStream_any a1 a2 c1 c2 l1.length l2.length _ hl1 hl2).mono ?_
    rintro e w1 ⟨rfl, hb1⟩
    have b1 := hb1.blk B0.out (by simp)
    obtain ⟨p1, p2, _, _⟩ := blk2 b1
    have H1 := Lib.hid (below_trans H0.out hb1)
    have B1 := Lib.hid b1
    clear b1 hb1
    go_wp2_with fail
    refine (toStream_any a1 a2 c1 c2 l1 l2 w1 _ _ _ _ (F1.out.below H1.out (Nat.le_refl _)) (F2.out.below H1.out (Nat.le_refl _)) H1.out.size H1.out.size hn1 hn2).mono ?_
    rintro e w2 ⟨x1, d1, x2, d2, rfl, ho1, ho2, _, hb2⟩
    clear p1 p2
    have b2 := hb2.blk B1.out (blk_lt B1.out)
    obtain ⟨p1, p2, _, _⟩ := blk2 b2
    have H2 := Lib.hid (below_trans H1.out hb2)
    have B2 := Lib.hid b2
    have O1 := Lib.hid ho1.rd
    have O2 := Lib.hid ho2.rd
    clear b2 hb2 ho1 ho2 B1
    go_wp2_with fail
    refine (specBitAt_any x1 x2 d1 d2 l1 l2 n w2 _ _ _ _ O1.out O2.out (Nat.le_refl _) (Nat.le_refl _) hn1 hn2).mono ?_
    rintro e w3 ⟨rfl, hb3⟩
    clear p1 p2
    have b3 := hb3.blk B2.out (blk_lt B2.out)
    obtain ⟨p1, p2, _, _⟩ := blk2 b3
    have H3 := Lib.hid (below_trans H2.out hb3)
    have B3 := Lib.hid b3
    clear b3 hb3 O1 O2 B2
    go_wp2_with fail
    refine (toStream_any a1 a2 c1 c2 l1 l2 w3 _ _ _ _ (F1.out.below H3.out (Nat.le_refl _)) (F2.out.below H3.out (Nat.le_refl _)) H3.out.size H3.out.size hn1 hn2).mono ?_
    rintro e w4 ⟨y1, g1, y2, g2, rfl, ho1, ho2, _, hb4⟩
    clear p1 p2
    have b4 := blk_old (o := .cells #[.slice y1 l1.length g1, .slice y2 l2.length g2] 27) (hb4.blk B3.out (blk_lt B3.out))
    have H4 := Lib.hid ((below_trans H3.out hb4).alloc (below_trans H3.out hb4).size (.cells #[.slice y1 l1.length g1, .slice y2 l2.length g2] 27))
    have X4 := Lib.hid (blk_new (w := w4) (o := .cells #[.slice y1 l1.length g1, .slice y2 l2.length g2] 27) rfl)
    have B4 := Lib.hid b4
    have O1 := Lib.hid (ho1.rd.below (below_alloc w4 (.cells #[.slice y1 l1.length g1, .slice y2 l2.length g2] 27)) (Nat.le_refl _))
    have O2 := Lib.hid (ho2.rd.below (below_alloc w4 (.cells #[.slice y1 l1.length g1, .slice y2 l2.length g2] 27)) (Nat.le_refl _))
    clear b4 hb4 ho1 ho2 B3
    go_wp2_with fail
    refine (implBitAt_any y1 y2 g1 g2 l1 l2 n _ _ _ _ _ O1.out O2.out (by simp) (by simp) hn1 hn2).mono ?_
    rintro e w5 ⟨rfl, hb5⟩
    have b5 := hb5.blk B4.out (blk_lt B4.out)
    have x5 := hb5.blk X4.out (blk_lt X4.out)
    obtain ⟨p1, p2, _, _⟩ := blk2 b5
    obtain ⟨q1, q2, _, _⟩ := blk2 x5
    have hlt : w4.heap.size < w5.heap.size := blk_lt x5
    have H5 := Lib.hid (below_trans H4.out hb5)
    have B5 := Lib.hid b5
    have X5 := Lib.hid x5
    have O1' := Lib.hid (O1.out.below hb5 (by simp))
    have O2' := Lib.hid (O2.out.below hb5 (by simp))
    clear b5 x5 hb5 O1 O2 B4 X4
    go_wp2_with fail
    go_region_held3 (fun w' => w'.cell? ⟨w.heap.size, 0, none⟩ = some (.slice a1 l1.length c1) ∧ w'.cell? ⟨w.heap.size, 1, none⟩ = some (.slice a2 l2.length c2) ∧
        w'.cell? ⟨w4.heap.size, 0, none⟩ = some (.slice y1 l1.length g1) ∧ w'.cell? ⟨w4.heap.size, 1, none⟩ = some (.slice y2 l2.length g2))
      (go_keep)
      (first
        | (go_at_call 11
           go_loud (
           refine (toStream_any a1 a2 c1 c2 l1 l2 _ 0 w.heap.size 0 w.heap.size (by exact F1.out.below H5.out.drew (Nat.le_refl _)) (by exact F2.out.below H5.out.drew (Nat.le_refl _)) (by exact H5.out.size) (by exact H5.out.size) hn1 hn2).mono ?_
           rintro e w6 ⟨z1, k1, z2, k2, rfl, ho1, ho2, _, hb6⟩
           replace hb6 := undrew hb6
           have x6 := hb6.blk X5.out (blk_lt X5.out)
           have b6 := hb6.blk B5.out (blk_lt B5.out)
           obtain ⟨p1, p2, _, _⟩ := blk2 b6
           obtain ⟨q1, q2, _, _⟩ := blk2 x6
           have B6 := Lib.hid b6
           have X6 := Lib.hid x6
           have hlt6 := blk_lt x6
           have U1 := Lib.hid (O1'.out.below hb6 (Nat.le_of_lt hlt))
           have U2 := Lib.hid (O2'.out.below hb6 (Nat.le_of_lt hlt))
           have V1 := Lib.hid ho1.rd
           have V2 := Lib.hid ho2.rd
           have H6 := Lib.hid (below_trans H5.out hb6)
           clear x6 b6 ho1 ho2 hb6))
        | (go_at_call 13
           go_loud (
           refine (eqStream_any _ _ _ _ _ _ _ _ l1 l2 l1 l2 _ 0 (by exact U1.out.mono (by simp) (by omega)) (by exact U2.out.mono (by simp) (by omega)) (by exact V1.out.mono (by simp) (by simp)) (by exact V2.out.mono (by simp) (by simp)) hl1 hl2 hl1 hl2).mono ?_
           rintro e w7 ⟨rfl, hb7⟩
           have H7 := Lib.hid (below_trans H6.out hb7)
           obtain ⟨p1, p2, _, _⟩ := blk2 (hb7.blk B6.out (blk_lt B6.out))
           obtain ⟨q1, q2, _, _⟩ := blk2 (hb7.blk X6.out (blk_lt X6.out))
           clear hb7)))
    go_wp2
    go_ret
    exact ⟨rfl, H7.out⟩
end Go.Proofs.Ytkaekaofmaljoaa
