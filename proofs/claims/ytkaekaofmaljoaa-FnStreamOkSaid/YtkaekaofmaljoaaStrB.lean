/- The law FnStreamOk, walked. -/
import Derived.Test.YtkaekaofmaljoaaDrawS
namespace Go.Proofs.Ytkaekaofmaljoaa
open Go.RowKit Go.Hyp Go.Deep

theorem rdI_nil (w : World) (B C : Nat) (a : Option Addr) : RdI w B C a [] := fun i hi => by simp at hi
theorem rdI_one (w : World) (v : Int) (E : Nat) : RdI (w.alloc (.cells #[.int .i64 v] E)) w.heap.size (w.heap.size + 1) (some ⟨w.heap.size, 0, none⟩) [v] := by
  intro i hi
  obtain rfl : i = 0 := by simpa using hi
  exact ⟨w.heap.size, 0, rfl, Nat.le_refl _, Nat.lt_succ_self _, by rw [World.cell?_alloc_at _ _ _ _ rfl]; rfl⟩

set_option maxHeartbeats 400000 in
theorem fnStreamOk_any (a : Option Addr) (cap : Nat) (l : List Int) (w : World) (h : RdB w w.heap.size a l) (hl : l.length ≤ maxLen ∧ l.length ≤ cap) :
    Calls Try.prog 4 #[.slice a l.length cap] w fun e w' => e = .returned (.bool true) ∧ Below w.heap.size w w' := by
  obtain ⟨hl, hcap⟩ := hl
  have HB := Lib.hid h
  clear h
  by_cases hbig : 1048576 < l.length
  · go_enter Try.func4, Try.ntmps4
    go_wp2_with fail
    go_ret
    exact ⟨rfl, Below.refl _ _⟩
  · have t1 : streamB [] [0] = true := rfl
    have t2 : streamB [] [1] = true := rfl
    have t3 : streamB [1] [] = false := rfl
    have T1 := Lib.hid t1
    have T2 := Lib.hid t2
    have T3 := Lib.hid t3
    clear t1 t2 t3
    go_enter Try.func4, Try.ntmps4
    go_wp2_with fail
    refine (drawStreamOk_any a cap l _ HB.out hl hcap).mono ?_
    rintro e w1 ⟨a1, c1, l1, a2, c2, l2, rfl, r1, r2, hl1, hl2, hb1⟩
    have H1 := Lib.hid (hb1.alloc hb1.size (.cells #[.slice a1 l1.length c1, .slice a2 l2.length c2] 27))
    have X1 := Lib.hid (alloc1 w1 (.cells #[.slice a1 l1.length c1, .slice a2 l2.length c2] 27))
    have R1 := Lib.hid (r1.below (below_alloc w1 (.cells #[.slice a1 l1.length c1, .slice a2 l2.length c2] 27)) (Nat.le_refl _))
    have R2 := Lib.hid (r2.below (below_alloc w1 (.cells #[.slice a1 l1.length c1, .slice a2 l2.length c2] 27)) (Nat.le_refl _))
    clear r1 r2 hb1
    go_wp2_with fail
    refine (implStreamOk_any a1 a2 c1 c2 l1 l2 _ _ _ _ _ R1.out R2.out (by simp) (by simp) (by omega) (by omega)).mono ?_
    rintro e w2 ⟨rfl, hb2⟩
    have x2 := hb2.blk X1.out (by simp)
    obtain ⟨q0, q1, q2, q3⟩ := blk2 x2
    have hlt2 : w1.heap.size < w2.heap.size := lt_of_block x2
    have H2 := Lib.hid (below_trans H1.out hb2)
    have S1 := Lib.hid (R1.out.below hb2 (by simp))
    have S2 := Lib.hid (R2.out.below hb2 (by simp))
    clear x2 hb2 R1 R2 X1
    go_wp2_with fail
    refine (specStreamOk_any a1 a2 c1 c2 l1 l2 w2 _ _ _ _ S1.out S2.out (by omega) (by omega) (by omega) (by omega)).mono ?_
    rintro e w3 ⟨rfl, hb3⟩
    have H3 := Lib.hid (below_trans H2.out hb3)
    clear hb3 q0 q1 q2 q3 S1 S2
    go_wp2_with fail
    refine (implStreamOk_any none _ 0 1 [] [0] _ 0 0 _ _ (rdI_nil _ _ _ _) (rdI_one w3 0 3) (by simp) (by simp) (by simp) (by simp)).mono ?_
    rintro e w4 ⟨rfl, hb4⟩
    rw [T1.out]
    have H4 := Lib.hid (below_trans (H3.out.alloc H3.out.size _) hb4)
    clear hb4
    go_wp2_with fail
    refine (implStreamOk_any none _ 0 1 [] [1] _ 0 0 _ _ (rdI_nil _ _ _ _) (rdI_one w4 1 3) (by simp) (by simp) (by simp) (by simp)).mono ?_
    rintro e w5 ⟨rfl, hb5⟩
    rw [T2.out]
    have H5 := Lib.hid (below_trans (H4.out.alloc H4.out.size _) hb5)
    clear hb5
    go_wp2_with fail
    refine (implStreamOk_any _ none 1 0 [1] [] _ _ _ 0 0 (rdI_one w5 1 3) (rdI_nil _ _ _ _) (by simp) (by simp) (by simp) (by simp)).mono ?_
    rintro e w6 ⟨rfl, hb6⟩
    rw [T3.out]
    have H6 := Lib.hid (below_trans (H5.out.alloc H5.out.size _) hb6)
    clear hb6
    go_wp2_with fail
    refine (alive_any w6).mono ?_
    rintro e w' ⟨rfl, rfl⟩
    go_wp2_with fail
    go_ret
    exact ⟨rfl, H6.out⟩
end Go.Proofs.Ytkaekaofmaljoaa
