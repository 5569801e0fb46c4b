/- impl.SameAt: two nodes of one picture draw the same set. -/
import Derived.Test.YtiiohodkfipfbaaHeld
namespace Go.Hyp
theorem sameAtB_of {p : List (List Int)} {a b : Int} : sameAtB p a b = true ↔ ∃ i j : Nat, a = i ∧ b = j ∧ i < p.length ∧ j < p.length ∧ picB p = true ∧ simB p i j = true := by
  constructor
  · intro h
    unfold sameAtB at h
    simp only [Bool.and_eq_true] at h
    obtain ⟨i, rfl, hi, hp⟩ := nodeB_nat h.1.1
    obtain ⟨j, rfl, hj, _⟩ := nodeB_nat h.1.2
    exact ⟨i, j, rfl, rfl, hi, hj, hp, by simpa using h.2⟩
  · rintro ⟨i, j, rfl, rfl, hi, hj, hp, hs⟩
    unfold sameAtB
    rw [nodeB_of hp hi, nodeB_of hp hj, Int.toNat_natCast, Int.toNat_natCast, hs]; rfl
end Go.Hyp
namespace Go.Proofs.Ytiiohodkfipfbaa
open Go.RowKit Go.Hyp Go.Deep

set_option maxRecDepth 4000 in
set_option maxHeartbeats 800000 in
theorem implSameAt_any (a : Option Addr) (cap : Nat) (p : List (List Int)) (i j : Int) (w : World) (B C : Nat) (h : RdII w B C a p) (hC : C ≤ w.heap.size) (hl : p.length ≤ maxLen) :
    Calls Try.prog 23 #[.slice a p.length cap, .int .i64 i, .int .i64 j] w fun e w' => e = .returned (.bool (sameAtB p i j)) ∧ Below w.heap.size w w' := by
  have F := Lib.hid h
  have HL := Lib.hid hl
  unfold maxLen at hl
  clear h
  cases h1 : nodeB p i
  · have H1 := Lib.hid h1
    have E1 : Hid (sameAtB p i j = false) := Lib.hid (by unfold sameAtB; rw [h1]; rfl)
    clear h1
    go_enter Try.func23, Try.ntmps23
    go_wp2_with (go_at_call 29; refine (hasNode_any _ _ _ _ _ B C F.out HL.out).mono ?_; rintro e w' ⟨rfl, rfl⟩; rw [H1.out])
    go_ret
    exact ⟨ret_bool E1.out.symm, Below.refl _ _⟩
  · cases h2 : nodeB p j
    · have H1 := Lib.hid h1
      have H2 := Lib.hid h2
      have E1 : Hid (sameAtB p i j = false) := Lib.hid (by unfold sameAtB; rw [h1, h2]; rfl)
      clear h1 h2
      go_enter Try.func23, Try.ntmps23
      go_wp2_with fail
      refine (hasNode_any _ _ _ _ _ B C F.out HL.out).mono ?_
      rintro e w' ⟨rfl, rfl⟩
      rw [H1.out]
      go_wp2_with fail
      refine (hasNode_any _ _ _ _ _ B C F.out HL.out).mono ?_
      rintro e w' ⟨rfl, rfl⟩
      rw [H2.out]
      go_wp2_with fail
      go_ret
      exact ⟨ret_bool E1.out.symm, Below.refl _ _⟩
    · obtain ⟨n, rfl, hn, hp⟩ := nodeB_nat h1
      obtain ⟨m, rfl, hm, _⟩ := nodeB_nat h2
      obtain ⟨sq, s1, s5⟩ := picB_sq hp
      have HS := Lib.hid sq
      have H1 := Lib.hid h1
      have H2 := Lib.hid h2
      have E1 : Hid (sameAtB p n m = simB p n m) := Lib.hid (by unfold sameAtB; rw [h1, h2, Int.toNat_natCast, Int.toNat_natCast]; rfl)
      have hni : (n : Int) < (p.length : Int) := by omega
      have hmi : (m : Int) < (p.length : Int) := by omega
      have HC := Lib.hid (fun w' hF hC' => leftAfter_any a cap p p.length w' B C hF hC' HS.out (by omega) (by omega))
      clear h1 h2 sq hp
      go_enter Try.func23, Try.ntmps23
      go_wp2_with fail
      refine (hasNode_any _ _ _ _ _ B C F.out HL.out).mono ?_
      rintro e w' ⟨rfl, rfl⟩
      rw [H1.out]
      go_wp2_with fail
      refine (hasNode_any _ _ _ _ _ B C F.out HL.out).mono ?_
      rintro e w' ⟨rfl, rfl⟩
      rw [H2.out]
      go_wp2_with fail
      refine (HC.out _ F.out hC).mono ?_
      rintro e w1 ⟨x, c, rfl, ho, hb1⟩
      have HB1 := Lib.hid hb1
      obtain ⟨b1, off1, b1', off1', c1', rfl, _, _, hc1, _, _, hd1⟩ := ho.rd.bit (mat_sq _ _) n m (by rw [mat_len]; exact hn) (by rw [mat_len]; exact hm)
      rw [mat_len] at hc1
      rw [mat_arr _ _ _ _ _ hn hm] at hd1
      clear ho hb1 HC
      cases hx : left p p.length n m
      · have E2 : Hid (sameAtB p n m = false) := Lib.hid (by rw [E1.out]; exact hx)
        rw [hx] at hd1
        simp only [Bool.false_eq_true, if_false] at hd1
        clear hx
        go_wp2_with fail
        go_ret
        exact ⟨ret_bool E2.out.symm, HB1.out⟩
      · have E2 : Hid (sameAtB p n m = true) := Lib.hid (by rw [E1.out]; exact hx)
        rw [hx] at hd1
        simp only [if_true] at hd1
        clear hx
        go_wp2_with fail
        go_ret
        exact ⟨ret_bool E2.out.symm, HB1.out⟩
end Go.Proofs.Ytiiohodkfipfbaa
