/- The law FnInSet, walked. -/
import Derived.Test.YtodjkphelildeaaHas
import Derived.Test.YtodjkphelildeaaDrawQ
import Derived.Test.YtodjkphelildeaaAlive
namespace Go.Hyp
theorem in_both2 {p q : List (List Int)} {a b : Int} (h1 : nodeB p a = true) (h2 : nodeB q b = true) : (inB p a q b && inB q b p a) = sameSetB p a q b := by
  obtain ⟨i, rfl, hi, hp⟩ := nodeB_nat h1
  obtain ⟨j, rfl, hj, hq⟩ := nodeB_nat h2
  rw [inB_yes h1 h2, inB_yes h2 h1, in_both hi hj]
  unfold sameSetB
  rw [h1, h2, Int.toNat_natCast, Int.toNat_natCast]
  rfl
end Go.Hyp
namespace Go.Proofs.Ytodjkphelildeaa
open Go.RowKit Go.Hyp Go.Deep

set_option maxRecDepth 4000 in
set_option maxHeartbeats 1000000 in
theorem fnInSet_any (a : Option Addr) (cap : Nat) (l : List Int) (w : World) (h : RdB w w.heap.size a l) (hl : l.length ≤ maxLen ∧ l.length ≤ cap) :
    Calls Try.prog 13 #[.slice a l.length cap] w fun e w' => e = .returned (.bool true) ∧ Below w.heap.size w w' := by
  obtain ⟨hl, hcap⟩ := hl
  have HB := Lib.hid h
  clear h
  by_cases hbig : 1048576 < l.length
  · go_enter Try.func13, Try.ntmps13
    go_wp2_with fail
    go_ret
    exact ⟨rfl, Below.refl _ _⟩
  · go_enter Try.func13, Try.ntmps13
    go_wp2_with fail
    refine (drawInSet_any a cap l _ HB.out hl hcap).mono ?_
    rintro e w1 ⟨a2, c2, p, x, a3, c3, q, y, rfl, hp, hp5, hq, hq5, hb⟩
    have P1 := Lib.hid hp
    have Q1 := Lib.hid hq
    have H1 := Lib.hid hb
    have hm : Hid (p.length ≤ maxLen) := Lib.hid (by unfold maxLen; omega)
    have hm' : Hid (q.length ≤ maxLen) := Lib.hid (by unfold maxLen; omega)
    clear hp hq hb
    go_wp2_with fail
    refine (implInSet_any a2 c2 p x a3 c3 q y w1 _ _ _ _ P1.out (Nat.le_refl _) hm.out Q1.out (Nat.le_refl _) hm'.out).mono ?_
    rintro e w2 ⟨rfl, hb⟩
    have P2 := Lib.hid (P1.out.below hb (Nat.le_refl _))
    have Q2 := Lib.hid (Q1.out.below hb (Nat.le_refl _))
    have H2 := Lib.hid (H1.out.trans (hb.mono H1.out.size))
    have hz2 : w1.heap.size ≤ w2.heap.size := hb.size
    clear hb P1 Q1 H1
    go_wp2_with fail
    refine (specInSet_any a2 c2 p x a3 c3 q y w2 _ _ _ _ P2.out hz2 hm.out Q2.out hz2 hm'.out).mono ?_
    rintro e w3 ⟨rfl, hb⟩
    have P3 := Lib.hid (P2.out.below hb hz2)
    have Q3 := Lib.hid (Q2.out.below hb hz2)
    have H3 := Lib.hid (H2.out.trans (hb.mono H2.out.size))
    have hz3 : w2.heap.size ≤ w3.heap.size := hb.size
    clear hb P2 Q2 H2
    have hall : ∀ b1 b2 b3 : Bool, nodeB p x = b1 → nodeB q y = b2 → inB p x q y = b3 → ((b1 && b2) = false → b3 = false) := fun b1 b2 b3 h1 h2 h3 h => by
      rw [← h3]; unfold inB; rw [h1, h2, h]; rfl
    cases h1 : nodeB p x
    · have hno := hall _ _ _ h1 rfl rfl rfl
      have H4 := Lib.hid h1
      rw [hno]
      clear h1 hno hall
      go_wp2_with (first | (go_at_call 45; refine (specNodeOk_any _ _ _ _ _ _ _ P3.out hm.out).mono ?_; rintro e w' ⟨rfl, rfl⟩; rw [H4.out]) | (go_at_call 21; refine (alive1_any _).mono ?_; rintro e w' ⟨rfl, rfl⟩))
      go_ret
      exact ⟨rfl, H3.out⟩
    · cases h2 : nodeB q y
      · have hno := hall _ _ _ h1 h2 rfl rfl
        have H4 := Lib.hid h1
        have H5 := Lib.hid h2
        rw [hno]
        clear h1 h2 hno hall
        go_wp2_with fail
        refine (specNodeOk_any _ _ _ _ _ _ _ P3.out hm.out).mono ?_
        rintro e w' ⟨rfl, rfl⟩
        rw [H4.out]
        go_wp2_with fail
        refine (specNodeOk_any _ _ _ _ _ _ _ Q3.out hm'.out).mono ?_
        rintro e w' ⟨rfl, rfl⟩
        rw [H5.out]
        go_wp2_with (go_at_call 21; refine (alive1_any _).mono ?_; rintro e w' ⟨rfl, rfl⟩)
        go_ret
        exact ⟨rfl, H3.out⟩
      · have hboth := in_both2 h1 h2
        have H4 := Lib.hid h1
        have H5 := Lib.hid h2
        clear h1 h2 hall
        obtain ⟨S, hS⟩ : ∃ S, S = sameSetB p x q y := ⟨_, rfl⟩
        obtain ⟨I2, hI2⟩ : ∃ I2, I2 = inB q y p x := ⟨_, rfl⟩
        have HS := Lib.hid hS
        have HI2 := Lib.hid hI2
        rw [← hS, ← hI2] at hboth
        clear hS hI2
        cases hb1 : inB p x q y
        · rw [hb1] at hboth
          have HSF : Hid (sameSetB p x q y = false) := Lib.hid (by rw [← HS.out, ← hboth]; rfl)
          clear hboth hb1
          go_wp2_with fail
          refine (specNodeOk_any _ _ _ _ _ _ _ P3.out hm.out).mono ?_
          rintro e w' ⟨rfl, rfl⟩
          rw [H4.out]
          go_wp2_with fail
          refine (specNodeOk_any _ _ _ _ _ _ _ Q3.out hm'.out).mono ?_
          rintro e w' ⟨rfl, rfl⟩
          rw [H5.out]
          go_wp2_with fail
          refine (implSameSet_any a2 c2 p x a3 c3 q y w3 _ _ _ _ P3.out (by omega) hm.out Q3.out (by omega) hm'.out).mono ?_
          rintro e w4 ⟨rfl, hb⟩
          rw [HSF.out]
          have H6 := Lib.hid (H3.out.trans (hb.mono H3.out.size))
          clear hb
          go_wp2_with fail
          go_ret
          exact ⟨rfl, H6.out⟩
        · rw [hb1] at hboth
          have HSE : Hid (sameSetB p x q y = inB q y p x) := Lib.hid (by rw [← HS.out, ← hboth, ← HI2.out]; rfl)
          clear hboth hb1
          go_wp2_with fail
          refine (specNodeOk_any _ _ _ _ _ _ _ P3.out hm.out).mono ?_
          rintro e w' ⟨rfl, rfl⟩
          rw [H4.out]
          go_wp2_with fail
          refine (specNodeOk_any _ _ _ _ _ _ _ Q3.out hm'.out).mono ?_
          rintro e w' ⟨rfl, rfl⟩
          rw [H5.out]
          go_wp2_with fail
          refine (implInSet_any a3 c3 q y a2 c2 p x w3 _ _ _ _ Q3.out (by omega) hm'.out P3.out (by omega) hm.out).mono ?_
          rintro e w4 ⟨rfl, hb⟩
          have P4 := Lib.hid (P3.out.below hb (by omega))
          have Q4 := Lib.hid (Q3.out.below hb (by omega))
          have H6 := Lib.hid (H3.out.trans (hb.mono H3.out.size))
          have hz4 : w3.heap.size ≤ w4.heap.size := hb.size
          clear hb P3 Q3 H3
          go_wp2_with fail
          refine (implSameSet_any a2 c2 p x a3 c3 q y w4 _ _ _ _ P4.out (by omega) hm.out Q4.out (by omega) hm'.out).mono ?_
          rintro e w5 ⟨rfl, hb⟩
          rw [HSE.out]
          have H7 := Lib.hid (H6.out.trans (hb.mono H6.out.size))
          clear hb
          cases inB q y p x
          all_goals
            go_wp2_with fail
            go_ret
            exact ⟨rfl, H7.out⟩
end Go.Proofs.Ytodjkphelildeaa
