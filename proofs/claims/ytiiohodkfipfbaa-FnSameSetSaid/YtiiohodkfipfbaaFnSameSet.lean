/- The law FnSameSet, walked. -/
import Derived.Test.YtiiohodkfipfbaaDrawR
import Derived.Test.YtiiohodkfipfbaaCodeI
import Derived.Test.YtiiohodkfipfbaaLeastS
import Derived.Test.YtiiohodkfipfbaaBeside
import Derived.Test.YtiiohodkfipfbaaSameAt
import Derived.Test.YtiiohodkfipfbaaAlive
namespace Go.Hyp
open Go.RowKit Go.Deep
theorem sameSet_swap {p q : List (List Int)} {a b : Int} : sameSetB p a q b = sameSetB q b p a := by
  cases h1 : nodeB p a
  · rw [sameSetB_no1 h1, sameSetB_no2 h1]
  · cases h2 : nodeB q b
    · rw [sameSetB_no2 h2, sameSetB_no1 h2]
    · obtain ⟨i, rfl, hi, _⟩ := nodeB_nat h1
      obtain ⟨j, rfl, hj, _⟩ := nodeB_nat h2
      rw [Bool.eq_iff_iff, sameSetB_iff h1 h2, sameSetB_iff h2 h1]
      exact ⟨Same.symm, Same.symm⟩
theorem sameSet_at (p : List (List Int)) (a b : Int) : sameSetB p a p b = sameAtB p a b := by
  cases h1 : nodeB p a
  · rw [sameSetB_no1 h1]; unfold sameAtB; rw [h1]; rfl
  · cases h2 : nodeB p b
    · rw [sameSetB_no2 h2]; unfold sameAtB; rw [h1, h2]; rfl
    · obtain ⟨i, rfl, hi, _⟩ := nodeB_nat h1
      obtain ⟨j, rfl, hj, _⟩ := nodeB_nat h2
      unfold sameSetB sameAtB
      rw [h1, h2, Int.toNat_natCast, Int.toNat_natCast, sameB_one hi hj]
theorem code_says {p q : List (List Int)} {x y : Int} {c d : Int} (h1 : nodeB p x = true) (h2 : nodeB q y = true) (h3 : CodeRes p x.toNat c true) (h4 : CodeRes q y.toNat d true) : sameSetB p x q y = true ↔ c = d := by
  obtain ⟨i, rfl, hi, _⟩ := nodeB_nat h1
  obtain ⟨j, rfl, hj, _⟩ := nodeB_nat h2
  rw [Int.toNat_natCast] at h3 h4
  rcases h3 with ⟨_, m, rfl, h3⟩ | ⟨h, _⟩
  · rcases h4 with ⟨_, n, rfl, h4⟩ | ⟨h, _⟩
    · rw [sameSetB_iff h1 h2, ← h3.iff hi hj h4]; omega
    · cases h
  · cases h
end Go.Hyp
namespace Go.Proofs.Ytiiohodkfipfbaa
open Go.RowKit Go.Hyp Go.Deep

set_option maxRecDepth 4000 in
set_option maxHeartbeats 2000000 in
theorem fnSameSet_any (a : Option Addr) (cap : Nat) (l : List Int) (w : World) (h : RdB w w.heap.size a l) (hl : l.length ≤ maxLen ∧ l.length ≤ cap) :
    Calls Try.prog 5 #[.slice a l.length cap] w fun e w' => e = .returned (.bool true) ∧ Below w.heap.size w w' := by
  obtain ⟨hl, hcap⟩ := hl
  have HB := Lib.hid h
  clear h
  by_cases hbig : 1048576 < l.length
  · go_enter Try.func5, Try.ntmps5
    go_wp2_with fail
    go_ret
    exact ⟨rfl, Below.refl _ _⟩
  · go_enter Try.func5, Try.ntmps5
    go_wp2_with fail
    refine (drawSameSet_any a cap l _ HB.out hl hcap).mono ?_
    rintro e w1 ⟨a2, c2, p, x, a3, c3, q, y, rfl, hp, hp5, hq, hq5, hb⟩
    have P1 := Lib.hid hp
    have Q1 := Lib.hid hq
    have H1 := Lib.hid hb
    have hm : Hid (p.length ≤ maxLen) := Lib.hid (by unfold maxLen; omega)
    have hm' : Hid (q.length ≤ maxLen) := Lib.hid (by unfold maxLen; omega)
    clear hp hq hb
    obtain ⟨S, hS⟩ : ∃ S, S = sameSetB p x q y := ⟨_, rfl⟩
    have HS0 := Lib.hid hS
    clear hS
    go_wp2_with fail
    refine (implSameSet_any a2 c2 p x a3 c3 q y w1 _ _ _ _ P1.out (Nat.le_refl _) hm.out Q1.out (Nat.le_refl _) hm'.out).mono ?_
    rintro e w2 ⟨rfl, hb⟩
    rw [← HS0.out]
    have P2 := Lib.hid (P1.out.below hb (Nat.le_refl _))
    have Q2 := Lib.hid (Q1.out.below hb (Nat.le_refl _))
    have H2 := Lib.hid (H1.out.trans (hb.mono H1.out.size))
    have hz2 : w1.heap.size ≤ w2.heap.size := hb.size
    clear hb P1 Q1 H1
    go_wp2_with fail
    refine (specSameSet_any a2 c2 p x a3 c3 q y w2 _ _ _ _ P2.out hz2 hm.out Q2.out hz2 hm'.out).mono ?_
    rintro e w3 ⟨rfl, hb⟩
    rw [← HS0.out]
    have P3 := Lib.hid (P2.out.below hb hz2)
    have Q3 := Lib.hid (Q2.out.below hb hz2)
    have H3 := Lib.hid (H2.out.trans (hb.mono H2.out.size))
    have hz3 : w2.heap.size ≤ w3.heap.size := hb.size
    clear hb P2 Q2 H2
    have hC1 := Lib.hid (implCodeAt_any a2 c2 p x w3 _ _ P3.out (by omega) hm.out)
    have hss : (S != S) = false := by simp
    go_wp2_with fail
    refine hC1.out.mono ?_
    rintro e w4 ⟨cc, b1, rfl, hb4, _, g2, g3⟩
    have P4 := Lib.hid (P3.out.below hb4 (by omega))
    have Q4 := Lib.hid (Q3.out.below hb4 (by omega))
    have H4 := Lib.hid (H3.out.trans (hb4.mono H3.out.size))
    have hz4 : w3.heap.size ≤ w4.heap.size := hb4.size
    have G2 := Lib.hid g2
    have G3 := Lib.hid g3
    clear hb4 g2 g3 P3 Q3 H3 hC1 hss
    have hC2 := Lib.hid (implCodeAt_any a3 c3 q y w4 _ _ Q4.out (by omega) hm'.out)
    go_wp2_with fail
    refine hC2.out.mono ?_
    rintro e w5 ⟨dd, b2, rfl, hb5, _, g4, g5⟩
    have P5 := Lib.hid (P4.out.below hb5 (by omega))
    have Q5 := Lib.hid (Q4.out.below hb5 (by omega))
    have H5 := Lib.hid (H4.out.trans (hb5.mono H4.out.size))
    have hz5 : w4.heap.size ≤ w5.heap.size := hb5.size
    have HEQ : Hid (b1 = true → b2 = true → (S = true ↔ cc = dd)) := Lib.hid fun e1 e2 => by
      subst e1 e2
      have n1 : nodeB p x = true := by
        cases h : nodeB p x
        · have := G3.out h; cases this
        · rfl
      have n2 : nodeB q y = true := by
        cases h : nodeB q y
        · have := g5 h; cases this
        · rfl
      rw [HS0.out]
      exact code_says n1 n2 (G2.out n1) (g4 n2)
    clear hb5 g4 g5 P4 Q4 H4 hC2 G2 G3
    cases b1
    · skip
      go_wp2_with fail
      go_loopw [12] (fun ki wr => ∃ k : Nat, k ≤ p.length ∧ ki = .int .i64 k ∧ Below w.heap.size w wr ∧ Below w5.heap.size w5 wr) (fun ki _ => p.length - (intOf ki).toNat)
      case atStart => exact ⟨0, Nat.zero_le _, rfl, H5.out, Below.refl _ _⟩
      case round =>
        obtain ⟨k, hk, rfl, hb, hb5⟩ := hrel
        have H6 := Lib.hid hb
        have HB5 := Lib.hid hb5
        have hz6 : w5.heap.size ≤ wr.heap.size := hb5.size
        have P6 := Lib.hid (P5.out.below hb5 (by omega))
        have Q6 := Lib.hid (Q5.out.below hb5 (by omega))
        obtain ⟨w6, hw6⟩ : ∃ x, x = wr := ⟨_, rfl⟩
        subst hw6
        clear hb hb5
        by_cases hlt : k < p.length
        · have hlti : (k : Int) < (p.length : Int) := by omega
          have hS := implSameSet_any a2 c2 p 0 a2 c2 p k w6 _ _ _ _ P6.out (by omega) hm.out P6.out (by omega) hm.out
          rw [sameSet_at p 0 (k : Int)] at hS
          obtain ⟨T, hT⟩ : ∃ T, T = sameAtB p 0 (k : Int) := ⟨_, rfl⟩
          rw [← hT] at hS
          have HT := Lib.hid hT
          have HS := Lib.hid hS
          clear hT hS
          go_wp2_with fail
          refine HS.out.mono ?_
          rintro e w7 ⟨rfl, hb7⟩
          have H7 := Lib.hid (H6.out.trans (hb7.mono H6.out.size))
          have HB7 := Lib.hid (HB5.out.trans (hb7.mono hz6))
          have P7 := Lib.hid (P6.out.below hb7 (by omega))
          have hz7 : w6.heap.size ≤ w7.heap.size := hb7.size
          clear hb7
          go_wp2_with fail
          refine (implSameAt_any a2 c2 p 0 k w7 _ _ P7.out (by omega) hm.out).mono ?_
          rintro e w8 ⟨rfl, hb8⟩
          rw [← HT.out]
          have H8 := Lib.hid (H7.out.trans (hb8.mono H7.out.size))
          have HB8 := Lib.hid (HB7.out.trans (hb8.mono (by omega)))
          clear hb8
          cases T
          all_goals
            go_wp2_with fail
            go_roundw
            case rel => exact ⟨k + 1, by omega, by go_num, H8.out, HB8.out⟩
            case measure => simp [intOf]; omega
        · obtain rfl : k = p.length := by omega
          have hS := implSameSet_any a3 c3 q y a2 c2 p x w6 _ _ _ _ Q6.out (by omega) hm'.out P6.out (by omega) hm.out
          rw [sameSet_swap, ← HS0.out] at hS
          have HS := Lib.hid hS
          clear hS
          go_wp2_with fail
          refine HS.out.mono ?_
          rintro e w7 ⟨rfl, hb7⟩
          have H7 := Lib.hid (H6.out.trans (hb7.mono H6.out.size))
          clear hb7
          go_wp2_with fail
          refine (alive1_any _).mono ?_
          rintro e w' ⟨rfl, rfl⟩
          go_wp2_with fail
          go_ret
          exact ⟨rfl, H7.out⟩
    · cases b2
      · skip
        go_wp2_with fail
        go_loopw [12] (fun ki wr => ∃ k : Nat, k ≤ p.length ∧ ki = .int .i64 k ∧ Below w.heap.size w wr ∧ Below w5.heap.size w5 wr) (fun ki _ => p.length - (intOf ki).toNat)
        case atStart => exact ⟨0, Nat.zero_le _, rfl, H5.out, Below.refl _ _⟩
        case round =>
          obtain ⟨k, hk, rfl, hb, hb5⟩ := hrel
          have H6 := Lib.hid hb
          have HB5 := Lib.hid hb5
          have hz6 : w5.heap.size ≤ wr.heap.size := hb5.size
          have P6 := Lib.hid (P5.out.below hb5 (by omega))
          have Q6 := Lib.hid (Q5.out.below hb5 (by omega))
          obtain ⟨w6, hw6⟩ : ∃ x, x = wr := ⟨_, rfl⟩
          subst hw6
          clear hb hb5
          by_cases hlt : k < p.length
          · have hlti : (k : Int) < (p.length : Int) := by omega
            have hS := implSameSet_any a2 c2 p 0 a2 c2 p k w6 _ _ _ _ P6.out (by omega) hm.out P6.out (by omega) hm.out
            rw [sameSet_at p 0 (k : Int)] at hS
            obtain ⟨T, hT⟩ : ∃ T, T = sameAtB p 0 (k : Int) := ⟨_, rfl⟩
            rw [← hT] at hS
            have HT := Lib.hid hT
            have HS := Lib.hid hS
            clear hT hS
            go_wp2_with fail
            refine HS.out.mono ?_
            rintro e w7 ⟨rfl, hb7⟩
            have H7 := Lib.hid (H6.out.trans (hb7.mono H6.out.size))
            have HB7 := Lib.hid (HB5.out.trans (hb7.mono hz6))
            have P7 := Lib.hid (P6.out.below hb7 (by omega))
            have hz7 : w6.heap.size ≤ w7.heap.size := hb7.size
            clear hb7
            go_wp2_with fail
            refine (implSameAt_any a2 c2 p 0 k w7 _ _ P7.out (by omega) hm.out).mono ?_
            rintro e w8 ⟨rfl, hb8⟩
            rw [← HT.out]
            have H8 := Lib.hid (H7.out.trans (hb8.mono H7.out.size))
            have HB8 := Lib.hid (HB7.out.trans (hb8.mono (by omega)))
            clear hb8
            cases T
            all_goals
              go_wp2_with fail
              go_roundw
              case rel => exact ⟨k + 1, by omega, by go_num, H8.out, HB8.out⟩
              case measure => simp [intOf]; omega
          · obtain rfl : k = p.length := by omega
            have hS := implSameSet_any a3 c3 q y a2 c2 p x w6 _ _ _ _ Q6.out (by omega) hm'.out P6.out (by omega) hm.out
            rw [sameSet_swap, ← HS0.out] at hS
            have HS := Lib.hid hS
            clear hS
            go_wp2_with fail
            refine HS.out.mono ?_
            rintro e w7 ⟨rfl, hb7⟩
            have H7 := Lib.hid (H6.out.trans (hb7.mono H6.out.size))
            clear hb7
            go_wp2_with fail
            refine (alive1_any _).mono ?_
            rintro e w' ⟨rfl, rfl⟩
            go_wp2_with fail
            go_ret
            exact ⟨rfl, H7.out⟩
      · cases S
        · have hcd : cc ≠ dd := fun h => by have := (HEQ.out rfl rfl).2 h; cases this
          have hcb : (cc == dd) = false := beq_eq_false_iff_ne.2 hcd
          go_wp2_with fail
          go_loopw [12] (fun ki wr => ∃ k : Nat, k ≤ p.length ∧ ki = .int .i64 k ∧ Below w.heap.size w wr ∧ Below w5.heap.size w5 wr) (fun ki _ => p.length - (intOf ki).toNat)
          case atStart => exact ⟨0, Nat.zero_le _, rfl, H5.out, Below.refl _ _⟩
          case round =>
            obtain ⟨k, hk, rfl, hb, hb5⟩ := hrel
            have H6 := Lib.hid hb
            have HB5 := Lib.hid hb5
            have hz6 : w5.heap.size ≤ wr.heap.size := hb5.size
            have P6 := Lib.hid (P5.out.below hb5 (by omega))
            have Q6 := Lib.hid (Q5.out.below hb5 (by omega))
            obtain ⟨w6, hw6⟩ : ∃ x, x = wr := ⟨_, rfl⟩
            subst hw6
            clear hb hb5
            by_cases hlt : k < p.length
            · have hlti : (k : Int) < (p.length : Int) := by omega
              have hS := implSameSet_any a2 c2 p 0 a2 c2 p k w6 _ _ _ _ P6.out (by omega) hm.out P6.out (by omega) hm.out
              rw [sameSet_at p 0 (k : Int)] at hS
              obtain ⟨T, hT⟩ : ∃ T, T = sameAtB p 0 (k : Int) := ⟨_, rfl⟩
              rw [← hT] at hS
              have HT := Lib.hid hT
              have HS := Lib.hid hS
              clear hT hS
              go_wp2_with fail
              refine HS.out.mono ?_
              rintro e w7 ⟨rfl, hb7⟩
              have H7 := Lib.hid (H6.out.trans (hb7.mono H6.out.size))
              have HB7 := Lib.hid (HB5.out.trans (hb7.mono hz6))
              have P7 := Lib.hid (P6.out.below hb7 (by omega))
              have hz7 : w6.heap.size ≤ w7.heap.size := hb7.size
              clear hb7
              go_wp2_with fail
              refine (implSameAt_any a2 c2 p 0 k w7 _ _ P7.out (by omega) hm.out).mono ?_
              rintro e w8 ⟨rfl, hb8⟩
              rw [← HT.out]
              have H8 := Lib.hid (H7.out.trans (hb8.mono H7.out.size))
              have HB8 := Lib.hid (HB7.out.trans (hb8.mono (by omega)))
              clear hb8
              cases T
              all_goals
                go_wp2_with fail
                go_roundw
                case rel => exact ⟨k + 1, by omega, by go_num, H8.out, HB8.out⟩
                case measure => simp [intOf]; omega
            · obtain rfl : k = p.length := by omega
              have hS := implSameSet_any a3 c3 q y a2 c2 p x w6 _ _ _ _ Q6.out (by omega) hm'.out P6.out (by omega) hm.out
              rw [sameSet_swap, ← HS0.out] at hS
              have HS := Lib.hid hS
              clear hS
              go_wp2_with fail
              refine HS.out.mono ?_
              rintro e w7 ⟨rfl, hb7⟩
              have H7 := Lib.hid (H6.out.trans (hb7.mono H6.out.size))
              clear hb7
              go_wp2_with fail
              refine (alive1_any _).mono ?_
              rintro e w' ⟨rfl, rfl⟩
              go_wp2_with fail
              go_ret
              exact ⟨rfl, H7.out⟩
        · obtain rfl : cc = dd := (HEQ.out rfl rfl).1 rfl
          go_wp2_with fail
          go_loopw [12] (fun ki wr => ∃ k : Nat, k ≤ p.length ∧ ki = .int .i64 k ∧ Below w.heap.size w wr ∧ Below w5.heap.size w5 wr) (fun ki _ => p.length - (intOf ki).toNat)
          case atStart => exact ⟨0, Nat.zero_le _, rfl, H5.out, Below.refl _ _⟩
          case round =>
            obtain ⟨k, hk, rfl, hb, hb5⟩ := hrel
            have H6 := Lib.hid hb
            have HB5 := Lib.hid hb5
            have hz6 : w5.heap.size ≤ wr.heap.size := hb5.size
            have P6 := Lib.hid (P5.out.below hb5 (by omega))
            have Q6 := Lib.hid (Q5.out.below hb5 (by omega))
            obtain ⟨w6, hw6⟩ : ∃ x, x = wr := ⟨_, rfl⟩
            subst hw6
            clear hb hb5
            by_cases hlt : k < p.length
            · have hlti : (k : Int) < (p.length : Int) := by omega
              have hS := implSameSet_any a2 c2 p 0 a2 c2 p k w6 _ _ _ _ P6.out (by omega) hm.out P6.out (by omega) hm.out
              rw [sameSet_at p 0 (k : Int)] at hS
              obtain ⟨T, hT⟩ : ∃ T, T = sameAtB p 0 (k : Int) := ⟨_, rfl⟩
              rw [← hT] at hS
              have HT := Lib.hid hT
              have HS := Lib.hid hS
              clear hT hS
              go_wp2_with fail
              refine HS.out.mono ?_
              rintro e w7 ⟨rfl, hb7⟩
              have H7 := Lib.hid (H6.out.trans (hb7.mono H6.out.size))
              have HB7 := Lib.hid (HB5.out.trans (hb7.mono hz6))
              have P7 := Lib.hid (P6.out.below hb7 (by omega))
              have hz7 : w6.heap.size ≤ w7.heap.size := hb7.size
              clear hb7
              go_wp2_with fail
              refine (implSameAt_any a2 c2 p 0 k w7 _ _ P7.out (by omega) hm.out).mono ?_
              rintro e w8 ⟨rfl, hb8⟩
              rw [← HT.out]
              have H8 := Lib.hid (H7.out.trans (hb8.mono H7.out.size))
              have HB8 := Lib.hid (HB7.out.trans (hb8.mono (by omega)))
              clear hb8
              cases T
              all_goals
                go_wp2_with fail
                go_roundw
                case rel => exact ⟨k + 1, by omega, by go_num, H8.out, HB8.out⟩
                case measure => simp [intOf]; omega
            · obtain rfl : k = p.length := by omega
              have hS := implSameSet_any a3 c3 q y a2 c2 p x w6 _ _ _ _ Q6.out (by omega) hm'.out P6.out (by omega) hm.out
              rw [sameSet_swap, ← HS0.out] at hS
              have HS := Lib.hid hS
              clear hS
              go_wp2_with fail
              refine HS.out.mono ?_
              rintro e w7 ⟨rfl, hb7⟩
              have H7 := Lib.hid (H6.out.trans (hb7.mono H6.out.size))
              clear hb7
              go_wp2_with fail
              refine (alive1_any _).mono ?_
              rintro e w' ⟨rfl, rfl⟩
              go_wp2_with fail
              go_ret
              exact ⟨rfl, H7.out⟩
end Go.Proofs.Ytiiohodkfipfbaa
