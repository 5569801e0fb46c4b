/- impl.NameIs and the reference's, walked. -/
import Derived.Test.YtfjodcfbhpglhaaGreatDoorM25
import Derived.Test.YtfjodcfbhpglhaaGreatDoorM31
import Derived.Test.YtfjodcfbhpglhaaGreatDoorM3
import Derived.Test.YtfjodcfbhpglhaaGreatDoorM23
namespace Go.Hyp
theorem name_cases (s : List (List Int × Int)) (n : Int) : (sysB s = false ∧ nameR s n = []) ∨ (sysB s = true ∧ (n < 0 ∨ (0 ≤ n ∧ (s.length : Int) ≤ n)) ∧ nameR s n = []) ∨ (sysB s = true ∧ ∃ k : Nat, n = k ∧ k < s.length) := by
  cases h : sysB s
  · exact .inl ⟨rfl, nameR_no (by rw [h]; rfl)⟩
  · cases h2 : numB s n
    · exact .inr (.inl ⟨rfl, numB_no h2, nameR_no (by rw [h, h2]; rfl)⟩)
    · exact .inr (.inr ⟨rfl, numB_nat h2⟩)
end Go.Hyp
namespace Go.Proofs.YtfjodcfbhpglhaaGreatDoor
open Go.RowKit Go.Hyp Go.Deep

set_option maxRecDepth 4000 in
set_option maxHeartbeats 800000 in
theorem implNameIs_any (a : Option Addr) (cap : Nat) (s : List (List Int × Int)) (n : Int) (w : World) (B C : Nat) (h : RdY w B C a s) (hC : C ≤ w.heap.size) (hl : s.length ≤ maxLen) :
    Calls Tryz.prog 17 #[.slice a s.length cap, .int .i64 n] w (RetII 3 35 (nameR s n) w) := by
  have F := Lib.hid h
  have HIS := Lib.hid (isSystem_any a cap s w B C h hC hl)
  unfold maxLen at hl
  clear h
  rcases name_cases s n with ⟨h1, h2⟩ | ⟨h1, h3, h2⟩ | ⟨h1, k, rfl, hk⟩
  · have HS := Lib.hid h1
    have HE := Lib.hid h2
    clear h1 h2
    go_enter Tryz.func17, Tryz.ntmps17
    go_wp2_with fail
    refine HIS.out.mono ?_
    rintro e w1 ⟨rfl, hb⟩
    rw [HS.out]
    have HB := Lib.hid hb
    clear hb
    go_wp2_with fail
    go_ret
    rw [HE.out]
    exact ⟨none, 0, rfl, OwII_nil _ _ _ _ _, HB.out⟩
  · have HS := Lib.hid h1
    have HE := Lib.hid h2
    rcases h3 with h0 | ⟨h0, h4⟩
    all_goals
      clear h1 h2
      go_enter Tryz.func17, Tryz.ntmps17
      go_wp2_with fail
      refine HIS.out.mono ?_
      rintro e w1 ⟨rfl, hb⟩
      rw [HS.out]
      have HB := Lib.hid hb
      clear hb
      go_wp2_with fail
      go_ret
      rw [HE.out]
      exact ⟨none, 0, rfl, OwII_nil _ _ _ _ _, HB.out⟩
  · have HS := Lib.hid h1
    have hii : (k : Int) < (s.length : Int) := by omega
    have h3s := (sysB_at h1).1
    have hq : leastQ (solL s) k = true := decide_eq_true (by have h := (joinedL_fit (p := solL s) (i := k) (by rw [solL_len]; omega)).len; rw [solL_len] at h; omega)
    have hE : leastN (solL s) k = nameR s k := by rw [leastN_yes hq, nameR_yes h1 hk, leastR_yes (name_node h1 hk)]
    have hlo := fun (x : Option Addr) (c : Nat) (w : World) (B C : Nat) (hr : RdII w B C x (solL s)) (hc : C ≤ w.heap.size) => leastOf_any x c (solL s) k w B C hr hc (solL_sq s) (by rw [solL_len]; omega) (by rw [solL_len]; omega)
    rw [hE, hq] at hlo
    have HLO := Lib.hid hlo
    obtain ⟨X, hX⟩ : ∃ X, X = solL s := ⟨_, rfl⟩
    have HSB := fun w hw hc => Lib.hid (solvedBy_any a cap s w B C hw hc h1)
    rw [← hX] at HSB HLO
    obtain ⟨Y, hY⟩ : ∃ Y, Y = nameR s k := ⟨_, rfl⟩
    rw [← hY] at HLO ⊢
    clear h1 hq hE hlo hX hY
    go_enter Tryz.func17, Tryz.ntmps17
    go_wp2_with fail
    refine HIS.out.mono ?_
    rintro e w1 ⟨rfl, hb⟩
    rw [HS.out]
    have HB := Lib.hid hb
    have hz1 : w.heap.size ≤ w1.heap.size := hb.size
    clear hb
    go_wp2_with fail
    refine (HSB w1 (F.out.below HB.out hC) (by omega)).out.mono ?_
    rintro e w2 ⟨x, c, rfl, ho, hb⟩
    have HO := Lib.hid ho.rd
    have HB2 := Lib.hid (HB.out.trans (hb.mono hz1))
    have hz2 : w1.heap.size ≤ w2.heap.size := hb.size
    clear ho hb HSB
    go_wp2_with fail
    refine (HLO.out x c w2 _ _ HO.out (Nat.le_refl _)).mono ?_
    rintro e w3 ⟨y, d, rfl, ho, hb⟩
    have HY := Lib.hid (ho.mono (show w.heap.size ≤ w2.heap.size by omega) (Nat.le_refl _))
    have HB3 := Lib.hid (HB2.out.trans (hb.mono (by omega)))
    clear ho hb
    go_wp2_with fail
    go_ret
    exact ⟨y, d, rfl, HY.out, HB3.out⟩

set_option maxRecDepth 4000 in
set_option maxHeartbeats 800000 in
theorem specNameIs_any (a : Option Addr) (cap : Nat) (s : List (List Int × Int)) (n : Int) (w : World) (B C : Nat) (h : RdY w B C a s) (hC : C ≤ w.heap.size) (hl : s.length ≤ maxLen) :
    Calls Tryz.prog 19 #[.slice a s.length cap, .int .i64 n] w (RetII 3 35 (nameR s n) w) := by
  have F := Lib.hid h
  have HIS := Lib.hid (specSystemOk_any a cap s w B C h hl)
  have hl' := hl
  have HLM := Lib.hid hl
  unfold maxLen at hl'
  clear h hl
  rcases name_cases s n with ⟨h1, h2⟩ | ⟨h1, h3, h2⟩ | ⟨h1, k, rfl, hk⟩
  · have HS := Lib.hid h1
    have HE := Lib.hid h2
    clear h1 h2
    go_enter Tryz.func19, Tryz.ntmps19
    go_wp2_with fail
    refine HIS.out.mono ?_
    rintro e w' ⟨rfl, rfl⟩
    rw [HS.out]
    go_wp2_with fail
    go_ret
    exact retII_of (p := []) HE.out.symm ((OwII_empty w 3 35).mono (Nat.le_refl _) (by simp)) (below_alloc _ _)
  · have HS := Lib.hid h1
    have HE := Lib.hid h2
    have HIN : Hid ((decide (0 ≤ n) && decide (n ≤ (s.length : Int) - 1)) = false) := Lib.hid (by
      rcases h3 with h | ⟨_, h⟩
      · rw [decide_eq_false (p := 0 ≤ n) (by omega), Bool.false_and]
      · rw [decide_eq_false (p := n ≤ (s.length : Int) - 1) (by omega), Bool.and_false])
    have hL := l1In_any n 0 ((s.length : Int) - 1) w
    rw [HIN.out] at hL
    have HL := Lib.hid hL
    clear h1 h2 h3 hL
    go_enter Tryz.func19, Tryz.ntmps19
    go_wp2_with fail
    refine HIS.out.mono ?_
    rintro e w' ⟨rfl, rfl⟩
    rw [HS.out]
    go_wp2_with fail
    refine HL.out.mono ?_
    rintro e w' ⟨rfl, rfl⟩
    go_wp2_with fail
    go_ret
    exact retII_of (p := []) HE.out.symm ((OwII_empty w 3 35).mono (Nat.le_refl _) (by simp)) (below_alloc _ _)
  · have HS := Lib.hid h1
    have hL := l1In_any (k : Int) 0 ((s.length : Int) - 1) w
    rw [show (decide (0 ≤ (k : Int)) && decide ((k : Int) ≤ (s.length : Int) - 1)) = true by rw [decide_eq_true (by omega), decide_eq_true (by omega)]; rfl] at hL
    have HL := Lib.hid hL
    have h3s := (sysB_at h1).1
    have hsr := solR_yes h1
    have hE := nameR_yes h1 hk
    have HSB := fun w hw hc => Lib.hid (specSolvedBy_any a cap s w B C hw hc HLM.out)
    rw [hsr] at HSB
    obtain ⟨X, hX⟩ : ∃ X, X = solL s := ⟨_, rfl⟩
    have hXl : X.length ≤ 5 := by rw [hX, solL_len]; omega
    rw [← hX] at HSB hE
    rw [hE]
    have hmx : Hid (X.length ≤ maxLen) := Lib.hid (by unfold maxLen; omega)
    clear h1 hL hsr hX hE
    go_enter Tryz.func19, Tryz.ntmps19
    go_wp2_with fail
    refine HIS.out.mono ?_
    rintro e w' ⟨rfl, rfl⟩
    rw [HS.out]
    go_wp2_with fail
    refine HL.out.mono ?_
    rintro e w' ⟨rfl, rfl⟩
    go_wp2_with fail
    refine (HSB w F.out hC).out.mono ?_
    rintro e w2 ⟨x, c, rfl, ho, hb⟩
    have HO := Lib.hid ho.rd
    have HB2 := Lib.hid hb
    have hz2 : w.heap.size ≤ w2.heap.size := hb.size
    clear ho hb HSB
    go_wp2_with fail
    refine (specLeastOf_any x c X k w2 _ _ HO.out (Nat.le_refl _) hmx.out).mono ?_
    rintro e w3 ⟨y, d, rfl, ho, hb⟩
    have HY := Lib.hid (ho.mono hz2 (Nat.le_refl _))
    have HB3 := Lib.hid (HB2.out.trans (hb.mono hz2))
    clear ho hb
    go_wp2_with fail
    go_ret
    exact ⟨y, d, rfl, HY.out, HB3.out⟩
end Go.Proofs.YtfjodcfbhpglhaaGreatDoor
