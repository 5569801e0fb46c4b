/- The law FnSolutionOk, walked. -/
import Derived.Deep.RegionHeld3
import Derived.Test.YtfjodcfbhpglhaaGreatDoorM35
import Derived.Test.YtfjodcfbhpglhaaGreatDoorM34
import Derived.Test.YtfjodcfbhpglhaaGreatDoorM36
import Derived.Test.YtfjodcfbhpglhaaGreatDoorM32
import Derived.Test.YtfjodcfbhpglhaaGreatDoorM19
import Derived.Test.YtfjodcfbhpglhaaGreatDoorM3
namespace Go.Proofs.YtfjodcfbhpglhaaGreatDoor
open Go.RowKit Go.Hyp Go.Deep

set_option maxRecDepth 4000 in
set_option maxHeartbeats 2000000 in
theorem fnSolutionOk_any (a : Option Addr) (cap : Nat) (l : List Int) (w : World) (h : RdB w w.heap.size a l) (hl : l.length ≤ maxLen ∧ l.length ≤ cap) :
    Calls Tryz.prog 8 #[.slice a l.length cap] w fun e w' => e = .returned (.bool true) ∧ Below w.heap.size w w' := by
  obtain ⟨hl, hcap⟩ := hl
  have HB := Lib.hid h
  clear h
  by_cases hbig : 1048576 < l.length
  · go_enter Tryz.func8, Tryz.ntmps8
    go_wp2_with fail
    go_ret
    exact ⟨rfl, Below.refl _ _⟩
  go_enter Tryz.func8, Tryz.ntmps8
  go_wp2_with fail
  refine (drawSolutionOk_any a cap l _ HB.out hl hcap).mono ?_
  rintro e w1 ⟨a2, c2, s, a3, c3, PL, a4, c4, NL, rfl, hp, hs3, hq, hpl, hq5, hn, hnl, hb⟩
  have P1 := Lib.hid hp
  have Q1 := Lib.hid hq
  have N1 := Lib.hid hn
  have H1 := Lib.hid hb
  have hm : Hid (s.length ≤ maxLen) := Lib.hid (by unfold maxLen; omega)
  have hm2 : Hid (PL.length ≤ maxLen) := Lib.hid (by unfold maxLen; omega)
  have hm3 : Hid (NL.length ≤ maxLen) := Lib.hid (by unfold maxLen; omega)
  have HQ5 := Lib.hid hq5
  clear hq5
  clear hb hp hq hn
  go_wp2_with fail
  obtain ⟨S, hS⟩ : ∃ S, S = solB s PL NL := ⟨_, rfl⟩
  have HS := Lib.hid hS
  clear hS
  refine (implSolutionOk_any a2 c2 s a3 c3 PL a4 c4 NL w1 _ _ _ _ _ _ P1.out (by omega) hm.out Q1.out (by omega) hm2.out N1.out (by omega) hm3.out).mono ?_
  rintro e w2 ⟨rfl, hb⟩
  rw [← HS.out]
  have P2 := Lib.hid (P1.out.below hb (by omega))
  have Q2 := Lib.hid (Q1.out.below hb (by omega))
  have N2 := Lib.hid (N1.out.below hb (by omega))
  have H2 := Lib.hid (H1.out.trans (hb.mono H1.out.size))
  have hz2 : w1.heap.size ≤ w2.heap.size := hb.size
  clear hb P1 Q1 N1 H1 
  go_wp2_with fail
  refine (specSolutionOk_any a2 c2 s a3 c3 PL a4 c4 NL w2 _ _ _ _ _ _ P2.out (by omega) hm.out Q2.out (by omega) hm2.out N2.out (by omega) hm3.out).mono ?_
  rintro e w3 ⟨rfl, hb⟩
  rw [← HS.out]
  have P3 := Lib.hid (P2.out.below hb (by omega))
  have Q3 := Lib.hid (Q2.out.below hb (by omega))
  have N3 := Lib.hid (N2.out.below hb (by omega))
  have H3 := Lib.hid (H2.out.trans (hb.mono H2.out.size))
  have hz3 : w2.heap.size ≤ w3.heap.size := hb.size
  clear hb P2 Q2 N2 H2 
  have hss : (S != S) = false := by simp
  cases S
  · skip
    go_wp2_with fail
    go_loopw [7] (fun ki wr => ki = .int .i64 0 ∧ wr = w3) (fun _ _ => 0)
    case atStart => exact ⟨rfl, rfl⟩
    case round =>
      obtain ⟨rfl, hwr⟩ := hrel
      rw [hwr]
      clear hwr
      by_cases h0 : (0 : Int) < (s.length : Int)
      all_goals
        go_wp2_with (go_at_call 20; refine (alive1_any _).mono ?_; rintro e w' ⟨rfl, rfl⟩)
        go_ret
        exact ⟨rfl, H3.out⟩
  · skip
    have hsol := HS.out.symm
    have hall := solB_iff.1 hsol
    have hPl : PL.length = s.length := hall.2.1
    have hNl : NL.length = s.length := hall.2.2.1
    have HNM := Lib.hid fun (k : Nat) (hk : k < s.length) => solB_name hsol hk
    clear hsol hall
    go_wp2_with fail
    clear hss
    go_loopw [7] (fun ki wr => ∃ k : Nat, k ≤ s.length ∧ ki = .int .i64 k ∧ Below w.heap.size w wr ∧ Below w3.heap.size w3 wr) (fun ki _ => s.length - (intOf ki).toNat)
    case atStart => exact ⟨0, Nat.zero_le _, rfl, H3.out, Below.refl _ _⟩
    case round =>
      obtain ⟨k, hk, rfl, hb0, hb1⟩ := hrel
      have P4 := Lib.hid (P3.out.below hb1 (by omega))
      have Q4 := Lib.hid (Q3.out.below hb1 (by omega))
      have N4 := Lib.hid (N3.out.below hb1 (by omega))
      have H4 := Lib.hid hb0
      have LB4 := Lib.hid hb1
      have hz4 : w3.heap.size ≤ wr.heap.size := hb1.size
      obtain ⟨w4, hwk⟩ : ∃ x, x = wr := ⟨_, rfl⟩
      subst hwk
      clear hb0 hb1 P3 Q3 N3 H3
      by_cases hlt : k < s.length
      · have hki : (k : Int) < (s.length : Int) := by omega
        have hkP : (k : Int) < (PL.length : Int) := by omega
        have hkN : (k : Int) < (NL.length : Int) := by omega
        obtain ⟨b1, off1, aq, cq, e1, _, hb1, hc1, hr1, hl1⟩ := Q4.out k (by omega)
        subst e1
        obtain ⟨b2, off2, e2, _, hb2, hc2⟩ := N4.out k (by omega)
        subst e2
        have hSM := HNM.out k hlt
        obtain ⟨q, hq⟩ : ∃ q, q = PL.getD k [] := ⟨_, rfl⟩
        obtain ⟨v, hv⟩ : ∃ v, v = NL.getD k 0 := ⟨_, rfl⟩
        rw [← hq, ← hv] at hSM
        rw [← hq] at hc1 hr1 hl1
        rw [← hv] at hc2
        obtain ⟨X, hX⟩ : ∃ X, X = nameR s k := ⟨_, rfl⟩
        have hX5 : X.length ≤ 5 := by rw [hX]; exact nameR_len s k
        rw [← hX] at hSM
        have hN := implNameIs_any a2 c2 s k w4.drew _ _ (by exact P4.out) (by dsimp; omega) hm.out
        rw [← hX] at hN
        have HN := Lib.hid hN
        have HSM := Lib.hid hSM
        have HRQ := Lib.hid hr1
        have HLQ := Lib.hid hl1
        have hmx : Hid (X.length ≤ maxLen) := Lib.hid (by unfold maxLen; omega)
        clear hN hSM hr1 hl1 hq hv hX
        go_wp2_with fail
        have hw1 : b1 < w4.heap.size := by omega
        have hw2 : b2 < w4.heap.size := by omega
        go_region_held3 (fun w' => w'.cell? ⟨b1, off1 + k, none⟩ = some (.slice aq q.length cq) ∧ w'.cell? ⟨b2, off2 + k, none⟩ = some (.int .i64 v))
          (go_keep)
          (first
            | (go_at_call 17
               go_loud (
               refine HN.out.mono ?_
               rintro e w20 ⟨aX, cX, rfl, hx, hb⟩
               replace hb := undrew hb
               have d1 := (bcell hb).1 b1 (off1 + k) hw1
               have d2 := (bcell hb).1 b2 (off2 + k) hw2
               rw [hc1] at d1
               rw [hc2] at d2
               have HB20 := Lib.hid hb
               have HX20 := Lib.hid hx.rd
               have HRQ20 := Lib.hid (HRQ.out.below hb (by omega))
               have hz20 : w4.heap.size ≤ w20.heap.size := hb.size
               clear hb hx))
            | (go_at_call 23
               go_loud (
               refine (implSameSet_any aq cq q v aX cX X 0 _ _ _ _ _ (by exact HRQ20.out) (by omega) HLQ.out (by exact HX20.out) (by omega) hmx.out).mono ?_
               rintro e w21 ⟨rfl, hb⟩
               rw [HSM.out]
               have d3 := (bcell hb).1 b1 (off1 + k) (by omega)
               have d4 := (bcell hb).1 b2 (off2 + k) (by omega)
               rw [d1] at d3
               rw [d2] at d4
               have HB21 := Lib.hid (HB20.out.trans (hb.mono HB20.out.size))
               clear hb)))
        go_wp2_with fail
        go_roundw
        case rel => exact ⟨k + 1, by omega, by go_num, H4.out.trans (HB21.out.mono H4.out.size), LB4.out.trans (HB21.out.mono LB4.out.size)⟩
        case measure => simp [intOf]; omega
      · obtain rfl : k = s.length := by omega
        go_wp2_with (go_at_call 20; refine (alive1_any _).mono ?_; rintro e w' ⟨rfl, rfl⟩)
        go_ret
        exact ⟨rfl, H4.out⟩
end Go.Proofs.YtfjodcfbhpglhaaGreatDoor
