/- The law FnLeastOk, walked. -/
import Derived.Test.YtiiohodkfipfbaaDoorDrawR
import Derived.Test.YtiiohodkfipfbaaDoorLeastI
import Derived.Test.YtiiohodkfipfbaaDoorLeastO
import Derived.Test.YtiiohodkfipfbaaDoorAlive
import Derived.Test.YtiiohodkfipfbaaDoorSameR
namespace Go.Proofs.YtiiohodkfipfbaaDoor
open Go.RowKit Go.Hyp Go.Deep

set_option maxRecDepth 4000 in
set_option maxHeartbeats 2000000 in
theorem fnLeastOk_any (a : Option Addr) (cap : Nat) (l : List Int) (w : World) (h : RdB w w.heap.size a l) (hl : l.length ≤ maxLen ∧ l.length ≤ cap) :
    Calls Tryd.prog 8 #[.slice a l.length cap] w fun e w' => e = .returned (.bool true) ∧ Below w.heap.size w w' := by
  obtain ⟨hl, hcap⟩ := hl
  have HB := Lib.hid h
  clear h
  by_cases hbig : 1048576 < l.length
  · go_enter Tryd.func8, Tryd.ntmps8
    go_wp2_with fail
    go_ret
    exact ⟨rfl, Below.refl _ _⟩
  go_enter Tryd.func8, Tryd.ntmps8
  go_wp2_with fail
  refine (drawLeastOk_any a cap l _ HB.out hl hcap).mono ?_
  rintro e w1 ⟨a2, c2, p, rfl, hp, hp5, hb⟩
  have P1 := Lib.hid hp
  have H1 := Lib.hid hb
  have hm : Hid (p.length ≤ maxLen) := Lib.hid (by unfold maxLen; omega)
  clear hb hp
  go_wp2_with fail
  obtain ⟨S, hS⟩ : ∃ S, S = leastB p := ⟨_, rfl⟩
  have HS := Lib.hid hS
  clear hS
  refine (implLeastOk_any a2 c2 p w1 _ _ P1.out (by omega) hm.out).mono ?_
  rintro e w2 ⟨rfl, hb⟩
  rw [← HS.out]
  have P2 := Lib.hid (P1.out.below hb (by omega))
  have H2 := Lib.hid (H1.out.trans (hb.mono H1.out.size))
  have hz2 : w1.heap.size ≤ w2.heap.size := hb.size
  clear hb P1 H1 
  go_wp2_with fail
  refine (specLeastOk_any a2 c2 p w2 _ _ P2.out (by omega) hm.out).mono ?_
  rintro e w3 ⟨rfl, hb⟩
  rw [← HS.out]
  have P3 := Lib.hid (P2.out.below hb (by omega))
  have H3 := Lib.hid (H2.out.trans (hb.mono H2.out.size))
  have hz3 : w2.heap.size ≤ w3.heap.size := hb.size
  clear hb P2 H2 
  have hss : (S != S) = false := by simp
  cases hpic : picB p
  · have HN := Lib.hid hpic
    have HF : Hid (S = false) := Lib.hid (by rw [HS.out]; unfold leastB; rw [hpic]; rfl)
    clear hpic
    rw [HF.out] at hss ⊢
    go_wp2_with fail
    refine (specPictureOk_any a2 c2 p w3 _ _ P3.out hm.out).mono ?_
    rintro e w' ⟨rfl, rfl⟩
    rw [HN.out]
    go_wp2_with (go_at_call 15; refine (alive1_any _).mono ?_; rintro e w' ⟨rfl, rfl⟩)
    go_ret
    exact ⟨rfl, H3.out⟩
  · have HN := Lib.hid hpic
    clear hpic
    go_wp2_with fail
    refine (specPictureOk_any a2 c2 p w3 _ _ P3.out hm.out).mono ?_
    rintro e w' ⟨rfl, rfl⟩
    rw [HN.out]
    go_wp2_with fail
    clear hss
    go_loopw [5] (fun ki wr => ∃ k : Nat, k ≤ p.length ∧ ki = .int .i64 k ∧ Below w.heap.size w wr ∧ Below w3.heap.size w3 wr) (fun ki _ => p.length - (intOf ki).toNat)
    case atStart => exact ⟨0, Nat.zero_le _, rfl, H3.out, Below.refl _ _⟩
    case round =>
      obtain ⟨k, hk, rfl, hb0, hb1⟩ := hrel
      have P4 := Lib.hid (P3.out.below hb1 (by omega))
      have H4 := Lib.hid hb0
      have LB4 := Lib.hid hb1
      have hz4 : w3.heap.size ≤ wr.heap.size := hb1.size
      obtain ⟨w4, hwk⟩ : ∃ x, x = wr := ⟨_, rfl⟩
      subst hwk
      clear hb0 hb1 P3 H3
      by_cases hlt : k < p.length
      · have hki : (k : Int) < (p.length : Int) := by omega
        have hnd : nodeB p k = true := by unfold nodeB; rw [HN.out, decide_eq_true (by omega), decide_eq_true (by omega)]; rfl
        have HLB := Lib.hid (leastB_R hnd)
        have hx5 := leastR_len (p := p) (n := (k : Int))
        clear hnd
        go_wp2_with fail
        refine (implLeastOf_any a2 c2 p k w4 _ _ P4.out (by omega) hm.out).mono ?_
        rintro e w5 ⟨aX, cX, rfl, hx, hb⟩
        have P5 := Lib.hid (P4.out.below hb (by omega))
        have H5 := Lib.hid (H4.out.trans (hb.mono H4.out.size))
        have LB5 := Lib.hid (LB4.out.trans (hb.mono LB4.out.size))
        have hz5 : w4.heap.size ≤ w5.heap.size := hb.size
        have X5 := Lib.hid hx.rd
        clear hb P4 H4 LB4 hx
        go_wp2_with fail
        refine (implLeastOk_any aX cX _ w5 _ _ X5.out (by omega) (by unfold maxLen; omega)).mono ?_
        rintro e w6 ⟨rfl, hb⟩
        rw [HLB.out]
        have P6 := Lib.hid (P5.out.below hb (by omega))
        have H6 := Lib.hid (H5.out.trans (hb.mono H5.out.size))
        have LB6 := Lib.hid (LB5.out.trans (hb.mono LB5.out.size))
        have X6 := Lib.hid (X5.out.below hb (by omega))
        have hz6 : w5.heap.size ≤ w6.heap.size := hb.size
        clear hb P5 H5 LB5 X5 
        go_wp2_with fail
        go_roundw
        case rel => exact ⟨k + 1, by omega, by go_num, H6.out, LB6.out⟩
        case measure => simp [intOf]; omega
      · obtain rfl : k = p.length := by omega
        go_wp2_with fail
        go_ret
        exact ⟨rfl, H4.out⟩
end Go.Proofs.YtiiohodkfipfbaaDoor
