/- Two drawn pictures and nodes: spec.l20Small, l20Two, and the draws that are made of it. -/
import Derived.Test.YtfjodcfbhpglhaaGreatDoorM5
import Derived.Test.YtfjodcfbhpglhaaGreatDoorM8
namespace Go.Hyp
open Go.RowKit Go.Deep
/-- A drawn picture and a number; the reader at most K further; all else as it was. -/
def DrewN (S rb : Nat) (l : List Int) (p K : Nat) (w : World) (e : Ending) (w' : World) : Prop :=
  ∃ a c P, ∃ y : Int, e = .returned (.tuple #[.slice a (P : List (List Int)).length c, .int .i64 y]) ∧ RdII w' w.heap.size w'.heap.size a P ∧ P.length ≤ 5 ∧
    (∃ p', p ≤ p' ∧ p' ≤ p + K ∧ Rdr w' rb S l p') ∧ Chg (· = rb) w w'
/-- Two drawn pictures and two numbers; the reader at most K further; all else as it was. -/
def DrewPP (w : World) (e : Ending) (w' : World) : Prop :=
  ∃ a c P, ∃ x : Int, ∃ a' c' Q, ∃ y : Int, e = .returned (.tuple #[.slice a (P : List (List Int)).length c, .int .i64 x, .slice a' (Q : List (List Int)).length c', .int .i64 y]) ∧ RdII w' w.heap.size w'.heap.size a P ∧ P.length ≤ 5 ∧
    RdII w' w.heap.size w'.heap.size a' Q ∧ Q.length ≤ 5 ∧ Below w.heap.size w w'
theorem results_four {fn : Func} {t u v x : Tmp} (h : fn.results = #[.tmp t, .tmp u, .tmp v, .tmp x]) (tmps : Array Value) (P : Program) (w : World) :
    (results fn tmps).run P w = .ok (.tuple #[tmps.getD t undef, tmps.getD u undef, tmps.getD v undef, tmps.getD x undef]) w := by
  simp [results, h]
theorem rd_three {W : World} {B C k : Nat} {R : Nat} {r0 r1 r2 : Option Addr} {c0 c1 c2 : Nat} {l0 l1 l2 : List Int} (hb : W.heap[k]? = some (.cells #[.slice r0 3 c0, .slice r1 3 c1, .slice r2 3 c2] R (0, 0))) (hB : B ≤ k) (hC : k < C)
    (h0 : RdI W B C r0 l0) (h1 : RdI W B C r1 l1) (h2 : RdI W B C r2 l2) (e0 : l0.length = 3) (e1 : l1.length = 3) (e2 : l2.length = 3) : RdII W B C (some ⟨k, 0, none⟩) [l0, l1, l2] := by
  intro i hi
  have hm : (3 : Nat) ≤ maxLen := by unfold maxLen; omega
  match i, hi with
  | 0, _ => exact ⟨k, 0, r0, c0, rfl, hB, hC, by show W.cell? ⟨k, 0 + 0, none⟩ = some (Value.slice r0 l0.length c0); rw [e0]; exact blk_cell hb rfl, h0, by show l0.length ≤ maxLen; omega⟩
  | 1, _ => exact ⟨k, 0, r1, c1, rfl, hB, hC, by show W.cell? ⟨k, 0 + 1, none⟩ = some (Value.slice r1 l1.length c1); rw [e1]; exact blk_cell hb rfl, h1, by show l1.length ≤ maxLen; omega⟩
  | 2, _ => exact ⟨k, 0, r2, c2, rfl, hB, hC, by show W.cell? ⟨k, 0 + 2, none⟩ = some (Value.slice r2 l2.length c2); rw [e2]; exact blk_cell hb rfl, h2, by show l2.length ≤ maxLen; omega⟩
  | n + 3, hi => exact absurd hi (by have : [l0, l1, l2].length = 3 := rfl; omega)
end Go.Hyp
namespace Go.Proofs.YtfjodcfbhpglhaaGreatDoor
open Go.RowKit Go.Hyp Go.Deep

set_option maxRecDepth 4000 in
set_option maxHeartbeats 1000000 in
theorem l20Small_any (rb : Nat) (l : List Int) (p n : Nat) (w : World) (hr : Rdr w rb 78 l p) (hp : p ≤ 499000) (hn : n ≤ 1048576) :
    Calls Tryz.prog 102 #[.pointer (some ⟨rb, 0, none⟩), .int .i64 n] w (DrewN 78 rb l p 60 w) := by
  have hlt := hr.lt
  have HR := Lib.hid hr
  clear hr
  go_enter Tryz.func102, Tryz.ntmps102
  go_wp2_with fail
  refine (l20Twin_any rb l p n w HR.out (by omega) hn).mono ?_
  rintro e w1 ⟨a, c, P, rfl, hrd, how, h5, h6, ⟨p1, hp1, hp1', hr1⟩, hc1⟩
  have HRD := Lib.hid hrd
  have HOW := Lib.hid how
  have HR1 := Lib.hid hr1
  have HC1 := Lib.hid hc1
  have hz1 : w.heap.size ≤ w1.heap.size := hc1.size
  have hm : Hid (P.length ≤ maxLen) := Lib.hid (by unfold maxLen; omega)
  clear hrd how h6 hr1 hc1 HR
  have hmx : max (P.length : Int) 1 = ((max P.length 1 : Nat) : Int) := by omega
  have hmx2 : (if (1 : Int) > (P.length : Int) then 1 else (P.length : Int)) = ((max P.length 1 : Nat) : Int) := by split <;> omega
  have hmb : max P.length 1 ≤ 5 := by omega
  obtain ⟨M, hM⟩ : ∃ M, M = max P.length 1 := ⟨_, rfl⟩
  rw [← hM] at hmx hmx2 hmb
  have HMX := Lib.hid hmx
  have HMX2 := Lib.hid hmx2
  clear hM hmx hmx2
  by_cases hbig : picB P = true ∧ 3 < P.length
  · obtain ⟨hpic, hb3⟩ := hbig
    have hO := HOW.out hpic
    obtain ⟨sq, s1, s5⟩ := picB_sq hpic
    have HP := Lib.hid hpic
    have hlen : ∀ i, i < P.length → (P.getD i []).length = P.length := fun i hi => by
      have e : P.getD i [] = P[i] := by simp [List.getD, hi]
      rw [e]; exact (sq.row i hi).1
    obtain ⟨g, r0, c0, rfl, hg0, hd0, ho0, _⟩ := hO.rowNew 0 (by omega)
    obtain ⟨g', r1, c1, e1, hg1, hd1, ho1, _⟩ := hO.rowNew 1 (by omega)
    cases e1
    obtain ⟨g', r2, c2, e2, hg2, hd2, ho2, _⟩ := hO.rowNew 2 (by omega)
    cases e2
    rw [hlen 0 (by omega)] at hd0
    rw [hlen 1 (by omega)] at hd1
    rw [hlen 2 (by omega)] at hd2
    have k0 := ho0.lecap
    have k1 := ho1.lecap
    have k2 := ho2.lecap
    rw [hlen 0 (by omega)] at k0
    rw [hlen 1 (by omega)] at k1
    rw [hlen 2 (by omega)] at k2
    have m0 := ho0.capmax
    have m1 := ho1.capmax
    have m2 := ho2.capmax
    unfold maxLen at m0 m1 m2
    have H0 := Lib.hid ho0
    have H1 := Lib.hid ho1
    have H2 := Lib.hid ho2
    have HLN := Lib.hid hlen
    have hb3i : (3 : Int) < (P.length : Int) := by omega
    have q0 : (3 : Int) ≤ (c0 : Int) := by omega
    have q1 : (3 : Int) ≤ (c1 : Int) := by omega
    have q2 : (3 : Int) ≤ (c2 : Int) := by omega
    have i0 : (0 : Int) < (P.length : Int) := by omega
    have i1 : (1 : Int) < (P.length : Int) := by omega
    have i2 : (2 : Int) < (P.length : Int) := by omega
    clear hpic sq ho0 ho1 ho2 hlen hO HOW
    go_wp2_with (go_at_call 79; refine (specPictureOk_any _ _ _ _ _ _ HRD.out hm.out).mono ?_; rintro e w' ⟨rfl, rfl⟩; rw [HP.out])
    have HB3 := Lib.hid (HC1.out.alloc (.cells #[.slice r0 3 c0, .slice r1 3 c1, .slice r2 3 c2] 35))
    have HA3 := Lib.hid (alloc1 w1 (.cells #[.slice r0 3 c0, .slice r1 3 c1, .slice r2 3 c2] 35))
    have HBW := Lib.hid (below_alloc w1 (.cells #[.slice r0 3 c0, .slice r1 3 c1, .slice r2 3 c2] 35))
    go_region
    have hmt : max (3 : Int) 1 = 3 := by omega
    have hmt2 : (if (1 : Int) > (3 : Int) then 1 else (3 : Int)) = 3 := by omega

    go_wp2_with fail
    refine (pick_rdr rb l p1 3 _ (by exact HR1.out.below HBW.out.drew (by omega)) (by omega) (by omega)).mono ?_
    rintro e w3 ⟨v3, rfl, v30, v31, hr3, hc3, hz3⟩
    have HR3 := Lib.hid hr3
    have HC3 := Lib.hid hc3
    clear hr3 hc3
    go_wp2_with fail
    refine (pick_rdr rb l (p1 + 1) 20 w3 HR3.out (by omega) (by omega)).mono ?_
    rintro e w4 ⟨v4, rfl, v40, v41, hr4, hc4, hz4⟩
    have HR4 := Lib.hid hr4
    have HC4 := Lib.hid (HC3.out.trans hc4)
    have hq : 0 ≤ v4 / 19 ∧ v4 / 19 ≤ 1 := by omega
    obtain ⟨hq0, hq1⟩ := hq
    have hz4' : w1.heap.size + 1 ≤ w4.heap.size := by simp at hz3 hz4 ⊢; omega
    clear hr4 hc4 hz3 hz4 HR3
    go_wp2_with fail
    go_ret2
    have hL : ∀ i, i < 3 → ((P.getD i []).take 3).length = 3 := fun i hi => by rw [List.length_take, HLN.out i (by omega)]; omega
    refine ⟨some ⟨w1.heap.size, 0, none⟩, 3, [(P.getD 0 []).take 3, (P.getD 1 []).take 3, (P.getD 2 []).take 3], _, rfl, ?_, by simp, ⟨p1 + 1 + 1, by omega, by omega, HR4.out⟩, ?_⟩
    · have hw : ∀ (r : Option Addr) (cc : Nat) (i : Nat), i < 3 → OwI w1 3 w.heap.size w1.heap.size r cc (P.getD i []) → RdI w4 w.heap.size w4.heap.size r ((P.getD i []).take 3) := fun r cc i hi ho =>
        ((ho.rd.takeI 3).agr (fun b h1 h2 => (HC4.out.undrew.block b (by simp; omega) (by show ¬ b = rb; omega)).trans (HBW.out.block b h2))).mono (Nat.le_refl _) (by omega)
      have hbk : w4.heap[w1.heap.size]? = some (.cells #[.slice r0 3 c0, .slice r1 3 c1, .slice r2 3 c2] 35 (0, 0)) := (HC4.out.undrew.block _ (by simp) (by show ¬ w1.heap.size = rb; omega)).trans HA3.out
      exact rd_three hbk hz1 (by omega) (hw _ _ 0 (by omega) H0.out) (hw _ _ 1 (by omega) H1.out) (hw _ _ 2 (by omega) H2.out) (hL 0 (by omega)) (hL 1 (by omega)) (hL 2 (by omega))
    · exact HB3.out.trans HC4.out.undrew
  · have hmx := HMX.out
    have hmx2 := HMX2.out
    cases hpic : picB P
    · have HP := Lib.hid hpic
      clear hpic hbig HOW
      go_wp2_with (go_at_call 79; refine (specPictureOk_any _ _ _ _ _ _ HRD.out hm.out).mono ?_; rintro e w' ⟨rfl, rfl⟩; rw [HP.out])
      refine (pick_rdr rb l p1 M w1 (by exact HR1.out) (by omega) (by omega)).mono ?_
      rintro e w3 ⟨v3, rfl, v30, v31, hr3, hc3, hz3⟩
      have HR3 := Lib.hid hr3
      have HC3 := Lib.hid hc3
      clear hr3 hc3
      go_wp2_with fail
      refine (pick_rdr rb l (p1 + 1) 20 w3 HR3.out (by omega) (by omega)).mono ?_
      rintro e w4 ⟨v4, rfl, v40, v41, hr4, hc4, hz4⟩
      have HR4 := Lib.hid hr4
      have HC4 := Lib.hid (HC3.out.trans hc4)
      have hq : 0 ≤ v4 / 19 ∧ v4 / 19 ≤ 1 := by omega
      obtain ⟨hq0, hq1⟩ := hq
      have hz4' : w1.heap.size ≤ w4.heap.size := by omega
      clear hr4 hc4 hz3 hz4 HR3
      go_wp2_with fail
      go_ret2
      exact ⟨a, c, P, _, rfl, (HRD.out.agr (HC4.out.agr (Nat.le_refl _) (fun k h1 h2 h3 => by omega))).mono (Nat.le_refl _) hz4', h5, ⟨p1 + 1 + 1, by omega, by omega, HR4.out⟩, HC1.out.trans HC4.out⟩
    · have HP := Lib.hid hpic
      have hb3 : ¬ 3 < P.length := fun h => hbig ⟨hpic, h⟩
      have hb3i : ¬ (3 : Int) < (P.length : Int) := by omega
      clear hpic hbig HOW
      go_wp2_with (go_at_call 79; refine (specPictureOk_any _ _ _ _ _ _ HRD.out hm.out).mono ?_; rintro e w' ⟨rfl, rfl⟩; rw [HP.out])
      refine (pick_rdr rb l p1 M w1 (by exact HR1.out) (by omega) (by omega)).mono ?_
      rintro e w3 ⟨v3, rfl, v30, v31, hr3, hc3, hz3⟩
      have HR3 := Lib.hid hr3
      have HC3 := Lib.hid hc3
      clear hr3 hc3
      go_wp2_with fail
      refine (pick_rdr rb l (p1 + 1) 20 w3 HR3.out (by omega) (by omega)).mono ?_
      rintro e w4 ⟨v4, rfl, v40, v41, hr4, hc4, hz4⟩
      have HR4 := Lib.hid hr4
      have HC4 := Lib.hid (HC3.out.trans hc4)
      have hq : 0 ≤ v4 / 19 ∧ v4 / 19 ≤ 1 := by omega
      obtain ⟨hq0, hq1⟩ := hq
      have hz4' : w1.heap.size ≤ w4.heap.size := by omega
      clear hr4 hc4 hz3 hz4 HR3
      go_wp2_with fail
      go_ret2
      exact ⟨a, c, P, _, rfl, (HRD.out.agr (HC4.out.agr (Nat.le_refl _) (fun k h1 h2 h3 => by omega))).mono (Nat.le_refl _) hz4', h5, ⟨p1 + 1 + 1, by omega, by omega, HR4.out⟩, HC1.out.trans HC4.out⟩

/-- Two drawn pictures and two numbers; all else but the reader as it was. -/
def DrewP2 (rb : Nat) (w : World) (e : Ending) (w' : World) : Prop :=
  ∃ a c P, ∃ x : Int, ∃ a' c' Q, ∃ y : Int, e = .returned (.tuple #[.slice a (P : List (List Int)).length c, .int .i64 x, .slice a' (Q : List (List Int)).length c', .int .i64 y]) ∧ RdII w' w.heap.size w'.heap.size a P ∧ P.length ≤ 5 ∧
    RdII w' w.heap.size w'.heap.size a' Q ∧ Q.length ≤ 5 ∧ Chg (· = rb) w w'
set_option maxRecDepth 4000 in
set_option maxHeartbeats 1000000 in
theorem l20Two_any (rb : Nat) (l : List Int) (p : Nat) (w : World) (hr : Rdr w rb 78 l p) (hp : p ≤ 490000) :
    Calls Tryz.prog 70 #[.pointer (some ⟨rb, 0, none⟩)] w (DrewP2 rb w) := by
  have hlt := hr.lt
  have HR := Lib.hid hr
  clear hr
  go_enter Tryz.func70, Tryz.ntmps70
  go_wp2_with fail
  refine (l20Small_any rb l p 14 w HR.out (by omega) (by omega)).mono ?_
  rintro e w1 ⟨a, c, P, x, rfl, hrd, h5, ⟨p1, hp1, hp1', hr1⟩, hc1⟩
  have HP1 := Lib.hid hrd
  have HR1 := Lib.hid hr1
  have HC1 := Lib.hid hc1
  have hz1 : w.heap.size ≤ w1.heap.size := hc1.size
  clear hrd hr1 hc1 HR
  go_wp2_with fail
  refine (l20Small_any rb l p1 14 w1 HR1.out (by omega) (by omega)).mono ?_
  rintro e w2 ⟨a', c', Q, y, rfl, hrd, h5', ⟨p2, hp2, hp2', hr2⟩, hc2⟩
  have HP2 := Lib.hid (HP1.out.agr (hc2.agr (Nat.le_refl _) (fun k h1 h2 h3 => by omega)))
  have HQ2 := Lib.hid hrd
  have HR2 := Lib.hid hr2
  have HC2 := Lib.hid (HC1.out.trans hc2)
  have hz2 : w1.heap.size ≤ w2.heap.size := hc2.size
  clear hrd hr2 hc2 HP1 HR1 HC1
  go_wp2_with fail
  refine (pick_rdr rb l p2 3 w2 HR2.out (by omega) (by omega)).mono ?_
  rintro e w3 ⟨v3, rfl, v30, v31, hr3, hc3, hz3⟩
  have HP3 := Lib.hid (HP2.out.agr (hc3.agr (by omega) (fun k h1 h2 h3 => by omega)))
  have HQ3 := Lib.hid (HQ2.out.agr (hc3.agr (Nat.le_refl _) (fun k h1 h2 h3 => by omega)))
  have HR3 := Lib.hid hr3
  have HC3 := Lib.hid (HC2.out.trans hc3)
  have hz3' : w2.heap.size ≤ w3.heap.size := by omega
  clear hr3 hc3 hz3 HP2 HQ2 HR2 HC2
  have hmx : max (P.length : Int) 1 = ((max P.length 1 : Nat) : Int) := by omega
  have hmx2 : (if (1 : Int) > (P.length : Int) then 1 else (P.length : Int)) = ((max P.length 1 : Nat) : Int) := by split <;> omega
  have hmb : max P.length 1 ≤ 5 := by omega
  obtain ⟨M, hM⟩ : ∃ M, M = max P.length 1 := ⟨_, rfl⟩
  rw [← hM] at hmx hmx2 hmb
  clear hM
  obtain rfl | rfl | rfl : v3 = 0 ∨ v3 = 1 ∨ v3 = 2 := by omega
  · go_wp2_with fail
    refine (pick_rdr rb l (p2 + 1) M w3 HR3.out (by omega) (by omega)).mono ?_
    rintro e w4 ⟨v4, rfl, v40, v41, hr4, hc4, hz4⟩
    have HP4 := Lib.hid (HP3.out.agr (hc4.agr (by omega) (fun k h1 h2 h3 => by omega)))
    have HC4 := Lib.hid (HC3.out.trans hc4)
    clear hr4 hc4 HP3 HQ3 HR3 HC3
    go_wp2_with fail
    refine bodyPost_ret (results_four rfl _ _ _) rfl ?_
    exact ⟨a, c, P, x, a, c, P, v4, rfl, HP4.out.mono (Nat.le_refl _) (by omega), h5, HP4.out.mono (Nat.le_refl _) (by omega), h5, HC4.out⟩
  all_goals
    clear hmx hmx2
    go_wp2_with fail
    refine bodyPost_ret (results_four rfl _ _ _) rfl ?_
    exact ⟨a, c, P, x, a', c', Q, y, rfl, HP3.out.mono (Nat.le_refl _) (by omega), h5, HQ3.out.mono (by omega) (by omega), h5', HC3.out⟩

set_option maxHeartbeats 400000 in
theorem drawPairOf_any (a : Option Addr) (cap : Nat) (l : List Int) (w : World) (h : RdB w w.heap.size a l) (hl : l.length ≤ maxLen) (hcap : l.length ≤ cap) :
    Calls Tryz.prog 25 #[.slice a l.length cap] w (DrewPP w) := by
  have HB := Lib.hid h
  clear h
  go_enter Tryz.func25, Tryz.ntmps25
  go_wp2_with fail
  refine (open_any a cap l _ HB.out hl hcap).mono ?_
  rintro e w1 ⟨l', rfl, hr1, hb1, hz1⟩
  have HR1 := Lib.hid hr1
  have HH1 := Lib.hid hb1
  have hz1' : w.heap.size + 1 ≤ w1.heap.size := by omega
  clear hr1 hb1 hz1
  go_wp2_with fail
  refine (l20Two_any _ l' 0 w1 HR1.out (by omega)).mono ?_
  rintro e w2 ⟨a2, c2, P, x, a3, c3, Q, y, rfl, hp, hp5, hq, hq5, hc2⟩
  have HP := Lib.hid hp
  have HQ := Lib.hid hq
  have HH2 := Lib.hid (HH1.out.trans (hc2.below (D := w.heap.size) (fun k hk => by omega) (by omega)))
  clear hp hq hc2 HR1
  go_wp2_with fail
  refine bodyPost_ret (results_four rfl _ _ _) rfl ?_
  exact ⟨a2, c2, P, x, a3, c3, Q, y, rfl, HP.out.mono (by omega) (Nat.le_refl _), hp5, HQ.out.mono (by omega) (Nat.le_refl _), hq5, HH2.out⟩

set_option maxHeartbeats 400000 in
theorem drawTogetherOf_any (a : Option Addr) (cap : Nat) (l : List Int) (w : World) (h : RdB w w.heap.size a l) (hl : l.length ≤ maxLen) (hcap : l.length ≤ cap) :
    Calls Tryz.prog 30 #[.slice a l.length cap] w (DrewPP w) := by
  have HB := Lib.hid h
  clear h
  go_enter Tryz.func30, Tryz.ntmps30
  go_wp2_with fail
  refine (open_any a cap l _ HB.out hl hcap).mono ?_
  rintro e w1 ⟨l', rfl, hr1, hb1, hz1⟩
  have HR1 := Lib.hid hr1
  have HH1 := Lib.hid hb1
  have hz1' : w.heap.size + 1 ≤ w1.heap.size := by omega
  clear hr1 hb1 hz1
  go_wp2_with fail
  refine (l20Two_any _ l' 0 w1 HR1.out (by omega)).mono ?_
  rintro e w2 ⟨a2, c2, P, x, a3, c3, Q, y, rfl, hp, hp5, hq, hq5, hc2⟩
  have HP := Lib.hid hp
  have HQ := Lib.hid hq
  have HH2 := Lib.hid (HH1.out.trans (hc2.below (D := w.heap.size) (fun k hk => by omega) (by omega)))
  clear hp hq hc2 HR1
  go_wp2_with fail
  refine bodyPost_ret (results_four rfl _ _ _) rfl ?_
  exact ⟨a2, c2, P, x, a3, c3, Q, y, rfl, HP.out.mono (by omega) (Nat.le_refl _), hp5, HQ.out.mono (by omega) (Nat.le_refl _), hq5, HH2.out⟩

set_option maxHeartbeats 400000 in
theorem drawWithoutSet_any (a : Option Addr) (cap : Nat) (l : List Int) (w : World) (h : RdB w w.heap.size a l) (hl : l.length ≤ maxLen) (hcap : l.length ≤ cap) :
    Calls Tryz.prog 34 #[.slice a l.length cap] w (DrewPP w) := by
  have HB := Lib.hid h
  clear h
  go_enter Tryz.func34, Tryz.ntmps34
  go_wp2_with fail
  refine (open_any a cap l _ HB.out hl hcap).mono ?_
  rintro e w1 ⟨l', rfl, hr1, hb1, hz1⟩
  have HR1 := Lib.hid hr1
  have HH1 := Lib.hid hb1
  have hz1' : w.heap.size + 1 ≤ w1.heap.size := by omega
  clear hr1 hb1 hz1
  go_wp2_with fail
  refine (l20Two_any _ l' 0 w1 HR1.out (by omega)).mono ?_
  rintro e w2 ⟨a2, c2, P, x, a3, c3, Q, y, rfl, hp, hp5, hq, hq5, hc2⟩
  have HP := Lib.hid hp
  have HQ := Lib.hid hq
  have HH2 := Lib.hid (HH1.out.trans (hc2.below (D := w.heap.size) (fun k hk => by omega) (by omega)))
  clear hp hq hc2 HR1
  go_wp2_with fail
  refine bodyPost_ret (results_four rfl _ _ _) rfl ?_
  exact ⟨a2, c2, P, x, a3, c3, Q, y, rfl, HP.out.mono (by omega) (Nat.le_refl _), hp5, HQ.out.mono (by omega) (Nat.le_refl _), hq5, HH2.out⟩
end Go.Proofs.YtfjodcfbhpglhaaGreatDoor
