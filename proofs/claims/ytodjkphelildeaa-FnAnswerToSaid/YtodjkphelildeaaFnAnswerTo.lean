/- The law FnAnswerTo, walked. -/
import Derived.Test.YtodjkphelildeaaPlay
import Derived.Test.YtodjkphelildeaaSameAt
import Derived.Test.YtodjkphelildeaaDrawP
import Derived.Test.YtodjkphelildeaaAlive
namespace Go.Hyp
theorem answer_no {p : List (List Int)} {f m o : Int} (h : answerOk p f m o = false) : answerI p f m o = -1 := by unfold answerI; rw [h]; rfl
/-- An answer is a member of the other node, and draws the same set as the member if the nodes do. -/
theorem answer_law {p : List (List Int)} {f m o : Int} (h : answerOk p f m o = true) :
    ∃ on v : Nat, o = on ∧ answerI p f m o = v ∧ on < p.length ∧ v < p.length ∧ picB p = true ∧ arr p on v = true ∧ (sameAtB p f o = true → sameAtB p m v = true) := by
  have h0 := h
  unfold answerOk at h
  simp only [Bool.and_eq_true, Bool.not_eq_true'] at h
  obtain ⟨h1, h2, h3, h4, h5⟩ := h
  obtain ⟨fn, rfl, hf, hp⟩ := nodeB_nat h1
  obtain ⟨mn, rfl, hm, _⟩ := nodeB_nat h2
  obtain ⟨on, rfl, ho, _⟩ := nodeB_nat h3
  rw [Int.toNat_natCast, Int.toNat_natCast] at h4
  rw [Int.toNat_natCast] at h5
  have hne : arrL p on p.length ≠ [] := fun e => by rw [e] at h5; cases h5
  obtain ⟨v, v1, v2, v3, v4, v5⟩ := bestA_some (m := mn) hne
  refine ⟨on, v, rfl, by unfold answerI; rw [h0, if_pos rfl, Int.toNat_natCast, Int.toNat_natCast, v1], ho, v2, hp, v3, fun hs => ?_⟩
  obtain ⟨i, j, e1, e2, hi, hj, _, hs⟩ := sameAtB_of.1 hs
  have e1 : fn = i := by omega
  have e2 : on = j := by omega
  subst e1; subst e2
  obtain ⟨k, hk, hk2, hk3⟩ := ((simB_iff hi hj).1 hs).to hm h4
  have hkk := v5 k hk hk2
  rw [(heldN_sim hm hk ((simB_iff hm hk).2 hk3)).1] at hkk
  refine sameAtB_of.2 ⟨mn, v, rfl, rfl, hm, v2, hp, ?_⟩
  cases e : simB p mn v
  · have := (heldN_apart e).1
    have := (picB_sq hp).2.2
    omega
  · rfl
end Go.Hyp
namespace Go.Proofs.Ytodjkphelildeaa
open Go.RowKit Go.Hyp Go.Deep

theorem results_tmp4 {fn : Func} {t u v x : Tmp} (h : fn.results = #[.tmp t, .tmp u, .tmp v, .tmp x]) (tmps : Array Value) (P : Program) (w : World) :
    (results fn tmps).run P w = .ok (.tuple #[tmps.getD t undef, tmps.getD u undef, tmps.getD v undef, tmps.getD x undef]) w := by
  simp [results, h]

/-- A drawn picture and three numbers; nothing that was there has turned. -/
def DrewPIII (w : World) (e : Ending) (w' : World) : Prop :=
  ∃ a c P, ∃ x y z : Int, e = .returned (.tuple #[.slice a (P : List (List Int)).length c, .int .i64 x, .int .i64 y, .int .i64 z]) ∧ RdII w' w.heap.size w'.heap.size a P ∧ P.length ≤ 5 ∧ Below w.heap.size w w'
set_option maxHeartbeats 800000 in
theorem drawAnswerTo_any (a : Option Addr) (cap : Nat) (l : List Int) (w : World) (h : RdB w w.heap.size a l) (hl : l.length ≤ maxLen) (hcap : l.length ≤ cap) :
    Calls Try.prog 20 #[.slice a l.length cap] w (DrewPIII w) := by
  have HB := Lib.hid h
  clear h
  go_enter Try.func20, Try.ntmps20
  go_wp2_with fail
  refine (open_any a cap l _ HB.out hl hcap).mono ?_
  rintro e w1 ⟨l', rfl, hr1, hb1, hz1⟩
  have HR1 := Lib.hid hr1
  have HH1 := Lib.hid hb1
  have hz1' : w.heap.size + 1 ≤ w1.heap.size := by omega
  clear hr1 hb1 hz1
  go_wp2_with fail
  refine (l20Twin_any _ l' 0 14 w1 HR1.out (by omega) (by omega)).mono ?_
  rintro e w2 ⟨a2, c2, P, rfl, hrd, _, h5, h6, ⟨p2, _, hp2, hr2⟩, hc2⟩
  have HRD := Lib.hid hrd
  have HR2 := Lib.hid hr2
  have HC2 := Lib.hid hc2
  have hz2 : w1.heap.size ≤ w2.heap.size := hc2.size
  clear hrd h6 hr2 hc2 HR1
  obtain ⟨n, hn1, hn5, hmx⟩ : ∃ n : Nat, 1 ≤ n ∧ n ≤ 5 ∧ max (P.length : Int) 1 = (n : Int) := ⟨max P.length 1, by omega, by omega, by omega⟩
  have HMX := Lib.hid hmx
  have HM2 : Hid ((if (1 : Int) > (P.length : Int) then 1 else (P.length : Int)) = (n : Int)) := Lib.hid (by rw [← hmx]; omega)
  clear hmx
  go_wp2_with (first | rw [HM2.out] | rw [HMX.out] | fail)
  first | rw [HM2.out] | rw [HMX.out] | skip
  refine (pick_rdr _ l' p2 n w2 HR2.out (by omega) (by omega)).mono ?_
  rintro e w3 ⟨x, rfl, x0, x1, hr3, hc3, hz3⟩
  have HR3 := Lib.hid hr3
  have HC3 := Lib.hid hc3
  clear hr3 hc3 hz3 HR2
  go_wp2_with fail
  refine (pick_rdr _ l' (p2 + 1) n w3 HR3.out (by omega) (by omega)).mono ?_
  rintro e w4 ⟨y, rfl, y0, y1, hr4, hc4, hz4⟩
  have HR4 := Lib.hid hr4
  have HC4 := Lib.hid (HC3.out.trans hc4)
  clear hr4 hc4 hz4 HR3 HC3
  go_wp2_with fail
  refine (pick_rdr _ l' (p2 + 1 + 1) n w4 HR4.out (by omega) (by omega)).mono ?_
  rintro e w5 ⟨z, rfl, z0, z1, hr5, hc5, hz5⟩
  have HR5 := Lib.hid hr5
  have HC5 := Lib.hid (HC4.out.trans hc5)
  clear hr5 hc5 hz5 HR4 HC4
  go_wp2_with fail
  refine (pick_rdr _ l' (p2 + 1 + 1 + 1) 20 w5 HR5.out (by omega) (by omega)).mono ?_
  rintro e w6 ⟨u, rfl, u0, u1, hr6, hc6, hz6⟩
  have HC6 := Lib.hid (HC5.out.trans hc6)
  have hq : 0 ≤ u / 19 ∧ u / 19 ≤ 1 := by omega
  obtain ⟨hq0, hq1⟩ := hq
  have HRD6 := Lib.hid (HRD.out.agr (HC6.out.agr (Nat.le_refl _) (fun k h1 h2 h3 => by omega)))
  have HH6 := Lib.hid ((HH1.out.trans (HC2.out.below (D := w.heap.size) (fun k hk => by omega) (by omega))).trans (HC6.out.below (D := w.heap.size) (fun k hk => by omega) (by omega)))
  have hz6' : w2.heap.size ≤ w6.heap.size := HC6.out.size
  clear hr6 hc6 hz6 HR5 HC5 HRD
  go_wp2_with fail
  (try simp only [Exit.inBlock, Exit.then])
  refine bodyPost_ret (results_tmp4 rfl _ _ _) rfl ?_
  exact ⟨a2, c2, P, x, y, _, rfl, HRD6.out.mono (by omega) hz6', h5, HH6.out⟩

set_option maxRecDepth 4000 in
set_option maxHeartbeats 1000000 in
theorem fnAnswerTo_any (a : Option Addr) (cap : Nat) (l : List Int) (w : World) (h : RdB w w.heap.size a l) (hl : l.length ≤ maxLen ∧ l.length ≤ cap) :
    Calls Try.prog 4 #[.slice a l.length cap] w fun e w' => e = .returned (.bool true) ∧ Below w.heap.size w w' := by
  obtain ⟨hl, hcap⟩ := hl
  have HB := Lib.hid h
  clear h
  by_cases hbig : 1048576 < l.length
  · go_enter Try.func4, Try.ntmps4
    go_wp2_with fail
    go_ret
    exact ⟨rfl, Below.refl _ _⟩
  · go_enter Try.func4, Try.ntmps4
    go_wp2_with fail
    refine (drawAnswerTo_any a cap l _ HB.out hl hcap).mono ?_
    rintro e w1 ⟨a2, c2, p, f, m, o, rfl, hrd, h5, hb⟩
    have R1 := Lib.hid hrd
    have H1 := Lib.hid hb
    have hm : Hid (p.length ≤ maxLen) := Lib.hid (by unfold maxLen; omega)
    clear hrd hb
    go_wp2_with fail
    refine (implAnswerTo_any a2 c2 p f m o w1 _ _ R1.out (Nat.le_refl _) hm.out).mono ?_
    rintro e w2 ⟨rfl, hb⟩
    have R2 := Lib.hid (R1.out.below hb (Nat.le_refl _))
    have H2 := Lib.hid (H1.out.trans (hb.mono H1.out.size))
    have hz2 : w1.heap.size ≤ w2.heap.size := hb.size
    clear hb R1 H1
    go_wp2_with fail
    refine (specAnswerTo_any a2 c2 p f m o w2 _ _ R2.out hz2 hm.out).mono ?_
    rintro e w3 ⟨rfl, hb⟩
    have R3 := Lib.hid (R2.out.below hb hz2)
    have H3 := Lib.hid (H2.out.trans (hb.mono H2.out.size))
    have hz3 : w1.heap.size ≤ w3.heap.size := by have := hb.size; omega
    clear hb R2 H2
    cases hok : answerOk p f m o
    · rw [answer_no hok]
      clear hok
      go_wp2_with (go_at_call 21; refine (alive1_any _).mono ?_; rintro e w' ⟨rfl, rfl⟩)
      go_ret
      exact ⟨rfl, H3.out⟩
    · obtain ⟨on, v, rfl, hv, ho, hvp, hp, ha, himp⟩ := answer_law hok
      rw [hv]
      obtain ⟨sq, _, _⟩ := picB_sq hp
      obtain ⟨b, off, b', off', c', rfl, _, hbC, hc, _, hbC', hd⟩ := R3.out.bit sq on v ho hvp
      rw [ha] at hd
      simp only [if_true] at hd
      have hoi : (on : Int) < (p.length : Int) := by omega
      have hvi : (v : Int) < (p.length : Int) := by omega
      have h1 := implSameAt_any (some ⟨b, off, none⟩) c2 p f on w3 _ _ R3.out hz3 hm.out
      cases hs : sameAtB p f on
      · rw [hs] at h1
        have S1 := Lib.hid h1
        clear hok hv ha himp hp sq hs h1
        go_wp2_with fail
        refine S1.out.mono ?_
        rintro e w4 ⟨rfl, hb⟩
        have H4 := Lib.hid (H3.out.trans (hb.mono H3.out.size))
        clear hb
        go_wp2_with fail
        go_ret
        exact ⟨rfl, H4.out⟩
      · rw [hs] at h1
        have S1 := Lib.hid h1
        have HS2 := Lib.hid (himp hs)
        clear hok hv ha himp hp sq hs h1
        go_wp2_with fail
        refine S1.out.mono ?_
        rintro e w4 ⟨rfl, hb⟩
        have R4 := Lib.hid (R3.out.below hb hz3)
        have H4 := Lib.hid (H3.out.trans (hb.mono H3.out.size))
        have hz4 : w1.heap.size ≤ w4.heap.size := by have := hb.size; omega
        have h2 := implSameAt_any (some ⟨b, off, none⟩) c2 p m v w4 _ _ R4.out hz4 hm.out
        rw [HS2.out] at h2
        have S2 := Lib.hid h2
        clear hb h2
        go_wp2_with fail
        refine S2.out.mono ?_
        rintro e w5 ⟨rfl, hb⟩
        have H5 := Lib.hid (H4.out.trans (hb.mono H4.out.size))
        clear hb
        go_wp2_with fail
        go_ret
        exact ⟨rfl, H5.out⟩
end Go.Proofs.Ytodjkphelildeaa
