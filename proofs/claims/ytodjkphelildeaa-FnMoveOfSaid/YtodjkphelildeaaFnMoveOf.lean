/- The law FnMoveOf, walked. -/
import Derived.Test.YtodjkphelildeaaMove
import Derived.Test.YtodjkphelildeaaDrawP
import Derived.Test.YtodjkphelildeaaAlive
namespace Go.Hyp
theorem bestM_law {p : List (List Int)} {i j : Nat} (h5 : p.length ≤ 5) (h : heldOk p i j = true) :
    ∃ f o m : Nat, (((bestM p i j).1 = 0 ∧ f = i ∧ o = j) ∨ ((bestM p i j).1 = 1 ∧ f = j ∧ o = i)) ∧ (bestM p i j).2 = m ∧ m < p.length ∧ f < p.length ∧ o < p.length ∧ arr p f m = true ∧
      ∀ k, k < p.length → arr p o k = true → heldOk p m k = true ∧ heldN p m k < heldN p i j := by
  obtain ⟨i', j', e1, e2, hi, hj, hp, hs⟩ := heldOk_nodes2 h
  have e1 : i = i' := by omega
  have e2 : j = j' := by omega
  subst e1; subst e2
  obtain ⟨b1, b2, _⟩ := bestM_spec h5 hs
  have hn := (heldN_apart hs).1
  have key : ∀ m o : Nat, m < p.length → o < p.length → longA p m o < heldN p i j → ∀ k, k < p.length → arr p o k = true → heldOk p m k = true ∧ heldN p m k < heldN p i j := by
    intro m o hm ho hl k hk ha
    have hne : arrL p o p.length ≠ [] := fun e => by
      have := arrL_mem.2 ⟨k, rfl, hk, ha⟩
      rw [e] at this; cases this
    obtain ⟨v, _, _, _, v4, v5⟩ := bestA_some (m := m) hne
    have h1 := v5 k hk ha
    have h2 : heldN p m k < heldN p i j := by omega
    refine ⟨?_, h2⟩
    have hs' : simB p m k = false := by
      cases e : simB p m k
      · rfl
      · have := (heldN_sim hm hk e).1; omega
    unfold heldOk; rw [nodeB_of hp hm, nodeB_of hp hk, Int.toNat_natCast, Int.toNat_natCast, hs']; rfl
  rcases moves_mem.1 b1 with ⟨c1, c2⟩ | ⟨c1, c2⟩
  · obtain ⟨m, d1, d2, d3⟩ := arrL_mem.1 c2
    refine ⟨i, j, m, .inl ⟨c1, rfl, rfl⟩, d1, d2, hi, hj, d3, key m j d2 hj ?_⟩
    unfold moveZ at b2
    rw [if_pos c1, d1] at b2
    exact b2
  · obtain ⟨m, d1, d2, d3⟩ := arrL_mem.1 c2
    refine ⟨j, i, m, .inr ⟨c1, rfl, rfl⟩, d1, d2, hj, hi, d3, key m i d2 hi ?_⟩
    unfold moveZ at b2
    rw [if_neg (by rw [c1]; decide), d1] at b2
    exact b2
theorem heldI_ok {p : List (List Int)} {i j : Nat} (h : heldOk p i j = true) : heldI p i j = (heldN p i j : Int) := by unfold heldI; rw [h]; rfl
end Go.Hyp
namespace Go.Proofs.Ytodjkphelildeaa
open Go.RowKit Go.Hyp Go.Deep

set_option maxHeartbeats 400000 in
theorem drawMoveOf_any (a : Option Addr) (cap : Nat) (l : List Int) (w : World) (h : RdB w w.heap.size a l) (hl : l.length ≤ maxLen) (hcap : l.length ≤ cap) :
    Calls Try.prog 25 #[.slice a l.length cap] w (DrewPII w) := by
  have HB := Lib.hid h
  clear h
  go_enter Try.func25, Try.ntmps25
  go_wp2_with fail
  refine (drawSameAt_any a cap l _ HB.out hl hcap).mono ?_
  rintro e w1 ⟨a2, c2, P, x, y, rfl, hrd, h5, h6, hb⟩
  have HRD := Lib.hid hrd
  have H6 := Lib.hid h6
  clear hrd h6
  go_wp2_with fail
  go_ret3
  exact ⟨a2, c2, P, x, y, rfl, HRD.out, h5, H6.out, hb⟩

set_option maxRecDepth 4000 in
set_option maxHeartbeats 1000000 in
theorem fnMoveOf_any (a : Option Addr) (cap : Nat) (l : List Int) (w : World) (h : RdB w w.heap.size a l) (hl : l.length ≤ maxLen ∧ l.length ≤ cap) :
    Calls Try.prog 6 #[.slice a l.length cap] w fun e w' => e = .returned (.bool true) ∧ Below w.heap.size w w' := by
  obtain ⟨hl, hcap⟩ := hl
  have HB := Lib.hid h
  clear h
  by_cases hbig : 1048576 < l.length
  · go_enter Try.func6, Try.ntmps6
    go_wp2_with fail
    go_ret
    exact ⟨rfl, Below.refl _ _⟩
  · go_enter Try.func6, Try.ntmps6
    go_wp2_with fail
    refine (drawMoveOf_any a cap l _ HB.out hl hcap).mono ?_
    rintro e w1 ⟨a2, c2, p, x, y, rfl, hrd, h5, h6, hb⟩
    have R1 := Lib.hid hrd
    have H1 := Lib.hid hb
    have hm : Hid (p.length ≤ maxLen) := Lib.hid (by unfold maxLen; omega)
    clear hrd h6 hb
    go_wp2_with fail
    refine (implMoveOf_any a2 c2 p x y w1 _ _ R1.out (Nat.le_refl _) hm.out).mono ?_
    rintro e w2 ⟨rfl, hb⟩
    have R2 := Lib.hid (R1.out.below hb (Nat.le_refl _))
    have H2 := Lib.hid (H1.out.trans (hb.mono H1.out.size))
    have hz2 : w1.heap.size ≤ w2.heap.size := hb.size
    clear hb R1 H1
    go_wp2_with fail
    refine (specMoveOf_any a2 c2 p x y w2 _ _ R2.out hz2 hm.out).mono ?_
    rintro e w3 ⟨rfl, hb⟩
    have R3 := Lib.hid (R2.out.below hb hz2)
    have H3 := Lib.hid (H2.out.trans (hb.mono H2.out.size))
    have hz3 : w1.heap.size ≤ w3.heap.size := by have := hb.size; omega
    clear hb R2 H2
    cases hok : heldOk p x y
    · rw [(move_no hok).1, (move_no hok).2]
      clear hok
      go_wp2_with (go_at_call 21; refine (alive1_any _).mono ?_; rintro e w' ⟨rfl, rfl⟩)
      go_ret
      exact ⟨rfl, H3.out⟩
    · obtain ⟨i, j, rfl, rfl, hi, hj, hp, hs⟩ := heldOk_nodes2 hok
      rw [(move_yes hok).1, (move_yes hok).2]
      obtain ⟨f, o, m, hside, hmm, hmp, hf, ho, ha, hall⟩ := bestM_law h5 hok
      rw [hmm]
      have hI := implHeldFor_any a2 c2 p i j w3 _ _ R3.out hz3 hm.out
      rw [hok, heldI_ok hok] at hI
      have HI := Lib.hid hI
      obtain ⟨N, hN⟩ : ∃ N, N = heldN p i j := ⟨_, rfl⟩
      rw [← hN] at HI hall
      have HALL := Lib.hid hall
      have HA := Lib.hid ha
      have HP := Lib.hid hp
      obtain ⟨S, hS⟩ : ∃ S, S = (bestM p i j).1 := ⟨_, rfl⟩
      rw [← hS] at hside ⊢
      clear hok hI hmm hall ha hs hp hN hS
      have hfi : (f : Int) < (p.length : Int) := by omega
      have hoi : (o : Int) < (p.length : Int) := by omega
      have hmi : (m : Int) < (p.length : Int) := by omega
      rcases hside with ⟨rfl, e1, e2⟩ | ⟨rfl, e1, e2⟩
      all_goals
        subst e1; subst e2
        go_wp2_with fail
        refine HI.out.mono ?_
        rintro e w4 ⟨rfl, hb⟩
        have R4 := Lib.hid (R3.out.below hb hz3)
        have H4 := Lib.hid (H3.out.trans (hb.mono H3.out.size))
        have hz4 : w1.heap.size ≤ w4.heap.size := by have := hb.size; omega
        clear hb R3 H3 HI
        go_wp2_with fail
        go_loopw [16] (fun c wr => ∃ k : Nat, k ≤ p.length ∧ c = .int .i64 k ∧ Below w4.heap.size w4 wr) (fun c _ => p.length - (intOf c).toNat)
        case atStart => exact ⟨0, Nat.zero_le _, rfl, Below.refl _ _⟩
        case round =>
          obtain ⟨k, hk, rfl, hb⟩ := hrel
          have HBR := Lib.hid hb
          have RR := Lib.hid (R4.out.below hb hz4)
          have hzr : w4.heap.size ≤ wr.heap.size := hb.size
          obtain ⟨sq, _, _⟩ := picB_sq HP.out
          clear hb
          by_cases hlt : k < p.length
          · obtain ⟨b, off, b', off', c', rfl, _, hbC, hc, _, hbC', hd⟩ := RR.out.bit sq o k ho hlt
            have hki : (k : Int) < (p.length : Int) := by omega
            clear sq
            cases hx : arr p o k
            · rw [hx] at hd
              simp only [Bool.false_eq_true, if_false] at hd
              clear hx
              go_wp2_with fail
              go_roundw
              case rel => exact ⟨k + 1, by omega, by go_num, HBR.out⟩
              case measure => simp [intOf]; omega
            · rw [hx] at hd
              simp only [if_true] at hd
              obtain ⟨g1, g2⟩ := HALL.out k hlt hx
              have hJ := implHeldFor_any (some ⟨b, off, none⟩) c2 p m k wr _ _ RR.out (by omega) hm.out
              rw [g1, heldI_ok g1] at hJ
              obtain ⟨M, hM⟩ : ∃ M, M = heldN p m k := ⟨_, rfl⟩
              rw [← hM] at hJ g2
              have HJ := Lib.hid hJ
              have hMi : (M : Int) < (N : Int) := by omega
              clear hx g1 hJ hM
              go_wp2_with fail
              refine HJ.out.mono ?_
              rintro e w5 ⟨rfl, hb5⟩
              have HB5 := Lib.hid (HBR.out.trans (hb5.mono hzr))
              clear hb5
              go_wp2_with fail
              go_roundw
              case rel => exact ⟨k + 1, by omega, by go_num, HB5.out⟩
              case measure => simp [intOf]; omega
          · obtain rfl : k = p.length := by omega
            obtain ⟨b, off, b', off', c', rfl, _, hbC, hc, _, hbC', hd⟩ := RR.out.bit sq f m hf hmp
            rw [HA.out] at hd
            simp only [if_true] at hd
            clear sq
            go_wp2_with fail
            go_ret
            exact ⟨rfl, H4.out.trans (HBR.out.mono H4.out.size)⟩
end Go.Proofs.Ytodjkphelildeaa
