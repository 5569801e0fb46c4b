/- The law FnPlayedOut, walked. -/
import Derived.Test.YtodjkphelildeaaPlayed
import Derived.Test.YtodjkphelildeaaDrawP
import Derived.Test.YtodjkphelildeaaSameR
import Derived.Test.YtodjkphelildeaaAlive
namespace Go.Hyp
/-- The rows of the game: three numbers, the last one -1 in the last round alone. -/
theorem playL_at {p : List (List Int)} (hp : picB p = true) : ∀ (n i j : Nat), i < p.length → j < p.length → simB p i j = false → heldN p i j = n → ∀ k (hk : k < (playL p n i j).length),
    ∃ s m a : Int, (playL p n i j)[k] = [s, m, a] ∧ ((a = -1 ∧ k = n) ∨ (0 ≤ a ∧ k < n)) := by
  intro n
  induction n with
  | zero =>
    intro i j hi hj hs hh k hk
    have : k = 0 := by rw [(playL_len p 0 i j).1] at hk; omega
    subst this
    exact ⟨_, _, _, rfl, .inl ⟨rfl, rfl⟩⟩
  | succ n ih =>
    intro i j hi hj hs hh k hk
    obtain ⟨f, o, m, hside, hmm, hmp, hf, ho, ha, hcase⟩ := best_step hp hi hj hs
    rcases hcase with ⟨h0, _⟩ | ⟨v, hne, hv, hvp, hsv, hh2⟩
    · omega
    · have key : ∃ x y, x < p.length ∧ y < p.length ∧ simB p x y = false ∧ heldN p x y = n ∧ playL p (n + 1) i j = [(bestM p i j).1, (m : Int), (v : Int)] :: playL p n x y := by
        rcases hside with ⟨hS, e1, e2⟩ | ⟨hS, e1, e2⟩
        · subst e1; subst e2
          refine ⟨m, v, hmp, hvp, hsv, by omega, ?_⟩
          rw [playL_succ, hS, hmm, Int.toNat_natCast]
          simp only [Int.reduceEq, if_false, reduceIte]
          rw [hv, Int.toNat_natCast]
        · subst e1; subst e2
          refine ⟨v, m, hvp, hmp, by rw [simB_sym2]; exact hsv, by rw [heldN_sym2]; omega, ?_⟩
          rw [playL_succ, hS, hmm, Int.toNat_natCast]
          simp only [if_true, reduceIte]
          rw [hv, Int.toNat_natCast]
      obtain ⟨x, y, hx, hy, hxy, hn, e⟩ := key
      cases k with
      | zero => exact ⟨_, _, _, by simp only [e]; rfl, .inr ⟨Int.natCast_nonneg v, by omega⟩⟩
      | succ k =>
        have hk2 : k < (playL p n x y).length := by
          rw [(playL_len p _ _ _).1] at hk ⊢; omega
        obtain ⟨s, m', a, e', hc⟩ := ih x y hx hy hxy hn k hk2
        exact ⟨s, m', a, by simp only [e, List.getElem_cons_succ]; exact e', by omega⟩
theorem heldI_ok3 {p : List (List Int)} {i j : Nat} (h : heldOk p i j = true) : heldI p i j = (heldN p i j : Int) := by unfold heldI; rw [h]; rfl
end Go.Hyp
namespace Go.Proofs.Ytodjkphelildeaa
open Go.RowKit Go.Hyp Go.Deep

set_option maxHeartbeats 400000 in
theorem drawPlayedOut_any (a : Option Addr) (cap : Nat) (l : List Int) (w : World) (h : RdB w w.heap.size a l) (hl : l.length ≤ maxLen) (hcap : l.length ≤ cap) :
    Calls Try.prog 31 #[.slice a l.length cap] w (DrewPII w) := by
  have HB := Lib.hid h
  clear h
  go_enter Try.func31, Try.ntmps31
  go_wp2_with fail
  refine (drawSameAt_any a cap l _ HB.out hl hcap).mono ?_
  rintro e w1 ⟨a2, c2, P, x, y, rfl, hrd, h5, h6, hb⟩
  have HRD := Lib.hid hrd
  have H6 := Lib.hid h6
  clear hrd h6
  go_wp2_with fail
  go_ret3
  exact ⟨a2, c2, P, x, y, rfl, HRD.out, h5, H6.out, hb⟩

set_option maxRecDepth 4000 in
set_option maxHeartbeats 1000000 in
theorem fnPlayedOut_any (a : Option Addr) (cap : Nat) (l : List Int) (w : World) (h : RdB w w.heap.size a l) (hl : l.length ≤ maxLen ∧ l.length ≤ cap) :
    Calls Try.prog 8 #[.slice a l.length cap] w fun e w' => e = .returned (.bool true) ∧ Below w.heap.size w w' := by
  obtain ⟨hl, hcap⟩ := hl
  have HB := Lib.hid h
  clear h
  by_cases hbig : 1048576 < l.length
  · go_enter Try.func8, Try.ntmps8
    go_wp2_with fail
    go_ret
    exact ⟨rfl, Below.refl _ _⟩
  · go_enter Try.func8, Try.ntmps8
    go_wp2_with fail
    refine (drawPlayedOut_any a cap l _ HB.out hl hcap).mono ?_
    rintro e w1 ⟨a2, c2, p, x, y, rfl, hrd, h5, h6, hb⟩
    have R1 := Lib.hid hrd
    have H1 := Lib.hid hb
    have hm : Hid (p.length ≤ maxLen) := Lib.hid (by unfold maxLen; omega)
    obtain ⟨hsm, _⟩ := playedOut_small p x y
    have HSM := Lib.hid hsm
    clear hrd h6 hb hsm
    go_wp2_with fail
    refine (implPlayedOut_any a2 c2 p x y w1 _ _ R1.out (Nat.le_refl _) hm.out).mono ?_
    rintro e w2 ⟨a3, c3, rfl, ho, hb⟩
    have R2 := Lib.hid (R1.out.below hb (Nat.le_refl _))
    have O2 := Lib.hid ho.rd
    have H2 := Lib.hid (H1.out.trans (hb.mono H1.out.size))
    have hz2 : w1.heap.size ≤ w2.heap.size := hb.size
    clear hb R1 H1 ho
    go_wp2_with fail
    refine (specPlayedOut_any a2 c2 p x y w2 _ _ R2.out hz2 hm.out).mono ?_
    rintro e w3 ⟨a4, c4, rfl, ho, hb⟩
    have R3 := Lib.hid (R2.out.below hb hz2)
    have O3 := Lib.hid (O2.out.below hb (Nat.le_refl _))
    have Q3 := Lib.hid ho.rd
    have H3 := Lib.hid (H2.out.trans (hb.mono H2.out.size))
    have hz3 : w2.heap.size ≤ w3.heap.size := hb.size
    clear hb R2 H2 ho O2
    go_wp2_with fail
    refine (sameRows_any a3 a4 c3 c4 _ _ w3 _ _ _ _ O3.out Q3.out (Nat.le_trans HSM.out (by unfold maxLen; omega))).mono ?_
    rintro e w4 ⟨rfl, hq⟩
    rw [decide_eq_true rfl]
    have R4 := Lib.hid (R3.out.agr hq.agr)
    have O4 := Lib.hid (O3.out.agr hq.agr)
    have H4 := Lib.hid (H3.out.trans hq.below)
    have hz4 : w3.heap.size ≤ w4.heap.size := (hq.below (B := w3.heap.size)).size
    clear hq R3 O3 Q3 H3
    cases hok : heldOk p x y
    · rw [played_no hok]
      clear hok
      go_wp2_with (go_at_call 21; refine (alive1_any _).mono ?_; rintro e w' ⟨rfl, rfl⟩)
      go_ret
      exact ⟨rfl, H4.out⟩
    · obtain ⟨i, j, rfl, rfl, hi, hj, hp, hs⟩ := heldOk_nodes2 hok
      have O5 := O4.out
      rw [played_yes hok] at O5 ⊢
      have hat := playL_at hp _ i j hi hj hs rfl
      have hlen := (playL_len p (heldN p i j) i j).1
      have hI := implHeldFor_any a2 c2 p i j w4 _ _ R4.out (by omega) hm.out
      rw [hok, heldI_ok3 hok] at hI
      have HI := Lib.hid hI
      obtain ⟨N, hN⟩ : ∃ N, N = heldN p i j := ⟨_, rfl⟩
      rw [← hN] at HI hat hlen O5 ⊢
      obtain ⟨P, hP⟩ : ∃ P, P = playL p N i j := ⟨_, rfl⟩
      rw [← hP] at hlen O5 ⊢
      have HAT : Hid (∀ k (hk : k < P.length), ∃ s m a : Int, P[k] = [s, m, a] ∧ ((a = -1 ∧ k = N) ∨ (0 ≤ a ∧ k < N))) := Lib.hid (by subst hP; exact hat)
      have O6 := Lib.hid O5
      have hl1 : P.length ≤ N + 1 := by omega
      have hl2 : N + 1 ≤ P.length := by omega
      have hN4 : N < p.length := by rw [hN]; exact (heldN_apart hs).1
      clear hok hI hat hs hp hN hP O5 O4 HSM hlen
      go_wp2_with fail
      refine HI.out.mono ?_
      rintro e w5 ⟨rfl, hb⟩
      have O7 := Lib.hid (O6.out.below hb (by omega))
      have H5 := Lib.hid (H4.out.trans (hb.mono H4.out.size))
      have hz5 : w4.heap.size ≤ w5.heap.size := hb.size
      clear hb O6 H4 HI R4
      go_wp2_with fail
      go_loopw [12] (fun c wr => ∃ k : Nat, k ≤ P.length ∧ c = .int .i64 k ∧ wr = w5) (fun c _ => P.length - (intOf c).toNat)
      case atStart => exact ⟨0, Nat.zero_le _, rfl, rfl⟩
      case round =>
        obtain ⟨k, hk, rfl, rfl⟩ := hrel
        by_cases hlt : k < P.length
        · obtain ⟨b, off, x, c, rfl, _, _, hc, hr, hll⟩ := O7.out.at k hlt
          obtain ⟨s, m, v, hrow, hcase⟩ := HAT.out k hlt
          rw [hrow] at hc hr
          obtain ⟨b', off', rfl, _, _, hd⟩ := hr.at 2 (by simp)
          have hd2 : wr.cell? ⟨b', off' + 2, none⟩ = some (.int .i64 v) := hd
          clear hd hr hrow hll
          simp only [List.length_cons, List.length_nil] at hc
          rcases hcase with ⟨rfl, rfl⟩ | ⟨hv, hkn⟩
          · have hbt : ((k : Int) == (P.length : Int) - 1) = true := beq_iff_eq.2 (by omega)
            go_wp2_with fail
            go_roundw
            case rel => exact ⟨k + 1, by omega, by go_num, by trivial⟩
            case measure => simp [intOf]; omega
          · have hbf : ((k : Int) == (P.length : Int) - 1) = false := beq_eq_false_iff_ne.2 (by omega)
            have hvf : (v == (-1 : Int)) = false := beq_eq_false_iff_ne.2 (by omega)
            go_wp2_with fail
            go_roundw
            case rel => exact ⟨k + 1, by omega, by go_num, by trivial⟩
            case measure => simp [intOf]; omega
        · obtain rfl : k = P.length := by omega
          have hbt : ((P.length : Int) == (N : Int) + 1) = true := beq_iff_eq.2 (by omega)
          go_wp2_with fail
          go_ret
          exact ⟨rfl, H5.out⟩
end Go.Proofs.Ytodjkphelildeaa
