/- How long two nodes hold: both ways of finding it. -/
import Derived.Test.YtgfoolneophkcaaLeftS
namespace Go.Hyp
open Go.RowKit Go.Deep
/-- Two nodes, told by numbers, draw the same set. -/
def sameAtB (p : List (List Int)) (a b : Int) : Bool := nodeB p a && nodeB p b && simB p a.toNat b.toNat
/-- How long two nodes hold; 1000 for ever. -/
def heldN (p : List (List Int)) (a b : Nat) : Nat := ((List.range (p.length + 1)).find? fun r => !left p (r + 1) a b).getD 1000
theorem heldN_sim {p : List (List Int)} {a b : Nat} (ha : a < p.length) (hb : b < p.length) (h : simB p a b = true) : heldN p a b = 1000 ∧ ∀ r, left p r a b = true := by
  have key : ∀ r, left p r a b = true := fun r => same_left ((simB_iff ha hb).1 h) r
  refine ⟨?_, key⟩
  unfold heldN
  rw [List.find?_eq_none.2 (fun r _ => by simp [key])]
  rfl
theorem heldN_apart {p : List (List Int)} {a b : Nat} (h : simB p a b = false) : heldN p a b < p.length ∧ (∀ r, r ≤ heldN p a b → left p r a b = true) ∧ ∀ r, heldN p a b < r → left p r a b = false := by
  have hpos : 0 < p.length := by
    rcases Nat.eq_zero_or_pos p.length with e | e
    · unfold simB at h; rw [e] at h; cases h
    · exact e
  have hf : ∃ r, (List.range (p.length + 1)).find? (fun r => !left p (r + 1) a b) = some r := by
    cases e : (List.range (p.length + 1)).find? fun r => !left p (r + 1) a b with
    | some r => exact ⟨r, rfl⟩
    | none =>
      rw [List.find?_eq_none] at e
      have := e (p.length - 1) (by simp; omega)
      rw [show p.length - 1 + 1 = p.length by omega] at this
      unfold simB at h
      rw [h] at this; simp at this
  obtain ⟨r, hr⟩ := hf
  have e : heldN p a b = r := by unfold heldN; rw [hr]; rfl
  rw [List.find?_range_eq_some] at hr
  obtain ⟨h1, h2, h3⟩ := hr
  have hfalse : left p (r + 1) a b = false := by simpa using h1
  rw [e]
  refine ⟨?_, fun m hm => ?_, fun m hm => ?_⟩
  · rcases Nat.lt_or_ge r p.length with h' | h'
    · exact h'
    · have := h3 (p.length - 1) (by omega)
      rw [show p.length - 1 + 1 = p.length by omega] at this
      unfold simB at h
      rw [h] at this; simp at this
  · cases m with
    | zero => rfl
    | succ m => simpa using h3 m (by omega)
  · cases hx : left p m a b
    · rfl
    · have := left_anti (r := r + 1) (by omega) hx
      rw [hfalse] at this; cases this
/-- What HeldFor answers. -/
def heldOk (p : List (List Int)) (a b : Int) : Bool := nodeB p a && nodeB p b && !simB p a.toNat b.toNat
def heldI (p : List (List Int)) (a b : Int) : Int := if heldOk p a b = true then (heldN p a.toNat b.toNat : Int) else -1
theorem nodeB_nat {p : List (List Int)} {a : Int} (h : nodeB p a = true) : ∃ n : Nat, a = n ∧ n < p.length ∧ picB p = true := by
  unfold nodeB at h
  simp only [Bool.and_eq_true, decide_eq_true_eq] at h
  obtain ⟨n, rfl⟩ := Int.eq_ofNat_of_zero_le h.1.2
  exact ⟨n, rfl, by omega, h.1.1⟩
theorem nodeB_of {p : List (List Int)} {n : Nat} (h : picB p = true) (hn : n < p.length) : nodeB p n = true := by
  unfold nodeB; rw [h]; simp; exact hn
theorem leftR_pic {p : List (List Int)} {r : Nat} (h : picB p = true) (hr : r ≤ 30) : leftR p r = mat p.length p.length (left p r) := by
  unfold leftR
  rw [h, if_pos (by simp; omega)]
  rfl
theorem leftR_no {p : List (List Int)} {r : Int} (h : picB p = false) : leftR p r = [] := by unfold leftR; rw [h]; rfl
end Go.Hyp
namespace Go.Proofs.Ytgfoolneophkcaa
open Go.RowKit Go.Hyp Go.Deep

set_option maxHeartbeats 400000 in
theorem heldFor_any (a : Option Addr) (cap : Nat) (p : List (List Int)) (i j : Nat) (w : World) (B C : Nat) (h : RdII w B C a p) (hC : C ≤ w.heap.size) (hs : Sq p) (hi : i < p.length) (hj : j < p.length) (hl : p.length ≤ 900) :
    Calls Try.prog 86 #[.slice a p.length cap, .int .i64 i, .int .i64 j] w fun e w' => e = .returned (.int .i64 (heldN p i j)) ∧ Below w.heap.size w w' := by
  have F := Lib.hid h
  have HS := Lib.hid hs
  clear h hs
  have hii : (i : Int) < (p.length : Int) := by omega
  have hji : (j : Int) < (p.length : Int) := by omega
  go_enter Try.func86, Try.ntmps86
  go_wp2_with fail
  go_loopw [6, 11] (fun r c wr => ∃ k : Nat, k ≤ p.length + 1 ∧ c = .int .i64 k ∧ r = .int .i64 0 ∧ (∀ m, m < k → left p (m + 1) i j = true) ∧ Below w.heap.size w wr) (fun _ c _ => p.length + 1 - (intOf c).toNat)
  case atStart => exact ⟨0, Nat.zero_le _, rfl, rfl, fun m hm => by omega, Below.refl _ _⟩
  case round =>
    obtain ⟨k, hk, rfl, rfl, hm, hb⟩ := hrel
    have HM := Lib.hid hm
    have HB := Lib.hid hb
    clear hm hb
    by_cases hlt : k < p.length + 1
    · have hki : (k : Int) < (p.length : Int) + 1 := by omega
      have e1 : ((k + 1 : Nat) : Int) = (k : Int) + 1 := by omega
      have HC := Lib.hid (leftAfter_any a cap p (k + 1) wr B C (F.out.below HB.out hC) (Nat.le_trans hC HB.out.size) HS.out (by omega) (by omega))
      rw [e1] at HC
      clear e1
      go_wp2_with fail
      refine HC.out.mono ?_
      rintro e w1 ⟨x, c, rfl, ho, hb1⟩
      have HB1 := Lib.hid (HB.out.trans (hb1.mono HB.out.size))
      obtain ⟨b1, off1, b1', off1', c1', rfl, _, _, hc1, _, _, hd1⟩ := ho.rd.bit (mat_sq _ _) i j (by rw [mat_len]; exact hi) (by rw [mat_len]; exact hj)
      rw [mat_len] at hc1
      rw [mat_arr _ _ _ _ _ hi hj] at hd1
      clear ho hb1
      cases hx : left p (k + 1) i j
      · have HX := Lib.hid hx
        rw [hx] at hd1
        simp only [Bool.false_eq_true, if_false] at hd1
        clear hx
        go_wp2_with fail
        go_ret
        refine ⟨ret_int ?_, HB1.out⟩
        have hsim : simB p i j = false := by
          cases hs : simB p i j
          · rfl
          · have := (heldN_sim hi hj hs).2 (k + 1)
            rw [HX.out] at this; cases this
        obtain ⟨h1, h2, h3⟩ := heldN_apart hsim
        rcases Nat.lt_trichotomy (heldN p i j) k with h | h | h
        · have := h3 (heldN p i j + 1) (by omega)
          rw [HM.out _ h] at this; cases this
        · rw [h]
        · have := h2 (k + 1) (by omega)
          rw [HX.out] at this; cases this
      · have HX := Lib.hid hx
        rw [hx] at hd1
        simp only [if_true] at hd1
        clear hx
        go_wp2_with fail
        go_roundw
        case rel =>
          refine ⟨k + 1, by omega, by go_num, rfl, fun m hm => ?_, HB1.out⟩
          by_cases e : m = k
          · subst e; exact HX.out
          · exact HM.out m (by omega)
        case measure => simp [intOf]; omega
    · obtain rfl : k = p.length + 1 := by omega
      have e1 : ((p.length + 1 : Nat) : Int) = (p.length : Int) + 1 := by omega
      rw [e1]
      clear e1
      go_wp2_with fail
      go_ret
      refine ⟨ret_int ?_, HB.out⟩
      have : simB p i j = true := left_anti (Nat.le_succ _) (HM.out p.length (by omega))
      rw [(heldN_sim hi hj this).1]; rfl

set_option maxHeartbeats 400000 in
theorem specSameAt_any (a : Option Addr) (cap : Nat) (p : List (List Int)) (i j : Int) (w : World) (B C : Nat) (h : RdII w B C a p) (hC : C ≤ w.heap.size) (hl : p.length ≤ maxLen) :
    Calls Try.prog 84 #[.slice a p.length cap, .int .i64 i, .int .i64 j] w fun e w' => e = .returned (.bool (sameAtB p i j)) ∧ Below w.heap.size w w' := by
  have F := Lib.hid h
  have HL := Lib.hid hl
  unfold maxLen at hl
  clear h
  cases hp : picB p
  · have HP := Lib.hid hp
    clear hp
    have HD : Hid ((decide (0 ≤ i) && decide (i ≤ -1)) = false) := Lib.hid (by rw [Bool.and_eq_false_iff]; simp; omega)
    have hA := specSameRows_any a cap p w B C F.out hC HL.out
    rw [leftR_no HP.out] at hA
    have HA := Lib.hid hA
    clear hA
    go_enter Try.func84, Try.ntmps84
    go_wp2_with fail
    refine HA.out.mono ?_
    rintro e w1 ⟨x, c, rfl, ho, hb⟩
    clear ho
    go_wp2_with (go_at_call 64; refine (l1In_any _ _ _ _).mono ?_; rintro e w' ⟨rfl, rfl⟩; rw [HD.out])
    go_ret
    exact ⟨ret_bool (by unfold sameAtB nodeB; rw [HP.out]; rfl), hb⟩
  · have HP := Lib.hid hp
    obtain ⟨sq, s1, s5⟩ := picB_sq hp
    have hA := specSameRows_any a cap p w B C F.out hC HL.out
    rw [leftR_pic hp (by omega)] at hA
    have HA := Lib.hid hA
    clear hA hp sq
    have hcase : (decide (0 ≤ i) && decide (i ≤ (p.length : Int) - 1)) = false ∨ ((decide (0 ≤ i) && decide (i ≤ (p.length : Int) - 1)) = true ∧ (decide (0 ≤ j) && decide (j ≤ (p.length : Int) - 1)) = false) ∨
      ((decide (0 ≤ i) && decide (i ≤ (p.length : Int) - 1)) = true ∧ (decide (0 ≤ j) && decide (j ≤ (p.length : Int) - 1)) = true) := by
      cases (decide (0 ≤ i) && decide (i ≤ (p.length : Int) - 1)) <;> cases (decide (0 ≤ j) && decide (j ≤ (p.length : Int) - 1)) <;> simp
    have key : ∀ i : Int, (decide (0 ≤ i) && decide (i ≤ (p.length : Int) - 1)) = nodeB p i := fun i => by
      unfold nodeB; rw [HP.out, Bool.true_and]; congr 1; rw [Bool.eq_iff_iff]; simp; omega
    have HK := Lib.hid key
    clear key
    rcases hcase with h1 | ⟨h1, h2⟩ | ⟨h1, h2⟩
    · have H1 := Lib.hid h1
      clear h1
      go_enter Try.func84, Try.ntmps84
      go_wp2_with fail
      refine HA.out.mono ?_
      intro e w1 hret
      obtain ⟨x, c, rfl, ho, hb⟩ := hret.toM
      clear hret ho
      go_wp2_with (go_at_call 64; refine (l1In_any _ _ _ _).mono ?_; rintro e w' ⟨rfl, rfl⟩; rw [H1.out])
      go_ret
      exact ⟨ret_bool (by unfold sameAtB; rw [← HK.out i, H1.out]; rfl), hb⟩
    · have H1 := Lib.hid h1
      have H2 := Lib.hid h2
      clear h1 h2
      go_enter Try.func84, Try.ntmps84
      go_wp2_with fail
      refine HA.out.mono ?_
      intro e w1 hret
      obtain ⟨x, c, rfl, ho, hb⟩ := hret.toM
      clear hret ho
      go_wp2_with fail
      refine (l1In_any _ _ _ _).mono ?_
      rintro e w' ⟨rfl, rfl⟩
      rw [H1.out]
      go_wp2_with fail
      refine (l1In_any _ _ _ _).mono ?_
      rintro e w' ⟨rfl, rfl⟩
      rw [H2.out]
      go_wp2_with fail
      go_ret
      exact ⟨ret_bool (by unfold sameAtB; rw [← HK.out j, H2.out]; simp), hb⟩
    · obtain ⟨n, rfl, hn, _⟩ := nodeB_nat ((HK.out i).symm.trans h1)
      obtain ⟨m, rfl, hm, _⟩ := nodeB_nat ((HK.out j).symm.trans h2)
      have H1 := Lib.hid h1
      have H2 := Lib.hid h2
      have hni : (n : Int) < (p.length : Int) := by omega
      have hmi : (m : Int) < (p.length : Int) := by omega
      clear h1 h2
      go_enter Try.func84, Try.ntmps84
      go_wp2_with fail
      refine HA.out.mono ?_
      intro e w1 hret
      obtain ⟨x, c, rfl, ho, hb⟩ := hret.toM
      obtain ⟨b1, off1, b1', off1', c1', rfl, _, _, hc1, _, _, hd1⟩ := ho.rd.bit (mat_sq _ _) n m (by rw [mat_len]; exact hn) (by rw [mat_len]; exact hm)
      rw [mat_len] at hc1
      rw [mat_arr _ _ _ _ _ hn hm] at hd1
      clear hret ho
      cases hx : left p p.length n m
      all_goals
        have HX := Lib.hid hx
        rw [hx] at hd1
        simp only [Bool.false_eq_true, if_false, if_true] at hd1
        clear hx
        go_wp2_with fail
        refine (l1In_any _ _ _ _).mono ?_
        rintro e w' ⟨rfl, rfl⟩
        rw [H1.out]
        go_wp2_with fail
        refine (l1In_any _ _ _ _).mono ?_
        rintro e w' ⟨rfl, rfl⟩
        rw [H2.out]
        go_wp2_with fail
        go_ret
        exact ⟨ret_bool (by unfold sameAtB; rw [← HK.out n, ← HK.out m, H1.out, H2.out]; unfold simB; rw [Int.toNat_natCast, Int.toNat_natCast, HX.out]; rfl), hb⟩

set_option maxHeartbeats 400000 in
theorem implHeldFor_any (a : Option Addr) (cap : Nat) (p : List (List Int)) (i j : Int) (w : World) (B C : Nat) (h : RdII w B C a p) (hC : C ≤ w.heap.size) (hl : p.length ≤ maxLen) :
    Calls Try.prog 54 #[.slice a p.length cap, .int .i64 i, .int .i64 j] w fun e w' => e = .returned (.tuple #[.int .i64 (heldI p i j), .bool (heldOk p i j)]) ∧ Below w.heap.size w w' := by
  have F := Lib.hid h
  have HL := Lib.hid hl
  unfold maxLen at hl
  clear h
  cases h1 : nodeB p i
  · have H1 := Lib.hid h1
    have e1 : heldOk p i j = false := by unfold heldOk; rw [h1]; rfl
    have E1 := Lib.hid e1
    have E2 : Hid (heldI p i j = -1) := Lib.hid (by unfold heldI; rw [e1]; rfl)
    clear h1 e1
    go_enter Try.func54, Try.ntmps54
    go_wp2_with (go_at_call 85; refine (hasNode_any _ _ _ _ _ B C F.out HL.out).mono ?_; rintro e w' ⟨rfl, rfl⟩; rw [H1.out])
    go_ret2
    exact ⟨by rw [E1.out, E2.out]; rfl, Below.refl _ _⟩
  · cases h2 : nodeB p j
    · have H1 := Lib.hid h1
      have H2 := Lib.hid h2
      have e1 : heldOk p i j = false := by unfold heldOk; rw [h1, h2]; rfl
      have E1 := Lib.hid e1
      have E2 : Hid (heldI p i j = -1) := Lib.hid (by unfold heldI; rw [e1]; rfl)
      clear h1 h2 e1
      go_enter Try.func54, Try.ntmps54
      go_wp2_with fail
      refine (hasNode_any _ _ _ _ _ B C F.out HL.out).mono ?_
      rintro e w' ⟨rfl, rfl⟩
      rw [H1.out]
      go_wp2_with fail
      refine (hasNode_any _ _ _ _ _ B C F.out HL.out).mono ?_
      rintro e w' ⟨rfl, rfl⟩
      rw [H2.out]
      go_wp2_with fail
      go_ret2
      exact ⟨by rw [E1.out, E2.out]; rfl, Below.refl _ _⟩
    · obtain ⟨n, rfl, hn, hp⟩ := nodeB_nat h1
      obtain ⟨m, rfl, hm, _⟩ := nodeB_nat h2
      obtain ⟨sq, s1, s5⟩ := picB_sq hp
      have HS := Lib.hid sq
      have H1 := Lib.hid h1
      have H2 := Lib.hid h2
      cases h3 : simB p n m
      · have e1 : heldOk p n m = true := by unfold heldOk; rw [h1, h2]; simp [h3]
        have E1 := Lib.hid e1
        have E2 : Hid (heldI p n m = (heldN p n m : Int)) := Lib.hid (by unfold heldI; rw [e1]; rfl)
        obtain ⟨hlt, _, _⟩ := heldN_apart h3
        have hne : ((heldN p n m : Int) == 1000) = false := beq_eq_false_iff_ne.2 (by omega)
        clear h1 h2 h3 e1 sq hp
        go_enter Try.func54, Try.ntmps54
        go_wp2_with fail
        refine (hasNode_any _ _ _ _ _ B C F.out HL.out).mono ?_
        rintro e w' ⟨rfl, rfl⟩
        rw [H1.out]
        go_wp2_with fail
        refine (hasNode_any _ _ _ _ _ B C F.out HL.out).mono ?_
        rintro e w' ⟨rfl, rfl⟩
        rw [H2.out]
        go_wp2_with fail
        refine (heldFor_any a cap p n m _ B C F.out hC HS.out hn hm (by omega)).mono ?_
        rintro e w1 ⟨rfl, hb⟩
        go_wp2_with fail
        go_ret2
        exact ⟨by rw [E1.out, E2.out]; rfl, hb⟩
      · have e1 : heldOk p n m = false := by unfold heldOk; rw [h1, h2]; simp [h3]
        have E1 := Lib.hid e1
        have E2 : Hid (heldI p n m = -1) := Lib.hid (by unfold heldI; rw [e1]; rfl)
        have hne : ((heldN p n m : Int) == 1000) = true := by rw [(heldN_sim hn hm h3).1]; rfl
        clear h1 h2 h3 e1 sq hp
        go_enter Try.func54, Try.ntmps54
        go_wp2_with fail
        refine (hasNode_any _ _ _ _ _ B C F.out HL.out).mono ?_
        rintro e w' ⟨rfl, rfl⟩
        rw [H1.out]
        go_wp2_with fail
        refine (hasNode_any _ _ _ _ _ B C F.out HL.out).mono ?_
        rintro e w' ⟨rfl, rfl⟩
        rw [H2.out]
        go_wp2_with fail
        refine (heldFor_any a cap p n m _ B C F.out hC HS.out hn hm (by omega)).mono ?_
        rintro e w1 ⟨rfl, hb⟩
        go_wp2_with fail
        go_ret2
        exact ⟨by rw [E1.out, E2.out]; rfl, hb⟩

set_option maxHeartbeats 800000 in
theorem specHeldFor_any (a : Option Addr) (cap : Nat) (p : List (List Int)) (i j : Int) (w : World) (B C : Nat) (h : RdII w B C a p) (hC : C ≤ w.heap.size) (hl : p.length ≤ maxLen) :
    Calls Try.prog 53 #[.slice a p.length cap, .int .i64 i, .int .i64 j] w fun e w' => e = .returned (.tuple #[.int .i64 (heldI p i j), .bool (heldOk p i j)]) ∧ Below w.heap.size w w' := by
  have F := Lib.hid h
  have HL := Lib.hid hl
  unfold maxLen at hl
  clear h
  cases h1 : nodeB p i
  · have H1 := Lib.hid h1
    have e1 : heldOk p i j = false := by unfold heldOk; rw [h1]; rfl
    have E1 := Lib.hid e1
    have E2 : Hid (heldI p i j = -1) := Lib.hid (by unfold heldI; rw [e1]; rfl)
    clear h1 e1
    go_enter Try.func53, Try.ntmps53
    go_wp2_with (go_at_call 83; refine (specNodeOk_any _ _ _ _ _ B C F.out HL.out).mono ?_; rintro e w' ⟨rfl, rfl⟩; rw [H1.out])
    go_ret2
    exact ⟨by rw [E1.out, E2.out]; rfl, Below.refl _ _⟩
  · cases h2 : nodeB p j
    · have H1 := Lib.hid h1
      have H2 := Lib.hid h2
      have e1 : heldOk p i j = false := by unfold heldOk; rw [h1, h2]; rfl
      have E1 := Lib.hid e1
      have E2 : Hid (heldI p i j = -1) := Lib.hid (by unfold heldI; rw [e1]; rfl)
      clear h1 h2 e1
      go_enter Try.func53, Try.ntmps53
      go_wp2_with fail
      refine (specNodeOk_any _ _ _ _ _ B C F.out HL.out).mono ?_
      rintro e w' ⟨rfl, rfl⟩
      rw [H1.out]
      go_wp2_with fail
      refine (specNodeOk_any _ _ _ _ _ B C F.out HL.out).mono ?_
      rintro e w' ⟨rfl, rfl⟩
      rw [H2.out]
      go_wp2_with fail
      go_ret2
      exact ⟨by rw [E1.out, E2.out]; rfl, Below.refl _ _⟩
    · have hsa : sameAtB p i j = simB p i.toNat j.toNat := by unfold sameAtB; rw [h1, h2]; rfl
      obtain ⟨n, rfl, hn, hp⟩ := nodeB_nat h1
      obtain ⟨m, rfl, hm, _⟩ := nodeB_nat h2
      rw [Int.toNat_natCast, Int.toNat_natCast] at hsa
      obtain ⟨sq, s1, s5⟩ := picB_sq hp
      have HS := Lib.hid sq
      have H1 := Lib.hid h1
      have H2 := Lib.hid h2
      have HP := Lib.hid hp
      have hni : (n : Int) < (p.length : Int) := by omega
      have hmi : (m : Int) < (p.length : Int) := by omega
      cases h3 : simB p n m
      · have e1 : heldOk p n m = true := by unfold heldOk; rw [h1, h2]; simp [h3]
        have E1 := Lib.hid e1
        have E2 : Hid (heldI p n m = (heldN p n m : Int)) := Lib.hid (by unfold heldI; rw [e1]; rfl)
        rw [h3] at hsa
        have HA := Lib.hid hsa
        have H3 := Lib.hid h3
        have hlt := (heldN_apart h3).1
        clear h1 h2 h3 e1 sq hp hsa
        go_enter Try.func53, Try.ntmps53
        go_wp2_with fail
        refine (specNodeOk_any _ _ _ _ _ B C F.out HL.out).mono ?_
        rintro e w' ⟨rfl, rfl⟩
        rw [H1.out]
        go_wp2_with fail
        refine (specNodeOk_any _ _ _ _ _ B C F.out HL.out).mono ?_
        rintro e w' ⟨rfl, rfl⟩
        rw [H2.out]
        go_wp2_with fail
        refine (specSameAt_any a cap p n m _ B C F.out hC HL.out).mono ?_
        rintro e w1 ⟨rfl, hb⟩
        rw [HA.out]
        have HB1 := Lib.hid hb
        clear hb
        go_wp2_with fail
        go_loopw [8] (fun c wr => ∃ k : Nat, k ≤ heldN p n m ∧ c = .int .i64 k ∧ Below w.heap.size w wr) (fun c _ => heldN p n m - (intOf c).toNat)
        case atStart => exact ⟨0, Nat.zero_le _, rfl, HB1.out⟩
        case round =>
          obtain ⟨k, hk, rfl, hb⟩ := hrel
          have HB := Lib.hid hb
          clear hb HB1
          have e1 : ((k + 1 : Nat) : Int) = (k : Int) + 1 := by omega
          have hC2 := specLeftAfter_any a cap p ((k + 1 : Nat) : Int) wr B C (F.out.below HB.out hC) (Nat.le_trans hC HB.out.size) HL.out
          rw [leftR_pic HP.out (by omega), e1] at hC2
          have HC := Lib.hid hC2
          clear e1 hC2
          go_wp2_with fail
          refine HC.out.mono ?_
          intro e w2 hret
          obtain ⟨x, c, rfl, ho, hb1⟩ := hret.toM
          have HB2 := Lib.hid (HB.out.trans (hb1.mono HB.out.size))
          obtain ⟨b1, off1, b1', off1', c1', rfl, _, _, hc1, _, _, hd1⟩ := ho.rd.bit (mat_sq _ _) n m (by rw [mat_len]; exact hn) (by rw [mat_len]; exact hm)
          rw [mat_len] at hc1
          rw [mat_arr _ _ _ _ _ hn hm] at hd1
          clear ho hb1 hret
          cases hx : left p (k + 1) n m
          · have HX := Lib.hid hx
            rw [hx] at hd1
            simp only [Bool.false_eq_true, if_false] at hd1
            clear hx
            go_wp2_with fail
            go_ret2
            refine ⟨?_, HB2.out⟩
            have : k = heldN p n m := by
              obtain ⟨h1, h2, h3⟩ := heldN_apart H3.out
              rcases Nat.lt_or_ge k (heldN p n m) with h | h
              · have := h2 (k + 1) (by omega)
                rw [HX.out] at this; cases this
              · omega
            rw [E1.out, E2.out, ← this]; rfl
          · have HX := Lib.hid hx
            rw [hx] at hd1
            simp only [if_true] at hd1
            clear hx
            have hklt : k + 1 ≤ heldN p n m := by
              rcases Nat.lt_or_ge (heldN p n m) (k + 1) with h | h
              · have := (heldN_apart H3.out).2.2 (k + 1) h
                rw [HX.out] at this; cases this
              · exact h
            go_wp2_with fail
            go_roundw
            case rel => exact ⟨k + 1, hklt, by go_num, HB2.out⟩
            case measure => simp [intOf]; omega
      · have e1 : heldOk p n m = false := by unfold heldOk; rw [h1, h2]; simp [h3]
        have E1 := Lib.hid e1
        have E2 : Hid (heldI p n m = -1) := Lib.hid (by unfold heldI; rw [e1]; rfl)
        rw [h3] at hsa
        have HA := Lib.hid hsa
        clear h1 h2 h3 e1 sq hp hsa
        go_enter Try.func53, Try.ntmps53
        go_wp2_with fail
        refine (specNodeOk_any _ _ _ _ _ B C F.out HL.out).mono ?_
        rintro e w' ⟨rfl, rfl⟩
        rw [H1.out]
        go_wp2_with fail
        refine (specNodeOk_any _ _ _ _ _ B C F.out HL.out).mono ?_
        rintro e w' ⟨rfl, rfl⟩
        rw [H2.out]
        go_wp2_with fail
        refine (specSameAt_any a cap p n m _ B C F.out hC HL.out).mono ?_
        rintro e w1 ⟨rfl, hb⟩
        rw [HA.out]
        go_wp2_with fail
        go_ret2
        exact ⟨by rw [E1.out, E2.out]; rfl, hb⟩
end Go.Proofs.Ytgfoolneophkcaa
