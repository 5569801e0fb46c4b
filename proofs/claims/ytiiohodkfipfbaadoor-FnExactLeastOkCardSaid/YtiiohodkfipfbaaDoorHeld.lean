/- How long two nodes hold: both ways of finding it. -/
import Derived.Test.YtiiohodkfipfbaaDoorLeftS
namespace Go.Hyp
open Go.RowKit Go.Deep
/-- Two nodes, told by numbers, draw the same set. -/
def sameAtB (p : List (List Int)) (a b : Int) : Bool := nodeB p a && nodeB p b && simB p a.toNat b.toNat
/-- How long two nodes hold; 1000 for ever. -/
def heldN (p : List (List Int)) (a b : Nat) : Nat := ((List.range (p.length + 1)).find? fun r => !left p (r + 1) a b).getD 1000
theorem heldN_sim {p : List (List Int)} {a b : Nat} (ha : a < p.length) (hb : b < p.length) (h : simB p a b = true) : heldN p a b = 1000 ∧ ∀ r, left p r a b = true := by
  have key : ∀ r, left p r a b = true := fun r => same_left ((simB_iff ha hb).1 h) r
  refine ⟨?_, key⟩
  unfold heldN
  rw [List.find?_eq_none.2 (fun r _ => by simp [key])]
  rfl
theorem heldN_apart {p : List (List Int)} {a b : Nat} (h : simB p a b = false) : heldN p a b < p.length ∧ (∀ r, r ≤ heldN p a b → left p r a b = true) ∧ ∀ r, heldN p a b < r → left p r a b = false := by
  have hpos : 0 < p.length := by
    rcases Nat.eq_zero_or_pos p.length with e | e
    · unfold simB at h; rw [e] at h; cases h
    · exact e
  have hf : ∃ r, (List.range (p.length + 1)).find? (fun r => !left p (r + 1) a b) = some r := by
    cases e : (List.range (p.length + 1)).find? fun r => !left p (r + 1) a b with
    | some r => exact ⟨r, rfl⟩
    | none =>
      rw [List.find?_eq_none] at e
      have := e (p.length - 1) (by simp; omega)
      rw [show p.length - 1 + 1 = p.length by omega] at this
      unfold simB at h
      rw [h] at this; simp at this
  obtain ⟨r, hr⟩ := hf
  have e : heldN p a b = r := by unfold heldN; rw [hr]; rfl
  rw [List.find?_range_eq_some] at hr
  obtain ⟨h1, h2, h3⟩ := hr
  have hfalse : left p (r + 1) a b = false := by simpa using h1
  rw [e]
  refine ⟨?_, fun m hm => ?_, fun m hm => ?_⟩
  · rcases Nat.lt_or_ge r p.length with h' | h'
    · exact h'
    · have := h3 (p.length - 1) (by omega)
      rw [show p.length - 1 + 1 = p.length by omega] at this
      unfold simB at h
      rw [h] at this; simp at this
  · cases m with
    | zero => rfl
    | succ m => simpa using h3 m (by omega)
  · cases hx : left p m a b
    · rfl
    · have := left_anti (r := r + 1) (by omega) hx
      rw [hfalse] at this; cases this
/-- What HeldFor answers. -/
def heldOk (p : List (List Int)) (a b : Int) : Bool := nodeB p a && nodeB p b && !simB p a.toNat b.toNat
def heldI (p : List (List Int)) (a b : Int) : Int := if heldOk p a b = true then (heldN p a.toNat b.toNat : Int) else -1
theorem nodeB_nat {p : List (List Int)} {a : Int} (h : nodeB p a = true) : ∃ n : Nat, a = n ∧ n < p.length ∧ picB p = true := by
  unfold nodeB at h
  simp only [Bool.and_eq_true, decide_eq_true_eq] at h
  obtain ⟨n, rfl⟩ := Int.eq_ofNat_of_zero_le h.1.2
  exact ⟨n, rfl, by omega, h.1.1⟩
theorem nodeB_of {p : List (List Int)} {n : Nat} (h : picB p = true) (hn : n < p.length) : nodeB p n = true := by
  unfold nodeB; rw [h]; simp; exact hn
theorem leftR_pic {p : List (List Int)} {r : Nat} (h : picB p = true) (hr : r ≤ 30) : leftR p r = mat p.length p.length (left p r) := by
  unfold leftR
  rw [h, if_pos (by simp; omega)]
  rfl
theorem leftR_no {p : List (List Int)} {r : Int} (h : picB p = false) : leftR p r = [] := by unfold leftR; rw [h]; rfl
end Go.Hyp
namespace Go.Proofs.YtiiohodkfipfbaaDoor
open Go.RowKit Go.Hyp Go.Deep

set_option maxHeartbeats 400000 in
theorem specSameAt_any (a : Option Addr) (cap : Nat) (p : List (List Int)) (i j : Int) (w : World) (B C : Nat) (h : RdII w B C a p) (hC : C ≤ w.heap.size) (hl : p.length ≤ maxLen) :
    Calls Tryd.prog 57 #[.slice a p.length cap, .int .i64 i, .int .i64 j] w fun e w' => e = .returned (.bool (sameAtB p i j)) ∧ Below w.heap.size w w' := by
  have F := Lib.hid h
  have HL := Lib.hid hl
  unfold maxLen at hl
  clear h
  cases hp : picB p
  · have HP := Lib.hid hp
    clear hp
    have HD : Hid ((decide (0 ≤ i) && decide (i ≤ -1)) = false) := Lib.hid (by rw [Bool.and_eq_false_iff]; simp; omega)
    have hA := specSameRows_any a cap p w B C F.out hC HL.out
    rw [leftR_no HP.out] at hA
    have HA := Lib.hid hA
    clear hA
    go_enter Tryd.func57, Tryd.ntmps57
    go_wp2_with fail
    refine HA.out.mono ?_
    rintro e w1 ⟨x, c, rfl, ho, hb⟩
    clear ho
    go_wp2_with (go_at_call 61; refine (l1In_any _ _ _ _).mono ?_; rintro e w' ⟨rfl, rfl⟩; rw [HD.out])
    go_ret
    exact ⟨ret_bool (by unfold sameAtB nodeB; rw [HP.out]; rfl), hb⟩
  · have HP := Lib.hid hp
    obtain ⟨sq, s1, s5⟩ := picB_sq hp
    have hA := specSameRows_any a cap p w B C F.out hC HL.out
    rw [leftR_pic hp (by omega)] at hA
    have HA := Lib.hid hA
    clear hA hp sq
    have hcase : (decide (0 ≤ i) && decide (i ≤ (p.length : Int) - 1)) = false ∨ ((decide (0 ≤ i) && decide (i ≤ (p.length : Int) - 1)) = true ∧ (decide (0 ≤ j) && decide (j ≤ (p.length : Int) - 1)) = false) ∨
      ((decide (0 ≤ i) && decide (i ≤ (p.length : Int) - 1)) = true ∧ (decide (0 ≤ j) && decide (j ≤ (p.length : Int) - 1)) = true) := by
      cases (decide (0 ≤ i) && decide (i ≤ (p.length : Int) - 1)) <;> cases (decide (0 ≤ j) && decide (j ≤ (p.length : Int) - 1)) <;> simp
    have key : ∀ i : Int, (decide (0 ≤ i) && decide (i ≤ (p.length : Int) - 1)) = nodeB p i := fun i => by
      unfold nodeB; rw [HP.out, Bool.true_and]; congr 1; rw [Bool.eq_iff_iff]; simp; omega
    have HK := Lib.hid key
    clear key
    rcases hcase with h1 | ⟨h1, h2⟩ | ⟨h1, h2⟩
    · have H1 := Lib.hid h1
      clear h1
      go_enter Tryd.func57, Tryd.ntmps57
      go_wp2_with fail
      refine HA.out.mono ?_
      intro e w1 hret
      obtain ⟨x, c, rfl, ho, hb⟩ := hret.toM
      clear hret ho
      go_wp2_with (go_at_call 61; refine (l1In_any _ _ _ _).mono ?_; rintro e w' ⟨rfl, rfl⟩; rw [H1.out])
      go_ret
      exact ⟨ret_bool (by unfold sameAtB; rw [← HK.out i, H1.out]; rfl), hb⟩
    · have H1 := Lib.hid h1
      have H2 := Lib.hid h2
      clear h1 h2
      go_enter Tryd.func57, Tryd.ntmps57
      go_wp2_with fail
      refine HA.out.mono ?_
      intro e w1 hret
      obtain ⟨x, c, rfl, ho, hb⟩ := hret.toM
      clear hret ho
      go_wp2_with fail
      refine (l1In_any _ _ _ _).mono ?_
      rintro e w' ⟨rfl, rfl⟩
      rw [H1.out]
      go_wp2_with fail
      refine (l1In_any _ _ _ _).mono ?_
      rintro e w' ⟨rfl, rfl⟩
      rw [H2.out]
      go_wp2_with fail
      go_ret
      exact ⟨ret_bool (by unfold sameAtB; rw [← HK.out j, H2.out]; simp), hb⟩
    · obtain ⟨n, rfl, hn, _⟩ := nodeB_nat ((HK.out i).symm.trans h1)
      obtain ⟨m, rfl, hm, _⟩ := nodeB_nat ((HK.out j).symm.trans h2)
      have H1 := Lib.hid h1
      have H2 := Lib.hid h2
      have hni : (n : Int) < (p.length : Int) := by omega
      have hmi : (m : Int) < (p.length : Int) := by omega
      clear h1 h2
      go_enter Tryd.func57, Tryd.ntmps57
      go_wp2_with fail
      refine HA.out.mono ?_
      intro e w1 hret
      obtain ⟨x, c, rfl, ho, hb⟩ := hret.toM
      obtain ⟨b1, off1, b1', off1', c1', rfl, _, _, hc1, _, _, hd1⟩ := ho.rd.bit (mat_sq _ _) n m (by rw [mat_len]; exact hn) (by rw [mat_len]; exact hm)
      rw [mat_len] at hc1
      rw [mat_arr _ _ _ _ _ hn hm] at hd1
      clear hret ho
      cases hx : left p p.length n m
      all_goals
        have HX := Lib.hid hx
        rw [hx] at hd1
        simp only [Bool.false_eq_true, if_false, if_true] at hd1
        clear hx
        go_wp2_with fail
        refine (l1In_any _ _ _ _).mono ?_
        rintro e w' ⟨rfl, rfl⟩
        rw [H1.out]
        go_wp2_with fail
        refine (l1In_any _ _ _ _).mono ?_
        rintro e w' ⟨rfl, rfl⟩
        rw [H2.out]
        go_wp2_with fail
        go_ret
        exact ⟨ret_bool (by unfold sameAtB; rw [← HK.out n, ← HK.out m, H1.out, H2.out]; unfold simB; rw [Int.toNat_natCast, Int.toNat_natCast, HX.out]; rfl), hb⟩

end Go.Proofs.YtiiohodkfipfbaaDoor
