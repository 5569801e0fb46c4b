/- The least picture at a node, as a list; which sets it draws, and that it tells them apart. No program in sight. -/
import Derived.Test.YtfjodcfbhpglhaaM13
import Derived.Test.YtfjodcfbhpglhaaM14
namespace Go.Hyp
/-- The least picture of the set at a node. -/
def leastC (p : List (List Int)) (i : Nat) : List (List Int) := leastL (joinM p (joinedL p i))
/-- What LeastOf answers. -/
def leastR (p : List (List Int)) (n : Int) : List (List Int) := if nodeB p n = true then leastC p n.toNat else []
theorem leastR_no {p : List (List Int)} {n : Int} (h : nodeB p n = false) : leastR p n = [] := by unfold leastR; rw [h]; rfl
theorem leastR_yes {p : List (List Int)} {i : Nat} (h : nodeB p i = true) : leastR p i = leastC p i := by unfold leastR; rw [h]; rfl
theorem joined_pos {p : List (List Int)} {i : Nat} (hi : i < p.length) : 1 ≤ (joinM p (joinedL p i)).length := by rw [joinM_len]; exact (joinedL_fit hi).pos
theorem leastC_is {p : List (List Int)} {i : Nat} (hi : i < p.length) : Least (joinM p (joinedL p i)) (leastC p i) := leastL_least (joinM_sq _ _) (joined_pos hi)
theorem leastC_eq {p : List (List Int)} {i : Nat} {l : List Nat} {y : List (List Int)} (hi : i < p.length) (h10 : l.length ≤ 10) (hl : Fit p i l) (hy : Least (joinM p l) y) : y = leastC p i :=
  (least_same2 hi hi h10 hl (joinedL_fit hi) hy (leastC_is hi)).2 (Same.refl hi)
theorem leastC_same {p q : List (List Int)} {i j : Nat} (hi : i < p.length) (hj : j < q.length) (h10 : (joinedL p i).length ≤ 10) : leastC p i = leastC q j ↔ Same p i q j :=
  least_same2 hi hj h10 (joinedL_fit hi) (joinedL_fit hj) (leastC_is hi) (leastC_is hj)
theorem leastC_len {p : List (List Int)} {i : Nat} (hi : i < p.length) : (leastC p i).length = (joinedL p i).length := by rw [(leastC_is hi).len.1, joinM_len]
theorem leastC_sq {p : List (List Int)} {i : Nat} (hi : i < p.length) : Sq (leastC p i) := (leastC_is hi).len.2
theorem leastC_draws {p : List (List Int)} {i : Nat} (hi : i < p.length) : Same p i (leastC p i) 0 := ((joinedL_fit hi).first hi).trans ((leastC_is hi).same (joined_pos hi))
theorem leastC_red {p : List (List Int)} {i : Nat} (hi : i < p.length) : Red (leastC p i) := by
  obtain ⟨⟨o, ho, e⟩, _⟩ := leastC_is hi
  rw [e]
  exact reord_red ho.1 (joinedL_fit hi).red
theorem leastC_acc {p : List (List Int)} {i : Nat} (hi : i < p.length) : Acc (leastC p i) := by
  obtain ⟨⟨o, ho, e⟩, _⟩ := leastC_is hi
  rw [e]
  exact reord_acc ho ((joinedL_fit hi).acc hi) (joined_pos hi)
theorem leastC_pic {p : List (List Int)} {i : Nat} (hi : i < p.length) (h5 : (joinedL p i).length ≤ 5) : picB (leastC p i) = true :=
  sq_picB (leastC_sq hi) (by rw [leastC_len hi]; exact (joinedL_fit hi).pos) (by rw [leastC_len hi]; exact h5)
theorem joined_same_len {p q : List (List Int)} {i j : Nat} (hi : i < p.length) (hj : j < q.length) (h : Same p i q j) : (joinedL p i).length = (joinedL q j).length := fit_len hi hj (joinedL_fit hi) (joinedL_fit hj) h
theorem leastR_len {p : List (List Int)} {n : Int} : (leastR p n).length ≤ 5 := by
  cases h : nodeB p n
  · rw [leastR_no h]; exact Nat.zero_le _
  · obtain ⟨i, rfl, hi, hp⟩ := nodeB_nat h
    rw [leastR_yes h, leastC_len hi]
    have := (joinedL_fit hi).len
    have := (picB_sq hp).2.2
    omega
theorem leastR_pic {p : List (List Int)} {n : Int} (h : nodeB p n = true) : picB (leastR p n) = true := by
  obtain ⟨i, rfl, hi, hp⟩ := nodeB_nat h
  rw [leastR_yes h]
  have := (joinedL_fit hi).len
  have := (picB_sq hp).2.2
  exact leastC_pic hi (by omega)
theorem sq_small {x : List (List Int)} (hs : Sq x) (h5 : x.length ≤ 5) : x.length ≤ 1048576 ∧ lens x ≤ 1048576 := by
  rw [hs.eq_mat]
  exact mat_small _ h5
theorem leastOf_small (p : List (List Int)) (n : Int) : (leastR p n).length ≤ 1048576 ∧ lens (leastR p n) ≤ 1048576 := by
  cases h : nodeB p n
  · rw [leastR_no h]; exact ⟨by simp, by show 0 ≤ _; omega⟩
  · have h1 := picB_sq (leastR_pic h)
    exact sq_small h1.1 h1.2.2
/-- Whether both sets are the same, as the statements say it. -/
def sameSetB (p : List (List Int)) (a : Int) (q : List (List Int)) (b : Int) : Bool := nodeB p a && nodeB q b && sameB p a.toNat q b.toNat
theorem sameSetB_iff {p q : List (List Int)} {i j : Nat} (h1 : nodeB p i = true) (h2 : nodeB q j = true) : sameSetB p i q j = true ↔ Same p i q j := by
  obtain ⟨_, e1, hi, _⟩ := nodeB_nat h1
  obtain ⟨_, e2, hj, _⟩ := nodeB_nat h2
  unfold sameSetB
  rw [h1, h2, Int.toNat_natCast, Int.toNat_natCast]
  simp only [Bool.true_and]
  exact sameB_iff (by omega) (by omega)
theorem sameSetB_no1 {p q : List (List Int)} {a b : Int} (h : nodeB p a = false) : sameSetB p a q b = false := by unfold sameSetB; rw [h]; rfl
theorem sameSetB_no2 {p q : List (List Int)} {a b : Int} (h : nodeB q b = false) : sameSetB p a q b = false := by unfold sameSetB; rw [h, Bool.and_false]; rfl
/-- Both least pictures have one text exactly if they draw the same set. -/
theorem least_text {p q : List (List Int)} {i j : Nat} (h1 : nodeB p i = true) (h2 : nodeB q j = true) :
    ((leastC p i).length = (leastC q j).length ∧ textP (leastC p i) = textP (leastC q j)) ↔ sameSetB p i q j = true := by
  rw [sameSetB_iff h1 h2]
  obtain ⟨i', e1, hi, hp⟩ := nodeB_nat h1
  obtain ⟨j', e2, hj, hq⟩ := nodeB_nat h2
  have hi : i < p.length := by omega
  have hj : j < q.length := by omega
  have := (joinedL_fit hi).len
  have := (picB_sq hp).2.2
  rw [← leastC_same hi hj (by omega)]
  constructor
  · rintro ⟨h3, h4⟩
    exact textP_inj (leastC_sq hi) (leastC_sq hj) h3 (by rw [leastC_len hi]; omega) h4
  · intro h; rw [h]; exact ⟨rfl, rfl⟩
end Go.Hyp
