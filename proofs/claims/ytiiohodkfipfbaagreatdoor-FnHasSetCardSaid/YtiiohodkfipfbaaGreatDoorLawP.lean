/- What the laws of least pictures say, in plain words. No program in sight. -/
import Derived.Test.YtiiohodkfipfbaaGreatDoorPutP
namespace Go.Hyp
/-! ### a least picture is the least of itself -/
theorem leastB_R {p : List (List Int)} {n : Int} (h : nodeB p n = true) : leastB (leastR p n) = true := by
  obtain ⟨i, rfl, hi, hp⟩ := nodeB_nat h
  rw [leastR_yes h]
  have := (joinedL_fit hi).len
  have := (picB_sq hp).2.2
  exact leastB_least hi (by omega)
theorem leastB_eq {x : List (List Int)} (h : leastB x = true) : leastR x 0 = x := by
  unfold leastB at h
  simp only [Bool.and_eq_true, decide_eq_true_eq] at h
  have e := leastR_yes (i := 0) (node0 h.1)
  exact e.trans h.2
/-! ### the members of the least picture are counted by its first row -/
theorem many_card {p : List (List Int)} {i : Nat} (h : nodeB p i = true) : manyI p i = (cardN p i : Int) := by
  unfold manyI cardN
  rw [if_pos h, Int.toNat_natCast]
theorem many_row {p : List (List Int)} {i : Nat} (h : nodeB p i = true) : ((arrL (leastR p i) 0 (leastR p i).length).length : Int) = manyI p i := by
  obtain ⟨i', e, hi, hp⟩ := nodeB_nat h
  obtain rfl : i = i' := by omega
  rw [many_card h, leastR_yes h]
  have hl := (picB_sq (leastR_pic h)).2.1
  rw [leastR_yes h] at hl
  have hr := leastC_red hi
  rw [← card_red (p := leastC p i) (i := 0) (by omega) (fun a b ha hb hs => hr a b ha hb hs), card_same (leastC_draws hi)]
/-! ### the kinds that are reached, each once -/
def kstep (S : List Int) (x : Int) : List Int := if x ∈ S then S else S ++ [x]
def kfold (R : List Int) : List Int := R.foldl kstep []
theorem kfold_snoc (R : List Int) (x : Int) : kfold (R ++ [x]) = kstep (kfold R) x := by unfold kfold; rw [List.foldl_append]; rfl
theorem kfold_is : ∀ R : List Int, (kfold R).Nodup ∧ ∀ x, x ∈ kfold R ↔ x ∈ R := by
  intro R
  induction R using rev_ind2 with
  | nil => exact ⟨by simp [kfold], fun x => by simp [kfold]⟩
  | snoc R y ih =>
    rw [kfold_snoc]
    unfold kstep
    split
    · rename_i h
      refine ⟨ih.1, fun x => ?_⟩
      rw [ih.2, List.mem_append]
      constructor
      · exact .inl
      · rintro (h1 | h1)
        · exact h1
        · simp at h1; subst h1; exact (ih.2 _).1 h
    · rename_i h
      refine ⟨?_, fun x => by rw [List.mem_append, List.mem_append, ih.2]⟩
      rw [List.nodup_append]
      refine ⟨ih.1, by simp, fun a ha b hb e => ?_⟩
      simp at hb
      subst hb
      subst e
      exact h ha
theorem kfold_le (R : List Int) : (kfold R).length ≤ R.length :=
  (kfold_is R).1.length_le_of_subset fun x hx => ((kfold_is R).2 x).1 hx
theorem kfold_joined {p : List (List Int)} {i : Nat} (hi : i < p.length) : (kfold ((reachL p i).map fun v => ((kind p v : Nat) : Int))).length = (joinedL p i).length := by
  have hf := joinedL_fit hi
  have hnd : ((joinedL p i).map fun v => ((kind p v : Nat) : Int)).Nodup := by
    rw [List.nodup_iff_pairwise_ne, List.pairwise_map, List.pairwise_iff_getElem]
    intro a b ha hb hab e
    have := hf.apart a b hab hb
    rw [getD_nat ha, getD_nat hb] at this
    exact this (by omega)
  have hk := kfold_is ((reachL p i).map fun v => ((kind p v : Nat) : Int))
  have h1 : (kfold ((reachL p i).map fun v => ((kind p v : Nat) : Int))).length ≤ ((joinedL p i).map fun v => ((kind p v : Nat) : Int)).length :=
    hk.1.length_le_of_subset fun x hx => by
      obtain ⟨v, hv, rfl⟩ := List.mem_map.1 ((hk.2 x).1 hx)
      obtain ⟨h2, h3⟩ := (reachL_mem hi).1 hv
      obtain ⟨a, ha, e⟩ := hf.all v h2 h3
      refine List.mem_map.2 ⟨(joinedL p i)[a], List.getElem_mem ha, ?_⟩
      rw [getD_nat ha] at e
      rw [e]
  have h2 : ((joinedL p i).map fun v => ((kind p v : Nat) : Int)).length ≤ (kfold ((reachL p i).map fun v => ((kind p v : Nat) : Int))).length :=
    hnd.length_le_of_subset fun x hx => by
      obtain ⟨v, hv, rfl⟩ := List.mem_map.1 hx
      refine (hk.2 _).2 (List.mem_map.2 ⟨v, ?_, rfl⟩)
      obtain ⟨a, ha, rfl⟩ := List.getElem_of_mem hv
      have := hf.node a ha
      rw [getD_nat ha] at this
      exact (reachL_mem hi).2 this
  rw [List.length_map] at h1 h2
  omega
/-! ### members of least pictures -/
theorem has_least {p q : List (List Int)} {a b : Int} (h1 : nodeB p a = true) (h2 : nodeB q b = true) : hasB (leastR p a) 0 (leastR q b) 0 = hasB p a q b := by
  obtain ⟨i, rfl, hi, hp⟩ := nodeB_nat h1
  obtain ⟨j, rfl, hj, hq⟩ := nodeB_nat h2
  have n1 := node0 (leastR_pic h1)
  have n2 := node0 (leastR_pic h2)
  have l2 := (picB_sq (leastR_pic h2)).2.1
  rw [hasB_yes h1 h2]
  have e := hasB_yes (p := leastR p i) (q := leastR q j) (i := 0) (j := 0) n1 n2
  refine Eq.trans e ?_
  rw [leastR_yes h1, leastR_yes h2] at *
  have d1 := leastC_draws hi
  have d2 := leastC_draws hj
  rw [Bool.eq_iff_iff, hasL_mem (by omega), hasL_mem hj]
  constructor
  · rintro ⟨v, hv, hs⟩
    obtain ⟨u, hu, hau, hus⟩ := d1.symm.to hv.1 hv.2
    exact ⟨u, ⟨hu, hau⟩, hus.symm.trans (hs.trans d2.symm)⟩
  · rintro ⟨v, hv, hs⟩
    obtain ⟨u, hu, hau, hus⟩ := d1.to hv.1 hv.2
    exact ⟨u, ⟨hu, hau⟩, hus.symm.trans (hs.trans d2)⟩
theorem same_least {p q : List (List Int)} {a b : Int} (h1 : nodeB p a = true) (h2 : nodeB q b = true) : decide (leastR p a = leastR q b) = sameSetB p a q b := by
  obtain ⟨i, rfl, hi, hp⟩ := nodeB_nat h1
  obtain ⟨j, rfl, hj, hq⟩ := nodeB_nat h2
  rw [Bool.eq_iff_iff, sameSetB_iff h1 h2, leastR_yes h1, leastR_yes h2, decide_eq_true_eq]
  have := (joinedL_fit hi).len
  have := (picB_sq hp).2.2
  exact leastC_same hi hj (by omega)
theorem same_draws {p : List (List Int)} {a : Int} (h1 : nodeB p a = true) : sameSetB p a (leastR p a) 0 = true := by
  obtain ⟨i, rfl, hi, hp⟩ := nodeB_nat h1
  have n1 := node0 (leastR_pic h1)
  have e := (sameSetB_iff (p := p) (q := leastR p i) (i := i) (j := 0) h1 n1).2 (by rw [leastR_yes h1]; exact leastC_draws hi)
  exact e
end Go.Hyp
