/- Orders found by placing one node after another: all that begin with the first node, and the best of them. No program in sight. -/
import Derived.Test.YtiiohodkfipfbaaGreatDoorCanonP
namespace Go.Hyp
/-- All orders of n nodes that begin so, with k nodes to come. -/
def comp (n : Nat) : Nat → List Int → List (List Int)
  | 0, o => [o]
  | k + 1, o => (List.range n).flatMap fun v => if ((v : Nat) : Int) ∈ o then [] else comp n k (o ++ [((v : Nat) : Int)])
/-- Those of them whose next node is below t. -/
def compU (n k : Nat) (o : List Int) (t : Nat) : List (List Int) := (List.range t).flatMap fun v => if ((v : Nat) : Int) ∈ o then [] else comp n k (o ++ [((v : Nat) : Int)])
theorem comp_zero (n : Nat) (o : List Int) : comp n 0 o = [o] := rfl
theorem comp_succ (n k : Nat) (o : List Int) : comp n (k + 1) o = compU n k o n := rfl
theorem compU_zero (n k : Nat) (o : List Int) : compU n k o 0 = [] := rfl
theorem compU_yes {n k t : Nat} {o : List Int} (h : ((t : Nat) : Int) ∈ o) : compU n k o (t + 1) = compU n k o t := by
  unfold compU
  rw [List.range_succ, List.flatMap_append]
  simp [h]
theorem compU_no {n k t : Nat} {o : List Int} (h : ¬ ((t : Nat) : Int) ∈ o) : compU n k o (t + 1) = compU n k o t ++ comp n k (o ++ [((t : Nat) : Int)]) := by
  unfold compU
  rw [List.range_succ, List.flatMap_append]
  simp [h]
theorem best_app (x b : List (List Int)) (O Q : List (List Int)) : (O ++ Q).foldl (better x) b = Q.foldl (better x) (O.foldl (better x) b) := List.foldl_append
/-- A beginning of an order. -/
def PartO (o : List Int) (n : Nat) : Prop := o.Nodup ∧ ∀ x ∈ o, ∃ v : Nat, x = v ∧ v < n
theorem PartO.snoc {o : List Int} {n v : Nat} (h : PartO o n) (hv : v < n) (hn : ¬ ((v : Nat) : Int) ∈ o) : PartO (o ++ [((v : Nat) : Int)]) n := by
  refine ⟨?_, fun x hx => ?_⟩
  · rw [List.nodup_append]
    refine ⟨h.1, by simp, fun a ha b hb e => ?_⟩
    simp at hb
    subst hb
    subst e
    exact hn ha
  · rcases List.mem_append.1 hx with h1 | h1
    · exact h.2 x h1
    · simp at h1; exact ⟨v, h1, hv⟩
theorem PartO.one {n : Nat} (hn : 1 ≤ n) : PartO [0] n := ⟨by simp, fun x hx => by simp at hx; exact ⟨0, hx, by omega⟩⟩
theorem comp_mem {n : Nat} : ∀ (k : Nat) (o : List Int), PartO o n → o.length + k = n → 1 ≤ o.length → o.getD 0 0 = 0 → ∀ q, q ∈ comp n k o ↔ Ord0 q n ∧ o <+: q := by
  intro k
  induction k with
  | zero =>
    intro o ho hl h1 h0 q
    rw [comp_zero, List.mem_singleton]
    constructor
    · rintro rfl
      refine ⟨⟨isOrd_iff.2 ⟨by omega, fun i hi => ?_, ho.1⟩, h0⟩, List.prefix_refl _⟩
      obtain ⟨v, e, hv⟩ := ho.2 (q[i]'(by omega)) (List.getElem_mem _)
      exact ⟨v, by rw [getD_lt (by omega)]; exact e, hv⟩
    · rintro ⟨hq, hp⟩
      have := (isOrd_iff.1 hq.1).1
      exact (List.IsPrefix.eq_of_length hp (by omega)).symm
  | succ k ih =>
    intro o ho hl h1 h0 q
    rw [comp_succ]
    unfold compU
    rw [List.mem_flatMap]
    constructor
    · rintro ⟨v, hv, hq⟩
      rw [List.mem_range] at hv
      by_cases hm : ((v : Nat) : Int) ∈ o
      · rw [if_pos hm] at hq; simp at hq
      · rw [if_neg hm] at hq
        have := (ih (o ++ [((v : Nat) : Int)]) (ho.snoc hv hm) (by simp; omega) (by simp) (by rw [getD_lt (by simp)]; rw [getD_lt (by omega)] at h0; rw [List.getElem_append_left (by omega)]; exact h0) q).1 hq
        exact ⟨this.1, (List.prefix_append _ _).trans this.2⟩
    · rintro ⟨hq, r, rfl⟩
      obtain ⟨hql, hqr, hqn⟩ := isOrd_iff.1 hq.1
      rw [List.length_append] at hql
      cases r with
      | nil => simp at hql; omega
      | cons x r =>
        obtain ⟨v, e, hv⟩ := hqr o.length (by omega)
        have ex : x = v := by
          rw [getD_lt (by simp)] at e
          rw [List.getElem_append_right (Nat.le_refl _)] at e
          simpa using e
        subst ex
        have hm : ¬ ((v : Nat) : Int) ∈ o := fun h => by
          rw [List.nodup_append] at hqn
          exact hqn.2.2 _ h _ (by simp) rfl
        refine ⟨v, List.mem_range.2 hv, ?_⟩
        rw [if_neg hm]
        refine (ih (o ++ [((v : Nat) : Int)]) (ho.snoc hv hm) (by simp; omega) (by simp) (by rw [getD_lt (by simp)]; rw [getD_lt (by omega)] at h0; rw [List.getElem_append_left (by omega)]; exact h0) _).2 ⟨hq, ?_⟩
        exact ⟨r, by simp⟩
/-- The best of all orders that begin with the first node. -/
def placeL (x : List (List Int)) : List (List Int) := (comp x.length (x.length - 1) [0]).foldl (better x) x
theorem placeL_least {x : List (List Int)} (hs : Sq x) (h1 : 1 ≤ x.length) : Least x (placeL x) := by
  have hmem := comp_mem (n := x.length) (x.length - 1) [0] (PartO.one h1) (by simp; omega) (by simp) rfl
  have h := fold_best x (comp x.length (x.length - 1) [0])
  refine ⟨?_, fun o ho => h.2 o ((hmem o).2 ⟨ho, ?_⟩)⟩
  · rcases h.1 with h2 | ⟨o, ho, h2⟩
    · exact ⟨idO x.length, idO_ord h1, by unfold placeL; rw [h2, reord_id hs]⟩
    · exact ⟨o, ((hmem o).1 ho).1, h2⟩
  · have hl := (isOrd_iff.1 ho.1).1
    cases o with
    | nil => simp at hl; omega
    | cons y r =>
      have : y = 0 := by have := ho.2; simpa using this
      subst this
      exact ⟨r, rfl⟩
theorem best_sq {x b : List (List Int)} (hb : Sq b ∧ b.length = x.length) : ∀ O : List (List Int), Sq (O.foldl (better x) b) ∧ (O.foldl (better x) b).length = x.length := by
  intro O
  induction O using rev_ind2 with
  | nil => exact hb
  | snoc O o ih =>
    have e : (O ++ [o]).foldl (better x) b = better x (O.foldl (better x) b) o := by rw [List.foldl_append]; rfl
    rw [e]
    unfold better
    split
    · exact ⟨reordL_sq _ _, reordL_len _ _⟩
    · exact ih
end Go.Hyp
