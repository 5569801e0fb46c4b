/- Joined pictures, as the reference finds them: spec.l4Part, spec.JoinedOf. -/
import Derived.Test.YtgfoolneophkcaaJoinP
import Derived.Test.YtgfoolneophkcaaKindS
import Derived.Test.YtgfoolneophkcaaReachS
import Derived.Test.YtgfoolneophkcaaMark
import Derived.Test.YtgfoolneophkcaaPick
namespace Go.Hyp
open Go.RowKit Go.Deep
/-- A list of nodes as numbers. -/
def natL (l : List Nat) : List Int := l.map Int.ofNat
theorem natL_len (l : List Nat) : (natL l).length = l.length := by simp [natL]
theorem natL_get {l : List Nat} {k : Nat} (h : k < (natL l).length) : (natL l)[k] = ((l.getD k 0 : Nat) : Int) := by
  have h' : k < l.length := by rwa [natL_len] at h
  rw [getD_nat h']
  simp [natL]
theorem natL_snoc (l : List Nat) (v : Nat) : natL (l ++ [v]) = natL l ++ [(v : Int)] := by simp [natL]
theorem natL_of {L : List Int} (h : ∀ x ∈ L, ∃ v : Nat, x = v) : natL (L.map Int.toNat) = L := by
  unfold natL
  rw [List.map_map]
  have : ∀ x ∈ L, (Int.ofNat ∘ Int.toNat) x = x := fun x hx => by
    obtain ⟨v, rfl⟩ := h x hx
    simp
  exact (List.map_congr_left this).trans (List.map_id L)
/-- Some of the first j nodes is a member of u, and of v's kind. -/
def arrKn (p : List (List Int)) (u v j : Nat) : Bool := (List.range j).any fun x => arr p u x && (kind p x == kind p v)
theorem arrKn_all (p : List (List Int)) (u v : Nat) : arrKn p u v p.length = arrK p u v := rfl
theorem arrKn_zero (p : List (List Int)) (u v : Nat) : arrKn p u v 0 = false := rfl
theorem arrKn_succ (p : List (List Int)) (u v j : Nat) : arrKn p u v (j + 1) = (arrKn p u v j || (arr p u j && (kind p j == kind p v))) := by
  unfold arrKn; rw [List.range_succ, List.any_append]; simp
/-- The row of u, behind j nodes and m places of the next. -/
def partF (p : List (List Int)) (l : List Nat) (u j m : Nat) (x : Nat) : Bool := arrKn p u (l.getD x 0) (if x < m then j + 1 else j)
theorem partF_put {p : List (List Int)} {l : List Nat} {u j m : Nat} (h : (arr p u j && (kind p j == kind p (l.getD m 0))) = true) (n : Nat) (hm : m < n) : (rowOf n (partF p l u j m)).set m 1 = rowOf n (partF p l u j (m + 1)) := by
  apply List.ext_getElem
  · rw [List.length_set, rowOf_len, rowOf_len]
  · intro x h1 h2
    rw [List.length_set, rowOf_len] at h1
    rw [List.getElem_set, rowOf_get, rowOf_get]
    by_cases e : m = x
    · subst e
      have : partF p l u j (m + 1) m = true := by
        unfold partF
        rw [if_pos (by omega), arrKn_succ, h]; simp
      rw [if_pos rfl, this]; rfl
    · rw [if_neg e]
      have : partF p l u j m x = partF p l u j (m + 1) x := by
        unfold partF
        by_cases e2 : x < m
        · rw [if_pos e2, if_pos (by omega)]
        · rw [if_neg e2, if_neg (by omega)]
      rw [this]
theorem partF_stay {p : List (List Int)} {l : List Nat} {u j m : Nat} (h : (arr p u j && (kind p j == kind p (l.getD m 0))) = false) (n : Nat) : rowOf n (partF p l u j m) = rowOf n (partF p l u j (m + 1)) := by
  refine rowOf_congr fun x _ => ?_
  unfold partF
  by_cases e : x = m
  · subst e
    rw [if_neg (by omega), if_pos (by omega), arrKn_succ, h]; simp
  · by_cases e2 : x < m
    · rw [if_pos e2, if_pos (by omega)]
    · rw [if_neg e2, if_neg (by omega)]
theorem partF_next (p : List (List Int)) (l : List Nat) (u j : Nat) (n : Nat) : rowOf n (partF p l u j n) = rowOf n (partF p l u (j + 1) 0) := by
  refine rowOf_congr fun x hx => ?_
  unfold partF
  rw [if_pos hx, if_neg (by omega)]
theorem partF_start (p : List (List Int)) (l : List Nat) (u n : Nat) : rowOf n (partF p l u 0 0) = rowOf n fun _ => false := by
  refine rowOf_congr fun x _ => ?_
  unfold partF
  rw [if_neg (by omega), arrKn_zero]
theorem partF_end (p : List (List Int)) (l : List Nat) (k : Nat) : rowOf l.length (partF p l (l.getD k 0) p.length 0) = rowOf l.length fun b => arrK p (l.getD k 0) (l.getD b 0) := by
  refine rowOf_congr fun x _ => ?_
  unfold partF
  rw [if_neg (by omega), arrKn_all]
/-- The nodes that are reached, by counting. -/
def reachL (p : List (List Int)) (i : Nat) : List Nat := (List.range p.length).filter (reaN p i p.length)
theorem reachL_mem {p : List (List Int)} {i v : Nat} (hi : i < p.length) : v ∈ reachL p i ↔ v < p.length ∧ Rea p i v := by
  unfold reachL
  rw [List.mem_filter, List.mem_range]
  exact ⟨fun h => ⟨h.1, _, h.2⟩, fun h => ⟨h.1, reaN_full hi h.1 h.2⟩⟩
theorem reachL_is {p : List (List Int)} {i : Nat} (hi : i < p.length) : IsReach p i (natL (reachL p i)) := by
  refine ⟨?_, fun x => ?_⟩
  · unfold natL reachL
    rw [List.pairwise_map]
    exact (List.pairwise_lt_range.filter _).imp (fun h => by show (Int.ofNat _) < (Int.ofNat _); simpa using h)
  · unfold natL
    rw [List.mem_map]
    constructor
    · rintro ⟨v, hv, rfl⟩
      obtain ⟨h1, h2⟩ := (reachL_mem hi).1 hv
      exact ⟨v, rfl, h1, h2⟩
    · rintro ⟨v, rfl, h1, h2⟩
      exact ⟨v, (reachL_mem hi).2 ⟨h1, h2⟩, rfl⟩
theorem IsReach.pos2 {p : List (List Int)} {i : Nat} {L : List Int} (h : IsReach p i L) (hi : i < p.length) : 0 < L.length := by
  have := (h.2 (i : Int)).2 ⟨i, rfl, hi, Rea.refl p i⟩
  cases L with
  | nil => simp at this
  | cons _ _ => simp
/-- One node of each kind that is reached. -/
def joinedL (p : List (List Int)) (i : Nat) : List Nat := jfold p i (reachL p i)
theorem joinedL_fit {p : List (List Int)} {i : Nat} (hi : i < p.length) : Fit p i (joinedL p i) := jfold_fit hi fun _ => reachL_mem hi
/-- What JoinedOf answers. -/
def joinedR (p : List (List Int)) (n : Int) : List (List Int) := if nodeB p n = true then joinM p (joinedL p n.toNat) else []
theorem joinedR_no {p : List (List Int)} {n : Int} (h : nodeB p n = false) : joinedR p n = [] := by unfold joinedR; rw [h]; rfl
theorem joinedR_yes {p : List (List Int)} {i : Nat} (h : nodeB p i = true) : joinedR p i = joinM p (joinedL p i) := by unfold joinedR; rw [h]; rfl
theorem joinedOf_small (p : List (List Int)) (n : Int) : (joinedR p n).length ≤ 1048576 ∧ lens (joinedR p n) ≤ 1048576 := by
  cases h : nodeB p n
  · rw [joinedR_no h]; exact ⟨by simp, by show 0 ≤ _; omega⟩
  · obtain ⟨i, rfl, hi, hp⟩ := nodeB_nat h
    rw [joinedR_yes h]
    have := (joinedL_fit hi).len
    have := (picB_sq hp).2.2
    exact mat_small _ (by omega)
/-- The walk of the list: no earlier node is of v's kind. -/
def frshB (p : List (List Int)) (l : List Nat) (v j : Nat) : Bool := (l.take j).all fun u => !(kind p u == kind p v)
theorem frshB_succ {p : List (List Int)} {l : List Nat} {v j : Nat} (h : j < l.length) : frshB p l v (j + 1) = (frshB p l v j && !(kind p (l.getD j 0) == kind p v)) := by
  unfold frshB
  rw [List.take_succ_eq_append_getElem h, List.all_append, getD_nat h]
  simp
theorem jstep_fresh {p : List (List Int)} {l : List Nat} {v : Nat} : jstep p l v = if frshB p l v l.length = true then l ++ [v] else l := by
  unfold jstep frshB
  rw [List.take_of_length_le (Nat.le_refl _)]
  have e : (l.all fun u => !(kind p u == kind p v)) = !(l.any fun u => kind p u == kind p v) := by rw [List.not_any_eq_all_not]
  rw [e]
  cases l.any fun u => kind p u == kind p v <;> rfl
end Go.Hyp
namespace Go.Proofs.Ytgfoolneophkcaa
open Go.RowKit Go.Hyp Go.Deep

end Go.Proofs.Ytgfoolneophkcaa
