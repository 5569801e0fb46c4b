/- Joined pictures, as the program finds them: impl.joinedOf, impl.JoinedOf. -/
import Derived.Deep.RegionLaw
import Derived.Deep.RegionHeld3
import Derived.StillTailTactics
import Derived.Test.YtfjodcfbhpglhaaM14
import Derived.Test.YtfjodcfbhpglhaaM3
namespace Go.Hyp
open Go.RowKit Go.Deep
/-- Lists that begin with nodes of one kind go on alike. -/
theorem jfold_kinds {p : List (List Int)} {i i0 : Nat} (h : kind p i0 = kind p i) : ∀ R, (jfold p i0 R).map (kind p) = (jfold p i R).map (kind p) := by
  intro R
  induction R using rev_ind2 with
  | nil => simp [jfold, h]
  | snoc R v ih =>
    rw [jfold_snoc, jfold_snoc]
    have e : ((jfold p i0 R).any fun u => kind p u == kind p v) = ((jfold p i R).any fun u => kind p u == kind p v) := by
      have h1 : ∀ l : List Nat, (l.any fun u => kind p u == kind p v) = ((l.map (kind p)).any fun x => x == kind p v) := fun l => by rw [List.any_map]; rfl
      rw [h1, h1, ih]
    unfold jstep
    rw [e]
    split
    · exact ih
    · rw [List.map_append, List.map_append, ih]
theorem joinM_kinds {p : List (List Int)} {l m : List Nat} (h : l.map (kind p) = m.map (kind p)) (hl : ∀ a, a < l.length → l.getD a 0 < p.length) (hm : ∀ a, a < m.length → m.getD a 0 < p.length) : joinM p l = joinM p m := by
  have hlen : l.length = m.length := by have := congrArg List.length h; simpa using this
  have hk : ∀ a, a < l.length → kind p (l.getD a 0) = kind p (m.getD a 0) := fun a ha => by
    have := congrArg (fun L => L[a]?) h
    simp [ha, show a < m.length by omega] at this
    rw [getD_nat ha, getD_nat (by omega)]
    exact this
  unfold joinM
  rw [← hlen]
  exact mat_congr fun a b ha hb => arrK_kind (hl a ha) (hm a (by omega)) (hk a ha) (hk b hb)
/-- The least node of those that are reached that is of a kind. -/
def leastAt (p : List (List Int)) (R : List Nat) (K : Nat) : Option Nat := R.find? fun v => kind p v == K
/-- The kinds of some nodes, as numbers. -/
def kdL (p : List (List Int)) (l : List Nat) : List Int := l.map fun v => ((kind p v : Nat) : Int)
theorem kdL_len (p : List (List Int)) (l : List Nat) : (kdL p l).length = l.length := by simp [kdL]
theorem kdL_snoc (p : List (List Int)) (l : List Nat) (v : Nat) : kdL p (l ++ [v]) = kdL p l ++ [((kind p v : Nat) : Int)] := by simp [kdL]
theorem kdL_mem {p : List (List Int)} {l : List Nat} {v : Nat} : decide (((kind p v : Nat) : Int) ∈ kdL p l) = l.any fun u => kind p u == kind p v := by
  rw [Bool.eq_iff_iff, decide_eq_true_eq, List.any_eq_true]
  unfold kdL
  rw [List.mem_map]
  constructor
  · rintro ⟨u, hu, e⟩
    exact ⟨u, hu, beq_iff_eq.2 (by omega)⟩
  · rintro ⟨u, hu, e⟩
    exact ⟨u, hu, by rw [beq_iff_eq] at e; rw [e]⟩
/-- The row of u, of which the arrows to the first t members are in place. -/
def rowT' (p : List (List Int)) (l : List Nat) (u t x : Nat) : Bool := ((arrL p u p.length).take t).any fun w => kind p w.toNat == kind p (l.getD x 0)
theorem rowT'_all {p : List (List Int)} {l : List Nat} {u x : Nat} : rowT' p l u (arrL p u p.length).length x = arrK p u (l.getD x 0) := by
  unfold rowT'
  rw [List.take_of_length_le (Nat.le_refl _), Bool.eq_iff_iff, List.any_eq_true, arrK_iff]
  constructor
  · rintro ⟨w, hw, e⟩
    obtain ⟨j, rfl, h1, h2⟩ := arrL_mem.1 hw
    exact ⟨j, h1, h2, by simpa using e⟩
  · rintro ⟨j, h1, h2, h3⟩
    exact ⟨j, arrL_mem.2 ⟨j, rfl, h1, h2⟩, by simpa using h3⟩
theorem rowT'_succ {p : List (List Int)} {l : List Nat} {u t x : Nat} (ht : t < (arrL p u p.length).length) : rowT' p l u (t + 1) x = (rowT' p l u t x || (kind p ((arrL p u p.length)[t]).toNat == kind p (l.getD x 0))) := by
  unfold rowT'
  rw [List.take_succ_eq_append_getElem ht, List.any_append]
  simp
/-- The place of a kind in a list of nodes of different kinds. -/
theorem kdL_idx {p : List (List Int)} {i : Nat} {l : List Nat} (h : Fit p i l) {w m : Nat} (hm : m < l.length) (e : kind p (l.getD m 0) = kind p w) : idxI (kdL p l) ((kind p w : Nat) : Int) = (m : Int) := by
  refine idxI_of (by rw [kdL_len]; exact hm) ?_ fun j hj => ?_
  · simp only [kdL, List.getElem_map]
    rw [getD_nat hm] at e
    rw [e]
  · simp only [kdL, List.getElem_map]
    have := h.apart j m hj hm
    rw [getD_nat (by omega), e] at this
    omega
end Go.Hyp
namespace Go.Proofs.Ytfjodcfbhpglhaa
open Go.RowKit Go.Hyp Go.Deep


end Go.Proofs.Ytfjodcfbhpglhaa
