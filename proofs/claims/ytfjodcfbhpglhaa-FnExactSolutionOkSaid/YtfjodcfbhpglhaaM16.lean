/- How many members a set has: both ways of finding it. -/
import Derived.StillTailTactics
import Derived.Deep.RegionHeld3
import Derived.Test.YtfjodcfbhpglhaaM7
namespace Go.Hyp
open Go.RowKit Go.Deep
/-- The node at place k draws another set than those ahead of it. -/
def freshB (p : List (List Int)) (L : List Int) (k : Nat) : Bool := (List.range k).all fun j => !simB p (L.getD j 0).toNat (L.getD k 0).toNat
/-- How many different sets there are among the first m. -/
def manyN (p : List (List Int)) (L : List Int) (m : Nat) : Nat := ((List.range m).filter (freshB p L)).length
theorem manyN_succ (p : List (List Int)) (L : List Int) (m : Nat) : manyN p L (m + 1) = manyN p L m + if freshB p L m then 1 else 0 := by
  unfold manyN
  rw [List.range_succ, List.filter_append, List.length_append]
  cases h : freshB p L m <;> simp [h]
theorem manyN_le (p : List (List Int)) (L : List Int) (m : Nat) : manyN p L m ≤ m := by
  unfold manyN; exact Nat.le_trans (List.length_filter_le _ _) (by simp)
/-- What ManyIn answers. -/
def manyI (p : List (List Int)) (i : Int) : Int := if nodeB p i = true then (manyN p (arrL p i.toNat p.length) (arrL p i.toNat p.length).length : Int) else -1
theorem kind_eq {p : List (List Int)} {a b : Nat} (ha : a < p.length) (hb : b < p.length) : kind p a = kind p b ↔ simB p a b = true := by
  obtain ⟨a1, a2, a3, a4⟩ := kind_spec ha
  obtain ⟨b1, b2, b3, b4⟩ := kind_spec hb
  constructor
  · intro e
    rw [← e] at b2
    have : simB p (kind p a) b = true := by unfold simB at b2 ⊢; rw [left_symm]; exact b2
    exact left_trans a2 this
  · intro h
    have h' : simB p b a = true := by unfold simB at h ⊢; rw [left_symm]; exact h
    rcases Nat.lt_trichotomy (kind p a) (kind p b) with e | e | e
    · have := b4 _ e
      have h2 : simB p b (kind p a) = true := left_trans h' a2
      rw [h2] at this; cases this
    · exact e
    · have := a4 _ e
      have h2 : simB p a (kind p b) = true := left_trans h b2
      rw [h2] at this; cases this
theorem freshB_mem {p : List (List Int)} {i k : Nat} {S : List Int} (hk : k < (arrL p i p.length).length) (hS : ∀ x, x ∈ S ↔ ∃ j, j < k ∧ x = ((kind p ((arrL p i p.length).getD j 0).toNat : Nat) : Int)) :
    decide (((kind p ((arrL p i p.length).getD k 0).toNat : Nat) : Int) ∈ S) = !freshB p (arrL p i p.length) k := by
  have key : ∀ j, j < (arrL p i p.length).length → ((arrL p i p.length).getD j 0).toNat < p.length := fun j hj => by
    obtain ⟨x, h1, h2, h3⟩ := arrL_at hj
    rw [getD_lt hj, h1]; simpa using h2
  rw [Bool.eq_iff_iff]
  simp only [decide_eq_true_eq, Bool.not_eq_true']
  unfold freshB
  rw [List.all_eq_false]
  constructor
  · intro h
    obtain ⟨j, h1, h2⟩ := (hS _).1 h
    refine ⟨j, by simpa using h1, ?_⟩
    have := (kind_eq (key j (by omega)) (key k hk)).1 (by omega)
    rw [this]; simp
  · rintro ⟨j, h1, h2⟩
    refine (hS _).2 ⟨j, by simpa using h1, ?_⟩
    have h1' : j < k := by simpa using h1
    have : simB p ((arrL p i p.length).getD j 0).toNat ((arrL p i p.length).getD k 0).toNat = true := by simpa using h2
    rw [(kind_eq (key j (by omega)) (key k hk)).2 this]
end Go.Hyp
namespace Go.Proofs.Ytfjodcfbhpglhaa
open Go.RowKit Go.Hyp Go.Deep

end Go.Proofs.Ytfjodcfbhpglhaa
