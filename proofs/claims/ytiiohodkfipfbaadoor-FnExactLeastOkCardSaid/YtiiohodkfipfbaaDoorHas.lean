/- Members of sets: impl.hasSet, impl.HasSet, spec.HasSet, impl.InSet, spec.InSet. -/
import Derived.Test.YtiiohodkfipfbaaDoorBeside
import Derived.Test.YtiiohodkfipfbaaDoorLeastS
import Derived.StillTailTactics
namespace Go.Hyp
open Go.RowKit Go.Deep
/-- The set at i has that at j as a member. -/
def hasL (p : List (List Int)) (i : Nat) (q : List (List Int)) (j : Nat) : Bool := (arrL p i p.length).any fun v => sameB p v.toNat q j
/-- What HasSet answers. -/
def hasB (p : List (List Int)) (n : Int) (q : List (List Int)) (m : Int) : Bool := nodeB p n && nodeB q m && hasL p n.toNat q m.toNat
/-- All members of the set at i are members of that at j. -/
def inL (p : List (List Int)) (i : Nat) (q : List (List Int)) (j : Nat) : Bool := !(arrL p i p.length).any fun v => !hasL q j p v.toNat
/-- What InSet answers. -/
def inB (p : List (List Int)) (n : Int) (q : List (List Int)) (m : Int) : Bool := nodeB p n && nodeB q m && inL p n.toNat q m.toNat
theorem hasB_no1 {p q : List (List Int)} {a b : Int} (h : nodeB p a = false) : hasB p a q b = false := by unfold hasB; rw [h]; rfl
theorem hasB_no2 {p q : List (List Int)} {a b : Int} (h : nodeB q b = false) : hasB p a q b = false := by unfold hasB; rw [h, Bool.and_false]; rfl
theorem hasB_yes {p q : List (List Int)} {i j : Nat} (h : nodeB p i = true) (k : nodeB q j = true) : hasB p i q j = hasL p i q j := by unfold hasB; rw [h, k, Int.toNat_natCast, Int.toNat_natCast]; rfl
theorem inB_no1 {p q : List (List Int)} {a b : Int} (h : nodeB p a = false) : inB p a q b = false := by unfold inB; rw [h]; rfl
theorem inB_no2 {p q : List (List Int)} {a b : Int} (h : nodeB q b = false) : inB p a q b = false := by unfold inB; rw [h, Bool.and_false]; rfl
theorem inB_yes {p q : List (List Int)} {i j : Nat} (h : nodeB p i = true) (k : nodeB q j = true) : inB p i q j = inL p i q j := by unfold inB; rw [h, k, Int.toNat_natCast, Int.toNat_natCast]; rfl
theorem hasL_iff {p q : List (List Int)} {i j : Nat} (hj : j < q.length) : hasL p i q j = true ↔ ∃ v, v < p.length ∧ arr p i v = true ∧ Same p v q j := by
  unfold hasL
  rw [List.any_eq_true]
  constructor
  · rintro ⟨x, hx, h⟩
    obtain ⟨v, rfl, h1, h2⟩ := arrL_mem.1 hx
    rw [Int.toNat_natCast] at h
    exact ⟨v, h1, h2, (sameB_iff h1 hj).1 h⟩
  · rintro ⟨v, h1, h2, h3⟩
    exact ⟨v, arrL_mem.2 ⟨v, rfl, h1, h2⟩, by rw [Int.toNat_natCast]; exact (sameB_iff h1 hj).2 h3⟩
theorem inL_iff {p q : List (List Int)} {i j : Nat} : inL p i q j = true ↔ ∀ v, v < p.length → arr p i v = true → ∃ u, u < q.length ∧ arr q j u = true ∧ Same q u p v := by
  unfold inL
  rw [Bool.not_eq_true', List.any_eq_false]
  constructor
  · intro h v hv ha
    have h1 := h v (arrL_mem.2 ⟨v, rfl, hv, ha⟩)
    rw [Int.toNat_natCast] at h1
    have h2 : hasL q j p v = true := by simpa using h1
    exact (hasL_iff hv).1 h2
  · intro h x hx
    obtain ⟨v, rfl, h1, h2⟩ := arrL_mem.1 hx
    rw [Int.toNat_natCast, (hasL_iff h1).2 (h v h1 h2)]
    simp
/-- Within each other means the same. -/
theorem in_both {p q : List (List Int)} {i j : Nat} (hi : i < p.length) (hj : j < q.length) : (inL p i q j && inL q j p i) = sameB p i q j := by
  rw [Bool.eq_iff_iff, Bool.and_eq_true, sameB_iff hi hj, inL_iff, inL_iff]
  constructor
  · rintro ⟨h1, h2⟩
    exact same_of_members hi hj (fun k hk ha => by
      obtain ⟨u, e1, e2, e3⟩ := h1 k hk ha
      exact ⟨u, e1, e2, e3.symm⟩) (fun k hk ha => h2 k hk ha)
  · intro h
    exact ⟨fun v hv ha => by
      obtain ⟨u, e1, e2, e3⟩ := h.to hv ha
      exact ⟨u, e1, e2, e3.symm⟩, fun v hv ha => by
      obtain ⟨u, e1, e2, e3⟩ := h.symm.to hv ha
      exact ⟨u, e1, e2, e3.symm⟩⟩
end Go.Hyp
namespace Go.Proofs.YtiiohodkfipfbaaDoor
open Go.RowKit Go.Hyp Go.Deep

end Go.Proofs.YtiiohodkfipfbaaDoor
